/-
  No cell of these rows narrows 'for every input' (looked for: loops, veiled, ifaces, maps, wideKeys, modest, calm, conditions, laid).
  DERIVED. THE GIVEN ROWS OF THIS SEAT. 11 by the template 'for every input the law returns true; each argument reads behind the call as it read before'; 0 by the template 'total and deterministic' (their statements: YtjinlddplcopgaaTotals.lean).
  GIVEN WITH THE SEED: the statements are not yours to turn. If you find one false, say at which input.
  Laid BY PROGRAM, IN A SANDBOX (cutbox-rows.mjs): the forced cells as the released guide's own fill.sh prints them over the translation b5064ff9738f1567… (all of the seat's roots in one cut). By AI agents, Wed Nov 11 2026. No macro, syntax, notation, axiom, sorry.
-/
import Derived.Test.YtjinlddplcopgaaChecked
import GoSem.Claim
import GoSem.ClaimJoined
import GoSem.ClaimMapViews
import Derived.JoinedTies
import Derived.KernelRfl
namespace Go.Proofs.Ytjinlddplcopgaa
/- THE CELL 'sum', in the pinned program and in every row, IS THE sha256 OF THE DUMP (.gsa) THAT YtjinlddplcopgaaProg.lean LOADS. Nothing in Lean hashes anything: it is a label: what it is worth is what the hold of that sum in a sandbox is worth. -/
noncomputable def Try.pinned : Pinned := { name := "ytjinlddplcopgaa", sum := "b5064ff9738f156744a1b5bc539f3eff316de1a0cfd041b692bfa6170c8fc2aa", checked := Try.checked }
namespace Rows
def none {H : Type} : Left H := { results := [], args := [] }

/-- 'wagtaillaw20.PlaceChooses': WHATEVER THE INPUT: true; the input reads as it did. -/
def placeChoosesSpec : ChangeSpec := { name := "placeChooses", fn := fun _ => fun
  | [d1, d2] => { results := [.lit (.bool true)], args := [d1, d2] }
  | _ => none }
def placeChoosesRow : OpenClaim := { program := "ytjinlddplcopgaa", sum := "b5064ff9738f156744a1b5bc539f3eff316de1a0cfd041b692bfa6170c8fc2aa", func := "wagtail/wagtaillaw20.PlaceChooses", spec := "placeChooses", unfollowed := true, recurses := true, apart := false }
def PlaceChoosesSaid : Prop := placeChoosesRow.holds Try.pinned (OpenSpec.ofChange placeChoosesSpec)

/-- ITS FALSE NEIGHBOUR: 'it returns false'. Refute it at one input. -/
def placeChoosesWrong : ChangeSpec := { name := "placeChooses", fn := fun _ => fun
  | [d1, d2] => { results := [.lit (.bool false)], args := [d1, d2] }
  | _ => none }
def PlaceChoosesWrongFalsely : Prop := placeChoosesRow.holds Try.pinned (OpenSpec.ofChange placeChoosesWrong)

/-- 'wagtaillaw20.PlaceLess': WHATEVER THE INPUT: true; the input reads as it did. -/
def placeLessSpec : ChangeSpec := { name := "placeLess", fn := fun _ => fun
  | [d1, d2] => { results := [.lit (.bool true)], args := [d1, d2] }
  | _ => none }
def placeLessRow : OpenClaim := { program := "ytjinlddplcopgaa", sum := "b5064ff9738f156744a1b5bc539f3eff316de1a0cfd041b692bfa6170c8fc2aa", func := "wagtail/wagtaillaw20.PlaceLess", spec := "placeLess", unfollowed := true, recurses := true, apart := false }
def PlaceLessSaid : Prop := placeLessRow.holds Try.pinned (OpenSpec.ofChange placeLessSpec)

/-- ITS FALSE NEIGHBOUR: 'it returns false'. Refute it at one input. -/
def placeLessWrong : ChangeSpec := { name := "placeLess", fn := fun _ => fun
  | [d1, d2] => { results := [.lit (.bool false)], args := [d1, d2] }
  | _ => none }
def PlaceLessWrongFalsely : Prop := placeLessRow.holds Try.pinned (OpenSpec.ofChange placeLessWrong)

/-- 'wagtaillaw20.PlaceCounts': WHATEVER THE INPUT: true; the input reads as it did. -/
def placeCountsSpec : ChangeSpec := { name := "placeCounts", fn := fun _ => fun
  | [d] => { results := [.lit (.bool true)], args := [d] }
  | _ => none }
def placeCountsRow : OpenClaim := { program := "ytjinlddplcopgaa", sum := "b5064ff9738f156744a1b5bc539f3eff316de1a0cfd041b692bfa6170c8fc2aa", func := "wagtail/wagtaillaw20.PlaceCounts", spec := "placeCounts", unfollowed := true, recurses := true, apart := false }
def PlaceCountsSaid : Prop := placeCountsRow.holds Try.pinned (OpenSpec.ofChange placeCountsSpec)

/-- ITS FALSE NEIGHBOUR: 'it returns false'. Refute it at one input. -/
def placeCountsWrong : ChangeSpec := { name := "placeCounts", fn := fun _ => fun
  | [d] => { results := [.lit (.bool false)], args := [d] }
  | _ => none }
def PlaceCountsWrongFalsely : Prop := placeCountsRow.holds Try.pinned (OpenSpec.ofChange placeCountsWrong)

/-- 'wagtaillaw23.PoolRoom': WHATEVER THE INPUT: true; the input reads as it did. -/
def poolRoomSpec : ChangeSpec := { name := "poolRoom", fn := fun _ => fun
  | [d1, d2, d3] => { results := [.lit (.bool true)], args := [d1, d2, d3] }
  | _ => none }
def poolRoomRow : OpenClaim := { program := "ytjinlddplcopgaa", sum := "b5064ff9738f156744a1b5bc539f3eff316de1a0cfd041b692bfa6170c8fc2aa", func := "wagtail/wagtaillaw23.PoolRoom", spec := "poolRoom", unfollowed := true, recurses := true, apart := false }
def PoolRoomSaid : Prop := poolRoomRow.holds Try.pinned (OpenSpec.ofChange poolRoomSpec)

/-- ITS FALSE NEIGHBOUR: 'it returns false'. Refute it at one input. -/
def poolRoomWrong : ChangeSpec := { name := "poolRoom", fn := fun _ => fun
  | [d1, d2, d3] => { results := [.lit (.bool false)], args := [d1, d2, d3] }
  | _ => none }
def PoolRoomWrongFalsely : Prop := poolRoomRow.holds Try.pinned (OpenSpec.ofChange poolRoomWrong)

/-- 'wagtaillaw46.WholeTakes': WHATEVER THE INPUT: true; the input reads as it did. -/
def wholeTakesSpec : ChangeSpec := { name := "wholeTakes", fn := fun _ => fun
  | [d1, d2, d3] => { results := [.lit (.bool true)], args := [d1, d2, d3] }
  | _ => none }
def wholeTakesRow : OpenClaim := { program := "ytjinlddplcopgaa", sum := "b5064ff9738f156744a1b5bc539f3eff316de1a0cfd041b692bfa6170c8fc2aa", func := "wagtail/wagtaillaw46.WholeTakes", spec := "wholeTakes", unfollowed := true, recurses := true, apart := false }
def WholeTakesSaid : Prop := wholeTakesRow.holds Try.pinned (OpenSpec.ofChange wholeTakesSpec)

/-- ITS FALSE NEIGHBOUR: 'it returns false'. Refute it at one input. -/
def wholeTakesWrong : ChangeSpec := { name := "wholeTakes", fn := fun _ => fun
  | [d1, d2, d3] => { results := [.lit (.bool false)], args := [d1, d2, d3] }
  | _ => none }
def WholeTakesWrongFalsely : Prop := wholeTakesRow.holds Try.pinned (OpenSpec.ofChange wholeTakesWrong)

/-- 'wagtaillaw46.WholeAsks': WHATEVER THE INPUT: true; the input reads as it did. -/
def wholeAsksSpec : ChangeSpec := { name := "wholeAsks", fn := fun _ => fun
  | [d1, d2] => { results := [.lit (.bool true)], args := [d1, d2] }
  | _ => none }
def wholeAsksRow : OpenClaim := { program := "ytjinlddplcopgaa", sum := "b5064ff9738f156744a1b5bc539f3eff316de1a0cfd041b692bfa6170c8fc2aa", func := "wagtail/wagtaillaw46.WholeAsks", spec := "wholeAsks", unfollowed := true, recurses := true, apart := false }
def WholeAsksSaid : Prop := wholeAsksRow.holds Try.pinned (OpenSpec.ofChange wholeAsksSpec)

/-- ITS FALSE NEIGHBOUR: 'it returns false'. Refute it at one input. -/
def wholeAsksWrong : ChangeSpec := { name := "wholeAsks", fn := fun _ => fun
  | [d1, d2] => { results := [.lit (.bool false)], args := [d1, d2] }
  | _ => none }
def WholeAsksWrongFalsely : Prop := wholeAsksRow.holds Try.pinned (OpenSpec.ofChange wholeAsksWrong)

/-- 'wagtaillaw34.ResendRange': WHATEVER THE INPUT: true; the input reads as it did. -/
def resendRangeSpec : ChangeSpec := { name := "resendRange", fn := fun _ => fun
  | [d] => { results := [.lit (.bool true)], args := [d] }
  | _ => none }
def resendRangeRow : OpenClaim := { program := "ytjinlddplcopgaa", sum := "b5064ff9738f156744a1b5bc539f3eff316de1a0cfd041b692bfa6170c8fc2aa", func := "wagtail/wagtaillaw34.ResendRange", spec := "resendRange", inPlace := ["slices.overlaps[wagtail/api.Record]"], unfollowed := true, recurses := true, apart := false }
def ResendRangeSaid : Prop := resendRangeRow.holds Try.pinned (OpenSpec.ofChange resendRangeSpec)

/-- ITS FALSE NEIGHBOUR: 'it returns false'. Refute it at one input. -/
def resendRangeWrong : ChangeSpec := { name := "resendRange", fn := fun _ => fun
  | [d] => { results := [.lit (.bool false)], args := [d] }
  | _ => none }
def ResendRangeWrongFalsely : Prop := resendRangeRow.holds Try.pinned (OpenSpec.ofChange resendRangeWrong)

/-- 'wagtaillaw34.ResendRuns': WHATEVER THE INPUT: true; the input reads as it did. -/
def resendRunsSpec : ChangeSpec := { name := "resendRuns", fn := fun _ => fun
  | [d1, d2] => { results := [.lit (.bool true)], args := [d1, d2] }
  | _ => none }
def resendRunsRow : OpenClaim := { program := "ytjinlddplcopgaa", sum := "b5064ff9738f156744a1b5bc539f3eff316de1a0cfd041b692bfa6170c8fc2aa", func := "wagtail/wagtaillaw34.ResendRuns", spec := "resendRuns", inPlace := ["slices.overlaps[wagtail/api.Record]"], unfollowed := true, recurses := true, apart := false }
def ResendRunsSaid : Prop := resendRunsRow.holds Try.pinned (OpenSpec.ofChange resendRunsSpec)

/-- ITS FALSE NEIGHBOUR: 'it returns false'. Refute it at one input. -/
def resendRunsWrong : ChangeSpec := { name := "resendRuns", fn := fun _ => fun
  | [d1, d2] => { results := [.lit (.bool false)], args := [d1, d2] }
  | _ => none }
def ResendRunsWrongFalsely : Prop := resendRunsRow.holds Try.pinned (OpenSpec.ofChange resendRunsWrong)

/-- 'wagtaillaw34.ResendMerges': WHATEVER THE INPUT: true; the input reads as it did. -/
def resendMergesSpec : ChangeSpec := { name := "resendMerges", fn := fun _ => fun
  | [d1, d2] => { results := [.lit (.bool true)], args := [d1, d2] }
  | _ => none }
def resendMergesRow : OpenClaim := { program := "ytjinlddplcopgaa", sum := "b5064ff9738f156744a1b5bc539f3eff316de1a0cfd041b692bfa6170c8fc2aa", func := "wagtail/wagtaillaw34.ResendMerges", spec := "resendMerges", inPlace := ["slices.overlaps[wagtail/api.Record]"], unfollowed := true, recurses := true, apart := false }
def ResendMergesSaid : Prop := resendMergesRow.holds Try.pinned (OpenSpec.ofChange resendMergesSpec)

/-- ITS FALSE NEIGHBOUR: 'it returns false'. Refute it at one input. -/
def resendMergesWrong : ChangeSpec := { name := "resendMerges", fn := fun _ => fun
  | [d1, d2] => { results := [.lit (.bool false)], args := [d1, d2] }
  | _ => none }
def ResendMergesWrongFalsely : Prop := resendMergesRow.holds Try.pinned (OpenSpec.ofChange resendMergesWrong)

/-- 'wagtaillaw23.PoolNone': WHATEVER THE INPUT: true; the input reads as it did. -/
def poolNoneSpec : ChangeSpec := { name := "poolNone", fn := fun _ => fun
  | [d1, d2] => { results := [.lit (.bool true)], args := [d1, d2] }
  | _ => none }
def poolNoneRow : OpenClaim := { program := "ytjinlddplcopgaa", sum := "b5064ff9738f156744a1b5bc539f3eff316de1a0cfd041b692bfa6170c8fc2aa", func := "wagtail/wagtaillaw23.PoolNone", spec := "poolNone", inPlace := ["slices.overlaps[int]"], unfollowed := true, recurses := true, apart := false }
def PoolNoneSaid : Prop := poolNoneRow.holds Try.pinned (OpenSpec.ofChange poolNoneSpec)

/-- ITS FALSE NEIGHBOUR: 'it returns false'. Refute it at one input. -/
def poolNoneWrong : ChangeSpec := { name := "poolNone", fn := fun _ => fun
  | [d1, d2] => { results := [.lit (.bool false)], args := [d1, d2] }
  | _ => none }
def PoolNoneWrongFalsely : Prop := poolNoneRow.holds Try.pinned (OpenSpec.ofChange poolNoneWrong)

/-- 'wagtaillaw19.LatestStays': WHATEVER THE INPUT: true; the input reads as it did. -/
def latestStaysSpec : ChangeSpec := { name := "latestStays", fn := fun _ => fun
  | [d1, d2, d3] => { results := [.lit (.bool true)], args := [d1, d2, d3] }
  | _ => none }
def latestStaysRow : OpenClaim := { program := "ytjinlddplcopgaa", sum := "b5064ff9738f156744a1b5bc539f3eff316de1a0cfd041b692bfa6170c8fc2aa", func := "wagtail/wagtaillaw19.LatestStays", spec := "latestStays", unfollowed := true, recurses := true, apart := false }
def LatestStaysSaid : Prop := latestStaysRow.holds Try.pinned (OpenSpec.ofChange latestStaysSpec)

/-- ITS FALSE NEIGHBOUR: 'it returns false'. Refute it at one input. -/
def latestStaysWrong : ChangeSpec := { name := "latestStays", fn := fun _ => fun
  | [d1, d2, d3] => { results := [.lit (.bool false)], args := [d1, d2, d3] }
  | _ => none }
def LatestStaysWrongFalsely : Prop := latestStaysRow.holds Try.pinned (OpenSpec.ofChange latestStaysWrong)

/- THE SECOND FORM. 'bulk': how many values and letters a reading holds, each counted each time it is reached (what is shared counts as often as it is met; a slice's spare places count too). A statement '..UptoSaid' is the law's where the arguments, and the package variables that the reading takes, are together of bulk at most 1048576: NARROWER than '..Said'. Prove '..Said' where nothing that the law and all that it calls make is longer than what came in: it says more and counts as full. Else prove '..UptoSaid'. A law counts once. -/
mutual
def uptoBulk {H : Type} : DataW H → Nat
  | .lit (.string bytes) => bytes.length + 1
  | .lit _ => 1
  | .nil => 1
  | .ptr d => uptoBulk d + 1
  | .slice elems spare => uptoBulkAll elems + uptoBulkAll spare + 1
  | .agg parts => uptoBulkAll parts + 1
  | .iface _ d => uptoBulk d + 1
  | .map entries => uptoBulkEntries entries + 1
  | .held _ => 1
def uptoBulkAll {H : Type} : List (DataW H) → Nat
  | [] => 0
  | d :: r => uptoBulk d + uptoBulkAll r
def uptoBulkEntries {H : Type} : List (Lit × DataW H) → Nat
  | [] => 0
  | x :: r => uptoBulkEntry x + uptoBulkEntries r
def uptoBulkEntry {H : Type} : Lit × DataW H → Nat
  | (.string bytes, d) => bytes.length + uptoBulk d + 1
  | (_, d) => uptoBulk d + 1
 end
def uptoSmall : (H : Type) → List (DataW H) → Bool := fun _ ds => decide (uptoBulkAll ds ≤ 1048576)
def OpenSpec.upto (s : _root_.Go.ChangeSpec) : _root_.Go.OpenSpec := { _root_.Go.OpenSpec.ofChange s with cond := some uptoSmall }

/-- 'wagtaillaw20.PlaceChooses', WHERE WHAT IT READS IS OF BULK AT MOST 1048576: true; the input reads as it did. -/
def placeChoosesUptoRow : OpenClaim := { program := "ytjinlddplcopgaa", sum := "b5064ff9738f156744a1b5bc539f3eff316de1a0cfd041b692bfa6170c8fc2aa", func := "wagtail/wagtaillaw20.PlaceChooses", spec := "placeChooses", unfollowed := true, recurses := true, apart := false, narrowed := true }
def PlaceChoosesUptoSaid : Prop := placeChoosesUptoRow.holds Try.pinned (OpenSpec.upto placeChoosesSpec)

/-- 'wagtaillaw20.PlaceLess', WHERE WHAT IT READS IS OF BULK AT MOST 1048576: true; the input reads as it did. -/
def placeLessUptoRow : OpenClaim := { program := "ytjinlddplcopgaa", sum := "b5064ff9738f156744a1b5bc539f3eff316de1a0cfd041b692bfa6170c8fc2aa", func := "wagtail/wagtaillaw20.PlaceLess", spec := "placeLess", unfollowed := true, recurses := true, apart := false, narrowed := true }
def PlaceLessUptoSaid : Prop := placeLessUptoRow.holds Try.pinned (OpenSpec.upto placeLessSpec)

/-- 'wagtaillaw20.PlaceCounts', WHERE WHAT IT READS IS OF BULK AT MOST 1048576: true; the input reads as it did. -/
def placeCountsUptoRow : OpenClaim := { program := "ytjinlddplcopgaa", sum := "b5064ff9738f156744a1b5bc539f3eff316de1a0cfd041b692bfa6170c8fc2aa", func := "wagtail/wagtaillaw20.PlaceCounts", spec := "placeCounts", unfollowed := true, recurses := true, apart := false, narrowed := true }
def PlaceCountsUptoSaid : Prop := placeCountsUptoRow.holds Try.pinned (OpenSpec.upto placeCountsSpec)

/-- 'wagtaillaw23.PoolRoom', WHERE WHAT IT READS IS OF BULK AT MOST 1048576: true; the input reads as it did. -/
def poolRoomUptoRow : OpenClaim := { program := "ytjinlddplcopgaa", sum := "b5064ff9738f156744a1b5bc539f3eff316de1a0cfd041b692bfa6170c8fc2aa", func := "wagtail/wagtaillaw23.PoolRoom", spec := "poolRoom", unfollowed := true, recurses := true, apart := false, narrowed := true }
def PoolRoomUptoSaid : Prop := poolRoomUptoRow.holds Try.pinned (OpenSpec.upto poolRoomSpec)

/-- 'wagtaillaw46.WholeTakes', WHERE WHAT IT READS IS OF BULK AT MOST 1048576: true; the input reads as it did. -/
def wholeTakesUptoRow : OpenClaim := { program := "ytjinlddplcopgaa", sum := "b5064ff9738f156744a1b5bc539f3eff316de1a0cfd041b692bfa6170c8fc2aa", func := "wagtail/wagtaillaw46.WholeTakes", spec := "wholeTakes", unfollowed := true, recurses := true, apart := false, narrowed := true }
def WholeTakesUptoSaid : Prop := wholeTakesUptoRow.holds Try.pinned (OpenSpec.upto wholeTakesSpec)

/-- 'wagtaillaw46.WholeAsks', WHERE WHAT IT READS IS OF BULK AT MOST 1048576: true; the input reads as it did. -/
def wholeAsksUptoRow : OpenClaim := { program := "ytjinlddplcopgaa", sum := "b5064ff9738f156744a1b5bc539f3eff316de1a0cfd041b692bfa6170c8fc2aa", func := "wagtail/wagtaillaw46.WholeAsks", spec := "wholeAsks", unfollowed := true, recurses := true, apart := false, narrowed := true }
def WholeAsksUptoSaid : Prop := wholeAsksUptoRow.holds Try.pinned (OpenSpec.upto wholeAsksSpec)

/-- 'wagtaillaw34.ResendRange', WHERE WHAT IT READS IS OF BULK AT MOST 1048576: true; the input reads as it did. -/
def resendRangeUptoRow : OpenClaim := { program := "ytjinlddplcopgaa", sum := "b5064ff9738f156744a1b5bc539f3eff316de1a0cfd041b692bfa6170c8fc2aa", func := "wagtail/wagtaillaw34.ResendRange", spec := "resendRange", inPlace := ["slices.overlaps[wagtail/api.Record]"], unfollowed := true, recurses := true, apart := false, narrowed := true }
def ResendRangeUptoSaid : Prop := resendRangeUptoRow.holds Try.pinned (OpenSpec.upto resendRangeSpec)

/-- 'wagtaillaw34.ResendRuns', WHERE WHAT IT READS IS OF BULK AT MOST 1048576: true; the input reads as it did. -/
def resendRunsUptoRow : OpenClaim := { program := "ytjinlddplcopgaa", sum := "b5064ff9738f156744a1b5bc539f3eff316de1a0cfd041b692bfa6170c8fc2aa", func := "wagtail/wagtaillaw34.ResendRuns", spec := "resendRuns", inPlace := ["slices.overlaps[wagtail/api.Record]"], unfollowed := true, recurses := true, apart := false, narrowed := true }
def ResendRunsUptoSaid : Prop := resendRunsUptoRow.holds Try.pinned (OpenSpec.upto resendRunsSpec)

/-- 'wagtaillaw34.ResendMerges', WHERE WHAT IT READS IS OF BULK AT MOST 1048576: true; the input reads as it did. -/
def resendMergesUptoRow : OpenClaim := { program := "ytjinlddplcopgaa", sum := "b5064ff9738f156744a1b5bc539f3eff316de1a0cfd041b692bfa6170c8fc2aa", func := "wagtail/wagtaillaw34.ResendMerges", spec := "resendMerges", inPlace := ["slices.overlaps[wagtail/api.Record]"], unfollowed := true, recurses := true, apart := false, narrowed := true }
def ResendMergesUptoSaid : Prop := resendMergesUptoRow.holds Try.pinned (OpenSpec.upto resendMergesSpec)

/-- 'wagtaillaw23.PoolNone', WHERE WHAT IT READS IS OF BULK AT MOST 1048576: true; the input reads as it did. -/
def poolNoneUptoRow : OpenClaim := { program := "ytjinlddplcopgaa", sum := "b5064ff9738f156744a1b5bc539f3eff316de1a0cfd041b692bfa6170c8fc2aa", func := "wagtail/wagtaillaw23.PoolNone", spec := "poolNone", inPlace := ["slices.overlaps[int]"], unfollowed := true, recurses := true, apart := false, narrowed := true }
def PoolNoneUptoSaid : Prop := poolNoneUptoRow.holds Try.pinned (OpenSpec.upto poolNoneSpec)

/-- 'wagtaillaw19.LatestStays', WHERE WHAT IT READS IS OF BULK AT MOST 1048576: true; the input reads as it did. -/
def latestStaysUptoRow : OpenClaim := { program := "ytjinlddplcopgaa", sum := "b5064ff9738f156744a1b5bc539f3eff316de1a0cfd041b692bfa6170c8fc2aa", func := "wagtail/wagtaillaw19.LatestStays", spec := "latestStays", unfollowed := true, recurses := true, apart := false, narrowed := true }
def LatestStaysUptoSaid : Prop := latestStaysUptoRow.holds Try.pinned (OpenSpec.upto latestStaysSpec)

end Rows
end Go.Proofs.Ytjinlddplcopgaa
