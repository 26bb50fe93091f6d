/-
  No cell of these rows narrows 'for every input' (looked for: loops, veiled, ifaces, maps, wideKeys, modest, calm, conditions, laid).
  DERIVED. THE GIVEN ROWS OF THIS SEAT. 2 by the template 'for every input the law returns true; each argument reads behind the call as it read before'; 0 by the template 'total and deterministic' (their statements: YtonlfefnnacdcaaTotals.lean).
  GIVEN WITH THE SEED: the statements are not yours to turn. If you find one false, say at which input.
  Laid BY PROGRAM, IN A SANDBOX (cutbox-rows.mjs): the forced cells as the released guide's own fill.sh prints them over the translation 6ccd4edf3f227ee6… (all of the seat's roots in one cut). By AI agents, Wed Nov 11 2026. No macro, syntax, notation, axiom, sorry.
-/
import Derived.Test.YtonlfefnnacdcaaChecked
import GoSem.Claim
import GoSem.ClaimJoined
import GoSem.ClaimMapViews
import Derived.JoinedTies
import Derived.KernelRfl
namespace Go.Proofs.Ytonlfefnnacdcaa
/- THE CELL 'sum', in the pinned program and in every row, IS THE sha256 OF THE DUMP (.gsa) THAT YtonlfefnnacdcaaProg.lean LOADS. Nothing in Lean hashes anything: it is a label: what it is worth is what the hold of that sum in a sandbox is worth. -/
noncomputable def Try.pinned : Pinned := { name := "ytonlfefnnacdcaa", sum := "6ccd4edf3f227ee6088968ceec753cc3d4e19b882a155cc546931514288c0c7b", checked := Try.checked }
namespace Rows
def none {H : Type} : Left H := { results := [], args := [] }

/-- 'wagtaillaw20.PlaceChooses': WHATEVER THE INPUT: true; the input reads as it did. -/
def placeChoosesSpec : ChangeSpec := { name := "placeChooses", fn := fun _ => fun
  | [d1, d2] => { results := [.lit (.bool true)], args := [d1, d2] }
  | _ => none }
def placeChoosesRow : OpenClaim := { program := "ytonlfefnnacdcaa", sum := "6ccd4edf3f227ee6088968ceec753cc3d4e19b882a155cc546931514288c0c7b", func := "wagtail/wagtaillaw20.PlaceChooses", spec := "placeChooses", unfollowed := true, recurses := true, apart := false }
def PlaceChoosesSaid : Prop := placeChoosesRow.holds Try.pinned (OpenSpec.ofChange placeChoosesSpec)

/-- ITS FALSE NEIGHBOUR: 'it returns false'. Refute it at one input. -/
def placeChoosesWrong : ChangeSpec := { name := "placeChooses", fn := fun _ => fun
  | [d1, d2] => { results := [.lit (.bool false)], args := [d1, d2] }
  | _ => none }
def PlaceChoosesWrongFalsely : Prop := placeChoosesRow.holds Try.pinned (OpenSpec.ofChange placeChoosesWrong)

/-- 'wagtaillaw20.PlaceLess': WHATEVER THE INPUT: true; the input reads as it did. -/
def placeLessSpec : ChangeSpec := { name := "placeLess", fn := fun _ => fun
  | [d1, d2] => { results := [.lit (.bool true)], args := [d1, d2] }
  | _ => none }
def placeLessRow : OpenClaim := { program := "ytonlfefnnacdcaa", sum := "6ccd4edf3f227ee6088968ceec753cc3d4e19b882a155cc546931514288c0c7b", func := "wagtail/wagtaillaw20.PlaceLess", spec := "placeLess", unfollowed := true, recurses := true, apart := false }
def PlaceLessSaid : Prop := placeLessRow.holds Try.pinned (OpenSpec.ofChange placeLessSpec)

/-- ITS FALSE NEIGHBOUR: 'it returns false'. Refute it at one input. -/
def placeLessWrong : ChangeSpec := { name := "placeLess", fn := fun _ => fun
  | [d1, d2] => { results := [.lit (.bool false)], args := [d1, d2] }
  | _ => none }
def PlaceLessWrongFalsely : Prop := placeLessRow.holds Try.pinned (OpenSpec.ofChange placeLessWrong)

/- THE SECOND FORM. 'bulk': how many values and letters a reading holds, each counted each time it is reached (what is shared counts as often as it is met; a slice's spare places count too). A statement '..UptoSaid' is the law's where the arguments, and the package variables that the reading takes, are together of bulk at most 1048576: NARROWER than '..Said'. Prove '..Said' where nothing that the law and all that it calls make is longer than what came in: it says more and counts as full. Else prove '..UptoSaid'. A law counts once. -/
mutual
def uptoBulk {H : Type} : DataW H → Nat
  | .lit (.string bytes) => bytes.length + 1
  | .lit _ => 1
  | .nil => 1
  | .ptr d => uptoBulk d + 1
  | .slice elems spare => uptoBulkAll elems + uptoBulkAll spare + 1
  | .agg parts => uptoBulkAll parts + 1
  | .iface _ d => uptoBulk d + 1
  | .map entries => uptoBulkEntries entries + 1
  | .held _ => 1
def uptoBulkAll {H : Type} : List (DataW H) → Nat
  | [] => 0
  | d :: r => uptoBulk d + uptoBulkAll r
def uptoBulkEntries {H : Type} : List (Lit × DataW H) → Nat
  | [] => 0
  | x :: r => uptoBulkEntry x + uptoBulkEntries r
def uptoBulkEntry {H : Type} : Lit × DataW H → Nat
  | (.string bytes, d) => bytes.length + uptoBulk d + 1
  | (_, d) => uptoBulk d + 1
 end
def uptoSmall : (H : Type) → List (DataW H) → Bool := fun _ ds => decide (uptoBulkAll ds ≤ 1048576)
def OpenSpec.upto (s : _root_.Go.ChangeSpec) : _root_.Go.OpenSpec := { _root_.Go.OpenSpec.ofChange s with cond := some uptoSmall }

/-- 'wagtaillaw20.PlaceChooses', WHERE WHAT IT READS IS OF BULK AT MOST 1048576: true; the input reads as it did. -/
def placeChoosesUptoRow : OpenClaim := { program := "ytonlfefnnacdcaa", sum := "6ccd4edf3f227ee6088968ceec753cc3d4e19b882a155cc546931514288c0c7b", func := "wagtail/wagtaillaw20.PlaceChooses", spec := "placeChooses", unfollowed := true, recurses := true, apart := false, narrowed := true }
def PlaceChoosesUptoSaid : Prop := placeChoosesUptoRow.holds Try.pinned (OpenSpec.upto placeChoosesSpec)

/-- 'wagtaillaw20.PlaceLess', WHERE WHAT IT READS IS OF BULK AT MOST 1048576: true; the input reads as it did. -/
def placeLessUptoRow : OpenClaim := { program := "ytonlfefnnacdcaa", sum := "6ccd4edf3f227ee6088968ceec753cc3d4e19b882a155cc546931514288c0c7b", func := "wagtail/wagtaillaw20.PlaceLess", spec := "placeLess", unfollowed := true, recurses := true, apart := false, narrowed := true }
def PlaceLessUptoSaid : Prop := placeLessUptoRow.holds Try.pinned (OpenSpec.upto placeLessSpec)

end Rows
end Go.Proofs.Ytonlfefnnacdcaa
