/-
  No cell of these rows narrows 'for every input' (looked for: loops, veiled, ifaces, maps, wideKeys, modest, calm, conditions, laid).
  DERIVED. THE GIVEN ROWS OF THIS SEAT. 11 by the template 'for every input the law returns true; each argument reads behind the call as it read before'; 0 by the template 'total and deterministic' (their statements: YtmbheeapegpmlaaTotals.lean).
  GIVEN WITH THE SEED: the statements are not yours to turn. If you find one false, say at which input.
  Laid BY PROGRAM, IN A SANDBOX (cutbox-rows.mjs): the forced cells as the released guide's own fill.sh prints them over the translation 027deb67bac1768c… (all of the seat's roots in one cut). By AI agents, Wed Nov 11 2026. No macro, syntax, notation, axiom, sorry.
-/
import Derived.Test.YtmbheeapegpmlaaChecked
import GoSem.Claim
import GoSem.ClaimJoined
import GoSem.ClaimMapViews
import Derived.JoinedTies
import Derived.KernelRfl
namespace Go.Proofs.Ytmbheeapegpmlaa
/- THE CELL 'sum', in the pinned program and in every row, IS THE sha256 OF THE DUMP (.gsa) THAT YtmbheeapegpmlaaProg.lean LOADS. Nothing in Lean hashes anything: it is a label: what it is worth is what the hold of that sum in a sandbox is worth. -/
noncomputable def Try.pinned : Pinned := { name := "ytmbheeapegpmlaa", sum := "027deb67bac1768cd058e2dcba748604bc7b89e71741bfeeb8ec4acb954cea1d", checked := Try.checked }
namespace Rows
def none {H : Type} : Left H := { results := [], args := [] }

/-- 'wagtaillaw25.ExtentDoes': WHATEVER THE INPUT: true; the input reads as it did. -/
def extentDoesSpec : ChangeSpec := { name := "extentDoes", fn := fun _ => fun
  | [d1, d2, d3] => { results := [.lit (.bool true)], args := [d1, d2, d3] }
  | _ => none }
def extentDoesRow : OpenClaim := { program := "ytmbheeapegpmlaa", sum := "027deb67bac1768cd058e2dcba748604bc7b89e71741bfeeb8ec4acb954cea1d", func := "wagtail/wagtaillaw25.ExtentDoes", spec := "extentDoes", unfollowed := true, recurses := true, apart := false }
def ExtentDoesSaid : Prop := extentDoesRow.holds Try.pinned (OpenSpec.ofChange extentDoesSpec)

/-- ITS FALSE NEIGHBOUR: 'it returns false'. Refute it at one input. -/
def extentDoesWrong : ChangeSpec := { name := "extentDoes", fn := fun _ => fun
  | [d1, d2, d3] => { results := [.lit (.bool false)], args := [d1, d2, d3] }
  | _ => none }
def ExtentDoesWrongFalsely : Prop := extentDoesRow.holds Try.pinned (OpenSpec.ofChange extentDoesWrong)

/-- 'wagtaillaw25.ExtentApart': WHATEVER THE INPUT: true; the input reads as it did. -/
def extentApartSpec : ChangeSpec := { name := "extentApart", fn := fun _ => fun
  | [d1, d2] => { results := [.lit (.bool true)], args := [d1, d2] }
  | _ => none }
def extentApartRow : OpenClaim := { program := "ytmbheeapegpmlaa", sum := "027deb67bac1768cd058e2dcba748604bc7b89e71741bfeeb8ec4acb954cea1d", func := "wagtail/wagtaillaw25.ExtentApart", spec := "extentApart", unfollowed := true, recurses := true, apart := false }
def ExtentApartSaid : Prop := extentApartRow.holds Try.pinned (OpenSpec.ofChange extentApartSpec)

/-- ITS FALSE NEIGHBOUR: 'it returns false'. Refute it at one input. -/
def extentApartWrong : ChangeSpec := { name := "extentApart", fn := fun _ => fun
  | [d1, d2] => { results := [.lit (.bool false)], args := [d1, d2] }
  | _ => none }
def ExtentApartWrongFalsely : Prop := extentApartRow.holds Try.pinned (OpenSpec.ofChange extentApartWrong)

/-- 'wagtaillaw25.ExtentNone': WHATEVER THE INPUT: true; the input reads as it did. -/
def extentNoneSpec : ChangeSpec := { name := "extentNone", fn := fun _ => fun
  | [d] => { results := [.lit (.bool true)], args := [d] }
  | _ => none }
def extentNoneRow : OpenClaim := { program := "ytmbheeapegpmlaa", sum := "027deb67bac1768cd058e2dcba748604bc7b89e71741bfeeb8ec4acb954cea1d", func := "wagtail/wagtaillaw25.ExtentNone", spec := "extentNone", unfollowed := true, recurses := true, apart := false }
def ExtentNoneSaid : Prop := extentNoneRow.holds Try.pinned (OpenSpec.ofChange extentNoneSpec)

/-- ITS FALSE NEIGHBOUR: 'it returns false'. Refute it at one input. -/
def extentNoneWrong : ChangeSpec := { name := "extentNone", fn := fun _ => fun
  | [d] => { results := [.lit (.bool false)], args := [d] }
  | _ => none }
def ExtentNoneWrongFalsely : Prop := extentNoneRow.holds Try.pinned (OpenSpec.ofChange extentNoneWrong)

/-- 'wagtaillaw40.BoundTells': WHATEVER THE INPUT: true; the input reads as it did. -/
def boundTellsSpec : ChangeSpec := { name := "boundTells", fn := fun _ => fun
  | [d] => { results := [.lit (.bool true)], args := [d] }
  | _ => none }
def boundTellsRow : OpenClaim := { program := "ytmbheeapegpmlaa", sum := "027deb67bac1768cd058e2dcba748604bc7b89e71741bfeeb8ec4acb954cea1d", func := "wagtail/wagtaillaw40.BoundTells", spec := "boundTells", unfollowed := true, recurses := true, apart := false }
def BoundTellsSaid : Prop := boundTellsRow.holds Try.pinned (OpenSpec.ofChange boundTellsSpec)

/-- ITS FALSE NEIGHBOUR: 'it returns false'. Refute it at one input. -/
def boundTellsWrong : ChangeSpec := { name := "boundTells", fn := fun _ => fun
  | [d] => { results := [.lit (.bool false)], args := [d] }
  | _ => none }
def BoundTellsWrongFalsely : Prop := boundTellsRow.holds Try.pinned (OpenSpec.ofChange boundTellsWrong)

/-- 'wagtaillaw31.SegCuts': WHATEVER THE INPUT: true; the input reads as it did. -/
def segCutsSpec : ChangeSpec := { name := "segCuts", fn := fun _ => fun
  | [d1, d2] => { results := [.lit (.bool true)], args := [d1, d2] }
  | _ => none }
def segCutsRow : OpenClaim := { program := "ytmbheeapegpmlaa", sum := "027deb67bac1768cd058e2dcba748604bc7b89e71741bfeeb8ec4acb954cea1d", func := "wagtail/wagtaillaw31.SegCuts", spec := "segCuts", unfollowed := true, recurses := true, apart := false }
def SegCutsSaid : Prop := segCutsRow.holds Try.pinned (OpenSpec.ofChange segCutsSpec)

/-- ITS FALSE NEIGHBOUR: 'it returns false'. Refute it at one input. -/
def segCutsWrong : ChangeSpec := { name := "segCuts", fn := fun _ => fun
  | [d1, d2] => { results := [.lit (.bool false)], args := [d1, d2] }
  | _ => none }
def SegCutsWrongFalsely : Prop := segCutsRow.holds Try.pinned (OpenSpec.ofChange segCutsWrong)

/-- 'wagtaillaw31.SegFills': WHATEVER THE INPUT: true; the input reads as it did. -/
def segFillsSpec : ChangeSpec := { name := "segFills", fn := fun _ => fun
  | [d1, d2, d3] => { results := [.lit (.bool true)], args := [d1, d2, d3] }
  | _ => none }
def segFillsRow : OpenClaim := { program := "ytmbheeapegpmlaa", sum := "027deb67bac1768cd058e2dcba748604bc7b89e71741bfeeb8ec4acb954cea1d", func := "wagtail/wagtaillaw31.SegFills", spec := "segFills", unfollowed := true, recurses := true, apart := false }
def SegFillsSaid : Prop := segFillsRow.holds Try.pinned (OpenSpec.ofChange segFillsSpec)

/-- ITS FALSE NEIGHBOUR: 'it returns false'. Refute it at one input. -/
def segFillsWrong : ChangeSpec := { name := "segFills", fn := fun _ => fun
  | [d1, d2, d3] => { results := [.lit (.bool false)], args := [d1, d2, d3] }
  | _ => none }
def SegFillsWrongFalsely : Prop := segFillsRow.holds Try.pinned (OpenSpec.ofChange segFillsWrong)

/-- 'wagtaillaw31.SegOffsets': WHATEVER THE INPUT: true; the input reads as it did. -/
def segOffsetsSpec : ChangeSpec := { name := "segOffsets", fn := fun _ => fun
  | [d1, d2] => { results := [.lit (.bool true)], args := [d1, d2] }
  | _ => none }
def segOffsetsRow : OpenClaim := { program := "ytmbheeapegpmlaa", sum := "027deb67bac1768cd058e2dcba748604bc7b89e71741bfeeb8ec4acb954cea1d", func := "wagtail/wagtaillaw31.SegOffsets", spec := "segOffsets", unfollowed := true, recurses := true, apart := false }
def SegOffsetsSaid : Prop := segOffsetsRow.holds Try.pinned (OpenSpec.ofChange segOffsetsSpec)

/-- ITS FALSE NEIGHBOUR: 'it returns false'. Refute it at one input. -/
def segOffsetsWrong : ChangeSpec := { name := "segOffsets", fn := fun _ => fun
  | [d1, d2] => { results := [.lit (.bool false)], args := [d1, d2] }
  | _ => none }
def SegOffsetsWrongFalsely : Prop := segOffsetsRow.holds Try.pinned (OpenSpec.ofChange segOffsetsWrong)

/-- 'wagtaillaw21.WearFinds': WHATEVER THE INPUT: true; the input reads as it did. -/
def wearFindsSpec : ChangeSpec := { name := "wearFinds", fn := fun _ => fun
  | [d] => { results := [.lit (.bool true)], args := [d] }
  | _ => none }
def wearFindsRow : OpenClaim := { program := "ytmbheeapegpmlaa", sum := "027deb67bac1768cd058e2dcba748604bc7b89e71741bfeeb8ec4acb954cea1d", func := "wagtail/wagtaillaw21.WearFinds", spec := "wearFinds", unfollowed := true, recurses := true, apart := false }
def WearFindsSaid : Prop := wearFindsRow.holds Try.pinned (OpenSpec.ofChange wearFindsSpec)

/-- ITS FALSE NEIGHBOUR: 'it returns false'. Refute it at one input. -/
def wearFindsWrong : ChangeSpec := { name := "wearFinds", fn := fun _ => fun
  | [d] => { results := [.lit (.bool false)], args := [d] }
  | _ => none }
def WearFindsWrongFalsely : Prop := wearFindsRow.holds Try.pinned (OpenSpec.ofChange wearFindsWrong)

/-- 'wagtaillaw21.WearEven': WHATEVER THE INPUT: true; the input reads as it did. -/
def wearEvenSpec : ChangeSpec := { name := "wearEven", fn := fun _ => fun
  | [d1, d2, d3] => { results := [.lit (.bool true)], args := [d1, d2, d3] }
  | _ => none }
def wearEvenRow : OpenClaim := { program := "ytmbheeapegpmlaa", sum := "027deb67bac1768cd058e2dcba748604bc7b89e71741bfeeb8ec4acb954cea1d", func := "wagtail/wagtaillaw21.WearEven", spec := "wearEven", unfollowed := true, recurses := true, apart := false }
def WearEvenSaid : Prop := wearEvenRow.holds Try.pinned (OpenSpec.ofChange wearEvenSpec)

/-- ITS FALSE NEIGHBOUR: 'it returns false'. Refute it at one input. -/
def wearEvenWrong : ChangeSpec := { name := "wearEven", fn := fun _ => fun
  | [d1, d2, d3] => { results := [.lit (.bool false)], args := [d1, d2, d3] }
  | _ => none }
def WearEvenWrongFalsely : Prop := wearEvenRow.holds Try.pinned (OpenSpec.ofChange wearEvenWrong)

/-- 'wagtaillaw22.VictimPicks': WHATEVER THE INPUT: true; the input reads as it did. -/
def victimPicksSpec : ChangeSpec := { name := "victimPicks", fn := fun _ => fun
  | [d1, d2, d3] => { results := [.lit (.bool true)], args := [d1, d2, d3] }
  | _ => none }
def victimPicksRow : OpenClaim := { program := "ytmbheeapegpmlaa", sum := "027deb67bac1768cd058e2dcba748604bc7b89e71741bfeeb8ec4acb954cea1d", func := "wagtail/wagtaillaw22.VictimPicks", spec := "victimPicks", unfollowed := true, recurses := true, apart := false }
def VictimPicksSaid : Prop := victimPicksRow.holds Try.pinned (OpenSpec.ofChange victimPicksSpec)

/-- ITS FALSE NEIGHBOUR: 'it returns false'. Refute it at one input. -/
def victimPicksWrong : ChangeSpec := { name := "victimPicks", fn := fun _ => fun
  | [d1, d2, d3] => { results := [.lit (.bool false)], args := [d1, d2, d3] }
  | _ => none }
def VictimPicksWrongFalsely : Prop := victimPicksRow.holds Try.pinned (OpenSpec.ofChange victimPicksWrong)

/-- 'wagtaillaw22.VictimGains': WHATEVER THE INPUT: true; the input reads as it did. -/
def victimGainsSpec : ChangeSpec := { name := "victimGains", fn := fun _ => fun
  | [d1, d2, d3] => { results := [.lit (.bool true)], args := [d1, d2, d3] }
  | _ => none }
def victimGainsRow : OpenClaim := { program := "ytmbheeapegpmlaa", sum := "027deb67bac1768cd058e2dcba748604bc7b89e71741bfeeb8ec4acb954cea1d", func := "wagtail/wagtaillaw22.VictimGains", spec := "victimGains", unfollowed := true, recurses := true, apart := false }
def VictimGainsSaid : Prop := victimGainsRow.holds Try.pinned (OpenSpec.ofChange victimGainsSpec)

/-- ITS FALSE NEIGHBOUR: 'it returns false'. Refute it at one input. -/
def victimGainsWrong : ChangeSpec := { name := "victimGains", fn := fun _ => fun
  | [d1, d2, d3] => { results := [.lit (.bool false)], args := [d1, d2, d3] }
  | _ => none }
def VictimGainsWrongFalsely : Prop := victimGainsRow.holds Try.pinned (OpenSpec.ofChange victimGainsWrong)

/- THE SECOND FORM. 'bulk': how many values and letters a reading holds, each counted each time it is reached (what is shared counts as often as it is met; a slice's spare places count too). A statement '..UptoSaid' is the law's where the arguments, and the package variables that the reading takes, are together of bulk at most 1048576: NARROWER than '..Said'. Prove '..Said' where nothing that the law and all that it calls make is longer than what came in: it says more and counts as full. Else prove '..UptoSaid'. A law counts once. -/
mutual
def uptoBulk {H : Type} : DataW H → Nat
  | .lit (.string bytes) => bytes.length + 1
  | .lit _ => 1
  | .nil => 1
  | .ptr d => uptoBulk d + 1
  | .slice elems spare => uptoBulkAll elems + uptoBulkAll spare + 1
  | .agg parts => uptoBulkAll parts + 1
  | .iface _ d => uptoBulk d + 1
  | .map entries => uptoBulkEntries entries + 1
  | .held _ => 1
def uptoBulkAll {H : Type} : List (DataW H) → Nat
  | [] => 0
  | d :: r => uptoBulk d + uptoBulkAll r
def uptoBulkEntries {H : Type} : List (Lit × DataW H) → Nat
  | [] => 0
  | x :: r => uptoBulkEntry x + uptoBulkEntries r
def uptoBulkEntry {H : Type} : Lit × DataW H → Nat
  | (.string bytes, d) => bytes.length + uptoBulk d + 1
  | (_, d) => uptoBulk d + 1
 end
def uptoSmall : (H : Type) → List (DataW H) → Bool := fun _ ds => decide (uptoBulkAll ds ≤ 1048576)
def OpenSpec.upto (s : _root_.Go.ChangeSpec) : _root_.Go.OpenSpec := { _root_.Go.OpenSpec.ofChange s with cond := some uptoSmall }

/-- 'wagtaillaw25.ExtentDoes', WHERE WHAT IT READS IS OF BULK AT MOST 1048576: true; the input reads as it did. -/
def extentDoesUptoRow : OpenClaim := { program := "ytmbheeapegpmlaa", sum := "027deb67bac1768cd058e2dcba748604bc7b89e71741bfeeb8ec4acb954cea1d", func := "wagtail/wagtaillaw25.ExtentDoes", spec := "extentDoes", unfollowed := true, recurses := true, apart := false, narrowed := true }
def ExtentDoesUptoSaid : Prop := extentDoesUptoRow.holds Try.pinned (OpenSpec.upto extentDoesSpec)

/-- 'wagtaillaw25.ExtentApart', WHERE WHAT IT READS IS OF BULK AT MOST 1048576: true; the input reads as it did. -/
def extentApartUptoRow : OpenClaim := { program := "ytmbheeapegpmlaa", sum := "027deb67bac1768cd058e2dcba748604bc7b89e71741bfeeb8ec4acb954cea1d", func := "wagtail/wagtaillaw25.ExtentApart", spec := "extentApart", unfollowed := true, recurses := true, apart := false, narrowed := true }
def ExtentApartUptoSaid : Prop := extentApartUptoRow.holds Try.pinned (OpenSpec.upto extentApartSpec)

/-- 'wagtaillaw25.ExtentNone', WHERE WHAT IT READS IS OF BULK AT MOST 1048576: true; the input reads as it did. -/
def extentNoneUptoRow : OpenClaim := { program := "ytmbheeapegpmlaa", sum := "027deb67bac1768cd058e2dcba748604bc7b89e71741bfeeb8ec4acb954cea1d", func := "wagtail/wagtaillaw25.ExtentNone", spec := "extentNone", unfollowed := true, recurses := true, apart := false, narrowed := true }
def ExtentNoneUptoSaid : Prop := extentNoneUptoRow.holds Try.pinned (OpenSpec.upto extentNoneSpec)

/-- 'wagtaillaw40.BoundTells', WHERE WHAT IT READS IS OF BULK AT MOST 1048576: true; the input reads as it did. -/
def boundTellsUptoRow : OpenClaim := { program := "ytmbheeapegpmlaa", sum := "027deb67bac1768cd058e2dcba748604bc7b89e71741bfeeb8ec4acb954cea1d", func := "wagtail/wagtaillaw40.BoundTells", spec := "boundTells", unfollowed := true, recurses := true, apart := false, narrowed := true }
def BoundTellsUptoSaid : Prop := boundTellsUptoRow.holds Try.pinned (OpenSpec.upto boundTellsSpec)

/-- 'wagtaillaw31.SegCuts', WHERE WHAT IT READS IS OF BULK AT MOST 1048576: true; the input reads as it did. -/
def segCutsUptoRow : OpenClaim := { program := "ytmbheeapegpmlaa", sum := "027deb67bac1768cd058e2dcba748604bc7b89e71741bfeeb8ec4acb954cea1d", func := "wagtail/wagtaillaw31.SegCuts", spec := "segCuts", unfollowed := true, recurses := true, apart := false, narrowed := true }
def SegCutsUptoSaid : Prop := segCutsUptoRow.holds Try.pinned (OpenSpec.upto segCutsSpec)

/-- 'wagtaillaw31.SegFills', WHERE WHAT IT READS IS OF BULK AT MOST 1048576: true; the input reads as it did. -/
def segFillsUptoRow : OpenClaim := { program := "ytmbheeapegpmlaa", sum := "027deb67bac1768cd058e2dcba748604bc7b89e71741bfeeb8ec4acb954cea1d", func := "wagtail/wagtaillaw31.SegFills", spec := "segFills", unfollowed := true, recurses := true, apart := false, narrowed := true }
def SegFillsUptoSaid : Prop := segFillsUptoRow.holds Try.pinned (OpenSpec.upto segFillsSpec)

/-- 'wagtaillaw31.SegOffsets', WHERE WHAT IT READS IS OF BULK AT MOST 1048576: true; the input reads as it did. -/
def segOffsetsUptoRow : OpenClaim := { program := "ytmbheeapegpmlaa", sum := "027deb67bac1768cd058e2dcba748604bc7b89e71741bfeeb8ec4acb954cea1d", func := "wagtail/wagtaillaw31.SegOffsets", spec := "segOffsets", unfollowed := true, recurses := true, apart := false, narrowed := true }
def SegOffsetsUptoSaid : Prop := segOffsetsUptoRow.holds Try.pinned (OpenSpec.upto segOffsetsSpec)

/-- 'wagtaillaw21.WearFinds', WHERE WHAT IT READS IS OF BULK AT MOST 1048576: true; the input reads as it did. -/
def wearFindsUptoRow : OpenClaim := { program := "ytmbheeapegpmlaa", sum := "027deb67bac1768cd058e2dcba748604bc7b89e71741bfeeb8ec4acb954cea1d", func := "wagtail/wagtaillaw21.WearFinds", spec := "wearFinds", unfollowed := true, recurses := true, apart := false, narrowed := true }
def WearFindsUptoSaid : Prop := wearFindsUptoRow.holds Try.pinned (OpenSpec.upto wearFindsSpec)

/-- 'wagtaillaw21.WearEven', WHERE WHAT IT READS IS OF BULK AT MOST 1048576: true; the input reads as it did. -/
def wearEvenUptoRow : OpenClaim := { program := "ytmbheeapegpmlaa", sum := "027deb67bac1768cd058e2dcba748604bc7b89e71741bfeeb8ec4acb954cea1d", func := "wagtail/wagtaillaw21.WearEven", spec := "wearEven", unfollowed := true, recurses := true, apart := false, narrowed := true }
def WearEvenUptoSaid : Prop := wearEvenUptoRow.holds Try.pinned (OpenSpec.upto wearEvenSpec)

/-- 'wagtaillaw22.VictimPicks', WHERE WHAT IT READS IS OF BULK AT MOST 1048576: true; the input reads as it did. -/
def victimPicksUptoRow : OpenClaim := { program := "ytmbheeapegpmlaa", sum := "027deb67bac1768cd058e2dcba748604bc7b89e71741bfeeb8ec4acb954cea1d", func := "wagtail/wagtaillaw22.VictimPicks", spec := "victimPicks", unfollowed := true, recurses := true, apart := false, narrowed := true }
def VictimPicksUptoSaid : Prop := victimPicksUptoRow.holds Try.pinned (OpenSpec.upto victimPicksSpec)

/-- 'wagtaillaw22.VictimGains', WHERE WHAT IT READS IS OF BULK AT MOST 1048576: true; the input reads as it did. -/
def victimGainsUptoRow : OpenClaim := { program := "ytmbheeapegpmlaa", sum := "027deb67bac1768cd058e2dcba748604bc7b89e71741bfeeb8ec4acb954cea1d", func := "wagtail/wagtaillaw22.VictimGains", spec := "victimGains", unfollowed := true, recurses := true, apart := false, narrowed := true }
def VictimGainsUptoSaid : Prop := victimGainsUptoRow.holds Try.pinned (OpenSpec.upto victimGainsSpec)

end Rows
end Go.Proofs.Ytmbheeapegpmlaa
