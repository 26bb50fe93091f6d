/-
  No cell of these rows narrows 'for every input' (looked for: loops, veiled, ifaces, maps, wideKeys, modest, calm, conditions, laid).
  DERIVED. THE GIVEN ROWS OF THIS SEAT. 2 by the template 'for every input the law returns true; each argument reads behind the call as it read before'; 0 by the template 'total and deterministic' (their statements: YtljndaefacbhfaaTotals.lean).
  GIVEN WITH THE SEED: the statements are not yours to turn. If you find one false, say at which input.
  Laid BY PROGRAM, IN A SANDBOX (cutbox-rows.mjs): the forced cells as the released guide's own fill.sh prints them over the translation 4af6d5fa35415442… (all of the seat's roots in one cut). By AI agents, Wed Nov 11 2026. No macro, syntax, notation, axiom, sorry.
-/
import Derived.Test.YtljndaefacbhfaaChecked
import GoSem.Claim
import GoSem.ClaimJoined
import GoSem.ClaimMapViews
import Derived.JoinedTies
import Derived.KernelRfl
namespace Go.Proofs.Ytljndaefacbhfaa
/- THE CELL 'sum', in the pinned program and in every row, IS THE sha256 OF THE DUMP (.gsa) THAT YtljndaefacbhfaaProg.lean LOADS. Nothing in Lean hashes anything: it is a label: what it is worth is what the hold of that sum in a sandbox is worth. -/
noncomputable def Try.pinned : Pinned := { name := "ytljndaefacbhfaa", sum := "4af6d5fa35415442b9e79498c55ba3b49e811951ebb871f5b4e74f682a5610ab", checked := Try.checked }
namespace Rows
def none {H : Type} : Left H := { results := [], args := [] }

/-- 'wagtaillaw46.WholeTakes': WHATEVER THE INPUT: true; the input reads as it did. -/
def wholeTakesSpec : ChangeSpec := { name := "wholeTakes", fn := fun _ => fun
  | [d1, d2, d3] => { results := [.lit (.bool true)], args := [d1, d2, d3] }
  | _ => none }
def wholeTakesRow : OpenClaim := { program := "ytljndaefacbhfaa", sum := "4af6d5fa35415442b9e79498c55ba3b49e811951ebb871f5b4e74f682a5610ab", func := "wagtail/wagtaillaw46.WholeTakes", spec := "wholeTakes", unfollowed := true, recurses := true, apart := false }
def WholeTakesSaid : Prop := wholeTakesRow.holds Try.pinned (OpenSpec.ofChange wholeTakesSpec)

/-- ITS FALSE NEIGHBOUR: 'it returns false'. Refute it at one input. -/
def wholeTakesWrong : ChangeSpec := { name := "wholeTakes", fn := fun _ => fun
  | [d1, d2, d3] => { results := [.lit (.bool false)], args := [d1, d2, d3] }
  | _ => none }
def WholeTakesWrongFalsely : Prop := wholeTakesRow.holds Try.pinned (OpenSpec.ofChange wholeTakesWrong)

/-- 'wagtaillaw46.WholeAsks': WHATEVER THE INPUT: true; the input reads as it did. -/
def wholeAsksSpec : ChangeSpec := { name := "wholeAsks", fn := fun _ => fun
  | [d1, d2] => { results := [.lit (.bool true)], args := [d1, d2] }
  | _ => none }
def wholeAsksRow : OpenClaim := { program := "ytljndaefacbhfaa", sum := "4af6d5fa35415442b9e79498c55ba3b49e811951ebb871f5b4e74f682a5610ab", func := "wagtail/wagtaillaw46.WholeAsks", spec := "wholeAsks", unfollowed := true, recurses := true, apart := false }
def WholeAsksSaid : Prop := wholeAsksRow.holds Try.pinned (OpenSpec.ofChange wholeAsksSpec)

/-- ITS FALSE NEIGHBOUR: 'it returns false'. Refute it at one input. -/
def wholeAsksWrong : ChangeSpec := { name := "wholeAsks", fn := fun _ => fun
  | [d1, d2] => { results := [.lit (.bool false)], args := [d1, d2] }
  | _ => none }
def WholeAsksWrongFalsely : Prop := wholeAsksRow.holds Try.pinned (OpenSpec.ofChange wholeAsksWrong)

/- THE SECOND FORM. 'bulk': how many values and letters a reading holds, each counted each time it is reached (what is shared counts as often as it is met; a slice's spare places count too). A statement '..UptoSaid' is the law's where the arguments, and the package variables that the reading takes, are together of bulk at most 1048576: NARROWER than '..Said'. Prove '..Said' where nothing that the law and all that it calls make is longer than what came in: it says more and counts as full. Else prove '..UptoSaid'. A law counts once. -/
mutual
def uptoBulk {H : Type} : DataW H → Nat
  | .lit (.string bytes) => bytes.length + 1
  | .lit _ => 1
  | .nil => 1
  | .ptr d => uptoBulk d + 1
  | .slice elems spare => uptoBulkAll elems + uptoBulkAll spare + 1
  | .agg parts => uptoBulkAll parts + 1
  | .iface _ d => uptoBulk d + 1
  | .map entries => uptoBulkEntries entries + 1
  | .held _ => 1
def uptoBulkAll {H : Type} : List (DataW H) → Nat
  | [] => 0
  | d :: r => uptoBulk d + uptoBulkAll r
def uptoBulkEntries {H : Type} : List (Lit × DataW H) → Nat
  | [] => 0
  | x :: r => uptoBulkEntry x + uptoBulkEntries r
def uptoBulkEntry {H : Type} : Lit × DataW H → Nat
  | (.string bytes, d) => bytes.length + uptoBulk d + 1
  | (_, d) => uptoBulk d + 1
 end
def uptoSmall : (H : Type) → List (DataW H) → Bool := fun _ ds => decide (uptoBulkAll ds ≤ 1048576)
def OpenSpec.upto (s : _root_.Go.ChangeSpec) : _root_.Go.OpenSpec := { _root_.Go.OpenSpec.ofChange s with cond := some uptoSmall }

/-- 'wagtaillaw46.WholeTakes', WHERE WHAT IT READS IS OF BULK AT MOST 1048576: true; the input reads as it did. -/
def wholeTakesUptoRow : OpenClaim := { program := "ytljndaefacbhfaa", sum := "4af6d5fa35415442b9e79498c55ba3b49e811951ebb871f5b4e74f682a5610ab", func := "wagtail/wagtaillaw46.WholeTakes", spec := "wholeTakes", unfollowed := true, recurses := true, apart := false, narrowed := true }
def WholeTakesUptoSaid : Prop := wholeTakesUptoRow.holds Try.pinned (OpenSpec.upto wholeTakesSpec)

/-- 'wagtaillaw46.WholeAsks', WHERE WHAT IT READS IS OF BULK AT MOST 1048576: true; the input reads as it did. -/
def wholeAsksUptoRow : OpenClaim := { program := "ytljndaefacbhfaa", sum := "4af6d5fa35415442b9e79498c55ba3b49e811951ebb871f5b4e74f682a5610ab", func := "wagtail/wagtaillaw46.WholeAsks", spec := "wholeAsks", unfollowed := true, recurses := true, apart := false, narrowed := true }
def WholeAsksUptoSaid : Prop := wholeAsksUptoRow.holds Try.pinned (OpenSpec.upto wholeAsksSpec)

end Rows
end Go.Proofs.Ytljndaefacbhfaa
