/-
  DERIVED. GIVEN WITH THE SEED: THE CARDS: each row of YtienkohkbihdoaaGreatDoorRows.lean that lists a variable, with what it lists TIED to the program's text (the seventh form; the later family's looks); each row that meets fmt, with fmt's text TOLD by the authors' own Lean function (tested against real Go, not proved from fmt's source: count such statements apart). THE CARD IS WHAT COUNTS. Prove the row's statement (the work); the ties are given (YtienkohkbihdoaaGreatDoorTie.lean); close each card by the builder's one call (the guide's Derived/Test/ToyasCard.lean, 'card_holds'). Laid BY PROGRAM, IN A SANDBOX (cutbox-door.mjs). By AI agents, Wed Nov 11 2026. No macro, syntax, notation, axiom, sorry.
-/
import Derived.Test.YtienkohkbihdoaaGreatDoorRows
import GoSem.ClaimSeven
namespace Go.Proofs.YtienkohkbihdoaaGreatDoor
namespace Rows

/-- THE TIED CARD OF 'wagtaillaw11.BundlePuts'. -/
def bundlePutsCard : Claim7 := { stood := { row := bundlePutsRow, standIns := [], harness := (true, "ededd64a7357c604c999b2d175df9ef9a0228962f7c6806cb4f4f60de61a0b81"), looks := true }, kinds := [], alts := [], laidByText := true, laidKinds := [.data, .pinned], laidTests := true, laidLooks := .later }
def BundlePutsCardSaid : Prop := Claim7.holds Tryz.pinned (.plain (OpenSpec.ofChange bundlePutsSpec)) bundlePutsCard

/-- THE TIED CARD OF 'wagtaillaw11.BundleLooks'. -/
def bundleLooksCard : Claim7 := { stood := { row := bundleLooksRow, standIns := [], harness := (true, "ededd64a7357c604c999b2d175df9ef9a0228962f7c6806cb4f4f60de61a0b81"), looks := true }, kinds := [], alts := [], laidByText := true, laidKinds := [.data, .pinned], laidTests := true, laidLooks := .later }
def BundleLooksCardSaid : Prop := Claim7.holds Tryz.pinned (.plain (OpenSpec.ofChange bundleLooksSpec)) bundleLooksCard

/-- THE SECOND FORM's CARD OF 'wagtaillaw11.BundlePuts'. -/
def bundlePutsUptoCard : Claim7 := { stood := { row := bundlePutsUptoRow, standIns := [], harness := (true, "ededd64a7357c604c999b2d175df9ef9a0228962f7c6806cb4f4f60de61a0b81"), looks := true }, kinds := [], alts := [], laidByText := true, laidKinds := [.data, .pinned], laidTests := true, laidLooks := .later }
def BundlePutsUptoCardSaid : Prop := Claim7.holds Tryz.pinned (.plain (OpenSpec.upto bundlePutsSpec)) bundlePutsUptoCard

/-- THE SECOND FORM's CARD OF 'wagtaillaw11.BundleLooks'. -/
def bundleLooksUptoCard : Claim7 := { stood := { row := bundleLooksUptoRow, standIns := [], harness := (true, "ededd64a7357c604c999b2d175df9ef9a0228962f7c6806cb4f4f60de61a0b81"), looks := true }, kinds := [], alts := [], laidByText := true, laidKinds := [.data, .pinned], laidTests := true, laidLooks := .later }
def BundleLooksUptoCardSaid : Prop := Claim7.holds Tryz.pinned (.plain (OpenSpec.upto bundleLooksSpec)) bundleLooksUptoCard
end Rows
end Go.Proofs.YtienkohkbihdoaaGreatDoor
