/-
  DERIVED. GIVEN WITH THE SEED: THE CARDS: each row of YtienkohkbihdoaaDoorRows.lean that lists a variable, with what it lists TIED to the program's text (the seventh form; the later family's looks); each row that meets fmt, with fmt's text TOLD by the authors' own Lean function (tested against real Go, not proved from fmt's source: count such statements apart). THE CARD IS WHAT COUNTS. Prove the row's statement (the work); the ties are given (YtienkohkbihdoaaDoorTie.lean); close each card by the builder's one call (the guide's Derived/Test/ToyasCard.lean, 'card_holds'). Laid BY PROGRAM, IN A SANDBOX (cutbox-door.mjs). By AI agents, Wed Nov 11 2026. No macro, syntax, notation, axiom, sorry.
-/
import Derived.Test.YtienkohkbihdoaaDoorRows
import GoSem.ClaimSeven
namespace Go.Proofs.YtienkohkbihdoaaDoor
namespace Rows

/-- THE TIED CARD OF 'wagtaillaw06.ItemTakes'. -/
def itemTakesCard : Claim7 := { stood := { row := itemTakesRow, standIns := [], harness := (true, "3c75c86e2ebd1eabe9111f42683c733847971fe7a49a91f744ef21a449bb9d53"), looks := true }, kinds := [], alts := [], laidByText := true, laidKinds := [.data, .pinned], laidTests := true, laidLooks := .later }
def ItemTakesCardSaid : Prop := Claim7.holds Tryd.pinned (.plain (OpenSpec.ofChange itemTakesSpec)) itemTakesCard

/-- THE TIED CARD OF 'wagtaillaw09.BlockPuts'. -/
def blockPutsCard : Claim7 := { stood := { row := blockPutsRow, standIns := [], harness := (true, "3c75c86e2ebd1eabe9111f42683c733847971fe7a49a91f744ef21a449bb9d53"), looks := true }, kinds := [], alts := [], laidByText := true, laidKinds := [.data, .pinned], laidTests := true, laidLooks := .later }
def BlockPutsCardSaid : Prop := Claim7.holds Tryd.pinned (.plain (OpenSpec.ofChange blockPutsSpec)) blockPutsCard

/-- THE TIED CARD OF 'wagtaillaw09.BlockGets'. -/
def blockGetsCard : Claim7 := { stood := { row := blockGetsRow, standIns := [], harness := (true, "3c75c86e2ebd1eabe9111f42683c733847971fe7a49a91f744ef21a449bb9d53"), looks := true }, kinds := [], alts := [], laidByText := true, laidKinds := [.data, .pinned], laidTests := true, laidLooks := .later }
def BlockGetsCardSaid : Prop := Claim7.holds Tryd.pinned (.plain (OpenSpec.ofChange blockGetsSpec)) blockGetsCard

/-- THE TIED CARD OF 'wagtaillaw09.BlockSeals'. -/
def blockSealsCard : Claim7 := { stood := { row := blockSealsRow, standIns := [], harness := (true, "3c75c86e2ebd1eabe9111f42683c733847971fe7a49a91f744ef21a449bb9d53"), looks := true }, kinds := [], alts := [], laidByText := true, laidKinds := [.data, .pinned], laidTests := true, laidLooks := .later }
def BlockSealsCardSaid : Prop := Claim7.holds Tryd.pinned (.plain (OpenSpec.ofChange blockSealsSpec)) blockSealsCard

/-- THE TIED CARD OF 'wagtaillaw09.BlockTurned'. -/
def blockTurnedCard : Claim7 := { stood := { row := blockTurnedRow, standIns := [], harness := (true, "3c75c86e2ebd1eabe9111f42683c733847971fe7a49a91f744ef21a449bb9d53"), looks := true }, kinds := [], alts := [], laidByText := true, laidKinds := [.data, .pinned], laidTests := true, laidLooks := .later }
def BlockTurnedCardSaid : Prop := Claim7.holds Tryd.pinned (.plain (OpenSpec.ofChange blockTurnedSpec)) blockTurnedCard

/-- THE TIED CARD OF 'wagtaillaw10.PrimaryPuts'. -/
def primaryPutsCard : Claim7 := { stood := { row := primaryPutsRow, standIns := [], harness := (true, "3c75c86e2ebd1eabe9111f42683c733847971fe7a49a91f744ef21a449bb9d53"), looks := true }, kinds := [], alts := [], laidByText := true, laidKinds := [.data, .pinned], laidTests := true, laidLooks := .later }
def PrimaryPutsCardSaid : Prop := Claim7.holds Tryd.pinned (.plain (OpenSpec.ofChange primaryPutsSpec)) primaryPutsCard

/-- THE TIED CARD OF 'wagtaillaw10.PrimaryGets'. -/
def primaryGetsCard : Claim7 := { stood := { row := primaryGetsRow, standIns := [], harness := (true, "3c75c86e2ebd1eabe9111f42683c733847971fe7a49a91f744ef21a449bb9d53"), looks := true }, kinds := [], alts := [], laidByText := true, laidKinds := [.data, .pinned], laidTests := true, laidLooks := .later }
def PrimaryGetsCardSaid : Prop := Claim7.holds Tryd.pinned (.plain (OpenSpec.ofChange primaryGetsSpec)) primaryGetsCard

/-- THE TIED CARD OF 'wagtaillaw11.BundleAdds'. -/
def bundleAddsCard : Claim7 := { stood := { row := bundleAddsRow, standIns := [], harness := (true, "3c75c86e2ebd1eabe9111f42683c733847971fe7a49a91f744ef21a449bb9d53"), looks := true }, kinds := [], alts := [], laidByText := true, laidKinds := [.data, .pinned], laidTests := true, laidLooks := .later }
def BundleAddsCardSaid : Prop := Claim7.holds Tryd.pinned (.plain (OpenSpec.ofChange bundleAddsSpec)) bundleAddsCard

/-- THE SECOND FORM's CARD OF 'wagtaillaw06.ItemTakes'. -/
def itemTakesUptoCard : Claim7 := { stood := { row := itemTakesUptoRow, standIns := [], harness := (true, "3c75c86e2ebd1eabe9111f42683c733847971fe7a49a91f744ef21a449bb9d53"), looks := true }, kinds := [], alts := [], laidByText := true, laidKinds := [.data, .pinned], laidTests := true, laidLooks := .later }
def ItemTakesUptoCardSaid : Prop := Claim7.holds Tryd.pinned (.plain (OpenSpec.upto itemTakesSpec)) itemTakesUptoCard

/-- THE SECOND FORM's CARD OF 'wagtaillaw09.BlockPuts'. -/
def blockPutsUptoCard : Claim7 := { stood := { row := blockPutsUptoRow, standIns := [], harness := (true, "3c75c86e2ebd1eabe9111f42683c733847971fe7a49a91f744ef21a449bb9d53"), looks := true }, kinds := [], alts := [], laidByText := true, laidKinds := [.data, .pinned], laidTests := true, laidLooks := .later }
def BlockPutsUptoCardSaid : Prop := Claim7.holds Tryd.pinned (.plain (OpenSpec.upto blockPutsSpec)) blockPutsUptoCard

/-- THE SECOND FORM's CARD OF 'wagtaillaw09.BlockGets'. -/
def blockGetsUptoCard : Claim7 := { stood := { row := blockGetsUptoRow, standIns := [], harness := (true, "3c75c86e2ebd1eabe9111f42683c733847971fe7a49a91f744ef21a449bb9d53"), looks := true }, kinds := [], alts := [], laidByText := true, laidKinds := [.data, .pinned], laidTests := true, laidLooks := .later }
def BlockGetsUptoCardSaid : Prop := Claim7.holds Tryd.pinned (.plain (OpenSpec.upto blockGetsSpec)) blockGetsUptoCard

/-- THE SECOND FORM's CARD OF 'wagtaillaw09.BlockSeals'. -/
def blockSealsUptoCard : Claim7 := { stood := { row := blockSealsUptoRow, standIns := [], harness := (true, "3c75c86e2ebd1eabe9111f42683c733847971fe7a49a91f744ef21a449bb9d53"), looks := true }, kinds := [], alts := [], laidByText := true, laidKinds := [.data, .pinned], laidTests := true, laidLooks := .later }
def BlockSealsUptoCardSaid : Prop := Claim7.holds Tryd.pinned (.plain (OpenSpec.upto blockSealsSpec)) blockSealsUptoCard

/-- THE SECOND FORM's CARD OF 'wagtaillaw09.BlockTurned'. -/
def blockTurnedUptoCard : Claim7 := { stood := { row := blockTurnedUptoRow, standIns := [], harness := (true, "3c75c86e2ebd1eabe9111f42683c733847971fe7a49a91f744ef21a449bb9d53"), looks := true }, kinds := [], alts := [], laidByText := true, laidKinds := [.data, .pinned], laidTests := true, laidLooks := .later }
def BlockTurnedUptoCardSaid : Prop := Claim7.holds Tryd.pinned (.plain (OpenSpec.upto blockTurnedSpec)) blockTurnedUptoCard

/-- THE SECOND FORM's CARD OF 'wagtaillaw10.PrimaryPuts'. -/
def primaryPutsUptoCard : Claim7 := { stood := { row := primaryPutsUptoRow, standIns := [], harness := (true, "3c75c86e2ebd1eabe9111f42683c733847971fe7a49a91f744ef21a449bb9d53"), looks := true }, kinds := [], alts := [], laidByText := true, laidKinds := [.data, .pinned], laidTests := true, laidLooks := .later }
def PrimaryPutsUptoCardSaid : Prop := Claim7.holds Tryd.pinned (.plain (OpenSpec.upto primaryPutsSpec)) primaryPutsUptoCard

/-- THE SECOND FORM's CARD OF 'wagtaillaw10.PrimaryGets'. -/
def primaryGetsUptoCard : Claim7 := { stood := { row := primaryGetsUptoRow, standIns := [], harness := (true, "3c75c86e2ebd1eabe9111f42683c733847971fe7a49a91f744ef21a449bb9d53"), looks := true }, kinds := [], alts := [], laidByText := true, laidKinds := [.data, .pinned], laidTests := true, laidLooks := .later }
def PrimaryGetsUptoCardSaid : Prop := Claim7.holds Tryd.pinned (.plain (OpenSpec.upto primaryGetsSpec)) primaryGetsUptoCard

/-- THE SECOND FORM's CARD OF 'wagtaillaw11.BundleAdds'. -/
def bundleAddsUptoCard : Claim7 := { stood := { row := bundleAddsUptoRow, standIns := [], harness := (true, "3c75c86e2ebd1eabe9111f42683c733847971fe7a49a91f744ef21a449bb9d53"), looks := true }, kinds := [], alts := [], laidByText := true, laidKinds := [.data, .pinned], laidTests := true, laidLooks := .later }
def BundleAddsUptoCardSaid : Prop := Claim7.holds Tryd.pinned (.plain (OpenSpec.upto bundleAddsSpec)) bundleAddsUptoCard
end Rows
end Go.Proofs.YtienkohkbihdoaaDoor
