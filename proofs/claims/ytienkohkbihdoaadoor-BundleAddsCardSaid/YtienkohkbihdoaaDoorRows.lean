/-
  NARROWER THAN 'FOR EVERY INPUT', by the rows' own cells (each row's printed sentence says how): ItemTakes: loops, laid · BlockPuts: laid · BlockGets: loops, laid · BlockSeals: loops, laid · BlockTurned: laid · PrimaryPuts: laid · PrimaryGets: loops, laid · BundleAdds: laid.
  DERIVED. THE GIVEN ROWS OF THIS SEAT. 8 by the template 'for every input the law returns true; each argument reads behind the call as it read before'; 0 by the template 'total and deterministic' (their statements: YtienkohkbihdoaaDoorTotals.lean).
  GIVEN WITH THE SEED: the statements are not yours to turn. If you find one false, say at which input.
  Laid BY PROGRAM, IN A SANDBOX (cutbox-rows.mjs): the forced cells as the released guide's own fill.sh prints them over the translation bda6b94c48d6c7b8… (all of the seat's roots in one cut). By AI agents, Wed Nov 11 2026. No macro, syntax, notation, axiom, sorry.
-/
import Derived.Test.YtienkohkbihdoaaDoorChecked
import GoSem.PinnedTables
import GoSem.Claim
import GoSem.ClaimJoined
import GoSem.ClaimMapViews
import Derived.JoinedTies
import Derived.KernelRfl
namespace Go.Proofs.YtienkohkbihdoaaDoor
/- THE CELL 'sum', in the pinned program and in every row, IS THE sha256 OF THE DUMP (.gsa) THAT YtienkohkbihdoaaDoorProg.lean LOADS. Nothing in Lean hashes anything: it is a label: what it is worth is what the hold of that sum in a sandbox is worth. -/
noncomputable def Tryd.pinned : Pinned := { name := "ytienkohkbihdoaadoor", sum := "bda6b94c48d6c7b836f6c5e2301a1bd9107931dc34455573bb26f1c7f41f120c", checked := Tryd.checked }
namespace Rows
def none {H : Type} : Left H := { results := [], args := [] }

/- WHAT THE LISTED PACKAGE-LEVEL VARIABLES READ AS WHEN THE CALL BEGINS. Each datum BY PROGRAM (the guide's laid-datum.mjs) off the statement by which the dump's own 'gosem.cut.vars' lays the variable. In a bare row this is a premise. The card (YtienkohkbihdoaaDoorCards.lean) ties it to the program's text. -/
def laid_unicode_utf8_acceptRanges {H : Type} : DataW H := .agg [.agg [.lit (.int .u8 128), .lit (.int .u8 191)], .agg [.lit (.int .u8 160), .lit (.int .u8 191)], .agg [.lit (.int .u8 128), .lit (.int .u8 159)], .agg [.lit (.int .u8 144), .lit (.int .u8 191)], .agg [.lit (.int .u8 128), .lit (.int .u8 143)], .agg [.lit (.int .u8 0), .lit (.int .u8 0)], .agg [.lit (.int .u8 0), .lit (.int .u8 0)], .agg [.lit (.int .u8 0), .lit (.int .u8 0)], .agg [.lit (.int .u8 0), .lit (.int .u8 0)], .agg [.lit (.int .u8 0), .lit (.int .u8 0)], .agg [.lit (.int .u8 0), .lit (.int .u8 0)], .agg [.lit (.int .u8 0), .lit (.int .u8 0)], .agg [.lit (.int .u8 0), .lit (.int .u8 0)], .agg [.lit (.int .u8 0), .lit (.int .u8 0)], .agg [.lit (.int .u8 0), .lit (.int .u8 0)], .agg [.lit (.int .u8 0), .lit (.int .u8 0)]]
/-- One of Go's own tables, pinned by name: the form's constant. -/
def laid_unicode_utf8_first : DataW Unit := Go.Pinned.utf8First

/-- 'wagtaillaw06.ItemTakes': WHATEVER THE INPUT: true; the input reads as it did. -/
def itemTakesSpec : ChangeSpec := { name := "itemTakes", fn := fun _ => fun
  | [d1, d2] => { results := [.lit (.bool true)], args := [d1, d2] }
  | _ => none }
def itemTakesRow : OpenClaim := { program := "ytienkohkbihdoaadoor", sum := "bda6b94c48d6c7b836f6c5e2301a1bd9107931dc34455573bb26f1c7f41f120c", func := "wagtail/wagtaillaw06.ItemTakes", spec := "itemTakes", unfollowed := true, recurses := true, named := ["unicode/utf8.first", "unicode/utf8.acceptRanges"], loops := true, apart := false, laid := [("unicode/utf8.acceptRanges", laid_unicode_utf8_acceptRanges), ("unicode/utf8.first", laid_unicode_utf8_first)] }
def ItemTakesSaid : Prop := itemTakesRow.holds Tryd.pinned (OpenSpec.ofChange itemTakesSpec)

/-- ITS FALSE NEIGHBOUR: 'it returns false'. Refute it at one input. -/
def itemTakesWrong : ChangeSpec := { name := "itemTakes", fn := fun _ => fun
  | [d1, d2] => { results := [.lit (.bool false)], args := [d1, d2] }
  | _ => none }
def ItemTakesWrongFalsely : Prop := itemTakesRow.holds Tryd.pinned (OpenSpec.ofChange itemTakesWrong)

/-- 'wagtaillaw09.BlockPuts': WHATEVER THE INPUT: true; the input reads as it did. -/
def blockPutsSpec : ChangeSpec := { name := "blockPuts", fn := fun _ => fun
  | [d] => { results := [.lit (.bool true)], args := [d] }
  | _ => none }
def blockPutsRow : OpenClaim := { program := "ytienkohkbihdoaadoor", sum := "bda6b94c48d6c7b836f6c5e2301a1bd9107931dc34455573bb26f1c7f41f120c", func := "wagtail/wagtaillaw09.BlockPuts", spec := "blockPuts", unfollowed := true, recurses := true, named := ["unicode/utf8.first", "unicode/utf8.acceptRanges"], apart := false, laid := [("unicode/utf8.acceptRanges", laid_unicode_utf8_acceptRanges), ("unicode/utf8.first", laid_unicode_utf8_first)] }
def BlockPutsSaid : Prop := blockPutsRow.holds Tryd.pinned (OpenSpec.ofChange blockPutsSpec)

/-- ITS FALSE NEIGHBOUR: 'it returns false'. Refute it at one input. -/
def blockPutsWrong : ChangeSpec := { name := "blockPuts", fn := fun _ => fun
  | [d] => { results := [.lit (.bool false)], args := [d] }
  | _ => none }
def BlockPutsWrongFalsely : Prop := blockPutsRow.holds Tryd.pinned (OpenSpec.ofChange blockPutsWrong)

/-- 'wagtaillaw09.BlockGets': WHATEVER THE INPUT: true; the input reads as it did. -/
def blockGetsSpec : ChangeSpec := { name := "blockGets", fn := fun _ => fun
  | [d] => { results := [.lit (.bool true)], args := [d] }
  | _ => none }
def blockGetsRow : OpenClaim := { program := "ytienkohkbihdoaadoor", sum := "bda6b94c48d6c7b836f6c5e2301a1bd9107931dc34455573bb26f1c7f41f120c", func := "wagtail/wagtaillaw09.BlockGets", spec := "blockGets", unfollowed := true, recurses := true, named := ["unicode/utf8.first", "unicode/utf8.acceptRanges"], loops := true, apart := false, laid := [("unicode/utf8.acceptRanges", laid_unicode_utf8_acceptRanges), ("unicode/utf8.first", laid_unicode_utf8_first)] }
def BlockGetsSaid : Prop := blockGetsRow.holds Tryd.pinned (OpenSpec.ofChange blockGetsSpec)

/-- ITS FALSE NEIGHBOUR: 'it returns false'. Refute it at one input. -/
def blockGetsWrong : ChangeSpec := { name := "blockGets", fn := fun _ => fun
  | [d] => { results := [.lit (.bool false)], args := [d] }
  | _ => none }
def BlockGetsWrongFalsely : Prop := blockGetsRow.holds Tryd.pinned (OpenSpec.ofChange blockGetsWrong)

/-- 'wagtaillaw09.BlockSeals': WHATEVER THE INPUT: true; the input reads as it did. -/
def blockSealsSpec : ChangeSpec := { name := "blockSeals", fn := fun _ => fun
  | [d1, d2] => { results := [.lit (.bool true)], args := [d1, d2] }
  | _ => none }
def blockSealsRow : OpenClaim := { program := "ytienkohkbihdoaadoor", sum := "bda6b94c48d6c7b836f6c5e2301a1bd9107931dc34455573bb26f1c7f41f120c", func := "wagtail/wagtaillaw09.BlockSeals", spec := "blockSeals", unfollowed := true, recurses := true, named := ["unicode/utf8.first", "unicode/utf8.acceptRanges"], loops := true, apart := false, laid := [("unicode/utf8.acceptRanges", laid_unicode_utf8_acceptRanges), ("unicode/utf8.first", laid_unicode_utf8_first)] }
def BlockSealsSaid : Prop := blockSealsRow.holds Tryd.pinned (OpenSpec.ofChange blockSealsSpec)

/-- ITS FALSE NEIGHBOUR: 'it returns false'. Refute it at one input. -/
def blockSealsWrong : ChangeSpec := { name := "blockSeals", fn := fun _ => fun
  | [d1, d2] => { results := [.lit (.bool false)], args := [d1, d2] }
  | _ => none }
def BlockSealsWrongFalsely : Prop := blockSealsRow.holds Tryd.pinned (OpenSpec.ofChange blockSealsWrong)

/-- 'wagtaillaw09.BlockTurned': WHATEVER THE INPUT: true; the input reads as it did. -/
def blockTurnedSpec : ChangeSpec := { name := "blockTurned", fn := fun _ => fun
  | [d1, d2] => { results := [.lit (.bool true)], args := [d1, d2] }
  | _ => none }
def blockTurnedRow : OpenClaim := { program := "ytienkohkbihdoaadoor", sum := "bda6b94c48d6c7b836f6c5e2301a1bd9107931dc34455573bb26f1c7f41f120c", func := "wagtail/wagtaillaw09.BlockTurned", spec := "blockTurned", unfollowed := true, recurses := true, named := ["unicode/utf8.first", "unicode/utf8.acceptRanges"], apart := false, laid := [("unicode/utf8.acceptRanges", laid_unicode_utf8_acceptRanges), ("unicode/utf8.first", laid_unicode_utf8_first)] }
def BlockTurnedSaid : Prop := blockTurnedRow.holds Tryd.pinned (OpenSpec.ofChange blockTurnedSpec)

/-- ITS FALSE NEIGHBOUR: 'it returns false'. Refute it at one input. -/
def blockTurnedWrong : ChangeSpec := { name := "blockTurned", fn := fun _ => fun
  | [d1, d2] => { results := [.lit (.bool false)], args := [d1, d2] }
  | _ => none }
def BlockTurnedWrongFalsely : Prop := blockTurnedRow.holds Tryd.pinned (OpenSpec.ofChange blockTurnedWrong)

/-- 'wagtaillaw10.PrimaryPuts': WHATEVER THE INPUT: true; the input reads as it did. -/
def primaryPutsSpec : ChangeSpec := { name := "primaryPuts", fn := fun _ => fun
  | [d] => { results := [.lit (.bool true)], args := [d] }
  | _ => none }
def primaryPutsRow : OpenClaim := { program := "ytienkohkbihdoaadoor", sum := "bda6b94c48d6c7b836f6c5e2301a1bd9107931dc34455573bb26f1c7f41f120c", func := "wagtail/wagtaillaw10.PrimaryPuts", spec := "primaryPuts", unfollowed := true, recurses := true, named := ["unicode/utf8.first", "unicode/utf8.acceptRanges"], apart := false, laid := [("unicode/utf8.acceptRanges", laid_unicode_utf8_acceptRanges), ("unicode/utf8.first", laid_unicode_utf8_first)] }
def PrimaryPutsSaid : Prop := primaryPutsRow.holds Tryd.pinned (OpenSpec.ofChange primaryPutsSpec)

/-- ITS FALSE NEIGHBOUR: 'it returns false'. Refute it at one input. -/
def primaryPutsWrong : ChangeSpec := { name := "primaryPuts", fn := fun _ => fun
  | [d] => { results := [.lit (.bool false)], args := [d] }
  | _ => none }
def PrimaryPutsWrongFalsely : Prop := primaryPutsRow.holds Tryd.pinned (OpenSpec.ofChange primaryPutsWrong)

/-- 'wagtaillaw10.PrimaryGets': WHATEVER THE INPUT: true; the input reads as it did. -/
def primaryGetsSpec : ChangeSpec := { name := "primaryGets", fn := fun _ => fun
  | [d] => { results := [.lit (.bool true)], args := [d] }
  | _ => none }
def primaryGetsRow : OpenClaim := { program := "ytienkohkbihdoaadoor", sum := "bda6b94c48d6c7b836f6c5e2301a1bd9107931dc34455573bb26f1c7f41f120c", func := "wagtail/wagtaillaw10.PrimaryGets", spec := "primaryGets", unfollowed := true, recurses := true, named := ["unicode/utf8.first", "unicode/utf8.acceptRanges"], loops := true, apart := false, laid := [("unicode/utf8.acceptRanges", laid_unicode_utf8_acceptRanges), ("unicode/utf8.first", laid_unicode_utf8_first)] }
def PrimaryGetsSaid : Prop := primaryGetsRow.holds Tryd.pinned (OpenSpec.ofChange primaryGetsSpec)

/-- ITS FALSE NEIGHBOUR: 'it returns false'. Refute it at one input. -/
def primaryGetsWrong : ChangeSpec := { name := "primaryGets", fn := fun _ => fun
  | [d] => { results := [.lit (.bool false)], args := [d] }
  | _ => none }
def PrimaryGetsWrongFalsely : Prop := primaryGetsRow.holds Tryd.pinned (OpenSpec.ofChange primaryGetsWrong)

/-- 'wagtaillaw11.BundleAdds': WHATEVER THE INPUT: true; the input reads as it did. -/
def bundleAddsSpec : ChangeSpec := { name := "bundleAdds", fn := fun _ => fun
  | [d1, d2] => { results := [.lit (.bool true)], args := [d1, d2] }
  | _ => none }
def bundleAddsRow : OpenClaim := { program := "ytienkohkbihdoaadoor", sum := "bda6b94c48d6c7b836f6c5e2301a1bd9107931dc34455573bb26f1c7f41f120c", func := "wagtail/wagtaillaw11.BundleAdds", spec := "bundleAdds", unfollowed := true, recurses := true, named := ["unicode/utf8.first", "unicode/utf8.acceptRanges"], apart := false, laid := [("unicode/utf8.acceptRanges", laid_unicode_utf8_acceptRanges), ("unicode/utf8.first", laid_unicode_utf8_first)] }
def BundleAddsSaid : Prop := bundleAddsRow.holds Tryd.pinned (OpenSpec.ofChange bundleAddsSpec)

/-- ITS FALSE NEIGHBOUR: 'it returns false'. Refute it at one input. -/
def bundleAddsWrong : ChangeSpec := { name := "bundleAdds", fn := fun _ => fun
  | [d1, d2] => { results := [.lit (.bool false)], args := [d1, d2] }
  | _ => none }
def BundleAddsWrongFalsely : Prop := bundleAddsRow.holds Tryd.pinned (OpenSpec.ofChange bundleAddsWrong)

/- THE SECOND FORM. 'bulk': how many values and letters a reading holds, each counted each time it is reached (what is shared counts as often as it is met; a slice's spare places count too). A statement '..UptoSaid' is the law's where the arguments, and the package variables that the reading takes, are together of bulk at most 1048576: NARROWER than '..Said'. Prove '..Said' where nothing that the law and all that it calls make is longer than what came in: it says more and counts as full. Else prove '..UptoSaid'. A law counts once. -/
mutual
def uptoBulk {H : Type} : DataW H → Nat
  | .lit (.string bytes) => bytes.length + 1
  | .lit _ => 1
  | .nil => 1
  | .ptr d => uptoBulk d + 1
  | .slice elems spare => uptoBulkAll elems + uptoBulkAll spare + 1
  | .agg parts => uptoBulkAll parts + 1
  | .iface _ d => uptoBulk d + 1
  | .map entries => uptoBulkEntries entries + 1
  | .held _ => 1
def uptoBulkAll {H : Type} : List (DataW H) → Nat
  | [] => 0
  | d :: r => uptoBulk d + uptoBulkAll r
def uptoBulkEntries {H : Type} : List (Lit × DataW H) → Nat
  | [] => 0
  | x :: r => uptoBulkEntry x + uptoBulkEntries r
def uptoBulkEntry {H : Type} : Lit × DataW H → Nat
  | (.string bytes, d) => bytes.length + uptoBulk d + 1
  | (_, d) => uptoBulk d + 1
 end
def uptoSmall : (H : Type) → List (DataW H) → Bool := fun _ ds => decide (uptoBulkAll ds ≤ 1048576)
def OpenSpec.upto (s : _root_.Go.ChangeSpec) : _root_.Go.OpenSpec := { _root_.Go.OpenSpec.ofChange s with cond := some uptoSmall }

/-- 'wagtaillaw06.ItemTakes', WHERE WHAT IT READS IS OF BULK AT MOST 1048576: true; the input reads as it did. -/
def itemTakesUptoRow : OpenClaim := { program := "ytienkohkbihdoaadoor", sum := "bda6b94c48d6c7b836f6c5e2301a1bd9107931dc34455573bb26f1c7f41f120c", func := "wagtail/wagtaillaw06.ItemTakes", spec := "itemTakes", unfollowed := true, recurses := true, named := ["unicode/utf8.first", "unicode/utf8.acceptRanges"], loops := true, apart := false, laid := [("unicode/utf8.acceptRanges", laid_unicode_utf8_acceptRanges), ("unicode/utf8.first", laid_unicode_utf8_first)], narrowed := true }
def ItemTakesUptoSaid : Prop := itemTakesUptoRow.holds Tryd.pinned (OpenSpec.upto itemTakesSpec)

/-- 'wagtaillaw09.BlockPuts', WHERE WHAT IT READS IS OF BULK AT MOST 1048576: true; the input reads as it did. -/
def blockPutsUptoRow : OpenClaim := { program := "ytienkohkbihdoaadoor", sum := "bda6b94c48d6c7b836f6c5e2301a1bd9107931dc34455573bb26f1c7f41f120c", func := "wagtail/wagtaillaw09.BlockPuts", spec := "blockPuts", unfollowed := true, recurses := true, named := ["unicode/utf8.first", "unicode/utf8.acceptRanges"], apart := false, laid := [("unicode/utf8.acceptRanges", laid_unicode_utf8_acceptRanges), ("unicode/utf8.first", laid_unicode_utf8_first)], narrowed := true }
def BlockPutsUptoSaid : Prop := blockPutsUptoRow.holds Tryd.pinned (OpenSpec.upto blockPutsSpec)

/-- 'wagtaillaw09.BlockGets', WHERE WHAT IT READS IS OF BULK AT MOST 1048576: true; the input reads as it did. -/
def blockGetsUptoRow : OpenClaim := { program := "ytienkohkbihdoaadoor", sum := "bda6b94c48d6c7b836f6c5e2301a1bd9107931dc34455573bb26f1c7f41f120c", func := "wagtail/wagtaillaw09.BlockGets", spec := "blockGets", unfollowed := true, recurses := true, named := ["unicode/utf8.first", "unicode/utf8.acceptRanges"], loops := true, apart := false, laid := [("unicode/utf8.acceptRanges", laid_unicode_utf8_acceptRanges), ("unicode/utf8.first", laid_unicode_utf8_first)], narrowed := true }
def BlockGetsUptoSaid : Prop := blockGetsUptoRow.holds Tryd.pinned (OpenSpec.upto blockGetsSpec)

/-- 'wagtaillaw09.BlockSeals', WHERE WHAT IT READS IS OF BULK AT MOST 1048576: true; the input reads as it did. -/
def blockSealsUptoRow : OpenClaim := { program := "ytienkohkbihdoaadoor", sum := "bda6b94c48d6c7b836f6c5e2301a1bd9107931dc34455573bb26f1c7f41f120c", func := "wagtail/wagtaillaw09.BlockSeals", spec := "blockSeals", unfollowed := true, recurses := true, named := ["unicode/utf8.first", "unicode/utf8.acceptRanges"], loops := true, apart := false, laid := [("unicode/utf8.acceptRanges", laid_unicode_utf8_acceptRanges), ("unicode/utf8.first", laid_unicode_utf8_first)], narrowed := true }
def BlockSealsUptoSaid : Prop := blockSealsUptoRow.holds Tryd.pinned (OpenSpec.upto blockSealsSpec)

/-- 'wagtaillaw09.BlockTurned', WHERE WHAT IT READS IS OF BULK AT MOST 1048576: true; the input reads as it did. -/
def blockTurnedUptoRow : OpenClaim := { program := "ytienkohkbihdoaadoor", sum := "bda6b94c48d6c7b836f6c5e2301a1bd9107931dc34455573bb26f1c7f41f120c", func := "wagtail/wagtaillaw09.BlockTurned", spec := "blockTurned", unfollowed := true, recurses := true, named := ["unicode/utf8.first", "unicode/utf8.acceptRanges"], apart := false, laid := [("unicode/utf8.acceptRanges", laid_unicode_utf8_acceptRanges), ("unicode/utf8.first", laid_unicode_utf8_first)], narrowed := true }
def BlockTurnedUptoSaid : Prop := blockTurnedUptoRow.holds Tryd.pinned (OpenSpec.upto blockTurnedSpec)

/-- 'wagtaillaw10.PrimaryPuts', WHERE WHAT IT READS IS OF BULK AT MOST 1048576: true; the input reads as it did. -/
def primaryPutsUptoRow : OpenClaim := { program := "ytienkohkbihdoaadoor", sum := "bda6b94c48d6c7b836f6c5e2301a1bd9107931dc34455573bb26f1c7f41f120c", func := "wagtail/wagtaillaw10.PrimaryPuts", spec := "primaryPuts", unfollowed := true, recurses := true, named := ["unicode/utf8.first", "unicode/utf8.acceptRanges"], apart := false, laid := [("unicode/utf8.acceptRanges", laid_unicode_utf8_acceptRanges), ("unicode/utf8.first", laid_unicode_utf8_first)], narrowed := true }
def PrimaryPutsUptoSaid : Prop := primaryPutsUptoRow.holds Tryd.pinned (OpenSpec.upto primaryPutsSpec)

/-- 'wagtaillaw10.PrimaryGets', WHERE WHAT IT READS IS OF BULK AT MOST 1048576: true; the input reads as it did. -/
def primaryGetsUptoRow : OpenClaim := { program := "ytienkohkbihdoaadoor", sum := "bda6b94c48d6c7b836f6c5e2301a1bd9107931dc34455573bb26f1c7f41f120c", func := "wagtail/wagtaillaw10.PrimaryGets", spec := "primaryGets", unfollowed := true, recurses := true, named := ["unicode/utf8.first", "unicode/utf8.acceptRanges"], loops := true, apart := false, laid := [("unicode/utf8.acceptRanges", laid_unicode_utf8_acceptRanges), ("unicode/utf8.first", laid_unicode_utf8_first)], narrowed := true }
def PrimaryGetsUptoSaid : Prop := primaryGetsUptoRow.holds Tryd.pinned (OpenSpec.upto primaryGetsSpec)

/-- 'wagtaillaw11.BundleAdds', WHERE WHAT IT READS IS OF BULK AT MOST 1048576: true; the input reads as it did. -/
def bundleAddsUptoRow : OpenClaim := { program := "ytienkohkbihdoaadoor", sum := "bda6b94c48d6c7b836f6c5e2301a1bd9107931dc34455573bb26f1c7f41f120c", func := "wagtail/wagtaillaw11.BundleAdds", spec := "bundleAdds", unfollowed := true, recurses := true, named := ["unicode/utf8.first", "unicode/utf8.acceptRanges"], apart := false, laid := [("unicode/utf8.acceptRanges", laid_unicode_utf8_acceptRanges), ("unicode/utf8.first", laid_unicode_utf8_first)], narrowed := true }
def BundleAddsUptoSaid : Prop := bundleAddsUptoRow.holds Tryd.pinned (OpenSpec.upto bundleAddsSpec)

end Rows
end Go.Proofs.YtienkohkbihdoaaDoor
