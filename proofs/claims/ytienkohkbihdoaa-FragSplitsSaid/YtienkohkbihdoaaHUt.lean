/- Which bytes are a text: eight bytes at once. Each theorem states its own conditions. -/
import Derived.Test.YtienkohkbihdoaaHCode
import Derived.Test.YtienkohkbihdoaaHBy
set_option linter.all false
namespace Ev
open Go
set_option maxRecDepth 10000
attribute [-simp] getElem?_pos getElem?_neg bin_or bin_and bin_shl
/-- No letter of the first n but plain ones. -/
def Asc (n : Nat) (s : List UInt8) : Prop := ∀ i, i < n → (s.getD i 0).toNat < 128
theorem getD_drop (s : List UInt8) (k i : Nat) : (s.drop k).getD i 0 = s.getD (k + i) 0 := by simp [List.getD_eq_getElem?_getD]
section
variable {ks : List Kt} {ops : List AOpr} {K : Kp} {e : Env} {h : Heap} {Q : Ex → Env → Heap → Prop} {d : Nat} {lent : Bool}
end
end Ev
