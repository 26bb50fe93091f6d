/- Which bytes are a text: rune by rune. Each theorem states its own conditions. -/
import Derived.Test.YtienkohkbihdoaaDoorRCode
import Derived.Test.YtienkohkbihdoaaDoorRBy
set_option linter.all false
namespace Ev
open Go
set_option maxRecDepth 10000
attribute [-simp] getElem?_pos getElem?_neg bin_or bin_and bin_shl bin_shr List.drop_one load_rp
def r2 (a b : Nat) : Nat := 64 * (a - 192) + (b - 128)
def r3 (a b c : Nat) : Nat := 4096 * (a - 224) + 64 * (b - 128) + (c - 128)
def r4 (a b c d : Nat) : Nat := 262144 * (a - 240) + 4096 * (b - 128) + 64 * (c - 128) + (d - 128)
section
variable {ks : List Kt} {ops : List AOpr} {K : Kp} {e : Env} {h : Heap} {Q : Ex → Env → Heap → Prop} {d : Nat} {lent : Bool}
end
end Ev
