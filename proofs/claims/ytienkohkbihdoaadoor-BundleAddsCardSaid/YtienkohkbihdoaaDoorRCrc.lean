/- Sums: what the walk over bytes comes to. Each theorem states its own conditions. -/
import Derived.Test.YtienkohkbihdoaaDoorRCode
import Derived.Test.YtienkohkbihdoaaDoorRBy
set_option linter.all false
namespace Ev
open Go
set_option maxRecDepth 10000
attribute [-simp] getElem?_pos getElem?_neg List.drop_one bin_xor bin_and bin_shr un_xor
def xr (a b : Nat) : Nat := a ^^^ b
end Ev
