/- Sums: what the walk over bytes comes to. Sums of a kind; two rows of bytes that differ in one byte have other sums. Each theorem states its own conditions. -/
import Derived.Test.YtienkohkbihdoaaGreatDoorKCode
import Derived.Test.YtienkohkbihdoaaGreatDoorKBy
import Derived.Test.YtienkohkbihdoaaGreatDoorKV6
set_option linter.all false
namespace Ev
open Go
set_option maxRecDepth 10000
attribute [-simp] getElem?_pos getElem?_neg List.drop_one bin_xor bin_and bin_shr un_xor
def half (s : Nat) : Nat := s / 2
def odd (s : Nat) : Nat := s % 2
def xr (a b : Nat) : Nat := a ^^^ b
/-- One bit of a sum. -/
def gS (p s : Nat) : Nat := if odd s = 1 then xr (half s) p else half s
def gN (p : Nat) : Nat → Nat → Nat
  | 0, s => s
  | k + 1, s => gN p k (gS p s)
def onS (p s : Nat) (c : UInt8) : Nat := gN p 8 (xr s c.toNat)
def thrS (p s : Nat) (b : List UInt8) : Nat := b.foldl (onS p) s
section
variable {ks : List Kt} {ops : List AOpr} {K : Kp} {e : Env} {h : Heap} {Q : Ex → Env → Heap → Prop} {d : Nat} {lent : Bool}
end
def crcN (kind : Nat) (b : List UInt8) : Nat := if kind = 1 then xr 65535 (thrS 33800 65535 b) else if kind = 2 then xr 4294967295 (thrS 2197175160 4294967295 b) else 0
def widthN (kind : Nat) : Nat := if kind = 1 then 2 else if kind = 2 then 4 else 0
section
variable {ks : List Kt} {ops : List AOpr} {K : Kp} {e : Env} {h : Heap} {Q : Ex → Env → Heap → Prop} {d : Nat} {lent : Bool}
end
section
variable {ks : List Kt} {ops : List AOpr} {K : Kp} {e : Env} {h : Heap} {Q : Ex → Env → Heap → Prop} {d : Nat} {lent : Bool}
end
section
variable {ks : List Kt} {ops : List AOpr} {K : Kp} {e : Env} {h : Heap} {Q : Ex → Env → Heap → Prop} {d : Nat} {lent : Bool}
end
section
variable {ks : List Kt} {ops : List AOpr} {K : Kp} {e : Env} {h : Heap} {Q : Ex → Env → Heap → Prop} {d : Nat} {lent : Bool}
end
theorem widthN_le (kind : Nat) : widthN kind ≤ 4 := by unfold widthN; (repeat' split) <;> omega
def sumB (kind : Nat) (b : List UInt8) : List UInt8 := beB (widthN kind) (crcN kind b)
theorem sumB_len (kind : Nat) (b : List UInt8) : (sumB kind b).length = widthN kind := beB_len _ _
end Ev
