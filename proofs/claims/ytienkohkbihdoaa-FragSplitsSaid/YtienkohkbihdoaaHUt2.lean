/- Which bytes are a text: rune by rune. Each theorem states its own conditions. -/
import Derived.Test.YtienkohkbihdoaaHCode
import Derived.Test.YtienkohkbihdoaaHUt
set_option linter.all false
namespace Ev
open Go
set_option maxRecDepth 10000
attribute [-simp] getElem?_pos getElem?_neg bin_or bin_and bin_shl bin_shr List.drop_one load_rp
def ct (b : Nat) : Prop := 128 ≤ b ∧ b < 192
instance (b : Nat) : Decidable (ct b) := by unfold ct; infer_instance
def byt (s : List UInt8) (i : Nat) : Nat := (s.getD i 0).toNat
def r2 (a b : Nat) : Nat := 64 * (a - 192) + (b - 128)
def r3 (a b c : Nat) : Nat := 4096 * (a - 224) + 64 * (b - 128) + (c - 128)
def r4 (a b c d : Nat) : Nat := 262144 * (a - 240) + 4096 * (b - 128) + 64 * (c - 128) + (d - 128)
/-- How many bytes the rune has that a text begins with; 0: it begins with none. -/
def rsz (s : List UInt8) : Nat :=
  if s = [] then 0 else
  if byt s 0 < 128 then 1 else
  if 192 ≤ byt s 0 ∧ byt s 0 < 224 then (if 2 ≤ s.length ∧ ct (byt s 1) ∧ 128 ≤ r2 (byt s 0) (byt s 1) then 2 else 0) else
  if 224 ≤ byt s 0 ∧ byt s 0 < 240 then (if 3 ≤ s.length ∧ ct (byt s 1) ∧ ct (byt s 2) ∧ 2048 ≤ r3 (byt s 0) (byt s 1) (byt s 2) ∧ (r3 (byt s 0) (byt s 1) (byt s 2) < 55296 ∨ 57344 ≤ r3 (byt s 0) (byt s 1) (byt s 2)) then 3 else 0) else
  if 240 ≤ byt s 0 ∧ byt s 0 < 248 then (if 4 ≤ s.length ∧ ct (byt s 1) ∧ ct (byt s 2) ∧ ct (byt s 3) ∧ 65536 ≤ r4 (byt s 0) (byt s 1) (byt s 2) (byt s 3) ∧ r4 (byt s 0) (byt s 1) (byt s 2) (byt s 3) ≤ 1114111 then 4 else 0) else 0
/-- Is it a text? -/
def valid (s : List UInt8) : Bool := if s = [] then true else if rsz s = 0 then false else valid (s.drop (rsz s))
termination_by s.length
decreasing_by
  rename_i h1 h2
  have : s.length ≠ 0 := by simpa using h1
  simp
  omega
theorem Asc.add {n m : Nat} {s : List UInt8} (h : Asc n s) (k : Asc m (s.drop n)) : Asc (n + m) s := fun i hi => by
  rcases Nat.lt_or_ge i n with c | c
  · exact h i c
  · have := k (i - n) (by omega)
    rw [getD_drop] at this
    rwa [show n + (i - n) = i by omega] at this
section
variable {ks : List Kt} {ops : List AOpr} {K : Kp} {e : Env} {h : Heap} {Q : Ex → Env → Heap → Prop} {d : Nat} {lent : Bool}
end
end Ev
