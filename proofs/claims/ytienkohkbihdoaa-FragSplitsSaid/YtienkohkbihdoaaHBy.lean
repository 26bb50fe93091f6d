/- Bytes: rows of them as abstract values; closed runs. Heads: how wide a number is, its bytes, and the bytes of a head. Each theorem states its own conditions. -/
import Derived.Test.YtienkohkbihdoaaHCode
set_option linter.all false
namespace Ev
open Go
set_option maxRecDepth 10000
attribute [-simp] getElem?_pos getElem?_neg
def isTrue : Option (V × Heap) → Bool
  | some (.bool true, _) => true
  | _ => false
theorem Run.closed {T : Table} {f n : Nat} (h : isTrue (run T n f [] []) = true) : ∃ h', Run T f [] [] (.bool true) h' := by
  cases hr : run T n f [] [] with
  | none => rw [hr] at h; cases h
  | some r =>
    obtain ⟨v, h'⟩ := r
    rw [hr] at h
    cases v with
    | bool b => cases b with
      | true => exact ⟨h', n, hr⟩
      | false => cases h
    | _ => cases h
@[simp] theorem row_app_k (h l : Heap) (k : Nat) : Heap.row (h ++ l) (h.length + k) = Heap.row l k := by
  simp [Heap.row, List.getElem?_append_right]
@[simp] theorem row_app_0 (h l : Heap) : Heap.row (h ++ l) h.length = Heap.row l 0 := by
  simp [Heap.row, List.getElem?_append_right]
def bys (b : List UInt8) : List V := b.map byteV
theorem bys_len (b : List UInt8) : (bys b).length = b.length := by simp [bys]
theorem bys_get (b : List UInt8) (i : Nat) : (bys b)[i]? = (b[i]?).map byteV := by simp [bys]
theorem byte_back (c : UInt8) : toByte (byteV c) = some c := by
  simp [toByte, byteV]
theorem bys_back : ∀ (b : List UInt8), toBytes (bys b) = some b
  | [] => rfl
  | c :: r => by
    have : bys (c :: r) = byteV c :: bys r := rfl
    rw [this, toBytes, byte_back, Option.bind_some, bys_back r]; rfl
theorem byteV_def (c : UInt8) : byteV c = .int .u8 (c.toNat : Int) := rfl
theorem u8_inj {a b : UInt8} : ((a.toNat : Int) = b.toNat) ↔ a = b := ⟨fun h => UInt8.toNat_inj.1 (by omega), fun h => by rw [h]⟩
@[simp] theorem eq_byte (a b : UInt8) : eqV .int (byteV a) (byteV b) = some (decide (a = b)) := by
  rw [byteV_def, byteV_def, eq_int]
  congr 1
  exact decide_eq_decide.2 u8_inj
@[simp] theorem conv_byte (h : Heap) (k : IntKind) (c : UInt8) : convV h (.i k) (byteV c) = some (.int k (k.wrap (c.toNat : Int))) := rfl
@[simp] theorem cells_byte (c : UInt8) : V.cells (byteV c) = [byteV c] := rfl
@[simp] theorem one_byte (c : UInt8) : V.one (byteV c) = true := rfl
@[simp] theorem hf_byte (c : UInt8) : V.hf (byteV c) = true := rfl
def wideS (n : Nat) : Nat := if n < 24 then 0 else if n < 256 then 1 else if n < 65536 then 2 else if n < 4294967296 then 4 else 8
def infoS (w : Nat) : Nat := if w = 1 then 24 else if w = 2 then 25 else if w = 4 then 26 else 27
section
variable {ks : List Kt} {ops : List AOpr} {K : Kp} {e : Env} {h : Heap} {Q : Ex → Env → Heap → Prop} {d : Nat}
end
section
variable {ks : List Kt} {ops : List AOpr} {K : Kp} {e : Env} {h : Heap} {Q : Ex → Env → Heap → Prop} {d : Nat} {lent : Bool}
end
/-- A number's last w bytes, the greatest first. -/
def beB : Nat → Nat → List UInt8
  | 0, _ => []
  | w + 1, n => UInt8.ofNat (n / 2 ^ (8 * w)) :: beB w n
section
variable {ks : List Kt} {ops : List AOpr} {K : Kp} {e : Env} {h : Heap} {Q : Ex → Env → Heap → Prop} {d : Nat}
end
section
variable {ks : List Kt} {ops : List AOpr} {K : Kp} {e : Env} {h : Heap} {Q : Ex → Env → Heap → Prop} {d : Nat}
end
/-- The bytes of a head. -/
def hdB (m n : Nat) : List UInt8 := if n < 24 then [UInt8.ofNat (32 * m + n)] else UInt8.ofNat (32 * m + infoS (wideS n)) :: beB (wideS n) n
section
variable {ks : List Kt} {ops : List AOpr} {K : Kp} {e : Env} {h : Heap} {Q : Ex → Env → Heap → Prop} {d : Nat} {lent : Bool}
end
section
variable {ks : List Kt} {ops : List AOpr} {K : Kp} {e : Env} {h : Heap} {Q : Ex → Env → Heap → Prop} {d : Nat}
end
section
variable {ks : List Kt} {ops : List AOpr} {K : Kp} {e : Env} {h : Heap} {Q : Ex → Env → Heap → Prop} {d : Nat}
end
end Ev
