/- Bytes: rows of them as abstract values; closed runs. Each theorem states its own conditions. -/
import Derived.Test.YtienkohkbihdoaaDoorLCode
set_option linter.all false
namespace Ev
open Go
set_option maxRecDepth 10000
attribute [-simp] getElem?_pos getElem?_neg
def isTrue : Option (V × Heap) → Bool
  | some (.bool true, _) => true
  | _ => false
theorem Run.closed {T : Table} {f n : Nat} (h : isTrue (run T n f [] []) = true) : ∃ h', Run T f [] [] (.bool true) h' := by
  cases hr : run T n f [] [] with
  | none => rw [hr] at h; cases h
  | some r =>
    obtain ⟨v, h'⟩ := r
    rw [hr] at h
    cases v with
    | bool b => cases b with
      | true => exact ⟨h', n, hr⟩
      | false => cases h
    | _ => cases h
@[simp] theorem row_app_k (h l : Heap) (k : Nat) : Heap.row (h ++ l) (h.length + k) = Heap.row l k := by
  simp [Heap.row, List.getElem?_append_right]
@[simp] theorem row_app_0 (h l : Heap) : Heap.row (h ++ l) h.length = Heap.row l 0 := by
  simp [Heap.row, List.getElem?_append_right]

def bys (b : List UInt8) : List V := b.map byteV
theorem bys_len (b : List UInt8) : (bys b).length = b.length := by simp [bys]
theorem bys_get (b : List UInt8) (i : Nat) : (bys b)[i]? = (b[i]?).map byteV := by simp [bys]
theorem bys_hfs (b : List UInt8) : V.hfs (bys b) = true := hfs_map _ (fun _ => rfl) _
theorem bys_one (b : List UInt8) : (bys b).all V.one = true := by simp [bys, byteV]
theorem bys_flat (b : List UInt8) : flat (bys b) = bys b := flat_one _ fun x hx => by
  obtain ⟨c, _, rfl⟩ := List.mem_map.1 hx
  rfl
theorem bys_nil : bys [] = [] := rfl
theorem bys_app (a b : List UInt8) : bys (a ++ b) = bys a ++ bys b := by simp [bys]
theorem bys_take (a : List UInt8) (n : Nat) : (bys a).take n = bys (a.take n) := by simp [bys, List.map_take]
theorem bys_drop (a : List UInt8) (n : Nat) : (bys a).drop n = bys (a.drop n) := by simp [bys, List.map_drop]
theorem bys_ne (a : List UInt8) (h : a ≠ []) : bys a ≠ [] := by simpa [bys] using h
theorem byte_back (c : UInt8) : toByte (byteV c) = some c := by
  simp [toByte, byteV]
theorem bys_back : ∀ (b : List UInt8), toBytes (bys b) = some b
  | [] => rfl
  | c :: r => by
    have : bys (c :: r) = byteV c :: bys r := rfl
    rw [this, toBytes, byte_back, Option.bind_some, bys_back r]; rfl
theorem conv_bys (h : Heap) (b : List UInt8) : convV h .bs (.ps 1 (bys b)) = some (.str b) := by
  rw [conv_bs, bys_back]; rfl
theorem sb_bys (s : List UInt8) : List.map byteV s = bys s := rfl
theorem byteV_def (c : UInt8) : byteV c = .int .u8 (c.toNat : Int) := rfl
theorem u8_lt (c : UInt8) : (c.toNat : Int) < 256 := by have := c.toNat_lt; omega
theorem u8_inj {a b : UInt8} : ((a.toNat : Int) = b.toNat) ↔ a = b := ⟨fun h => UInt8.toNat_inj.1 (by omega), fun h => by rw [h]⟩
/-- A number of eight bits, as a byte. -/
theorem byte_of (n : Int) (h0 : 0 ≤ n) (h1 : n < 256) : V.int .u8 n = byteV (UInt8.ofNat n.toNat) := by
  rw [byteV_def]
  congr 1
  have := UInt8.toNat_ofNat_of_lt' (n := n.toNat) (by show n.toNat < 256; omega)
  omega

@[simp] theorem eq_byte (a b : UInt8) : eqV .int (byteV a) (byteV b) = some (decide (a = b)) := by
  rw [byteV_def, byteV_def, eq_int]
  congr 1
  exact decide_eq_decide.2 u8_inj
@[simp] theorem conv_byte (h : Heap) (k : IntKind) (c : UInt8) : convV h (.i k) (byteV c) = some (.int k (k.wrap (c.toNat : Int))) := rfl
@[simp] theorem cells_byte (c : UInt8) : V.cells (byteV c) = [byteV c] := rfl
@[simp] theorem one_byte (c : UInt8) : V.one (byteV c) = true := rfl
@[simp] theorem hf_byte (c : UInt8) : V.hf (byteV c) = true := rfl
theorem bys_set (b : List UInt8) (i : Nat) (c : UInt8) : (bys b).set i (byteV c) = bys (b.set i c) := by simp [bys, List.map_set]
theorem bys_rep (n : Nat) : List.replicate n (V.int .u8 0) = bys (List.replicate n 0) := by
  unfold bys
  rw [List.map_replicate]; rfl
def bls (l : List Bool) : List V := l.map V.bool
theorem bls_len (l : List Bool) : (bls l).length = l.length := by simp [bls]
theorem bls_get (l : List Bool) (i : Nat) : (bls l)[i]? = (l[i]?).map V.bool := by simp [bls]
theorem bls_set (l : List Bool) (i : Nat) (c : Bool) : (bls l).set i (.bool c) = bls (l.set i c) := by simp [bls, List.map_set]
theorem bls_rep (n : Nat) (b : Bool) : List.replicate n (V.bool b) = bls (List.replicate n b) := by
  unfold bls
  rw [List.map_replicate]
theorem bls_hfs (l : List Bool) : V.hfs (bls l) = true := hfs_map _ (fun _ => rfl) _
theorem bls_one (l : List Bool) : (bls l).all V.one = true := by simp [bls]

theorem Ty.bytes {b : Nat} {x : V} (h : Ty (.sl false b [.i .u8]) x) : ∃ l : List UInt8, x = .ps 1 (bys l) ∧ l.length * b ≤ 140737488351232 := by
  obtain ⟨xs, rfl, h1, h2⟩ := h.elems_one
  obtain ⟨l, rfl, _⟩ := exists_map byteV (fun _ => True) xs fun y hy => by
    obtain ⟨n, rfl, h3, h4⟩ := (h2 y hy).int
    have h3 : 0 ≤ n := h3
    have h4 : n ≤ 255 := h4
    exact ⟨_, byte_of n h3 (by omega), trivial⟩
  exact ⟨l, rfl, by simpa using h1⟩
/-- Slices of bytes. -/
def byss (l : List (List UInt8)) : List V := l.map fun b => .ps 1 (bys b)
theorem byss_len (l : List (List UInt8)) : (byss l).length = l.length := by simp [byss]
theorem byss_get (l : List (List UInt8)) (i : Nat) : (byss l)[i]? = (l[i]?).map fun b => .ps 1 (bys b) := by simp [byss]
theorem byss_hfs (l : List (List UInt8)) : V.hfs (byss l) = true := hfs_map _ (fun b => by simp [bys_hfs]) _
theorem byss_app (a b : List (List UInt8)) : byss (a ++ b) = byss a ++ byss b := by simp [byss]
theorem Ty.bytess {b c : Nat} {x : V} (h : Ty (.sl false b [.sl false c [.i .u8]]) x) : ∃ l : List (List UInt8), x = .ps 1 (byss l) ∧ l.length * b ≤ 140737488351232 ∧ ∀ p ∈ l, p.length * c ≤ 140737488351232 := by
  obtain ⟨xs, rfl, h1, h2⟩ := h.elems_one
  obtain ⟨l, rfl, hl⟩ := exists_map (fun b => V.ps 1 (bys b)) (fun p : List UInt8 => p.length * c ≤ 140737488351232) xs fun y hy => by
    obtain ⟨l, rfl, h3⟩ := (h2 y hy).bytes
    exact ⟨l, rfl, h3⟩
  exact ⟨l, rfl, by simpa using h1, hl⟩
theorem ints_app (a b : List Int) : ints (a ++ b) = ints a ++ ints b := by simp [ints]
theorem take_get {α : Type} (l : List α) (i : Nat) (h : i < l.length) : l.take (i + 1) = l.take i ++ [l[i]] := by rw [List.take_succ, List.getElem?_eq_getElem h]; rfl

end Ev
