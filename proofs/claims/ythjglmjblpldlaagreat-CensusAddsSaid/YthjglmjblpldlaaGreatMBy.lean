/- Bytes: rows of them as abstract values; closed runs. The greater of two numbers, as the reference has it. A blank device: its pages, and what is read of it. Each theorem states its own conditions. -/
import Derived.Test.YthjglmjblpldlaaGreatMCode
set_option linter.all false
namespace Ev
open Go
set_option maxRecDepth 10000
attribute [-simp] getElem?_pos getElem?_neg
@[simp] theorem row_app_k (h l : Heap) (k : Nat) : Heap.row (h ++ l) (h.length + k) = Heap.row l k := by
  simp [Heap.row, List.getElem?_append_right]
@[simp] theorem row_app_0 (h l : Heap) : Heap.row (h ++ l) h.length = Heap.row l 0 := by
  simp [Heap.row, List.getElem?_append_right]
theorem byteV_def (c : UInt8) : byteV c = .int .u8 (c.toNat : Int) := rfl
theorem u8_inj {a b : UInt8} : ((a.toNat : Int) = b.toNat) ↔ a = b := ⟨fun h => UInt8.toNat_inj.1 (by omega), fun h => by rw [h]⟩
@[simp] theorem eq_byte (a b : UInt8) : eqV .int (byteV a) (byteV b) = some (decide (a = b)) := by
  rw [byteV_def, byteV_def, eq_int]
  congr 1
  exact decide_eq_decide.2 u8_inj
@[simp] theorem conv_byte (h : Heap) (k : IntKind) (c : UInt8) : convV h (.i k) (byteV c) = some (.int k (k.wrap (c.toNat : Int))) := rfl
@[simp] theorem cells_byte (c : UInt8) : V.cells (byteV c) = [byteV c] := rfl
@[simp] theorem one_byte (c : UInt8) : V.one (byteV c) = true := rfl
@[simp] theorem hf_byte (c : UInt8) : V.hf (byteV c) = true := rfl
theorem High_run (a b : Int) (h : Heap) : Run T f_ref01_High [.int .i64 a, .int .i64 b] h (.int .i64 (max a b)) h := by
  refine Run.start t_ref01_High ?_
  unfold k_ref01_High
  simp (disch := omega)
  apply Xb_dec
  · intro hh; simp (disch := omega); omega
  · intro hh; simp (disch := omega); omega
section
variable {ks : List Kt} {ops : List AOpr} {K : Kp} {e : Env} {h : Heap} {Q : Ex → Env → Heap → Prop} {d : Nat} {lent : Bool}
theorem High_pb (a b : Int) : Xp T f_ref01_High (some ([.int .i64 a, .int .i64 b], lent)) h (some d) ops K ks e Q = Xo T ops K ks ((d, .int .i64 (max a b)) :: e) h Q :=
  Xp_run (High_run a b []) (by simp) rfl (by simp [scalar])
end
/-- A closed run with arguments. -/
def isVal (v : V) : Option (V × Heap) → Bool
  | some (u, _) => V.beq u v
  | _ => false
theorem Run.closedV {T : Table} {f n : Nat} {vs : List V} {v : V} (h : isVal v (run T n f vs []) = true) : ∃ h', Run T f vs [] v h' := by
  cases hr : run T n f vs [] with
  | none => rw [hr] at h; cases h
  | some r =>
    obtain ⟨u, h'⟩ := r
    rw [hr] at h
    have := beq_eq _ _ h
    subst this
    exact ⟨h', n, hr⟩
/-- A page that is blank. -/
def page1 : List V := List.replicate 256 (.int .u8 255)
theorem page1_len : page1.length = 256 := by unfold page1; exact List.length_replicate
theorem page1_get (i : Nat) (h : i < 256) : page1[i]? = some (.int .u8 255) := by unfold page1; rw [List.getElem?_replicate, if_pos h]
theorem page1_hf : V.hfs page1 = true := by decide +kernel
theorem count1 : ∃ h', Run T f_zeros_count [.int .u8 255] [] (.int .i64 0) h' := Run.closedV (n := 100) (by kernel_rfl)
theorem Count_loop : ∀ (m i : Nat) (h : Heap), i + m = 256 → ∀ ks Q, (∀ z, Xk T ks (.x 0) ((3, .int .i64 0) :: z) h Q) →
    Xc T l_zeros_Count_0 ks [(3, .int .i64 0), (6, .ps 1 page1), (7, .int .i64 256), (8, .int .i64 i)] h Q := by
  obtain ⟨_, r1⟩ := count1
  intro m
  induction m with
  | zero =>
    intro i h hi ks Q hx
    have c1 : ¬ (i : Int) < 256 := by omega
    rw [L_zeros_Count_0]; unfold bl_zeros_Count_0
    simp (disch := omega) [c1]
    exact hx _
  | succ m ih =>
    intro i h hi ks Q hx
    have c1 : (i : Int) < 256 := by omega
    have c2 : i < 256 := by omega
    have g1 := page1_get i (by omega)
    have ih := ih (i + 1) h (by omega) ks Q hx
    rw [show ((i + 1 : Nat) : Int) = (i : Int) + 1 from rfl] at ih
    rw [L_zeros_Count_0]; unfold bl_zeros_Count_0
    simp (disch := omega) [c1, c2, g1]
    rw [Xp_run r1 (by simp) (by simp) (by simp [scalar])]
    simp (disch := omega)
    exact ih
theorem Count1_run : ∃ h', Run T f_zeros_Count [.ps 1 page1] [] (.int .i64 0) h' := by
  have lp := Count_loop 256 0 [] (by omega)
  have pl := page1_len
  refine Run.startE t_zeros_Count ?_
  unfold k_zeros_Count
  simp (disch := omega) [pl]
  refine lp _ _ fun z => ?_
  simp (disch := omega)
theorem Blank1_run : ∃ h', Run T f_zeros_Blank [.ps 1 page1] [] (.bool true) h' := by
  obtain ⟨_, r⟩ := Count1_run
  refine Run.startE t_zeros_Blank ?_
  unfold k_zeros_Blank
  simp (disch := omega)
  rw [Xp_run r (by simp [page1_hf]) (by simp) (by simp [scalar])]
  simp (disch := omega)
theorem Class1_run : ∃ h', Run T f_page_Class [.ps 1 page1] [] (.int .i64 0) h' := by
  obtain ⟨_, r⟩ := Blank1_run
  have pl := page1_len
  refine Run.startE t_page_Class ?_
  unfold k_page_Class
  simp (disch := omega) [pl]
  rw [Xp_run r (by simp [page1_hf]) (by simp) (by simp [scalar])]
  simp (disch := omega)
def zHead : List V := [.int .i64 0, .int .i64 0, .int .i64 0, .int .u64 0, .int .u64 0, .int .i64 0, .int .i64 0]
theorem Get1_run : ∃ h', Run T f_page_Get [.ps 1 page1] [] (.tup [.agg zHead, .str [], .int .i64 8]) h' := by
  obtain ⟨_, r⟩ := Class1_run
  refine Run.startE t_page_Get ?_
  unfold k_page_Get
  simp (disch := omega)
  rw [Xp_run r (by simp [page1_hf]) (by simp) (by simp [scalar])]
  simp (disch := omega)
  rfl
theorem Ones1_run : ∃ h', Run T f_zeros_Ones [.int .i64 256] [] (.ps 1 page1) h' := Run.closedV (n := 300) (by kernel_rfl)
/-- The sides of the device. -/
def geo : List V := [.int .i64 8, .int .i64 4, .int .i64 0]
theorem Check1_run : ∃ h', Run T f_geom_Check [.agg geo] [] (.int .i64 0) h' := Run.closedV (n := 100) (by kernel_rfl)
theorem Place1_run (b k : Nat) (hb : b < 8) (hk : k < 4) : ∃ h', Run T f_geom_Place [.agg geo, .agg [.int .i64 b, .int .i64 k]] [] (.int .i64 (b * 4 + k : Nat)) h' := by
  obtain ⟨_, r⟩ := Check1_run
  have b0 : ¬ (b : Int) < 0 := by omega
  have b1 : ¬ (8 : Int) ≤ b := by omega
  have k0 : ¬ (k : Int) < 0 := by omega
  have k1 : ¬ (4 : Int) ≤ k := by omega
  refine Run.startE t_geom_Place ?_
  unfold k_geom_Place geo
  unfold geo at r
  simp (disch := omega)
  rw [Xp_run r (by simp) (by simp) (by simp [scalar])]
  simp (disch := omega) [b0, b1, k0, k1]
end Ev
