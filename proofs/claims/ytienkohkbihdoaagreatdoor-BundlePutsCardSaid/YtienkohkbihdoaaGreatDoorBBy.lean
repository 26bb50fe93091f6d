/- Bytes: rows of them as abstract values; closed runs. Heads: how wide a number is, its bytes, and the bytes of a head. Each theorem states its own conditions. -/
import Derived.Test.YtienkohkbihdoaaGreatDoorBCode
set_option linter.all false
namespace Ev
open Go
set_option maxRecDepth 10000
attribute [-simp] getElem?_pos getElem?_neg
def isTrue : Option (V × Heap) → Bool
  | some (.bool true, _) => true
  | _ => false
theorem Run.closed {T : Table} {f n : Nat} (h : isTrue (run T n f [] []) = true) : ∃ h', Run T f [] [] (.bool true) h' := by
  cases hr : run T n f [] [] with
  | none => rw [hr] at h; cases h
  | some r =>
    obtain ⟨v, h'⟩ := r
    rw [hr] at h
    cases v with
    | bool b => cases b with
      | true => exact ⟨h', n, hr⟩
      | false => cases h
    | _ => cases h
@[simp] theorem row_app_k (h l : Heap) (k : Nat) : Heap.row (h ++ l) (h.length + k) = Heap.row l k := by
  simp [Heap.row, List.getElem?_append_right]
@[simp] theorem row_app_0 (h l : Heap) : Heap.row (h ++ l) h.length = Heap.row l 0 := by
  simp [Heap.row, List.getElem?_append_right]
def bys (b : List UInt8) : List V := b.map byteV
theorem bys_len (b : List UInt8) : (bys b).length = b.length := by simp [bys]
theorem bys_get (b : List UInt8) (i : Nat) : (bys b)[i]? = (b[i]?).map byteV := by simp [bys]
theorem bys_hfs (b : List UInt8) : V.hfs (bys b) = true := hfs_map _ (fun _ => rfl) _
theorem bys_nil : bys [] = [] := rfl
theorem bys_app (a b : List UInt8) : bys (a ++ b) = bys a ++ bys b := by simp [bys]
theorem bys_take (a : List UInt8) (n : Nat) : (bys a).take n = bys (a.take n) := by simp [bys, List.map_take]
theorem bys_drop (a : List UInt8) (n : Nat) : (bys a).drop n = bys (a.drop n) := by simp [bys, List.map_drop]
theorem byte_back (c : UInt8) : toByte (byteV c) = some c := by
  simp [toByte, byteV]
theorem bys_back : ∀ (b : List UInt8), toBytes (bys b) = some b
  | [] => rfl
  | c :: r => by
    have : bys (c :: r) = byteV c :: bys r := rfl
    rw [this, toBytes, byte_back, Option.bind_some, bys_back r]; rfl
theorem sb_bys (s : List UInt8) : List.map byteV s = bys s := rfl
theorem byteV_def (c : UInt8) : byteV c = .int .u8 (c.toNat : Int) := rfl
theorem u8_lt (c : UInt8) : (c.toNat : Int) < 256 := by have := c.toNat_lt; omega
theorem u8_inj {a b : UInt8} : ((a.toNat : Int) = b.toNat) ↔ a = b := ⟨fun h => UInt8.toNat_inj.1 (by omega), fun h => by rw [h]⟩
@[simp] theorem eq_byte (a b : UInt8) : eqV .int (byteV a) (byteV b) = some (decide (a = b)) := by
  rw [byteV_def, byteV_def, eq_int]
  congr 1
  exact decide_eq_decide.2 u8_inj
@[simp] theorem conv_byte (h : Heap) (k : IntKind) (c : UInt8) : convV h (.i k) (byteV c) = some (.int k (k.wrap (c.toNat : Int))) := rfl
@[simp] theorem cells_byte (c : UInt8) : V.cells (byteV c) = [byteV c] := rfl
@[simp] theorem one_byte (c : UInt8) : V.one (byteV c) = true := rfl
@[simp] theorem hf_byte (c : UInt8) : V.hf (byteV c) = true := rfl
theorem bys_rep (n : Nat) : List.replicate n (V.int .u8 0) = bys (List.replicate n 0) := by
  unfold bys
  rw [List.map_replicate]; rfl
theorem take_get {α : Type} (l : List α) (i : Nat) (h : i < l.length) : l.take (i + 1) = l.take i ++ [l[i]] := by rw [List.take_succ, List.getElem?_eq_getElem h]; rfl
def wideS (n : Nat) : Nat := if n < 24 then 0 else if n < 256 then 1 else if n < 65536 then 2 else if n < 4294967296 then 4 else 8
def infoS (w : Nat) : Nat := if w = 1 then 24 else if w = 2 then 25 else if w = 4 then 26 else 27
theorem fdiv_pow (n k : Nat) : ((n : Int)).fdiv (2 ^ k) = ((n / 2 ^ k : Nat) : Int) := by
  rw [Int.fdiv_eq_ediv_of_nonneg _ (by exact Int.pow_nonneg (by omega))]
  push_cast
  rfl
theorem bits_u64 : IntKind.u64.bits = 64 := rfl
theorem wide1_run (n : Nat) (k : Nat) (h : Heap) (hk : k ≤ 64) : Run T f_head_wide_1 [.int .i64 k, .ptr h.length 0] (h ++ [some [.int .u64 n]]) (.bool (decide (n < 2 ^ k))) (h ++ [some [.int .u64 n]]) := by
  refine Run.start t_head_wide_1 ?_
  unfold k_head_wide_1
  have e1 : min k 64 = k := by omega
  have e2 : ((n : Int) / 2 ^ k = 0) ↔ n < 2 ^ k := by
    rw [show ((n : Int) / 2 ^ k) = ((n / 2 ^ k : Nat) : Int) by push_cast; rfl]
    rw [Int.natCast_eq_zero, Nat.div_eq_zero_iff]
    have := Nat.two_pow_pos k
    omega
  simp (disch := omega) [bits_u64, fdiv_pow, e1, e2]
section
variable {ks : List Kt} {ops : List AOpr} {K : Kp} {e : Env} {h : Heap} {Q : Ex → Env → Heap → Prop} {d : Nat}
theorem wide1_8 (n : Nat) : Xf T f_head_wide_1 (some [.int .i64 8, .ptr h.length 0]) (h ++ [some [.int .u64 n]]) (some d) ops K ks e Q = Xo T ops K ks ((d, .bool (decide (n < 256))) :: e) (h ++ [some [.int .u64 n]]) Q :=
  Xf_run (show Run T f_head_wide_1 [.int .i64 8, .ptr h.length 0] (h ++ [some [.int .u64 n]]) (.bool (decide (n < 256))) (h ++ [some [.int .u64 n]]) from wide1_run n 8 h (by omega))
theorem wide1_16 (n : Nat) : Xf T f_head_wide_1 (some [.int .i64 16, .ptr h.length 0]) (h ++ [some [.int .u64 n]]) (some d) ops K ks e Q = Xo T ops K ks ((d, .bool (decide (n < 65536))) :: e) (h ++ [some [.int .u64 n]]) Q :=
  Xf_run (show Run T f_head_wide_1 [.int .i64 16, .ptr h.length 0] (h ++ [some [.int .u64 n]]) (.bool (decide (n < 65536))) (h ++ [some [.int .u64 n]]) from wide1_run n 16 h (by omega))
theorem wide1_32 (n : Nat) : Xf T f_head_wide_1 (some [.int .i64 32, .ptr h.length 0]) (h ++ [some [.int .u64 n]]) (some d) ops K ks e Q = Xo T ops K ks ((d, .bool (decide (n < 4294967296))) :: e) (h ++ [some [.int .u64 n]]) Q :=
  Xf_run (show Run T f_head_wide_1 [.int .i64 32, .ptr h.length 0] (h ++ [some [.int .u64 n]]) (.bool (decide (n < 4294967296))) (h ++ [some [.int .u64 n]]) from wide1_run n 32 h (by omega))
end
theorem wide_run (n : Nat) (h : Heap) : Run T f_head_wide [.int .u64 n] h (.int .i64 (wideS n)) (h ++ [some [.int .u64 n]]) := by
  refine Run.start t_head_wide ?_
  unfold k_head_wide wideS
  simp (disch := omega)
  refine Xb_dec (fun c1 => ?_) (fun c1 => ?_)
  · have c1' : n < 24 := by omega
    simp (disch := omega) [c1']
  · have c1' : ¬ n < 24 := by omega
    have hf : T.free f_head_wide_1 = true := rfl
    simp (disch := assumption) [c1', wide1_8]
    refine Xb_dec (fun c2 => ?_) (fun c2 => ?_)
    · simp (disch := omega) [c2]
    · simp (disch := assumption) [c2, wide1_16]
      refine Xb_dec (fun c3 => ?_) (fun c3 => ?_)
      · simp (disch := omega) [c3]
      · simp (disch := assumption) [c3, wide1_32]
        refine Xb_dec (fun c4 => ?_) (fun c4 => ?_)
        · simp (disch := omega) [c4]
        · simp (disch := omega) [c4]
theorem info_run (w : Nat) (h : Heap) : Run T f_head_info [.int .i64 w] h (.int .i64 (infoS w)) h := by
  refine Run.start t_head_info ?_
  unfold k_head_info infoS
  simp (disch := omega)
  refine Xb_dec (fun c1 => ?_) (fun c1 => ?_)
  · have : w = 1 := by omega
    simp (disch := omega) [this]
  · have c1' : ¬ w = 1 := by omega
    simp (disch := omega)
    refine Xb_dec (fun c2 => ?_) (fun c2 => ?_)
    · have : w = 2 := by omega
      simp (disch := omega) [this]
    · have c2' : ¬ w = 2 := by omega
      simp (disch := omega)
      refine Xb_dec (fun c3 => ?_) (fun c3 => ?_)
      · have : w = 4 := by omega
        simp (disch := omega) [this]
      · have c3' : ¬ w = 4 := by omega
        simp (disch := omega) [c1', c2', c3']
theorem width_run (w : Nat) (h : Heap) : Run T f_be_width [.int .i64 w] h (.int .i64 (min w 8 : Nat)) h := by
  refine Run.start t_be_width ?_
  unfold k_be_width
  simp (disch := omega)
  omega
section
variable {ks : List Kt} {ops : List AOpr} {K : Kp} {e : Env} {h : Heap} {Q : Ex → Env → Heap → Prop} {d : Nat} {lent : Bool}
theorem wide_p (n : Nat) : Xp T f_head_wide (some ([.int .u64 n], lent)) h (some d) ops K ks e Q = Xo T ops K ks ((d, .int .i64 (wideS n)) :: e) h Q :=
  Xp_run (wide_run n []) (by simp) rfl (by simp [scalar])
theorem info_p (w : Nat) : Xp T f_head_info (some ([.int .i64 w], lent)) h (some d) ops K ks e Q = Xo T ops K ks ((d, .int .i64 (infoS w)) :: e) h Q :=
  Xp_run (info_run w []) (by simp) rfl (by simp [scalar])
theorem width_p (w : Nat) : Xp T f_be_width (some ([.int .i64 w], lent)) h (some d) ops K ks e Q = Xo T ops K ks ((d, .int .i64 (min w 8 : Nat)) :: e) h Q :=
  Xp_run (width_run w []) (by simp) rfl (by simp [scalar])
end
/-- A number's last w bytes, the greatest first. -/
def beB : Nat → Nat → List UInt8
  | 0, _ => []
  | w + 1, n => UInt8.ofNat (n / 2 ^ (8 * w)) :: beB w n
theorem beB_len : ∀ w n, (beB w n).length = w
  | 0, _ => rfl
  | w + 1, n => by simp [beB, beB_len w n]
theorem byte_wrap (n : Nat) : V.int .u8 (IntKind.u8.wrap (n : Int)) = byteV (UInt8.ofNat n) := by
  have h1 : (UInt8.ofNat n).toNat = n % 256 := UInt8.toNat_ofNat'
  rw [byteV_def, h1, wrap_u8_def]; rfl
theorem byte_wrap' (n k : Nat) : V.int .u8 (IntKind.u8.wrap ((n : Int) / 2 ^ k)) = byteV (UInt8.ofNat (n / 2 ^ k)) := by
  rw [← byte_wrap]; push_cast; rfl
theorem bys_single (c : UInt8) : bys [c] = [byteV c] := rfl
theorem bePut_loop (n : Nat) (h : Heap) : ∀ (k : Nat), k ≤ 8 → ∀ (out : List UInt8), out.length + k ≤ 140737488355328 → ∀ ks Q,
    Xk T ks (.x 0) [(2, .int .u64 n), (7, .ps 1 (bys (out ++ beB k n))), (8, .int .i64 (-1)), (15, .bool false)] h Q →
    Xc T l_be_Put_0 ks [(2, .int .u64 n), (7, .ps 1 (bys out)), (8, .int .i64 ((k : Int) - 1))] h Q := by
  intro k
  induction k with
  | zero =>
    intro hk out ho ks Q hQ
    rw [L_be_Put_0]; unfold bl_be_Put_0
    simp [beB] at hQ
    simp (disch := omega)
    exact hQ
  | succ k ih =>
    intro hk out ho ks Q hQ
    rw [L_be_Put_0]; unfold bl_be_Put_0
    have e1 : min (8 * k) 64 = 8 * k := by omega
    have e2 : (8 * (k : Int)).toNat = 8 * k := by omega
    simp (disch := omega) [bits_u64, fdiv_pow, e1, e2, byte_wrap', bys_len]
    have := ih (by omega) (out ++ [UInt8.ofNat (n / 2 ^ (8 * k))]) (by simp; omega) ks Q (by simpa [beB] using hQ)
    simpa [bys_app, bys_single] using this
theorem bePut_run (b : List UInt8) (w n : Nat) (h : Heap) (hw : w ≤ 8) (hb : b.length + 8 ≤ 140737488355328) : Run T f_be_Put [.ps 1 (bys b), .int .i64 w, .int .u64 n] h (.ps 1 (bys (b ++ beB w n))) h := by
  refine Run.start t_be_Put ?_
  unfold k_be_Put
  have e1 : min w 8 = w := by omega
  simp (disch := omega) [bys_len, width_p, e1]
  refine bePut_loop n h w hw b (by omega) _ _ ?_
  simp (disch := omega)
section
variable {ks : List Kt} {ops : List AOpr} {K : Kp} {e : Env} {h : Heap} {Q : Ex → Env → Heap → Prop} {d : Nat}
theorem bePut_p (b : List UInt8) (w n : Nat) (hw : w ≤ 8) (hb : b.length + 8 ≤ 140737488355328) : Xp T f_be_Put (some ([.ps 1 (bys b), .int .i64 w, .int .u64 n], false)) h (some d) ops K ks e Q = Xo T ops K ks ((d, .ps 1 (bys (b ++ beB w n))) :: e) h Q :=
  Xp_run (bePut_run b w n [] hw hb) (by simp [bys_hfs]) (by simp [bys_hfs]) (by simp)
end
section
variable {ks : List Kt} {ops : List AOpr} {K : Kp} {e : Env} {h : Heap} {Q : Ex → Env → Heap → Prop} {d : Nat}
theorem bePut_1 (c : UInt8) (w n : Nat) (hw : w ≤ 8) : Xp T f_be_Put (some ([.ps 1 [byteV c], .int .i64 w, .int .u64 n], false)) h (some d) ops K ks e Q = Xo T ops K ks ((d, .ps 1 (bys (c :: beB w n))) :: e) h Q :=
  bePut_p [c] w n hw (by simp)
end
theorem wideS_le (n : Nat) : wideS n ≤ 8 := by unfold wideS; (repeat' split) <;> omega
/-- The bytes of a head. -/
def hdB (m n : Nat) : List UInt8 := if n < 24 then [UInt8.ofNat (32 * m + n)] else UInt8.ofNat (32 * m + infoS (wideS n)) :: beB (wideS n) n
theorem hdB_len (m n : Nat) : (hdB m n).length ≤ 9 := by
  unfold hdB
  have := wideS_le n
  split
  · simp
  · simp [beB_len]; omega
theorem or_a (m n : Nat) (hm : m ≤ 7) (hn : n < 24) : V.int .u8 (IntKind.u8.wrap ↑((IntKind.u8.wrap (IntKind.i64.wrap (↑m * 2 ^ min 5 IntKind.i64.bits)) % 2 ^ IntKind.u8.bits).toNat ||| n % 2 ^ IntKind.u8.bits)) = byteV (UInt8.ofNat (32 * m + n)) := by
  have : ∀ m : Fin 8, ∀ n : Fin 24, IntKind.u8.wrap ↑((IntKind.u8.wrap (IntKind.i64.wrap (↑m.val * 2 ^ min 5 IntKind.i64.bits)) % 2 ^ IntKind.u8.bits).toNat ||| n.val % 2 ^ IntKind.u8.bits) = ((UInt8.ofNat (32 * m.val + n.val)).toNat : Int) := by decide +kernel
  rw [byteV_def, ← this ⟨m, by omega⟩ ⟨n, hn⟩]
theorem or_b (m n : Nat) (hm : m ≤ 7) (hn : n < 28) : V.int .u8 (IntKind.u8.wrap (IntKind.i64.wrap ↑((IntKind.i64.wrap (↑m * 2 ^ min 5 IntKind.i64.bits) % 2 ^ IntKind.i64.bits).toNat ||| n % 2 ^ IntKind.i64.bits))) = byteV (UInt8.ofNat (32 * m + n)) := by
  have : ∀ m : Fin 8, ∀ n : Fin 28, IntKind.u8.wrap (IntKind.i64.wrap ↑((IntKind.i64.wrap (↑m.val * 2 ^ min 5 IntKind.i64.bits) % 2 ^ IntKind.i64.bits).toNat ||| n.val % 2 ^ IntKind.i64.bits)) = ((UInt8.ofNat (32 * m.val + n.val)).toNat : Int) := by decide +kernel
  rw [byteV_def, ← this ⟨m, by omega⟩ ⟨n, hn⟩]
theorem infoS_lt (w : Nat) : infoS w < 28 := by unfold infoS; (repeat' split) <;> omega
theorem headPut_run (m n : Nat) (h : Heap) (hm : m ≤ 7) : Run T f_head_Put [.int .i64 m, .int .u64 n] h (.tup [.ps 1 (bys (hdB m n)), .int .i64 0]) h := by
  refine Run.start t_head_Put ?_
  unfold k_head_Put
  have m1 : ¬ ((m : Int) < 0) := by omega
  have m2 : ¬ ((7 : Int) < m) := by omega
  simp (disch := omega) [wide_p, m1, m2]
  refine Xb_dec (fun c1 => ?_) (fun c1 => ?_)
  · have e1 : n < 24 := by
      rcases Nat.lt_or_ge n 24 with c | c
      · exact c
      · unfold wideS at c1; (repeat' split at c1) <;> omega
    simp (disch := omega) [c1, or_a m n hm e1]
    simp [hdB, e1, bys_single]
  · have e1 : ¬ n < 24 := by
      intro c
      apply c1
      unfold wideS
      rw [if_pos c]
    have e2 := wideS_le n
    have e3 : 24 + infoS (wideS n) < 52 := by have := infoS_lt (wideS n); omega
    simp (disch := omega) [c1, info_p, or_b m _ hm (infoS_lt (wideS n)), bePut_1]
    simp [hdB, e1]
section
variable {ks : List Kt} {ops : List AOpr} {K : Kp} {e : Env} {h : Heap} {Q : Ex → Env → Heap → Prop} {d : Nat} {lent : Bool}
theorem headPut_p (m n : Nat) (hm : m ≤ 7) : Xp T f_head_Put (some ([.int .i64 m, .int .u64 n], false)) h (some d) ops K ks e Q = Xo T ops K ks ((d, .tup [.ps 1 (bys (hdB m n)), .int .i64 0]) :: e) h Q :=
  Xp_run (headPut_run m n [] hm) (by simp) (by simp [bys_hfs]) (by simp)
end
section
variable {ks : List Kt} {ops : List AOpr} {K : Kp} {e : Env} {h : Heap} {Q : Ex → Env → Heap → Prop} {d : Nat}
theorem headPut_pi (m : Int) (n : Nat) (h0 : 0 ≤ m) (hm : m ≤ 7) : Xp T f_head_Put (some ([.int .i64 m, .int .u64 n], false)) h (some d) ops K ks e Q = Xo T ops K ks ((d, .tup [.ps 1 (bys (hdB m.toNat n)), .int .i64 0]) :: e) h Q := by
  obtain ⟨m, rfl⟩ := Int.eq_ofNat_of_zero_le h0
  exact headPut_p m n (by omega)
end
/-- What a string appended to bytes comes to: a text's bytes. -/
theorem itemput_run (m n : Nat) (s : List UInt8) (h : Heap) (hm : m ≤ 7) (hn : n < 9223372036854775808) (hs : s.length + 9 ≤ 140737488355328) : Run T f_item_put [.int .i64 m, .int .i64 n, .str s] h (.ps 1 (bys (hdB m n ++ s))) h := by
  refine Run.start t_item_put ?_
  unfold k_item_put
  have := hdB_len m n
  simp (disch := omega) [headPut_p, bys_len, sb_bys, bys_app]
  trace_state
theorem simple_run (n : Nat) (h : Heap) : Run T f_item_simple [.int .u64 n] h (.ps 1 (bys (hdB 7 n))) h := by
  refine Run.start t_item_simple ?_
  unfold k_item_simple
  simp (disch := omega) [headPut_pi]
section
variable {ks : List Kt} {ops : List AOpr} {K : Kp} {e : Env} {h : Heap} {Q : Ex → Env → Heap → Prop} {d : Nat}
theorem itemput_pi (m : Int) (n : Nat) (s : List UInt8) (h0 : 0 ≤ m) (hm : m ≤ 7) (hn : n < 9223372036854775808) (hs : s.length + 9 ≤ 140737488355328) : Xp T f_item_put (some ([.int .i64 m, .int .i64 n, .str s], false)) h (some d) ops K ks e Q = Xo T ops K ks ((d, .ps 1 (bys (hdB m.toNat n ++ s))) :: e) h Q := by
  obtain ⟨m, rfl⟩ := Int.eq_ofNat_of_zero_le h0
  exact Xp_run (itemput_run m n s [] (by omega) hn hs) (by simp) (by simp [bys_hfs]) (by simp)
theorem simple_pi (n : Int) (h0 : 0 ≤ n) : Xp T f_item_simple (some ([.int .u64 n], false)) h (some d) ops K ks e Q = Xo T ops K ks ((d, .ps 1 (bys (hdB 7 n.toNat))) :: e) h Q := by
  obtain ⟨n, rfl⟩ := Int.eq_ofNat_of_zero_le h0
  exact Xp_run (simple_run n []) (by simp) (by simp [bys_hfs]) (by simp)
end
end Ev
