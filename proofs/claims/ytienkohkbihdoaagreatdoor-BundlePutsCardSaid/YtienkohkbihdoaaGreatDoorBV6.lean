/- Values as the reference has them: trees of kinds, numbers, letters and parts. Values as the document's types, and taken as types. The bytes of a value. The bytes of a value that may be too deep; values taken as types. Values taken as types, and their parts. Heads, read. Each theorem states its own conditions. -/
import Derived.Test.YtienkohkbihdoaaGreatDoorBCode
import Derived.Test.YtienkohkbihdoaaGreatDoorBUt2
import Derived.Test.YtienkohkbihdoaaGreatDoorBBy
import Derived.KernelRfl
set_option linter.all false
namespace Ev
open Go
set_option maxRecDepth 10000
attribute [-simp] getElem?_pos getElem?_neg List.drop_one
inductive T6 where
  | mk (k n : Int) (s : List UInt8) (l : List T6)
namespace T6
def k : T6 → Int | .mk k _ _ _ => k
def n : T6 → Int | .mk _ n _ _ => n
def s : T6 → List UInt8 | .mk _ _ s _ => s
def l : T6 → List T6 | .mk _ _ _ l => l
mutual
def v : T6 → V
  | .mk k n s l => .agg [.int .i64 k, .int .u64 n, .str s, .ps 4 (vs l)]
def vs : List T6 → List V
  | [] => []
  | x :: r => v x :: vs r
end
mutual
/-- How many values there are, and letters. -/
def w : T6 → Nat
  | .mk _ _ s l => 1 + s.length + ws l
def ws : List T6 → Nat
  | [] => 0
  | x :: r => w x + ws r
end
mutual
def ok : T6 → Prop
  | .mk k n s l => (-9223372036854775808 ≤ k ∧ k ≤ 9223372036854775807) ∧ (0 ≤ n ∧ n ≤ 18446744073709551615) ∧ s.length ≤ 140737488351232 ∧ oks l
def oks : List T6 → Prop
  | [] => True
  | x :: r => ok x ∧ oks r
end
theorem vs_map : ∀ l : List T6, vs l = l.map v
  | [] => rfl
  | x :: r => by rw [vs, vs_map r]; rfl
theorem vs_len (l : List T6) : (vs l).length = l.length := by rw [vs_map]; simp
theorem vs_get (l : List T6) (i : Nat) : (vs l)[i]? = (l[i]?).map v := by rw [vs_map]; simp
theorem w_pos (t : T6) : 1 ≤ w t := by cases t; rw [w]; omega
theorem ws_len : ∀ l : List T6, l.length ≤ ws l
  | [] => by simp
  | x :: r => by
    have := ws_len r
    have := w_pos x
    simp only [ws, List.length_cons]; omega
theorem ws_mem : ∀ {l : List T6} {x : T6}, x ∈ l → w x ≤ ws l
  | y :: r, x, h => by
    rw [ws]
    rcases List.mem_cons.1 h with rfl | h
    · omega
    · have := ws_mem h; omega
theorem oks_mem : ∀ {l : List T6} {x : T6}, oks l → x ∈ l → ok x
  | y :: r, x, hk, h => by
    rw [oks] at hk
    rcases List.mem_cons.1 h with rfl | h
    · exact hk.1
    · exact oks_mem hk.2 h
mutual
theorem v_hf : ∀ t : T6, V.hf (v t) = true
  | .mk k n s l => by simp [v, vs_hfs l]
theorem vs_hfs : ∀ l : List T6, V.hfs (vs l) = true
  | [] => rfl
  | x :: r => by simp [vs, v_hf x, vs_hfs r]
end
theorem cells_len (t : T6) : t.v.cells.length = 4 := by cases t; rfl
theorem agg_v (t : T6) : V.agg (t.v.cells.take 4) = t.v := by cases t; rfl
theorem lt_ws : ∀ (t : T6), ws t.l < w t
  | .mk k n s l => by rw [w]; show ws l < _; omega
end T6
mutual
def dp : T6 → Int
  | .mk k _ _ l => if k = 4 then dps l else 0
def dps : List T6 → Int
  | [] => 0
  | x :: r => max (dp x + 1) (dps r)
end
mutual
def cnt : T6 → Nat
  | .mk k _ _ l => if k = 4 then 1 + cnts l else 1
def cnts : List T6 → Nat
  | [] => 0
  | x :: r => cnt x + cnts r
end
mutual
theorem dp_le : ∀ t : T6, 0 ≤ dp t ∧ dp t + 1 ≤ t.w
  | .mk k n s l => by
    have := dps_le l
    unfold dp T6.w
    split <;> omega
theorem dps_le : ∀ l : List T6, 0 ≤ dps l ∧ dps l ≤ T6.ws l
  | [] => by simp [dps, T6.ws]
  | x :: r => by
    have := dp_le x
    have := dps_le r
    simp only [dps, T6.ws]
    omega
end
mutual
theorem cnt_le : ∀ t : T6, 1 ≤ cnt t ∧ cnt t ≤ t.w
  | .mk k n s l => by
    have := cnts_le l
    unfold cnt T6.w
    split <;> omega
theorem cnts_le : ∀ l : List T6, cnts l ≤ T6.ws l
  | [] => by simp [cnts, T6.ws]
  | x :: r => by
    have := cnt_le x
    have := cnts_le r
    simp only [cnts, T6.ws]
    omega
end
theorem v_eq (t : T6) : t.v = .agg [.int .i64 t.k, .int .u64 t.n, .str t.s, .ps 4 (T6.vs t.l)] := by cases t; rfl
mutual
/-- Are its texts right, and its kinds ones that there are? -/
def rgt : T6 → Bool
  | .mk k _ s l => decide (0 ≤ k) && decide (k ≤ 7) && (decide (k ≠ 3) || valid s) && (decide (k ≠ 4) || rgts l)
def rgts : List T6 → Bool
  | [] => true
  | x :: r => rgt x && rgts r
end
@[simp] theorem ta_eq (t : Nat) (z v : V) : taV t z true (.iface t v) = some (.tup [v, .bool true]) := by simp [taV]
@[simp] theorem ta_ne (t t' : Nat) (z v : V) (h : t' ≠ t) : taV t z true (.iface t' v) = some (.tup [z, .bool false]) := by simp [taV, h]
@[simp] theorem ta_nil (t : Nat) (z : V) : taV t z true .nili = some (.tup [z, .bool false]) := by simp [taV]
@[simp] theorem ta_f (t : Nat) (z v : V) : taV t z false (.iface t v) = some v := by simp [taV]
mutual
def anyV : T6 → V
  | .mk k n s l => if k = 0 then .iface 22 (.int .u64 n) else if k = 1 then .iface 127 (.int .u64 n) else if k = 2 then .iface 36 (.ps 1 (bys s)) else if k = 3 then .iface 9 (.str s) else
    if k = 4 then .iface 84 (.ps 1 (anys l)) else if k = 5 then .iface 4 (.bool false) else if k = 6 then .iface 4 (.bool true) else .nili
def anys : List T6 → List V
  | [] => []
  | x :: r => anyV x :: anys r
end
theorem anys_map : ∀ l : List T6, anys l = l.map anyV
  | [] => rfl
  | x :: r => by rw [anys, anys_map r]; rfl
theorem anys_len (l : List T6) : (anys l).length = l.length := by rw [anys_map]; simp
theorem anys_get (l : List T6) (i : Nat) : (anys l)[i]? = (l[i]?).map anyV := by rw [anys_map]; simp
theorem anys_app (a b : List T6) : anys (a ++ b) = anys a ++ anys b := by simp [anys_map]
mutual
theorem anyV_hf : ∀ t : T6, V.hf (anyV t) = true
  | .mk k n s l => by unfold anyV; (repeat' split) <;> simp [bys_hfs, anys_hfs l]
theorem anys_hfs : ∀ l : List T6, V.hfs (anys l) = true
  | [] => rfl
  | x :: r => by simp [anys, anyV_hf x, anys_hfs r]
end
theorem anyV_one (t : T6) : V.one (anyV t) = true := by
  obtain ⟨k, n, s, l⟩ := t
  unfold anyV
  (repeat' split) <;> rfl
theorem anyV_cells (t : T6) : (anyV t).cells = [anyV t] := by
  obtain ⟨k, n, s, l⟩ := t
  unfold anyV
  (repeat' split) <;> rfl
theorem itemput_e (m : Int) (n : Nat) {ks : List Kt} {ops : List AOpr} {K : Kp} {e : Env} {h : Heap} {Q : Ex → Env → Heap → Prop} {d : Nat} (h0 : 0 ≤ m) (hm : m ≤ 7) (hn : n < 9223372036854775808) : Xp T f_item_put (some ([.int .i64 m, .int .i64 n, .str []], false)) h (some d) ops K ks e Q = Xo T ops K ks ((d, .ps 1 (bys (hdB m.toNat n))) :: e) h Q := by
  have := itemput_pi (ks := ks) (ops := ops) (K := K) (e := e) (h := h) (Q := Q) (d := d) m n [] h0 hm hn (by simp)
  rw [List.append_nil] at this
  exact this
mutual
/-- The bytes of a value. -/
def enc : T6 → List UInt8
  | .mk k n s l => if k = 0 then hdB 0 n.toNat else if k = 1 then hdB 1 n.toNat else if k = 2 then hdB 2 s.length ++ s else if k = 3 then hdB 3 s.length ++ s else
    if k = 4 then hdB 4 l.length ++ encs l else if k = 5 then hdB 7 20 else if k = 6 then hdB 7 21 else hdB 7 22
def encs : List T6 → List UInt8
  | [] => []
  | x :: r => enc x ++ encs r
end
theorem encs_app : ∀ (a b : List T6), encs (a ++ b) = encs a ++ encs b
  | [], b => by simp [encs]
  | x :: r, b => by simp only [List.cons_append, encs, encs_app r b, List.append_assoc]
mutual
theorem enc_len : ∀ t : T6, (enc t).length ≤ 9 * t.w
  | .mk k n s l => by
    have h1 := encs_len l
    have h2 := fun m n => hdB_len m n
    unfold enc T6.w
    (repeat' split) <;> (try simp only [List.length_append]) <;> first | (have := h2 0 n.toNat; omega) | (have := h2 1 n.toNat; omega) | (have := h2 2 s.length; omega) | (have := h2 3 s.length; omega) | (have := h2 4 l.length; omega) | (have := h2 7 20; omega) | (have := h2 7 21; omega) | (have := h2 7 22; omega)
theorem encs_len : ∀ l : List T6, (encs l).length ≤ 9 * T6.ws l
  | [] => by simp [encs, T6.ws]
  | x :: r => by
    have := enc_len x
    have := encs_len r
    simp only [encs, T6.ws, List.length_append]
    omega
end
theorem one_run (h : Heap) (d : Int) (c : Nat) (hd : d ≤ 16) (hc : c + 1 ≤ 4096) : Run T f_item_counter_one [.ptr h.length 0, .int .i64 d] (h ++ [some [.int .i64 c]]) (.int .i64 0) (h ++ [some [.int .i64 ((c + 1 : Nat) : Int)]]) := by
  refine Run.start t_item_counter_one ?_
  unfold k_item_counter_one
  have c1 : ¬ (16 < d) := by omega
  have c2 : ¬ ((4096 : Int) < (c : Int) + 1) := by omega
  simp (disch := omega) [c1, c2]
theorem lay_loop (h : Heap) (d : Int) (hd0 : 0 ≤ d) (hd : d ≤ 16) (l : List T6) (hw : T6.ws l ≤ 4194304) (hc0 : cnts l ≤ 4096) (pre : List UInt8) (hp : pre.length ≤ 9)
    (hl : ∀ x ∈ l, ∀ c : Nat, c + cnt x ≤ 4096 → Run T f_item_counter_lay [.ptr h.length 0, anyV x, .int .i64 (d + 1)] (h ++ [some [.int .i64 c]]) (.tup [.ps 1 (bys (enc x)), .int .i64 0]) (h ++ [some [.int .i64 ((c + cnt x : Nat) : Int)]])) :
    ∀ (m i : Nat), i + m = l.length → ∀ (c : Nat), c + cnts (l.drop i) ≤ 4096 → ∀ ks Q (e : Env),
    (∀ e, Xk T ks (.x 1) ([(0, .ptr h.length 0), (2, .int .i64 d), (16, .ps 1 (bys (pre ++ encs l)))] ++ e) (h ++ [some [.int .i64 ((c + cnts (l.drop i) : Nat) : Int)]]) Q) →
    Xc T l_item_counter_lay_0 ks ([(0, .ptr h.length 0), (2, .int .i64 d), (16, .ps 1 (bys (pre ++ encs (l.take i)))), (74, .ps 1 (anys l)), (75, .int .i64 l.length), (76, .int .i64 i)] ++ e) (h ++ [some [.int .i64 c]]) Q := by
  intro m
  induction m with
  | zero =>
    intro i hi c hc ks Q e hQ
    rw [L_item_counter_lay_0]; unfold bl_item_counter_lay_0
    have b5 := T6.ws_len l
    have e0 : i = l.length := by omega
    subst e0
    rw [List.take_length]
    simp [cnts] at hQ
    simp (disch := omega)
    exact hQ _
  | succ m ih =>
    intro i hi c hc ks Q e hQ
    rw [L_item_counter_lay_0]; unfold bl_item_counter_lay_0
    have e1 : i < l.length := by omega
    have e3 : (i : Int) < l.length := by omega
    have g := List.getElem?_eq_getElem e1
    have da : l.drop i = l[i] :: l.drop (i + 1) := List.drop_eq_getElem_cons e1
    have b5 := T6.ws_len l
    rw [da] at hc hQ
    simp only [cnts] at hc hQ
    have r := hl l[i] (List.getElem_mem e1) c (by omega)
    have ht := take_get l i e1
    have bl := encs_len (l.take i)
    have be := enc_len l[i]
    have bm := T6.ws_mem (List.getElem_mem e1)
    have bt : T6.ws (l.take i) ≤ T6.ws l := by
      have : ∀ (a b : List T6), T6.ws (a ++ b) = T6.ws a + T6.ws b := by
        intro a b
        induction a with
        | nil => simp [T6.ws]
        | cons x r ih => simp only [List.cons_append, T6.ws, ih]; omega
      have h1 := this (l.take i) (l.drop i)
      rw [List.take_append_drop] at h1
      omega
    simp (disch := omega) [anys_len, anys_get, e3, g, anyV_cells]
    rw [Xf_run r]
    simp (disch := omega) [bys_len]
    have := ih (i + 1) (by omega) (c + cnt l[i]) (by omega) ks Q [] (by rw [Nat.add_assoc]; exact hQ)
    rw [ht, encs_app, ← List.append_assoc, bys_app] at this
    simpa [encs] using this
theorem rgts_mem : ∀ {l : List T6} {x : T6}, rgts l = true → x ∈ l → rgt x = true
  | y :: r, x, hk, h => by
    simp only [rgts, Bool.and_eq_true] at hk
    rcases List.mem_cons.1 h with rfl | h
    · exact hk.1
    · exact rgts_mem hk.2 h
theorem dps_mem : ∀ {l : List T6} {x : T6}, x ∈ l → dp x + 1 ≤ dps l
  | y :: r, x, h => by
    rw [dps]
    rcases List.mem_cons.1 h with rfl | h
    · omega
    · have := dps_mem h; omega
theorem lay_run : ∀ (N : Nat) (t : T6), t.w ≤ N → t.w ≤ 4194304 → t.ok → rgt t = true → ∀ (h : Heap) (d : Int) (c : Nat), 0 ≤ d → d + dp t ≤ 16 → c + cnt t ≤ 4096 →
    Run T f_item_counter_lay [.ptr h.length 0, anyV t, .int .i64 d] (h ++ [some [.int .i64 c]]) (.tup [.ps 1 (bys (enc t)), .int .i64 0]) (h ++ [some [.int .i64 ((c + cnt t : Nat) : Int)]]) := by
  intro N
  induction N with
  | zero => intro t ht; have := T6.w_pos t; omega
  | succ N ih =>
    intro t ht hb hok hr h d c hd hdp hc
    obtain ⟨k, n, s, l⟩ := t
    rw [T6.w] at ht hb
    obtain ⟨hk, hn, hs, hl⟩ := hok
    obtain ⟨n, rfl⟩ := Int.eq_ofNat_of_zero_le hn.1
    simp only [rgt, Bool.and_eq_true, decide_eq_true_eq, Bool.or_eq_true] at hr
    obtain ⟨⟨⟨k0, k7⟩, ht3⟩, ht4⟩ := hr
    have b5 := T6.ws_len l
    have d0 := (dp_le (.mk k n s l)).1
    have o1 := one_run h d c (by omega) (by have := (cnt_le (.mk k n s l)).1; omega)
    refine Run.start t_item_counter_lay ?_
    unfold k_item_counter_lay
    simp (disch := omega)
    rw [Xf_run o1]
    unfold anyV enc cnt
    by_cases c0 : k = 0
    · subst c0; simp (disch := omega) [headPut_pi]
    by_cases c1 : k = 1
    · subst c1; simp (disch := omega) [headPut_pi]
    by_cases c2 : k = 2
    · subst c2; simp (disch := omega) [bys_back, bys_len, itemput_pi]
    by_cases c3 : k = 3
    · subst c3
      have hv : valid s = true := by rcases ht3 with h | h; exact absurd rfl h; exact h
      simp (disch := omega) [ValidString_p, hv, itemput_pi]
    by_cases c4 : k = 4
    · subst c4
      have hrl : rgts l = true := by rcases ht4 with h | h; exact absurd rfl h; exact h
      simp only [dp, cnt, if_true] at hdp hc
      have hll := hdB_len 4 l.length
      have d1 := (dps_le l).1
      simp (disch := omega) [anys_len, itemput_e]
      have := lay_loop h d hd (by omega) l (by omega) (by omega) (hdB 4 l.length) hll (fun x hx c hc => ih x (by have := T6.ws_mem hx; omega) (by have := T6.ws_mem hx; omega) (T6.oks_mem hl hx) (rgts_mem hrl hx) h (d + 1) c (by omega) (by have := dps_mem hx; omega) hc) l.length 0 (by omega) (c + 1) (by simp; omega)
      simp [encs] at this
      refine this _ _ [] (fun e => ?_)
      simp (disch := omega) [bys_app]
      omega
    by_cases c5 : k = 5
    · subst c5; simp (disch := omega) [simple_pi]
    by_cases c6 : k = 6
    · subst c6; simp (disch := omega) [simple_pi]
    have c7 : k = 7 := by omega
    subst c7
    simp (disch := omega) [simple_pi]
theorem itemPut_run (t : T6) (hb : t.w ≤ 4194304) (hok : t.ok) (hr : rgt t = true) (hd : dp t ≤ 16) (hc : cnt t ≤ 4096) : ∃ h', Run T f_item_Put [anyV t] [] (.tup [.ps 1 (bys (enc t)), .int .i64 0]) h' := by
  refine Run.startE t_item_Put ?_
  unfold k_item_Put
  have := lay_run _ t (Nat.le_refl _) hb hok hr [] 0 0 (by omega) (by omega) (by omega)
  simp (disch := omega)
  simp at this
  rw [Xf_run this]
  simp (disch := omega)
theorem itemPut_p (t : T6) (hb : t.w ≤ 4194304) (hok : t.ok) (hr : rgt t = true) (hd : dp t ≤ 16) (hc : cnt t ≤ 4096) {ks : List Kt} {ops : List AOpr} {K : Kp} {e : Env} {h : Heap} {Q : Ex → Env → Heap → Prop} {d : Nat} : Xp T f_item_Put (some ([anyV t], false)) h (some d) ops K ks e Q = Xo T ops K ks ((d, .tup [.ps 1 (bys (enc t)), .int .i64 0]) :: e) h Q := by
  obtain ⟨h', r⟩ := itemPut_run t hb hok hr hd hc
  exact Xp_run r (by simp [anyV_hf]) (by simp [bys_hfs]) (by simp)
/-- What laying a value comes to: bytes, an error, a count. -/
def LayP (h : Heap) (lo hi len : Nat) (v : V) (h' : Heap) : Prop := ∃ (b : List UInt8) (er : Int) (c : Nat), v = .tup [.ps 1 (bys b), .int .i64 er] ∧ h' = h ++ [some [.int .i64 (c : Int)]] ∧ lo ≤ c ∧ c ≤ hi ∧ b.length ≤ len
theorem LayP.nil {h : Heap} {lo hi len : Nat} (er : Int) (c : Nat) (h1 : lo ≤ c) (h2 : c ≤ hi) : LayP h lo hi len (.tup [.ps 1 [], .int .i64 er]) (h ++ [some [.int .i64 (c : Int)]]) := ⟨[], er, c, rfl, rfl, h1, h2, by simp⟩
def asN (t : T6) : Int := if t.k = 0 then t.n else 0
def asB (t : T6) : List UInt8 := if t.k = 2 then t.s else []
def asS (t : T6) : List UInt8 := if t.k = 3 then t.s else []
def asL (t : T6) : List T6 := if t.k = 4 then t.l else []
theorem any_def (t : T6) : anyV t = if t.k = 0 then .iface 22 (.int .u64 t.n) else if t.k = 1 then .iface 127 (.int .u64 t.n) else if t.k = 2 then .iface 36 (.ps 1 (bys t.s)) else if t.k = 3 then .iface 9 (.str t.s) else
    if t.k = 4 then .iface 84 (.ps 1 (anys t.l)) else if t.k = 5 then .iface 4 (.bool false) else if t.k = 6 then .iface 4 (.bool true) else .nili := by
  cases t
  rfl
theorem w_def (t : T6) : t.w = 1 + t.s.length + T6.ws t.l := by cases t; rw [T6.w]; rfl
theorem Uint_run (t : T6) (h : Heap) : Run T f_item_Uint [anyV t] h (.tup [.int .u64 (asN t), .bool (decide (t.k = 0))]) h := by
  refine Run.start t_item_Uint ?_
  unfold k_item_Uint asN
  rw [any_def]
  by_cases c0 : t.k = 0
  · simp (disch := omega) [c0]
  by_cases c1 : t.k = 1
  · simp (disch := omega) [c1]
  by_cases c2 : t.k = 2
  · simp (disch := omega) [c2]
  by_cases c3 : t.k = 3
  · simp (disch := omega) [c3]
  by_cases c4 : t.k = 4
  · simp (disch := omega) [c4]
  by_cases c5 : t.k = 5
  · simp (disch := omega) [c5]
  by_cases c6 : t.k = 6
  · simp (disch := omega) [c6]
  simp (disch := omega) [c0, c1, c2, c3, c4, c5, c6]
theorem Bytes_run (t : T6) (h : Heap) (hw : t.w ≤ 4194304) : Run T f_item_Bytes [anyV t] h (.tup [.ps 1 (bys (asB t)), .bool (decide (t.k = 2))]) h := by
  refine Run.start t_item_Bytes ?_
  unfold k_item_Bytes asB
  rw [any_def]
  rw [w_def] at hw
  by_cases c0 : t.k = 0
  · simp (disch := omega) [c0, bys_nil]
  by_cases c1 : t.k = 1
  · simp (disch := omega) [c1, bys_nil]
  by_cases c2 : t.k = 2
  · simp (disch := omega) [c2, bys_len]
  by_cases c3 : t.k = 3
  · simp (disch := omega) [c3, bys_nil]
  by_cases c4 : t.k = 4
  · simp (disch := omega) [c4, bys_nil]
  by_cases c5 : t.k = 5
  · simp (disch := omega) [c5, bys_nil]
  by_cases c6 : t.k = 6
  · simp (disch := omega) [c6, bys_nil]
  simp (disch := omega) [c0, c1, c2, c3, c4, c5, c6, bys_nil]
theorem Text_run (t : T6) (h : Heap) : Run T f_item_Text [anyV t] h (.tup [.str (asS t), .bool (decide (t.k = 3))]) h := by
  refine Run.start t_item_Text ?_
  unfold k_item_Text asS
  rw [any_def]
  by_cases c0 : t.k = 0
  · simp (disch := omega) [c0]
  by_cases c1 : t.k = 1
  · simp (disch := omega) [c1]
  by_cases c2 : t.k = 2
  · simp (disch := omega) [c2]
  by_cases c3 : t.k = 3
  · simp (disch := omega) [c3]
  by_cases c4 : t.k = 4
  · simp (disch := omega) [c4]
  by_cases c5 : t.k = 5
  · simp (disch := omega) [c5]
  by_cases c6 : t.k = 6
  · simp (disch := omega) [c6]
  simp (disch := omega) [c0, c1, c2, c3, c4, c5, c6]
theorem anys_nil : anys [] = [] := rfl
theorem List_run (t : T6) (h : Heap) (hw : t.w ≤ 4194304) : Run T f_item_List [anyV t] h (.tup [.ps 1 (anys (asL t)), .bool (decide (t.k = 4))]) h := by
  refine Run.start t_item_List ?_
  unfold k_item_List asL
  rw [any_def]
  rw [w_def] at hw
  have := T6.ws_len t.l
  by_cases c0 : t.k = 0
  · simp (disch := omega) [c0, anys_nil]
  by_cases c1 : t.k = 1
  · simp (disch := omega) [c1, anys_nil]
  by_cases c2 : t.k = 2
  · simp (disch := omega) [c2, anys_nil]
  by_cases c3 : t.k = 3
  · simp (disch := omega) [c3, anys_nil]
  by_cases c4 : t.k = 4
  · simp (disch := omega) [c4, anys_len]
  by_cases c5 : t.k = 5
  · simp (disch := omega) [c5, anys_nil]
  by_cases c6 : t.k = 6
  · simp (disch := omega) [c6, anys_nil]
  simp (disch := omega) [c0, c1, c2, c3, c4, c5, c6, anys_nil]
/-- The value at a place, if there is one. -/
def atV (t : T6) (i : Int) : V := if t.k = 4 ∧ 0 ≤ i ∧ i < t.l.length then (match t.l[i.toNat]? with | some x => anyV x | none => .nili) else .nili
theorem At_run (t : T6) (i : Int) (h : Heap) : Run T f_item_At [anyV t, .int .i64 i] h (atV t i) h := by
  refine Run.start t_item_At ?_
  unfold k_item_At atV
  rw [any_def]
  by_cases c0 : t.k = 0
  · simp (disch := omega) [c0]
  by_cases c1 : t.k = 1
  · simp (disch := omega) [c1]
  by_cases c2 : t.k = 2
  · simp (disch := omega) [c2]
  by_cases c3 : t.k = 3
  · simp (disch := omega) [c3]
  by_cases c4 : t.k = 4
  · by_cases d0 : 0 ≤ i
    · by_cases d1 : i < t.l.length
      · have g := List.getElem?_eq_getElem (l := t.l) (i := i.toNat) (by omega)
        simp (disch := omega) [c4, d0, d1, anys_len, anys_get, g, anyV_cells]
      · simp (disch := omega) [c4, d0, d1, anys_len]
    · simp (disch := omega) [c4, d0]
  by_cases c5 : t.k = 5
  · simp (disch := omega) [c5]
  by_cases c6 : t.k = 6
  · simp (disch := omega) [c6]
  simp (disch := omega) [c0, c1, c2, c3, c4, c5, c6]
theorem atV_some (t : T6) (i : Int) (x : T6) (h4 : t.k = 4) (h0 : 0 ≤ i) (hx : t.l[i.toNat]? = some x) : atV t i = anyV x := by
  have : i.toNat < t.l.length := by
    rcases Nat.lt_or_ge i.toNat t.l.length with c | c
    · exact c
    · rw [List.getElem?_eq_none c] at hx; cases hx
  unfold atV
  rw [if_pos ⟨h4, h0, by omega⟩, hx]
theorem atV_none (t : T6) (i : Int) (h : ¬ (t.k = 4 ∧ 0 ≤ i ∧ i < t.l.length)) : atV t i = .nili := by unfold atV; rw [if_neg h]
theorem atV_hf (t : T6) (i : Int) : V.hf (atV t i) = true := by
  unfold atV
  split
  · split
    · exact anyV_hf _
    · rfl
  · rfl
section
variable {ks : List Kt} {ops : List AOpr} {K : Kp} {e : Env} {h : Heap} {Q : Ex → Env → Heap → Prop} {d : Nat}
theorem Uint_p (t : T6) : Xp T f_item_Uint (some ([anyV t], false)) h (some d) ops K ks e Q = Xo T ops K ks ((d, .tup [.int .u64 (asN t), .bool (decide (t.k = 0))]) :: e) h Q :=
  Xp_run (Uint_run t []) (by simp [anyV_hf]) (by simp) (by simp)
theorem Bytes_p (t : T6) (hw : t.w ≤ 4194304) : Xp T f_item_Bytes (some ([anyV t], false)) h (some d) ops K ks e Q = Xo T ops K ks ((d, .tup [.ps 1 (bys (asB t)), .bool (decide (t.k = 2))]) :: e) h Q :=
  Xp_run (Bytes_run t [] hw) (by simp [anyV_hf]) (by simp [bys_hfs]) (by simp)
theorem Text_p (t : T6) : Xp T f_item_Text (some ([anyV t], false)) h (some d) ops K ks e Q = Xo T ops K ks ((d, .tup [.str (asS t), .bool (decide (t.k = 3))]) :: e) h Q :=
  Xp_run (Text_run t []) (by simp [anyV_hf]) (by simp) (by simp)
theorem List_p (t : T6) (hw : t.w ≤ 4194304) : Xp T f_item_List (some ([anyV t], false)) h (some d) ops K ks e Q = Xo T ops K ks ((d, .tup [.ps 1 (anys (asL t)), .bool (decide (t.k = 4))]) :: e) h Q :=
  Xp_run (List_run t [] hw) (by simp [anyV_hf]) (by simp [anys_hfs]) (by simp)
theorem At_p (t : T6) (i : Int) : Xp T f_item_At (some ([anyV t, .int .i64 i], false)) h (some d) ops K ks e Q = Xo T ops K ks ((d, atV t i) :: e) h Q :=
  Xp_run (At_run t i []) (by simp [anyV_hf]) (atV_hf t i) (by simp)
end
section
variable {ks : List Kt} {ops : List AOpr} {K : Kp} {e : Env} {h : Heap} {Q : Ex → Env → Heap → Prop} {d : Nat} {lent : Bool}
end
/-- What bytes come to as a number, the greatest first. -/
def beN (n : Nat) : List UInt8 → Nat
  | [] => n
  | c :: r => beN (256 * n + c.toNat) r
theorem u8_of (n : Nat) : (UInt8.ofNat n).toNat = n % 256 := UInt8.toNat_ofNat'
theorem beN_beB : ∀ (w m n : Nat), n < 2 ^ (8 * w) → beN m (beB w n) = m * 2 ^ (8 * w) + n
  | 0, m, n, h => by simp at h; subst h; simp [beB, beN]
  | w + 1, m, n, h => by
    have e1 : (2 : Nat) ^ (8 * (w + 1)) = 256 * 2 ^ (8 * w) := by rw [Nat.mul_add, Nat.pow_add]; omega
    have hp := Nat.two_pow_pos (8 * w)
    have hq : n / 2 ^ (8 * w) < 256 := Nat.div_lt_of_lt_mul (by rw [e1] at h; rw [Nat.mul_comm]; exact h)
    have ih := beN_beB w (256 * m + n / 2 ^ (8 * w)) (n % 2 ^ (8 * w)) (Nat.mod_lt _ hp)
    have e2 : beB w (n % 2 ^ (8 * w)) = beB w n := by
      have : ∀ v, v ≤ w → beB v (n % 2 ^ (8 * w)) = beB v n := by
        intro v
        induction v with
        | zero => intro _; rfl
        | succ v iv =>
          intro hv
          rw [beB, beB, iv (by omega)]
          congr 1
          apply UInt8.toNat_inj.1
          rw [u8_of, u8_of]
          rw [show w = v + (w - v) by omega, Nat.mul_add, Nat.pow_add, Nat.mod_mul_right_div_self]
          have : (256 : Nat) ∣ 2 ^ (8 * (w - v)) := by
            rw [show w - v = (w - v - 1) + 1 by omega, Nat.mul_add, Nat.pow_add]
            exact Nat.dvd_mul_left ..
          exact Nat.mod_mod_of_dvd _ this
      exact this w (Nat.le_refl _)
    rw [beB, beN, u8_of, Nat.mod_eq_of_lt hq, ← e2, ih, e1]
    have := Nat.div_add_mod n (2 ^ (8 * w))
    rw [Nat.add_mul]
    have e3 : 256 * m * 2 ^ (8 * w) = m * (256 * 2 ^ (8 * w)) := by rw [Nat.mul_comm 256 m, Nat.mul_assoc]
    rw [e3, Nat.mul_comm (n / 2 ^ (8 * w))]
    omega
theorem byteAt_run (b : List UInt8) (i : Nat) (h : Heap) (c : UInt8) (hi : b[i]? = some c) (hl : i < 4611686018427387904) : Run T f_be_Get_1 [.int .i64 i, .ptr h.length 0] (h ++ [some [.ps 1 (bys b)]]) (.int .u64 (c.toNat : Int)) (h ++ [some [.ps 1 (bys b)]]) := by
  refine Run.start t_be_Get_1 ?_
  unfold k_be_Get_1
  have hlt : i < b.length := by
    rcases Nat.lt_or_ge i b.length with k | k
    · exact k
    · rw [List.getElem?_eq_none k] at hi; cases hi
  have c1 : ¬ ((b.length : Int) ≤ i) := by omega
  have cl := u8_lt c
  have c0 : ¬ ((i : Int) < 0) := by omega
  simp (disch := omega) [c0, c1, bys_len, bys_get, hi]
theorem shlx (x : Nat) (hx : x < 72057594037927936) : binV .shl .int (.int .u64 (x : Int)) (.int .u64 8) = some (.int .u64 (256 * (x : Int))) := by
  rw [bin_shl (h := by omega)]
  have e0 : min (Int.toNat 8) IntKind.u64.bits = 8 := rfl
  rw [e0, wrap_u64 (by omega) (by omega)]
  congr 2
  omega
theorem orx (x c : Nat) (hx : x < 72057594037927936) (hc : c < 256) : binV .or .int (.int .u64 (256 * (x : Int))) (.int .u64 (c : Int)) = some (.int .u64 (256 * (x : Int) + c)) := by
  have e0 : (256 * (x : Int)) = ((256 * x : Nat) : Int) := by omega
  rw [e0, bin_or]
  show some (V.int .u64 (IntKind.u64.wrap ((BitVec.ofInt 64 ((256 * x : Nat) : Int) ||| BitVec.ofInt 64 (c : Int)).toNat : Int))) = _
  rw [BitVec.ofInt_natCast, BitVec.ofInt_natCast, ← BitVec.ofNat_or, BitVec.toNat_ofNat]
  have e1 : (256 * x ||| c) = 256 * x + c := by
    exact (Nat.two_pow_add_eq_or_of_lt (i := 8) (show c < 2 ^ 8 by omega) x).symm
  rw [e1, Nat.mod_eq_of_lt (by omega), wrap_u64 (by omega) (by omega)]
  rfl
attribute [-simp] bin_or bin_shl
theorem get_loop (b : List UInt8) (h : Heap) (w : Nat) (hw : w ≤ 8) (a : Nat) (hl : a + w ≤ b.length) (hb : b.length < 4611686018427387904) : ∀ (m i : Nat), i + m = w → ∀ (x : Nat), x < 256 ^ i → ∀ ks Q (e : Env),
    (∀ e, Xk T ks (.x 0) ([(1, .int .i64 a), (7, .int .u64 (beN x ((b.drop (a + i)).take m) : Nat))] ++ e) (h ++ [some [.ps 1 (bys b)]]) Q) →
    Xc T l_be_Get_0 ks ([(1, .int .i64 a), (7, .int .u64 x), (8, .fn f_be_Get_1 [.ptr h.length 0]), (20, .int .i64 w), (21, .int .i64 i)] ++ e) (h ++ [some [.ps 1 (bys b)]]) Q := by
  intro m
  induction m with
  | zero =>
    intro i hi x hx ks Q e hQ
    rw [L_be_Get_0]; unfold bl_be_Get_0
    have e0 : i = w := by omega
    subst e0
    simp [beN] at hQ
    simp (disch := omega)
    exact hQ _
  | succ m ih =>
    intro i hi x hx ks Q e hQ
    rw [L_be_Get_0]; unfold bl_be_Get_0
    have e1 : (i : Int) < w := by omega
    have g : b[a + i]? = some (b.getD (a + i) 0) := by rw [List.getD_eq_getElem?_getD, List.getElem?_eq_getElem (by omega)]; rfl
    have dr : (b.drop (a + i)).take (m + 1) = b.getD (a + i) 0 :: (b.drop (a + (i + 1))).take m := by
      have hlt : a + i < b.length := by omega
      rw [List.drop_eq_getElem_cons hlt, List.take_succ_cons]
      rw [List.getElem?_eq_getElem hlt] at g
      rw [← Option.some.inj g, Nat.add_assoc]
    rw [dr, beN] at hQ
    generalize b.getD (a + i) 0 = c at *
    have r := byteAt_run b (a + i) h c g (by omega)
    have hf : T.free f_be_Get_1 = true := rfl
    have hx7 : x < 72057594037927936 := by
      have h1 : 256 ^ i ≤ 256 ^ 7 := Nat.pow_le_pow_right (by omega) (by omega)
      omega
    have hc := c.toNat_lt
    have e2 : ((a : Int) + (i : Int)) = ((a + i : Nat) : Int) := by omega
    simp (disch := omega) [e1, shlx]
    rw [e2, Xf_run r]
    have hx8 : 256 * x + c.toNat < 256 ^ (i + 1) := by rw [Nat.pow_succ]; omega
    simp (disch := omega) [orx]
    have := ih (i + 1) (by omega) (256 * x + c.toNat) hx8 ks Q [] hQ
    simpa using this
theorem beGet_run (b : List UInt8) (a w : Nat) (h : Heap) (hw : w ≤ 8) (hl : a + w ≤ b.length) (hb : b.length < 4611686018427387904) : ∃ h', Run T f_be_Get [.ps 1 (bys b), .int .i64 a, .int .i64 w] h (.int .u64 (beN 0 ((b.drop a).take w) : Nat)) h' := by
  refine Run.startE t_be_Get ?_
  unfold k_be_Get
  have c1 : ¬ ((b.length : Int) < a) := by omega
  have e1 : min w 8 = w := by omega
  have e2 : max (a : Int) (-8) = a := by omega
  simp (disch := omega) [bys_len, c1, width_p, e1, e2]
  have := get_loop b h w hw a hl hb w 0 (by omega) 0 (by simp)
  simp at this
  refine this _ _ [] (fun e => ?_)
  simp (disch := omega)
end Ev
