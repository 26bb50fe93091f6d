/- The bytes of a value. Each theorem states its own conditions. -/
import Derived.Test.YtienkohkbihdoaaDoorLAny
set_option linter.all false
namespace Ev
open Go
set_option maxRecDepth 10000
attribute [-simp] getElem?_pos getElem?_neg List.drop_one

theorem itemput_e (m : Int) (n : Nat) {ks : List Kt} {ops : List AOpr} {K : Kp} {e : Env} {h : Heap} {Q : Ex → Env → Heap → Prop} {d : Nat} (h0 : 0 ≤ m) (hm : m ≤ 7) (hn : n < 9223372036854775808) : Xp T f_item_put (some ([.int .i64 m, .int .i64 n, .str []], false)) h (some d) ops K ks e Q = Xo T ops K ks ((d, .ps 1 (bys (hdB m.toNat n))) :: e) h Q := by
  have := itemput_pi (ks := ks) (ops := ops) (K := K) (e := e) (h := h) (Q := Q) (d := d) m n [] h0 hm hn (by simp)
  rw [List.append_nil] at this
  exact this
mutual
/-- The bytes of a value. -/
def enc : T6 → List UInt8
  | .mk k n s l => if k = 0 then hdB 0 n.toNat else if k = 1 then hdB 1 n.toNat else if k = 2 then hdB 2 s.length ++ s else if k = 3 then hdB 3 s.length ++ s else
    if k = 4 then hdB 4 l.length ++ encs l else if k = 5 then hdB 7 20 else if k = 6 then hdB 7 21 else hdB 7 22
def encs : List T6 → List UInt8
  | [] => []
  | x :: r => enc x ++ encs r
end
theorem encs_app : ∀ (a b : List T6), encs (a ++ b) = encs a ++ encs b
  | [], b => by simp [encs]
  | x :: r, b => by simp only [List.cons_append, encs, encs_app r b, List.append_assoc]
mutual
theorem enc_len : ∀ t : T6, (enc t).length ≤ 9 * t.w
  | .mk k n s l => by
    have h1 := encs_len l
    have h2 := fun m n => hdB_len m n
    unfold enc T6.w
    (repeat' split) <;> (try simp only [List.length_append]) <;> first | (have := h2 0 n.toNat; omega) | (have := h2 1 n.toNat; omega) | (have := h2 2 s.length; omega) | (have := h2 3 s.length; omega) | (have := h2 4 l.length; omega) | (have := h2 7 20; omega) | (have := h2 7 21; omega) | (have := h2 7 22; omega)
theorem encs_len : ∀ l : List T6, (encs l).length ≤ 9 * T6.ws l
  | [] => by simp [encs, T6.ws]
  | x :: r => by
    have := enc_len x
    have := encs_len r
    simp only [encs, T6.ws, List.length_append]
    omega
end
theorem one_run (h : Heap) (d : Int) (c : Nat) (hd : d ≤ 16) (hc : c + 1 ≤ 4096) : Run T f_item_counter_one [.ptr h.length 0, .int .i64 d] (h ++ [some [.int .i64 c]]) (.int .i64 0) (h ++ [some [.int .i64 ((c + 1 : Nat) : Int)]]) := by
  refine Run.start t_item_counter_one ?_
  unfold k_item_counter_one
  have c1 : ¬ (16 < d) := by omega
  have c2 : ¬ ((4096 : Int) < (c : Int) + 1) := by omega
  simp (disch := omega) [c1, c2]
theorem lay_loop (h : Heap) (d : Int) (hd0 : 0 ≤ d) (hd : d ≤ 16) (l : List T6) (hw : T6.ws l ≤ 4194304) (hc0 : cnts l ≤ 4096) (pre : List UInt8) (hp : pre.length ≤ 9)
    (hl : ∀ x ∈ l, ∀ c : Nat, c + cnt x ≤ 4096 → Run T f_item_counter_lay [.ptr h.length 0, anyV x, .int .i64 (d + 1)] (h ++ [some [.int .i64 c]]) (.tup [.ps 1 (bys (enc x)), .int .i64 0]) (h ++ [some [.int .i64 ((c + cnt x : Nat) : Int)]])) :
    ∀ (m i : Nat), i + m = l.length → ∀ (c : Nat), c + cnts (l.drop i) ≤ 4096 → ∀ ks Q (e : Env),
    (∀ e, Xk T ks (.x 1) ([(0, .ptr h.length 0), (2, .int .i64 d), (16, .ps 1 (bys (pre ++ encs l)))] ++ e) (h ++ [some [.int .i64 ((c + cnts (l.drop i) : Nat) : Int)]]) Q) →
    Xc T l_item_counter_lay_0 ks ([(0, .ptr h.length 0), (2, .int .i64 d), (16, .ps 1 (bys (pre ++ encs (l.take i)))), (74, .ps 1 (anys l)), (75, .int .i64 l.length), (76, .int .i64 i)] ++ e) (h ++ [some [.int .i64 c]]) Q := by
  intro m
  induction m with
  | zero =>
    intro i hi c hc ks Q e hQ
    rw [L_item_counter_lay_0]; unfold bl_item_counter_lay_0
    have b5 := T6.ws_len l
    have e0 : i = l.length := by omega
    subst e0
    rw [List.take_length]
    simp [cnts] at hQ
    simp (disch := omega)
    exact hQ _
  | succ m ih =>
    intro i hi c hc ks Q e hQ
    rw [L_item_counter_lay_0]; unfold bl_item_counter_lay_0
    have e1 : i < l.length := by omega
    have e3 : (i : Int) < l.length := by omega
    have g := List.getElem?_eq_getElem e1
    have da : l.drop i = l[i] :: l.drop (i + 1) := List.drop_eq_getElem_cons e1
    have b5 := T6.ws_len l
    rw [da] at hc hQ
    simp only [cnts] at hc hQ
    have r := hl l[i] (List.getElem_mem e1) c (by omega)
    have ht := take_get l i e1
    have bl := encs_len (l.take i)
    have be := enc_len l[i]
    have bm := T6.ws_mem (List.getElem_mem e1)
    have bt : T6.ws (l.take i) ≤ T6.ws l := by
      have : ∀ (a b : List T6), T6.ws (a ++ b) = T6.ws a + T6.ws b := by
        intro a b
        induction a with
        | nil => simp [T6.ws]
        | cons x r ih => simp only [List.cons_append, T6.ws, ih]; omega
      have h1 := this (l.take i) (l.drop i)
      rw [List.take_append_drop] at h1
      omega
    simp (disch := omega) [anys_len, anys_get, e3, g, anyV_cells]
    rw [Xf_run r]
    simp (disch := omega) [bys_len]
    have := ih (i + 1) (by omega) (c + cnt l[i]) (by omega) ks Q [] (by rw [Nat.add_assoc]; exact hQ)
    rw [ht, encs_app, ← List.append_assoc, bys_app] at this
    simpa [encs] using this
theorem rgts_mem : ∀ {l : List T6} {x : T6}, rgts l = true → x ∈ l → rgt x = true
  | y :: r, x, hk, h => by
    simp only [rgts, Bool.and_eq_true] at hk
    rcases List.mem_cons.1 h with rfl | h
    · exact hk.1
    · exact rgts_mem hk.2 h
theorem dps_mem : ∀ {l : List T6} {x : T6}, x ∈ l → dp x + 1 ≤ dps l
  | y :: r, x, h => by
    rw [dps]
    rcases List.mem_cons.1 h with rfl | h
    · omega
    · have := dps_mem h; omega
theorem lay_run : ∀ (N : Nat) (t : T6), t.w ≤ N → t.w ≤ 4194304 → t.ok → rgt t = true → ∀ (h : Heap) (d : Int) (c : Nat), 0 ≤ d → d + dp t ≤ 16 → c + cnt t ≤ 4096 →
    Run T f_item_counter_lay [.ptr h.length 0, anyV t, .int .i64 d] (h ++ [some [.int .i64 c]]) (.tup [.ps 1 (bys (enc t)), .int .i64 0]) (h ++ [some [.int .i64 ((c + cnt t : Nat) : Int)]]) := by
  intro N
  induction N with
  | zero => intro t ht; have := T6.w_pos t; omega
  | succ N ih =>
    intro t ht hb hok hr h d c hd hdp hc
    obtain ⟨k, n, s, l⟩ := t
    rw [T6.w] at ht hb
    obtain ⟨hk, hn, hs, hl⟩ := hok
    obtain ⟨n, rfl⟩ := Int.eq_ofNat_of_zero_le hn.1
    simp only [rgt, Bool.and_eq_true, decide_eq_true_eq, Bool.or_eq_true] at hr
    obtain ⟨⟨⟨k0, k7⟩, ht3⟩, ht4⟩ := hr
    have b5 := T6.ws_len l
    have d0 := (dp_le (.mk k n s l)).1
    have o1 := one_run h d c (by omega) (by have := (cnt_le (.mk k n s l)).1; omega)
    refine Run.start t_item_counter_lay ?_
    unfold k_item_counter_lay
    simp (disch := omega)
    rw [Xf_run o1]
    unfold anyV enc cnt
    by_cases c0 : k = 0
    · subst c0; simp (disch := omega) [headPut_pi]
    by_cases c1 : k = 1
    · subst c1; simp (disch := omega) [headPut_pi]
    by_cases c2 : k = 2
    · subst c2; simp (disch := omega) [bys_back, bys_len, itemput_pi]
    by_cases c3 : k = 3
    · subst c3
      have hv : valid s = true := by rcases ht3 with h | h; exact absurd rfl h; exact h
      simp (disch := omega) [ValidString_p, hv, itemput_pi]
    by_cases c4 : k = 4
    · subst c4
      have hrl : rgts l = true := by rcases ht4 with h | h; exact absurd rfl h; exact h
      simp only [dp, cnt, if_true] at hdp hc
      have hll := hdB_len 4 l.length
      have d1 := (dps_le l).1
      simp (disch := omega) [anys_len, itemput_e]
      have := lay_loop h d hd (by omega) l (by omega) (by omega) (hdB 4 l.length) hll (fun x hx c hc => ih x (by have := T6.ws_mem hx; omega) (by have := T6.ws_mem hx; omega) (T6.oks_mem hl hx) (rgts_mem hrl hx) h (d + 1) c (by omega) (by have := dps_mem hx; omega) hc) l.length 0 (by omega) (c + 1) (by simp; omega)
      simp [encs] at this
      refine this _ _ [] (fun e => ?_)
      simp (disch := omega) [bys_app]
      omega
    by_cases c5 : k = 5
    · subst c5; simp (disch := omega) [simple_pi]
    by_cases c6 : k = 6
    · subst c6; simp (disch := omega) [simple_pi]
    have c7 : k = 7 := by omega
    subst c7
    simp (disch := omega) [simple_pi]
theorem itemPut_run (t : T6) (hb : t.w ≤ 4194304) (hok : t.ok) (hr : rgt t = true) (hd : dp t ≤ 16) (hc : cnt t ≤ 4096) : ∃ h', Run T f_item_Put [anyV t] [] (.tup [.ps 1 (bys (enc t)), .int .i64 0]) h' := by
  refine Run.startE t_item_Put ?_
  unfold k_item_Put
  have := lay_run _ t (Nat.le_refl _) hb hok hr [] 0 0 (by omega) (by omega) (by omega)
  simp (disch := omega)
  simp at this
  rw [Xf_run this]
  simp (disch := omega)
theorem itemPut_p (t : T6) (hb : t.w ≤ 4194304) (hok : t.ok) (hr : rgt t = true) (hd : dp t ≤ 16) (hc : cnt t ≤ 4096) {ks : List Kt} {ops : List AOpr} {K : Kp} {e : Env} {h : Heap} {Q : Ex → Env → Heap → Prop} {d : Nat} : Xp T f_item_Put (some ([anyV t], false)) h (some d) ops K ks e Q = Xo T ops K ks ((d, .tup [.ps 1 (bys (enc t)), .int .i64 0]) :: e) h Q := by
  obtain ⟨h', r⟩ := itemPut_run t hb hok hr hd hc
  exact Xp_run r (by simp [anyV_hf]) (by simp [bys_hfs]) (by simp)
theorem Same_run (t : T6) (hb : t.w ≤ 4194304) (hok : t.ok) (hr : rgt t = true) (hd : dp t ≤ 16) (hc : cnt t ≤ 4096) : ∃ h', Run T f_item_Same [anyV t, anyV t] [] (.bool true) h' := by
  refine Run.startE t_item_Same ?_
  unfold k_item_Same
  simp (disch := first | omega | assumption) [itemPut_p, bys_back]
end Ev
