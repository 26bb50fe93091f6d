/- The bytes of a value that may be too deep; values taken as types. Each theorem states its own conditions. -/
import Derived.Test.YtienkohkbihdoaaDoorLIt
import Derived.KernelRfl
set_option linter.all false
namespace Ev
open Go
set_option maxRecDepth 10000
attribute [-simp] getElem?_pos getElem?_neg List.drop_one

theorem one_any (h : Heap) (d : Int) (c : Nat) (hc : c + 1 ≤ 4096) : Run T f_item_counter_one [.ptr h.length 0, .int .i64 d] (h ++ [some [.int .i64 c]]) (.int .i64 (if 16 < d then 4 else 0)) (h ++ [some [.int .i64 ((c + 1 : Nat) : Int)]]) := by
  refine Run.start t_item_counter_one ?_
  unfold k_item_counter_one
  have c2 : ¬ ((4096 : Int) < (c : Int) + 1) := by omega
  by_cases c1 : 16 < d
  · simp (disch := omega) [c1]
  · simp (disch := omega) [c1, c2]
/-- What laying a value comes to: bytes, an error, a count. -/
def LayP (h : Heap) (lo hi len : Nat) (v : V) (h' : Heap) : Prop := ∃ (b : List UInt8) (er : Int) (c : Nat), v = .tup [.ps 1 (bys b), .int .i64 er] ∧ h' = h ++ [some [.int .i64 (c : Int)]] ∧ lo ≤ c ∧ c ≤ hi ∧ b.length ≤ len
theorem LayP.of {h : Heap} {lo hi len : Nat} (b : List UInt8) (er : Int) (c : Nat) (h1 : lo ≤ c) (h2 : c ≤ hi) (h3 : b.length ≤ len) : LayP h lo hi len (.tup [.ps 1 (bys b), .int .i64 er]) (h ++ [some [.int .i64 (c : Int)]]) := ⟨b, er, c, rfl, rfl, h1, h2, h3⟩
theorem LayP.nil {h : Heap} {lo hi len : Nat} (er : Int) (c : Nat) (h1 : lo ≤ c) (h2 : c ≤ hi) : LayP h lo hi len (.tup [.ps 1 [], .int .i64 er]) (h ++ [some [.int .i64 (c : Int)]]) := ⟨[], er, c, rfl, rfl, h1, h2, by simp⟩
theorem laya_loop (h : Heap) (d : Int) (hd0 : 0 ≤ d) (hd : d ≤ 16) (l : List T6) (hw : T6.ws l ≤ 4194304)
    (hl : ∀ x ∈ l, ∀ c : Nat, c + cnt x ≤ 4096 → ∃ v h', LayP h c (c + cnt x) (9 * x.w) v h' ∧ Run T f_item_counter_lay [.ptr h.length 0, anyV x, .int .i64 (d + 1)] (h ++ [some [.int .i64 c]]) v h') :
    ∀ (m i : Nat), i + m = l.length → ∀ (c lo hi : Nat) (out : List UInt8) (len : Nat), lo ≤ c → c + cnts (l.drop i) ≤ hi → hi ≤ 4096 → out.length + 9 * T6.ws (l.drop i) ≤ len → len ≤ 100000000 → ∀ ks Q (e : Env),
    (∀ e out c, lo ≤ c → c ≤ hi → out.length ≤ len → Xk T ks (.x 1) ([(0, .ptr h.length 0), (2, .int .i64 d), (16, .ps 1 (bys out))] ++ e) (h ++ [some [.int .i64 (c : Int)]]) Q) →
    (∀ e c er, lo ≤ c → c ≤ hi → Xk T ks .r ([(6, .ps 1 []), (7, .int .i64 er)] ++ e) (h ++ [some [.int .i64 (c : Int)]]) Q) →
    Xc T l_item_counter_lay_0 ks ([(0, .ptr h.length 0), (2, .int .i64 d), (16, .ps 1 (bys out)), (74, .ps 1 (anys l)), (75, .int .i64 l.length), (76, .int .i64 i)] ++ e) (h ++ [some [.int .i64 c]]) Q := by
  intro m
  induction m with
  | zero =>
    intro i hi c lo hh out len h1 h2 h3 h4 h5 ks Q e hQ hR
    rw [L_item_counter_lay_0]; unfold bl_item_counter_lay_0
    have b5 := T6.ws_len l
    have e0 : i = l.length := by omega
    subst e0
    simp (disch := omega)
    exact hQ _ _ _ (by omega) (by omega) (by omega)
  | succ m ih =>
    intro i hi c lo hh out len h1 h2 h3 h4 h5 ks Q e hQ hR
    rw [L_item_counter_lay_0]; unfold bl_item_counter_lay_0
    have e1 : i < l.length := by omega
    have e3 : (i : Int) < l.length := by omega
    have g := List.getElem?_eq_getElem e1
    have da : l.drop i = l[i] :: l.drop (i + 1) := List.drop_eq_getElem_cons e1
    have b5 := T6.ws_len l
    rw [da] at h2 h4
    simp only [cnts, T6.ws] at h2 h4
    obtain ⟨v, h', ⟨b, er, c', rfl, rfl, p1, p2, p3⟩, r⟩ := hl l[i] (List.getElem_mem e1) c (by omega)
    simp (disch := omega) [anys_len, anys_get, e3, g, anyV_cells]
    rw [Xf_run r]
    simp (disch := omega) [bys_len]
    refine Xb_decn (fun c1 => ?_) (fun c1 => ?_)
    · simp (disch := omega)
      exact hR _ _ _ (by omega) (by omega)
    · simp (disch := omega) [bys_len]
      have := ih (i + 1) (by omega) c' lo hh (out ++ b) len (by omega) (by omega) h3 (by simp; omega) h5 ks Q [] hQ hR
      rw [bys_app] at this
      simpa using this
theorem lay_any : ∀ (N : Nat) (t : T6), t.w ≤ N → t.w ≤ 4194304 → t.ok → rgt t = true → ∀ (h : Heap) (d : Int) (c : Nat), 0 ≤ d → d + t.w ≤ 8388608 → c + cnt t ≤ 4096 →
    ∃ v h', LayP h c (c + cnt t) (9 * t.w) v h' ∧ Run T f_item_counter_lay [.ptr h.length 0, anyV t, .int .i64 d] (h ++ [some [.int .i64 c]]) v h' := by
  intro N
  induction N with
  | zero => intro t ht; have := T6.w_pos t; omega
  | succ N ih =>
    intro t ht hb hok hr h d c hd hdp hc
    have hcp := (cnt_le t).1
    by_cases d16 : d ≤ 16
    case neg =>
      have o1 := one_any h d c (by omega)
      rw [if_pos (by omega)] at o1
      refine Run.startP t_item_counter_lay ?_
      unfold k_item_counter_lay
      simp (disch := omega)
      rw [Xf_run o1]
      simp (disch := omega)
      exact LayP.nil (h := h) 4 (c + 1) (by omega) (by omega)
    obtain ⟨k, n, s, l⟩ := t
    by_cases hlist : k = 4
    case neg =>
      have hdp0 : dp (.mk k n s l) = 0 := by simp [dp, hlist]
      exact ⟨_, _, LayP.of _ _ _ (by omega) (by omega) (enc_len _), lay_run _ _ ht hb hok hr h d c hd (by omega) hc⟩
    subst hlist
    rw [T6.w] at ht hb
    obtain ⟨hk, hn, hs, hl⟩ := hok
    simp only [rgt, Bool.and_eq_true, decide_eq_true_eq, Bool.or_eq_true] at hr
    obtain ⟨_, ht4⟩ := hr
    have hrl : rgts l = true := by rcases ht4 with h | h; exact absurd rfl h; exact h
    have b5 := T6.ws_len l
    have o1 := one_any h d c (by omega)
    rw [if_neg (by omega)] at o1
    have ec : cnt (.mk 4 n s l) = 1 + cnts l := by simp [cnt]
    have ew : T6.w (.mk 4 n s l) = 1 + s.length + T6.ws l := by rw [T6.w]
    rw [ec] at hc ⊢
    rw [ew] at hdp ⊢
    have hll := hdB_len 4 l.length
    refine Run.startP t_item_counter_lay ?_
    unfold k_item_counter_lay
    simp (disch := omega)
    rw [Xf_run o1]
    unfold anyV
    simp (disch := omega) [anys_len, itemput_e]
    have := laya_loop h d hd (by omega) l (by omega) (fun x hx c hc => ih x (by have := T6.ws_mem hx; omega) (by have := T6.ws_mem hx; omega) (T6.oks_mem hl hx) (rgts_mem hrl hx) h (d + 1) c (by omega) (by have := T6.ws_mem hx; omega) hc) l.length 0 (by omega) (c + 1) (c + 1) (c + 1 + cnts l) (hdB 4 l.length) (9 + 9 * T6.ws l) (by omega) (by simp) (by omega) (by simp; omega) (by omega)
    simp at this
    refine this _ _ [] (fun e out c' h1 h2 h3 => ?_) (fun e c' er h1 h2 => ?_)
    · simp (disch := omega)
      exact LayP.of (h := h) out 0 c' (by omega) (by omega) (by omega)
    · simp (disch := omega)
      exact LayP.nil (h := h) er c' (by omega) (by omega)
def PutP (v : V) (_ : Heap) : Prop := ∃ (b : List UInt8) (er : Int), v = .tup [.ps 1 (bys b), .int .i64 er]
theorem itemPut_any (t : T6) (hb : t.w ≤ 4194304) (hok : t.ok) (hr : rgt t = true) (hc : cnt t ≤ 4096) : ∃ (b : List UInt8) (er : Int) (h' : Heap), Run T f_item_Put [anyV t] [] (.tup [.ps 1 (bys b), .int .i64 er]) h' := by
  obtain ⟨v, h', ⟨b, er, c, rfl, rfl, _, _, _⟩, r⟩ := lay_any _ t (Nat.le_refl _) hb hok hr [] 0 0 (by omega) (by omega) (by omega)
  obtain ⟨v, h', ⟨b, er, rfl⟩, r⟩ := Run.startP (P := PutP) (vs := [anyV t]) (h := []) t_item_Put (by
    unfold k_item_Put
    simp (disch := omega)
    simp at r
    rw [Xf_run r]
    simp (disch := omega)
    exact ⟨b, er, rfl⟩)
  exact ⟨b, er, h', r⟩
theorem Same_any (t : T6) (hb : t.w ≤ 4194304) (hok : t.ok) (hr : rgt t = true) (hc : cnt t ≤ 4096) : ∃ (b : Bool) (h' : Heap), Run T f_item_Same [anyV t, anyV t] [] (.bool b) h' := by
  obtain ⟨b, er, h', r⟩ := itemPut_any t hb hok hr hc
  have rp := fun {ks ops K e h Q d} => Xp_run (b := false) (ks := ks) (ops := ops) (K := K) (e := e) (h := h) (Q := Q) (d := d) r (by simp [anyV_hf]) (by simp [bys_hfs]) (by simp)
  refine ⟨decide (er = 0), ?_⟩
  refine Run.startE t_item_Same ?_
  unfold k_item_Same
  simp (disch := omega) [rp]
  refine Xg_dec (fun c1 => ?_) (fun c1 => ?_)
  · simp (disch := omega) [c1, bys_back]
  · simp (disch := omega) [c1, bys_back]
end Ev
