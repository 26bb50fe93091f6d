/- The reference's bytes of a value. Each theorem states its own conditions. -/
import Derived.Test.YtienkohkbihdoaaDoorLR5
set_option linter.all false
namespace Ev
open Go
set_option maxRecDepth 10000
attribute [-simp] getElem?_pos getElem?_neg List.drop_one
section
variable {ks : List Kt} {ops : List AOpr} {K : Kp} {e : Env} {h : Heap} {Q : Ex → Env → Heap → Prop} {d : Nat}
theorem R5Put_i (m : Int) (n : Nat) (h0 : 0 ≤ m) (hm : m ≤ 7) (hn : n < 18446744073709551616) : Xp T f_ref05_Put (some ([.int .i64 m, .int .u64 n], false)) h (some d) ops K ks e Q = Xo T ops K ks ((d, .ps 1 (bys (hdB m.toNat n))) :: e) h Q := by
  obtain ⟨m, rfl⟩ := Int.eq_ofNat_of_zero_le h0
  exact Xp_run (R5Put_run m n [] (by omega) hn) (by simp) (by simp [bys_hfs]) (by simp)
end
theorem R5Put_7 (n : Int) (h0 : 0 ≤ n) (hn : n < 18446744073709551616) {ks : List Kt} {ops : List AOpr} {K : Kp} {e : Env} {h : Heap} {Q : Ex → Env → Heap → Prop} {d : Nat} : Xp T f_ref05_Put (some ([.int .i64 7, .int .u64 n], false)) h (some d) ops K ks e Q = Xo T ops K ks ((d, .ps 1 (bys (hdB 7 n.toNat))) :: e) h Q := by
  obtain ⟨n, rfl⟩ := Int.eq_ofNat_of_zero_le h0
  exact R5Put_i 7 n (by omega) (by omega) (by omega)
theorem R6_loop (n : Int) (s : List UInt8) (l : List T6) (hw : T6.ws l ≤ 4194304) (pre : List UInt8) (hp : pre.length ≤ 9) (hl : ∀ x ∈ l, ∃ h', Run T f_ref06_Put [x.v] [] (.ps 1 (bys (enc x))) h') :
    ∀ (m i : Nat), i + m = l.length → ∀ ks Q (e : Env) (h0 : Heap),
    (∀ e, Xk T ks (.x 1) ([(1, .ptr h0.length 0), (3, .ps 1 (bys (pre ++ encs l)))] ++ e) (h0 ++ [some [.int .i64 4, .int .u64 n, .str s, .ps 4 (T6.vs l)]]) Q) →
    Xc T l_ref06_Put_0 ks ([(1, .ptr h0.length 0), (3, .ps 1 (bys (pre ++ encs (l.take i)))), (4, .int .i64 i)] ++ e) (h0 ++ [some [.int .i64 4, .int .u64 n, .str s, .ps 4 (T6.vs l)]]) Q := by
  intro m
  induction m with
  | zero =>
    intro i hi ks Q e h0 hQ
    rw [L_ref06_Put_0]; unfold bl_ref06_Put_0
    have b5 := T6.ws_len l
    have e0 : i = l.length := by omega
    subst e0
    rw [List.take_length]
    simp (disch := omega) [T6.vs_len]
    exact hQ _
  | succ m ih =>
    intro i hi ks Q e h0 hQ
    rw [L_ref06_Put_0]; unfold bl_ref06_Put_0
    have e1 : i < l.length := by omega
    have e3 : (i : Int) < l.length := by omega
    have g := List.getElem?_eq_getElem e1
    obtain ⟨h', r⟩ := hl l[i] (List.getElem_mem e1)
    have b5 := T6.ws_len l
    have ht := take_get l i e1
    have bl := encs_len (l.take i)
    have be := enc_len l[i]
    have bm := T6.ws_mem (List.getElem_mem e1)
    have bt : T6.ws (l.take i) ≤ T6.ws l := by
      have h1 := ws_app (l.take i) (l.drop i)
      rw [List.take_append_drop] at h1
      omega
    simp (disch := omega) [T6.vs_len, T6.vs_get, e3, g, T6.cells_len, T6.agg_v]
    rw [Xp_run r (by simp [T6.v_hf]) (by simp [bys_hfs]) (by simp)]
    simp (disch := omega) [bys_len]
    have := ih (i + 1) (by omega) ks Q [] h0 hQ
    rw [ht, encs_app, ← List.append_assoc, bys_app] at this
    simpa [encs] using this
theorem R6Put_run : ∀ (N : Nat) (t : T6), t.w ≤ N → t.w ≤ 4194304 → t.ok → rgt t = true → ∃ h', Run T f_ref06_Put [t.v] [] (.ps 1 (bys (enc t))) h' := by
  intro N
  induction N with
  | zero => intro t ht; have := T6.w_pos t; omega
  | succ N ih =>
    intro t ht hb hok hr
    obtain ⟨k, n, s, l⟩ := t
    rw [T6.w] at ht hb
    obtain ⟨hk, hn, hs, hl⟩ := hok
    obtain ⟨n, rfl⟩ := Int.eq_ofNat_of_zero_le hn.1
    simp only [rgt, Bool.and_eq_true, decide_eq_true_eq, Bool.or_eq_true] at hr
    obtain ⟨⟨⟨k0, k7⟩, ht3⟩, ht4⟩ := hr
    have b5 := T6.ws_len l
    have hh := hdB_len
    refine Run.startE t_ref06_Put ?_
    unfold k_ref06_Put enc
    by_cases c0 : k = 0
    · subst c0; simp (disch := omega) [T6.v, R5Put_i]
    by_cases c1 : k = 1
    · subst c1; simp (disch := omega) [T6.v, R5Put_i]
    by_cases c2 : k = 2
    · subst c2
      have := hh 2 s.length
      simp (disch := omega) [T6.v, R5Put_i, sb_bys, bys_len, bys_app]
    by_cases c3 : k = 3
    · subst c3
      have := hh 3 s.length
      simp (disch := omega) [T6.v, R5Put_i, sb_bys, bys_len, bys_app]
    by_cases c4 : k = 4
    · subst c4
      have hrl : rgts l = true := by rcases ht4 with h | h; exact absurd rfl h; exact h
      have h4 := hh 4 l.length
      simp (disch := omega) [T6.v, T6.vs_len, R5Put_i]
      have := R6_loop n s l (by omega) (hdB 4 l.length) h4 (fun x hx => ih x (by have := T6.ws_mem hx; omega) (by have := T6.ws_mem hx; omega) (T6.oks_mem hl hx) (rgts_mem hrl hx)) l.length 0 (by omega)
      simp [encs] at this
      refine this _ _ [] [] (fun e => ?_)
      simp (disch := omega) [bys_app]
    have c567 : k = 5 ∨ k = 6 ∨ k = 7 := by omega
    rcases c567 with rfl | rfl | rfl
    · simp (disch := omega) [T6.v, R5Put_7]
    · simp (disch := omega) [T6.v, R5Put_7]
    · simp (disch := omega) [T6.v, R5Put_7]
end Ev
