/- Values, read back. Each theorem states its own conditions. -/
import Derived.Test.YtienkohkbihdoaaGreatDoorBCode
import Derived.Test.YtienkohkbihdoaaGreatDoorBRd2
import Derived.Test.YtienkohkbihdoaaGreatDoorBUv
set_option linter.all false
namespace Ev
open Go
set_option maxRecDepth 10000
attribute [-simp] getElem?_pos getElem?_neg List.drop_one
theorem text2_run (s : List UInt8) (h : Heap) (hs : s.length ≤ 100000000) : Run T f_item_text [.int .i64 2, .ps 1 (bys s)] h (.tup [.iface 36 (.ps 1 (bys s)), .int .i64 0]) h := by
  refine Run.start t_item_text ?_
  unfold k_item_text
  simp (disch := omega) [bys_len]
theorem text3_run (s : List UInt8) (h : Heap) (hv : valid s = true) : Run T f_item_text [.int .i64 3, .ps 1 (bys s)] h (.tup [.iface 9 (.str s), .int .i64 0]) h := by
  refine Run.start t_item_text ?_
  unfold k_item_text
  simp (disch := omega) [Valid_p, hv, bys_back]
theorem other20 (h : Heap) : Run T f_item_other [.int .u64 20] h (.tup [.iface 4 (.bool false), .int .i64 0]) h := by
  refine Run.start t_item_other ?_
  unfold k_item_other
  simp (disch := omega)
theorem other21 (h : Heap) : Run T f_item_other [.int .u64 21] h (.tup [.iface 4 (.bool true), .int .i64 0]) h := by
  refine Run.start t_item_other ?_
  unfold k_item_other
  simp (disch := omega)
theorem other22 (h : Heap) : Run T f_item_other [.int .u64 22] h (.tup [.nili, .int .i64 0]) h := by
  refine Run.start t_item_other ?_
  unfold k_item_other
  simp (disch := omega)
section
variable {ks : List Kt} {ops : List AOpr} {K : Kp} {e : Env} {h : Heap} {Q : Ex → Env → Heap → Prop} {d : Nat}
theorem text2_p (s : List UInt8) (hs : s.length ≤ 100000000) : Xp T f_item_text (some ([.int .i64 2, .ps 1 (bys s)], false)) h (some d) ops K ks e Q = Xo T ops K ks ((d, .tup [.iface 36 (.ps 1 (bys s)), .int .i64 0]) :: e) h Q :=
  Xp_run (text2_run s [] hs) (by simp [bys_hfs]) (by simp [bys_hfs]) (by simp)
theorem text3_p (s : List UInt8) (hv : valid s = true) : Xp T f_item_text (some ([.int .i64 3, .ps 1 (bys s)], false)) h (some d) ops K ks e Q = Xo T ops K ks ((d, .tup [.iface 9 (.str s), .int .i64 0]) :: e) h Q :=
  Xp_run (text3_run s [] hv) (by simp [bys_hfs]) (by simp) (by simp)
theorem other20_p : Xp T f_item_other (some ([.int .u64 20], false)) h (some d) ops K ks e Q = Xo T ops K ks ((d, .tup [.iface 4 (.bool false), .int .i64 0]) :: e) h Q :=
  Xp_run (other20 []) (by simp) (by simp) (by simp)
theorem other21_p : Xp T f_item_other (some ([.int .u64 21], false)) h (some d) ops K ks e Q = Xo T ops K ks ((d, .tup [.iface 4 (.bool true), .int .i64 0]) :: e) h Q :=
  Xp_run (other21 []) (by simp) (by simp) (by simp)
theorem other22_p : Xp T f_item_other (some ([.int .u64 22], false)) h (some d) ops K ks e Q = Xo T ops K ks ((d, .tup [.nili, .int .i64 0]) :: e) h Q :=
  Xp_run (other22 []) (by simp) (by simp) (by simp)
end
theorem list_loop (h : Heap) (d : Int) (hd0 : 0 ≤ d) (hd : d ≤ 16) (l : List T6) (rest : List UInt8) (hr : (encs l).length + rest.length ≤ 100000000) (hw : T6.ws l ≤ 4194304)
    (hl : ∀ x ∈ l, ∀ (c : Nat) (rest : List UInt8), c + cnt x ≤ 4096 → (enc x).length + rest.length ≤ 100000000 → Run T f_item_counter_read [.ptr h.length 0, .ps 1 (bys (enc x ++ rest)), .int .i64 (d + 1)] (h ++ [some [.int .i64 c]]) (.tup [anyV x, .int .i64 ((enc x).length : Nat), .int .i64 0]) (h ++ [some [.int .i64 ((c + cnt x : Nat) : Int)]])) :
    ∀ (m i : Nat), i + m = l.length → ∀ (c : Nat), c + cnts (l.drop i) ≤ 4096 → ∀ ks Q (e : Env),
    (∀ e, Xk T ks (.x 0) ([(0, .ptr h.length 0), (1, .ps 1 (bys (encs l ++ rest))), (3, .int .i64 d), (11, .ps 1 (anys l)), (12, .int .i64 ((encs l).length : Nat))] ++ e) (h ++ [some [.int .i64 ((c + cnts (l.drop i) : Nat) : Int)]]) Q) →
    Xc T l_item_counter_list_0 ks ([(0, .ptr h.length 0), (1, .ps 1 (bys (encs l ++ rest))), (3, .int .i64 d), (11, .ps 1 (anys (l.take i))), (12, .int .i64 ((encs (l.take i)).length : Nat)), (17, .int .u64 l.length), (18, .int .u64 i)] ++ e) (h ++ [some [.int .i64 c]]) Q := by
  intro m
  induction m with
  | zero =>
    intro i hi c hc ks Q e hQ
    rw [L_item_counter_list_0]; unfold bl_item_counter_list_0
    have b5 := T6.ws_len l
    have e0 : i = l.length := by omega
    subst e0
    simp [cnts] at hQ
    rw [List.take_length]
    simp (disch := omega)
    exact hQ _
  | succ m ih =>
    intro i hi c hc ks Q e hQ
    rw [L_item_counter_list_0]; unfold bl_item_counter_list_0
    have e1 : i < l.length := by omega
    have e3 : (i : Int) < l.length := by omega
    have da : l.drop i = l[i] :: l.drop (i + 1) := List.drop_eq_getElem_cons e1
    have b5 := T6.ws_len l
    have ht := take_get l i e1
    have lt : (l.take i).length = i := by rw [List.length_take]; omega
    have sp : encs l = encs (l.take i) ++ (enc l[i] ++ encs (l.drop (i + 1))) := by
      have := encs_app (l.take i) (l.drop i)
      rw [List.take_append_drop, da, encs] at this
      exact this
    have bl := encs_len l
    have bt : (encs (l.take i)).length ≤ (encs l).length := by rw [sp, List.length_append]; omega
    have br : (encs (l.drop (i + 1))).length ≤ (encs l).length := by rw [sp, List.length_append, List.length_append]; omega
    have be : (encs (l.take i)).length + (enc l[i]).length ≤ (encs l).length := by rw [sp, List.length_append, List.length_append]; omega
    have dr : (encs l ++ rest).drop (encs (l.take i)).length = enc l[i] ++ (encs (l.drop (i + 1)) ++ rest) := by
      rw [sp, List.append_assoc, List.drop_left, List.append_assoc]
    have bs : (encs l).length = (encs (l.take i)).length + ((enc l[i]).length + (encs (l.drop (i + 1))).length) := by conv => lhs; rw [sp, List.length_append, List.length_append]
    rw [da] at hc hQ
    simp only [cnts] at hc hQ
    have r := hl l[i] (List.getElem_mem e1) c (encs (l.drop (i + 1)) ++ rest) (by omega) (by rw [List.length_append]; omega)
    have len2 : (encs l ++ rest).length = (encs l).length + rest.length := List.length_append
    simp (disch := omega) [e3, bys_len, bys_drop, dr]
    rw [Xf_run r]
    simp (disch := omega) [anyV_hf, anyV_one, anyV_cells, anys_len, lt]
    have := ih (i + 1) (by omega) (c + cnt l[i]) (by omega) ks Q [] (by rw [Nat.add_assoc]; exact hQ)
    rw [ht, anys_app, encs_app, List.length_append] at this
    simpa [anys, encs] using this
theorem list_run (h : Heap) (d : Int) (hd0 : 0 ≤ d) (hd : d ≤ 16) (l : List T6) (rest : List UInt8) (hr : (encs l).length + rest.length ≤ 100000000) (hw : T6.ws l ≤ 4194304)
    (hl : ∀ x ∈ l, ∀ (c : Nat) (rest : List UInt8), c + cnt x ≤ 4096 → (enc x).length + rest.length ≤ 100000000 → Run T f_item_counter_read [.ptr h.length 0, .ps 1 (bys (enc x ++ rest)), .int .i64 (d + 1)] (h ++ [some [.int .i64 c]]) (.tup [anyV x, .int .i64 ((enc x).length : Nat), .int .i64 0]) (h ++ [some [.int .i64 ((c + cnt x : Nat) : Int)]]))
    (c : Nat) (hc : c + cnts l ≤ 4096) :
    Run T f_item_counter_list [.ptr h.length 0, .ps 1 (bys (encs l ++ rest)), .int .u64 l.length, .int .i64 d] (h ++ [some [.int .i64 c]]) (.tup [.iface 84 (.ps 1 (anys l)), .int .i64 ((encs l).length : Nat), .int .i64 0]) (h ++ [some [.int .i64 ((c + cnts l : Nat) : Int)]]) := by
  refine Run.start t_item_counter_list ?_
  unfold k_item_counter_list
  simp (disch := omega)
  have := list_loop h d hd0 hd l rest hr hw hl l.length 0 (by omega) c (by simpa using hc)
  simp [anys, encs] at this
  refine this _ _ [] (fun e => ?_)
  simp (disch := omega)
theorem read_run : ∀ (N : Nat) (t : T6), t.w ≤ N → t.w ≤ 4194304 → t.ok → rgt t = true → ∀ (h : Heap) (d : Int) (c : Nat) (rest : List UInt8), 0 ≤ d → d + dp t ≤ 16 → c + cnt t ≤ 4096 → (enc t).length + rest.length ≤ 100000000 →
    Run T f_item_counter_read [.ptr h.length 0, .ps 1 (bys (enc t ++ rest)), .int .i64 d] (h ++ [some [.int .i64 c]]) (.tup [anyV t, .int .i64 ((enc t).length : Nat), .int .i64 0]) (h ++ [some [.int .i64 ((c + cnt t : Nat) : Int)]]) := by
  intro N
  induction N with
  | zero => intro t ht; have := T6.w_pos t; omega
  | succ N ih =>
    intro t ht hb hok hr h d c rest hd hdp hc hlen
    obtain ⟨k, n, s, l⟩ := t
    rw [T6.w] at ht hb
    obtain ⟨hk, hn, hs, hl⟩ := hok
    obtain ⟨n, rfl⟩ := Int.eq_ofNat_of_zero_le hn.1
    simp only [rgt, Bool.and_eq_true, decide_eq_true_eq, Bool.or_eq_true] at hr
    obtain ⟨⟨⟨k0, k7⟩, ht3⟩, ht4⟩ := hr
    have b5 := T6.ws_len l
    have d0 := (dp_le (.mk k n s l)).1
    have o1 := one_run h d c (by omega) (by have := (cnt_le (.mk k n s l)).1; omega)
    have hh := hdB_len
    refine Run.start t_item_counter_read ?_
    unfold k_item_counter_read
    simp (disch := omega)
    rw [Xf_run o1]
    unfold anyV enc cnt
    unfold enc at hlen
    by_cases c0 : k = 0
    · subst c0
      simp at hlen
      have g := @headGet_p
      simp (disch := first | omega | (simp; omega)) [headGet_p]
    by_cases c1 : k = 1
    · subst c1
      simp at hlen
      simp (disch := first | omega | (simp; omega)) [headGet_p]
    by_cases c2 : k = 2
    · subst c2
      simp at hlen
      have h2 := hh 2 s.length
      have dr : ((hdB 2 s.length ++ (s ++ rest)).take ((hdB 2 s.length).length + s.length)).drop (hdB 2 s.length).length = s := by
        rw [List.drop_take, Nat.add_sub_cancel_left, List.drop_left, List.take_left]
      simp (disch := first | omega | (simp; omega)) [headGet_p, bys_len, bys_take, bys_drop]
      refine Xb_dec (fun c => absurd c (by omega)) (fun c => ?_)
      have e2 : ((hdB 2 s.length).length + s.length : Int).toNat = (hdB 2 s.length).length + s.length := by omega
      simp (disch := first | omega | (simp; omega)) [bys_len, bys_take, bys_drop, e2, dr, text2_p]
    by_cases c3 : k = 3
    · subst c3
      simp at hlen
      have h2 := hh 3 s.length
      have hv : valid s = true := by rcases ht3 with h | h; exact absurd rfl h; exact h
      have dr : ((hdB 3 s.length ++ (s ++ rest)).take ((hdB 3 s.length).length + s.length)).drop (hdB 3 s.length).length = s := by
        rw [List.drop_take, Nat.add_sub_cancel_left, List.drop_left, List.take_left]
      simp (disch := first | omega | (simp; omega)) [headGet_p, bys_len, bys_take, bys_drop]
      refine Xb_dec (fun c => absurd c (by omega)) (fun c => ?_)
      have e2 : ((hdB 3 s.length).length + s.length : Int).toNat = (hdB 3 s.length).length + s.length := by omega
      simp (disch := first | omega | assumption | (simp; omega)) [bys_len, bys_take, bys_drop, e2, dr, text3_p]
    by_cases c4 : k = 4
    · subst c4
      have hrl : rgts l = true := by rcases ht4 with h | h; exact absurd rfl h; exact h
      simp at hlen
      simp only [dp, cnt, if_true] at hdp hc
      have h2 := hh 4 l.length
      have d1 := (dps_le l).1
      have r := list_run h d hd (by omega) l rest (by omega) (by omega) (fun x hx c rest hc hr => ih x (by have := T6.ws_mem hx; omega) (by have := T6.ws_mem hx; omega) (T6.oks_mem hl hx) (rgts_mem hrl hx) h (d + 1) c rest (by omega) (by have := dps_mem hx; omega) hc hr) (c + 1) (by omega)
      simp (disch := first | omega | (simp; omega)) [headGet_p, bys_len, bys_take, bys_drop, List.drop_left]
      simp at r
      rw [Xf_run r]
      simp (disch := first | omega | (simp; omega))
      omega
    by_cases c5 : k = 5
    · subst c5
      simp at hlen
      simp (disch := first | omega | (simp; omega)) [headGet_p, other20_p]
    by_cases c6 : k = 6
    · subst c6
      simp at hlen
      simp (disch := first | omega | (simp; omega)) [headGet_p, other21_p]
    have c7 : k = 7 := by omega
    subst c7
    simp at hlen
    simp (disch := first | omega | (simp; omega)) [headGet_p, other22_p]
theorem itemGet_run (t : T6) (rest : List UInt8) (hb : t.w ≤ 4194304) (hok : t.ok) (hr : rgt t = true) (hd : dp t ≤ 16) (hc : cnt t ≤ 4096) (hl : (enc t).length + rest.length ≤ 100000000) : ∃ h', Run T f_item_Get [.ps 1 (bys (enc t ++ rest))] [] (.tup [anyV t, .int .i64 ((enc t).length : Nat), .int .i64 0]) h' := by
  refine Run.startE t_item_Get ?_
  unfold k_item_Get
  have := read_run _ t (Nat.le_refl _) hb hok hr [] 0 0 rest (by omega) (by omega) (by omega) hl
  simp (disch := omega)
  simp at this
  rw [Xf_run this]
  simp (disch := omega)
end Ev
