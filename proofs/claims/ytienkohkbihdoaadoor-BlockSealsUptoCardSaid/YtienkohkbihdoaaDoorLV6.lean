/- Values as the reference has them: trees of kinds, numbers, letters and parts. Each theorem states its own conditions. -/
import Derived.Test.YtienkohkbihdoaaDoorLR4b
import Derived.Test.YtienkohkbihdoaaDoorLHi
set_option linter.all false
namespace Ev
open Go
set_option maxRecDepth 10000
attribute [-simp] getElem?_pos getElem?_neg List.drop_one

inductive T6 where
  | mk (k n : Int) (s : List UInt8) (l : List T6)
namespace T6
def k : T6 → Int | .mk k _ _ _ => k
def n : T6 → Int | .mk _ n _ _ => n
def s : T6 → List UInt8 | .mk _ _ s _ => s
def l : T6 → List T6 | .mk _ _ _ l => l
mutual
def v : T6 → V
  | .mk k n s l => .agg [.int .i64 k, .int .u64 n, .str s, .ps 4 (vs l)]
def vs : List T6 → List V
  | [] => []
  | x :: r => v x :: vs r
end
mutual
/-- How many values there are, and letters. -/
def w : T6 → Nat
  | .mk _ _ s l => 1 + s.length + ws l
def ws : List T6 → Nat
  | [] => 0
  | x :: r => w x + ws r
end
mutual
def ok : T6 → Prop
  | .mk k n s l => (-9223372036854775808 ≤ k ∧ k ≤ 9223372036854775807) ∧ (0 ≤ n ∧ n ≤ 18446744073709551615) ∧ s.length ≤ 140737488351232 ∧ oks l
def oks : List T6 → Prop
  | [] => True
  | x :: r => ok x ∧ oks r
end
theorem vs_map : ∀ l : List T6, vs l = l.map v
  | [] => rfl
  | x :: r => by rw [vs, vs_map r]; rfl
theorem vs_len (l : List T6) : (vs l).length = l.length := by rw [vs_map]; simp
theorem vs_get (l : List T6) (i : Nat) : (vs l)[i]? = (l[i]?).map v := by rw [vs_map]; simp
theorem w_pos (t : T6) : 1 ≤ w t := by cases t; rw [w]; omega
theorem ws_len : ∀ l : List T6, l.length ≤ ws l
  | [] => by simp
  | x :: r => by
    have := ws_len r
    have := w_pos x
    simp only [ws, List.length_cons]; omega
theorem ws_mem : ∀ {l : List T6} {x : T6}, x ∈ l → w x ≤ ws l
  | y :: r, x, h => by
    rw [ws]
    rcases List.mem_cons.1 h with rfl | h
    · omega
    · have := ws_mem h; omega
theorem oks_mem : ∀ {l : List T6} {x : T6}, oks l → x ∈ l → ok x
  | y :: r, x, hk, h => by
    rw [oks] at hk
    rcases List.mem_cons.1 h with rfl | h
    · exact hk.1
    · exact oks_mem hk.2 h
mutual
theorem v_hf : ∀ t : T6, V.hf (v t) = true
  | .mk k n s l => by simp [v, vs_hfs l]
theorem vs_hfs : ∀ l : List T6, V.hfs (vs l) = true
  | [] => rfl
  | x :: r => by simp [vs, v_hf x, vs_hfs r]
end
theorem cells_len (t : T6) : t.v.cells.length = 4 := by cases t; rfl
theorem agg_v (t : T6) : V.agg (t.v.cells.take 4) = t.v := by cases t; rfl
theorem lt_ws : ∀ (t : T6), ws t.l < w t
  | .mk k n s l => by rw [w]; show ws l < _; omega
end T6
abbrev sh6 : List CS := [.i .i64, .i .u64, .s, .rc 25 56]
theorem read6s : ∀ (N : Nat) (xs : List V), V.bulks xs ≤ N → (∀ x ∈ xs, ∃ t : T6, x = t.v ∧ t.ok ∧ t.w ≤ V.bulk x) → ∃ l : List T6, xs = T6.vs l ∧ T6.oks l ∧ T6.ws l ≤ V.bulks xs
  | _, [], _, _ => ⟨[], rfl, trivial, by simp [T6.ws]⟩
  | N, x :: r, h, hx => by
    simp only [V.bulks] at h
    obtain ⟨t, rfl, h1, h2⟩ := hx x (by simp)
    obtain ⟨l, rfl, h3, h4⟩ := read6s N r (by omega) fun y hy => hx y (by simp [hy])
    exact ⟨t :: l, rfl, ⟨h1, h3⟩, by simp only [T6.ws, V.bulks]; omega⟩
theorem bulk_mem : ∀ {xs : List V} {x : V}, x ∈ xs → V.bulk x ≤ V.bulks xs
  | y :: r, x, h => by
    rw [V.bulks]
    rcases List.mem_cons.1 h with rfl | h
    · omega
    · have := bulk_mem h; omega
theorem read6 : ∀ (N : Nat) (vs : List V), V.bulks vs ≤ N → Row sh6 vs → ∃ t : T6, V.agg vs = t.v ∧ t.ok ∧ t.w ≤ V.bulks vs := by
  intro N
  induction N with
  | zero =>
    intro vs hN hr
    obtain ⟨v0, r0, rfl, h0, hr⟩ := hr.cons
    obtain ⟨n, rfl, _, _⟩ := h0.int
    simp only [V.bulks, V.bulk] at hN
    omega
  | succ N ih =>
    intro vs hN hr
    obtain ⟨v0, r0, rfl, h0, hr⟩ := hr.cons
    obtain ⟨v1, r1, rfl, h1, hr⟩ := hr.cons
    obtain ⟨v2, r2, rfl, h2, hr⟩ := hr.cons
    obtain ⟨v3, r3, rfl, h3, hr⟩ := hr.cons
    obtain rfl := hr.none
    obtain ⟨k, rfl, k1, k2⟩ := h0.int
    obtain ⟨n, rfl, n1, n2⟩ := h1.int
    obtain ⟨s, rfl, hs⟩ := h2.str
    simp only [V.bulks, V.bulk] at hN
    generalize hc : CS.rc 25 56 = c at h3
    cases h3 with
    | rc t bytes es he xs hn hs4 ha hk =>
      cases hc
      have : es = sh6 := by
        have : RS.lookup 25 = some sh6 := rfl
        rw [this] at he
        exact (Option.some.inj he).symm
      subst this
      simp only [V.bulk] at hN
      obtain ⟨l, rfl, h5, h6⟩ := read6s _ xs (Nat.le_refl _) fun x hx => by
        obtain ⟨us, rfl⟩ := ha x hx
        have hb := bulk_mem hx
        simp only [V.bulk] at hb
        obtain ⟨i, hi, he⟩ := List.getElem_of_mem hx
        have hl := hs4 _ hx
        obtain ⟨t, e, h7, h8⟩ := ih us (by omega) ⟨hl, fun j a b => by
          have := hk i hi j a (by rw [he]; exact b)
          simpa [he] using this⟩
        exact ⟨t, e, h7, by simpa [V.bulk] using h8⟩
      exact ⟨.mk k n s l, rfl, ⟨⟨k1, k2⟩, ⟨n1, n2⟩, hs, h5⟩, by simp only [T6.w, V.bulks, V.bulk]; omega⟩
    | _ => cases hc
/-! ### how great a value is -/
mutual
def dp : T6 → Int
  | .mk k _ _ l => if k = 4 then dps l else 0
def dps : List T6 → Int
  | [] => 0
  | x :: r => max (dp x + 1) (dps r)
end
mutual
def cnt : T6 → Nat
  | .mk k _ _ l => if k = 4 then 1 + cnts l else 1
def cnts : List T6 → Nat
  | [] => 0
  | x :: r => cnt x + cnts r
end
mutual
theorem dp_le : ∀ t : T6, 0 ≤ dp t ∧ dp t + 1 ≤ t.w
  | .mk k n s l => by
    have := dps_le l
    unfold dp T6.w
    split <;> omega
theorem dps_le : ∀ l : List T6, 0 ≤ dps l ∧ dps l ≤ T6.ws l
  | [] => by simp [dps, T6.ws]
  | x :: r => by
    have := dp_le x
    have := dps_le r
    simp only [dps, T6.ws]
    omega
end
mutual
theorem cnt_le : ∀ t : T6, 1 ≤ cnt t ∧ cnt t ≤ t.w
  | .mk k n s l => by
    have := cnts_le l
    unfold cnt T6.w
    split <;> omega
theorem cnts_le : ∀ l : List T6, cnts l ≤ T6.ws l
  | [] => by simp [cnts, T6.ws]
  | x :: r => by
    have := cnt_le x
    have := cnts_le r
    simp only [cnts, T6.ws]
    omega
end
def hiD (d : Int) (l : List T6) : Int := l.foldl (fun d x => max d (dp x + 1)) d
theorem hiD_eq : ∀ (l : List T6) (d : Int), 0 ≤ d → hiD d l = max d (dps l)
  | [], d, h => by simp [hiD, dps]; omega
  | x :: r, d, h => by
    have := hiD_eq r (max d (dp x + 1)) (by omega)
    unfold hiD at this ⊢
    rw [List.foldl_cons, this, dps]
    omega
theorem Sz_loop (k n : Int) (s : List UInt8) (l : List T6) (hw : T6.ws l ≤ 4194304) (hl : ∀ x ∈ l, ∃ h', Run T f_ref06_Size [x.v] [] (.tup [.int .i64 (dp x), .int .i64 (cnt x)]) h') :
    ∀ (m i : Nat), i + m = l.length → ∀ (d : Int) (c : Nat), 0 ≤ d → d ≤ 4194304 → c + cnts (l.drop i) ≤ 8388608 → ∀ ks Q (e : Env) (h0 : Heap),
    (∀ e, Xk T ks (.x 0) ([(1, .ptr h0.length 0), (4, .int .i64 (max d (dps (l.drop i)))), (5, .int .i64 ((c + cnts (l.drop i) : Nat) : Int))] ++ e) (h0 ++ [some [.int .i64 k, .int .u64 n, .str s, .ps 4 (T6.vs l)]]) Q) →
    Xc T l_ref06_Size_0 ks ([(1, .ptr h0.length 0), (4, .int .i64 d), (5, .int .i64 c), (6, .int .i64 i)] ++ e) (h0 ++ [some [.int .i64 k, .int .u64 n, .str s, .ps 4 (T6.vs l)]]) Q := by
  intro m
  induction m with
  | zero =>
    intro i hi d c hd hd2 hc ks Q e h0 hQ
    rw [L_ref06_Size_0]; unfold bl_ref06_Size_0
    have b5 := T6.ws_len l
    have e0 : i = l.length := by omega
    subst e0
    simp [dps, cnts, Int.max_eq_left hd] at hQ
    simp (disch := omega) [T6.vs_len]
    exact hQ _
  | succ m ih =>
    intro i hi d c hd hd2 hc ks Q e h0 hQ
    rw [L_ref06_Size_0]; unfold bl_ref06_Size_0
    have e1 : i < l.length := by omega
    have e3 : (i : Int) < l.length := by omega
    have g := List.getElem?_eq_getElem e1
    have da : l.drop i = l[i] :: l.drop (i + 1) := List.drop_eq_getElem_cons e1
    obtain ⟨h', r⟩ := hl l[i] (List.getElem_mem e1)
    have b1 := dp_le l[i]
    have b2 := cnt_le l[i]
    have b3 := T6.ws_mem (List.getElem_mem e1)
    have b5 := T6.ws_len l
    rw [da] at hc hQ
    simp only [dps, cnts] at hc hQ
    have b4 := dps_le (l.drop (i + 1))
    simp (disch := omega) [T6.vs_len, T6.vs_get, e3, g, T6.cells_len, T6.agg_v]
    rw [Xp_run r (by simp [T6.v_hf]) (by simp) (by simp)]
    simp (disch := omega) [High_pb]
    have e4 : max (max d (dp l[i] + 1)) (dps (l.drop (i + 1))) = max d (max (dp l[i] + 1) (dps (l.drop (i + 1)))) := by omega
    have e5 : c + cnt l[i] + cnts (l.drop (i + 1)) = c + (cnt l[i] + cnts (l.drop (i + 1))) := by omega
    have := ih (i + 1) (by omega) (max d (dp l[i] + 1)) (c + cnt l[i]) (by omega) (by omega) (by omega) ks Q [] h0 (by rw [e4, e5]; exact hQ)
    simpa using this
theorem Sz_run : ∀ (N : Nat) (t : T6), t.w ≤ N → t.w ≤ 4194304 → ∀ h, ∃ h', Run T f_ref06_Size [t.v] h (.tup [.int .i64 (dp t), .int .i64 (cnt t)]) h' := by
  intro N
  induction N with
  | zero => intro t ht; have := T6.w_pos t; omega
  | succ N ih =>
    intro t ht hb h
    obtain ⟨k, n, s, l⟩ := t
    rw [T6.w] at ht hb
    refine Run.startE t_ref06_Size ?_
    unfold k_ref06_Size
    simp (disch := omega) [T6.v]
    refine Xb_decn (fun c1 => ?_) (fun c1 => ?_)
    · simp (disch := omega) [dp, cnt, c1]
    · have b1 := dps_le l
      have b2 := cnts_le l
      simp (disch := omega)
      refine Sz_loop k n s l (by omega) (fun x hx => ih x (by have := T6.ws_mem hx; omega) (by have := T6.ws_mem hx; omega) []) l.length 0 (by omega) 0 1 (by omega) (by omega) (by simp; omega) _ _ [] _ (fun e => ?_)
      have e1 : max 0 (dps l) = dps l := by omega
      simp (disch := omega) [dp, cnt, c1, e1]
theorem Sz_p (t : T6) (ht : t.w ≤ 4194304) {ks : List Kt} {ops : List AOpr} {K : Kp} {e : Env} {h : Heap} {Q : Ex → Env → Heap → Prop} {d : Nat} : Xp T f_ref06_Size (some ([t.v], false)) h (some d) ops K ks e Q = Xo T ops K ks ((d, .tup [.int .i64 (dp t), .int .i64 (cnt t)]) :: e) h Q := by
  obtain ⟨h', r⟩ := Sz_run _ t (Nat.le_refl _) ht []
  exact Xp_run r (by simp [T6.v_hf]) (by simp) (by simp)
theorem v_eq (t : T6) : t.v = .agg [.int .i64 t.k, .int .u64 t.n, .str t.s, .ps 4 (T6.vs t.l)] := by cases t; rfl
def lgt (t : T6) : Bool := decide (dp t ≤ 30) && decide (cnt t ≤ 300)
theorem light_run (t : T6) (ht : t.w ≤ 4194304) : ∃ h', Run T f_law06_light [t.v] [] (.bool (lgt t)) h' := by
  refine Run.startE t_law06_light ?_
  unfold k_law06_light
  rw [v_eq]
  simp (disch := omega)
  rw [← v_eq]
  simp (disch := omega) [Sz_p, ht]
  refine Xg_dec (fun c1 => ?_) (fun c1 => ?_)
  · simp (disch := omega) [lgt, c1]
    omega
  · simp (disch := omega) [lgt, c1]
theorem light_p (t : T6) (ht : t.w ≤ 4194304) {ks : List Kt} {ops : List AOpr} {K : Kp} {e : Env} {h : Heap} {Q : Ex → Env → Heap → Prop} {d : Nat} {lent : Bool} (hl : lent = false) : Xp T f_law06_light (some ([t.v], lent)) h (some d) ops K ks e Q = Xo T ops K ks ((d, .bool (lgt t)) :: e) h Q := by
  obtain ⟨h', r⟩ := light_run t ht
  exact Xp_run r (by simp [T6.v_hf]) (by simp) (by simp [hl])
theorem deep_run (t : T6) (ht : t.w ≤ 4194304) : ∃ h', Run T f_law06_deep [t.v] [] (.bool (decide (16 < dp t))) h' := by
  refine Run.startE t_law06_deep ?_
  unfold k_law06_deep
  rw [v_eq]
  simp (disch := omega)
  rw [← v_eq]
  simp (disch := omega) [Sz_p, ht]
theorem deep_p (t : T6) (ht : t.w ≤ 4194304) {ks : List Kt} {ops : List AOpr} {K : Kp} {e : Env} {h : Heap} {Q : Ex → Env → Heap → Prop} {d : Nat} {lent : Bool} (hl : lent = false) : Xp T f_law06_deep (some ([t.v], lent)) h (some d) ops K ks e Q = Xo T ops K ks ((d, .bool (decide (16 < dp t))) :: e) h Q := by
  obtain ⟨h', r⟩ := deep_run t ht
  exact Xp_run r (by simp [T6.v_hf]) (by simp) (by simp [hl])
mutual
/-- Are its texts right, and its kinds ones that there are? -/
def rgt : T6 → Bool
  | .mk k _ s l => decide (0 ≤ k) && decide (k ≤ 7) && (decide (k ≠ 3) || valid s) && (decide (k ≠ 4) || rgts l)
def rgts : List T6 → Bool
  | [] => true
  | x :: r => rgt x && rgts r
end
theorem Rt_loop (n : Int) (s : List UInt8) (l : List T6) (hw : T6.ws l ≤ 4194304) (hl : ∀ x ∈ l, ∃ h', Run T f_ref06_Right [x.v] [] (.bool (rgt x)) h') :
    ∀ (m i : Nat), i + m = l.length → ∀ ks Q (e : Env) (h0 : Heap),
    (rgts (l.drop i) = true → ∀ e, Xk T ks (.x 0) e (h0 ++ [some [.int .i64 4, .int .u64 n, .str s, .ps 4 (T6.vs l)]]) Q) →
    (rgts (l.drop i) = false → ∀ e, Xk T ks .r ((2, .bool false) :: e) (h0 ++ [some [.int .i64 4, .int .u64 n, .str s, .ps 4 (T6.vs l)]]) Q) →
    Xc T l_ref06_Right_0 ks ([(1, .ptr h0.length 0), (3, .int .i64 i)] ++ e) (h0 ++ [some [.int .i64 4, .int .u64 n, .str s, .ps 4 (T6.vs l)]]) Q := by
  intro m
  induction m with
  | zero =>
    intro i hi ks Q e h0 h1 h2
    rw [L_ref06_Right_0]; unfold bl_ref06_Right_0
    have b5 := T6.ws_len l
    have e0 : i = l.length := by omega
    subst e0
    simp (disch := omega) [T6.vs_len]
    exact h1 (by simp [rgts]) _
  | succ m ih =>
    intro i hi ks Q e h0 h1 h2
    rw [L_ref06_Right_0]; unfold bl_ref06_Right_0
    have e1 : i < l.length := by omega
    have e3 : (i : Int) < l.length := by omega
    have g := List.getElem?_eq_getElem e1
    have da : l.drop i = l[i] :: l.drop (i + 1) := List.drop_eq_getElem_cons e1
    obtain ⟨h', r⟩ := hl l[i] (List.getElem_mem e1)
    have b5 := T6.ws_len l
    rw [da] at h1 h2
    simp only [rgts] at h1 h2
    simp (disch := omega) [T6.vs_len, T6.vs_get, e3, g, T6.cells_len, T6.agg_v]
    rw [Xp_run r (by simp [T6.v_hf]) (by simp) (by simp)]
    simp (disch := omega)
    refine Xb_intro (fun c1 => ?_) (fun c1 => ?_)
    · simp (disch := omega)
      exact h2 (by simp at c1; simp [c1]) _
    · simp at c1
      rw [c1] at h1 h2
      simp only [Bool.true_and] at h1 h2
      simp (disch := omega)
      have := ih (i + 1) (by omega) ks Q [] h0 h1 h2
      simpa using this
theorem Rt_run : ∀ (N : Nat) (t : T6), t.w ≤ N → t.w ≤ 4194304 → ∃ h', Run T f_ref06_Right [t.v] [] (.bool (rgt t)) h' := by
  intro N
  induction N with
  | zero => intro t ht; have := T6.w_pos t; omega
  | succ N ih =>
    intro t ht hb
    obtain ⟨k, n, s, l⟩ := t
    rw [T6.w] at ht hb
    refine Run.startE t_ref06_Right ?_
    unfold k_ref06_Right
    rw [rgt]
    have b5 := T6.ws_len l
    by_cases k0 : k < 0
    · have k1 : ¬ (0 ≤ k) := by omega
      simp (disch := omega) [T6.v, k0, k1]
    · have k1 : 0 ≤ k := by omega
      by_cases k2 : 7 < k
      · have k3 : ¬ (k ≤ 7) := by omega
        simp (disch := omega) [T6.v, k0, k1, k2, k3]
      · have k3 : k ≤ 7 := by omega
        by_cases k4 : k = 3
        · subst k4
          cases hv : valid s with
          | false => simp (disch := omega) [T6.v, right_p, hv]
          | true =>
            simp (disch := omega) [T6.v, right_p, hv]
            rw [L_ref06_Right_0]; unfold bl_ref06_Right_0
            simp (disch := omega) [T6.vs_len]
            refine Xg_dec (fun c => ?_) (fun c => ?_)
            · simp (disch := omega) [c]
            · simp (disch := omega) [c]
        · by_cases k5 : k = 4
          · subst k5
            simp (disch := omega) [T6.v]
            refine Rt_loop n s l (by omega) (fun x hx => ih x (by have := T6.ws_mem hx; omega) (by have := T6.ws_mem hx; omega)) l.length 0 (by omega) _ _ [] [] (fun hh e => ?_) (fun hh e => ?_)
            · simp at hh
              simp (disch := omega) [hh]
            · simp at hh
              simp (disch := omega) [hh]
          · simp (disch := omega) [T6.v, k0, k1, k2, k3, k4, k5]
            rw [L_ref06_Right_0]; unfold bl_ref06_Right_0
            simp (disch := omega) [T6.vs_len]
            refine Xg_dec (fun c => ?_) (fun c => ?_)
            · simp (disch := omega) [c, k5]
            · simp (disch := omega) [c]
theorem Rt_p (t : T6) (ht : t.w ≤ 4194304) {ks : List Kt} {ops : List AOpr} {K : Kp} {e : Env} {h : Heap} {Q : Ex → Env → Heap → Prop} {d : Nat} {lent : Bool} (hl : lent = false) : Xp T f_ref06_Right (some ([t.v], lent)) h (some d) ops K ks e Q = Xo T ops K ks ((d, .bool (rgt t)) :: e) h Q := by
  obtain ⟨h', r⟩ := Rt_run _ t (Nat.le_refl _) ht
  exact Xp_run r (by simp [T6.v_hf]) (by simp) (by simp [hl])
end Ev
