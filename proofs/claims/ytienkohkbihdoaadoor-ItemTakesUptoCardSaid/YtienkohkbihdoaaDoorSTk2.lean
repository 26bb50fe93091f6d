/- The law ItemTakes: any value, taken as each type, and its parts. Each theorem states its own conditions. -/
import Derived.Test.YtienkohkbihdoaaDoorSTk
set_option linter.all false
namespace Ev
open Go
set_option maxRecDepth 10000
attribute [-simp] getElem?_pos getElem?_neg List.drop_one

theorem sameP (t : T6) (hw : t.w ≤ 1048576) (hok : t.ok) (hr : rgt t = true) (hc : cnt t ≤ 4096) : ∃ b : Bool, (dp t ≤ 16 → b = true) ∧ ∀ {ks : List Kt} {ops : List AOpr} {K : Kp} {e : Env} {h : Heap} {Q : Ex → Env → Heap → Prop} {d : Nat}, Xp T f_item_Same (some ([anyV t, anyV t], false)) h (some d) ops K ks e Q = Xo T ops K ks ((d, .bool b) :: e) h Q := by
  by_cases hd : dp t ≤ 16
  · obtain ⟨h', r⟩ := Same_run t hw hok hr hd hc
    exact ⟨true, fun _ => rfl, Xp_run r (by simp [anyV_hf]) rfl (by simp)⟩
  · obtain ⟨b, h', r⟩ := Same_any t hw hok hr hc
    exact ⟨b, fun h => absurd h hd, Xp_run r (by simp [anyV_hf]) rfl (by simp)⟩
theorem bys_eq (a b : List UInt8) : (bys a = bys b) ↔ a = b := by
  constructor
  · intro h
    have := congrArg toBytes h
    rw [bys_back, bys_back] at this
    exact Option.some.inj this
  · exact fun h => by rw [h]
theorem ItemTakes_run (t : T6) (i : Int) (hw : t.w ≤ 1048576) (hok : t.ok) : ∃ h', Run T f_law06_ItemTakes [t.v, .int .i64 i] [] (.bool true) h' := by
  refine Run.startE t_law06_ItemTakes ?_
  unfold k_law06_ItemTakes
  rw [v_eq]
  simp (disch := omega)
  rw [← v_eq]
  simp (disch := first | omega | rfl) [light_p, hw]
  refine Xb_intro (fun c1 => ?_) (fun c1 => ?_)
  · simp (disch := omega) [awake_p]
  · have wl := w_def t
    have wll := T6.ws_len t.l
    have okl : T6.oks t.l := by cases t; exact hok.2.2.2
    have vf := (v_eq t).symm
    simp (disch := omega) [Any_p, Uint_p, Bytes_p, Text_p, List_p, Must_p, hw, vf]
    have cases5 : t.k = 0 ∨ t.k = 2 ∨ t.k = 3 ∨ t.k = 4 ∨ (t.k ≠ 0 ∧ t.k ≠ 2 ∧ t.k ≠ 3 ∧ t.k ≠ 4) := by omega
    rcases cases5 with c | c | c | c | ⟨d0, d2, d3, d4⟩
    · have a1 : asN t = t.n := by simp [asN, c]
      have a2 : asB t = [] := by simp [asB, c]
      have a3 : asS t = [] := by simp [asS, c]
      have a4 : asL t = [] := by simp [asL, c]
      have a5 : mustN t i = 0 := by simp [mustN, c]
      have a6 : atV t i = .nili := atV_none t i (by omega)
      simp (disch := omega) [c, a1, a2, a3, a4, a5, a6, bys_nil, anys_nil, awake_p, At_p, Must_p, T6.vs_len]
      refine Xg_decn (fun z => ?_) (fun z => ?_)
      · simp (disch := omega) [c, a1, a2, a3, a4, a5, a6, bys_nil, anys_nil, awake_p, At_p, Must_p, z, T6.vs_len]
      · have z' : t.l.length = 0 := by omega
        simp (disch := omega) [c, a1, a2, a3, a4, a5, a6, bys_nil, anys_nil, awake_p, At_p, Must_p, z', T6.vs_len]
    · have a1 : asN t = 0 := by simp [asN, c]
      have a2 : asB t = t.s := by simp [asB, c]
      have a3 : asS t = [] := by simp [asS, c]
      have a4 : asL t = [] := by simp [asL, c]
      have a5 : mustN t i = 0 := by simp [mustN, c]
      have a6 : atV t i = .nili := atV_none t i (by omega)
      simp (disch := omega) [c, a1, a2, a3, a4, a5, a6, bys_back, anys_nil, awake_p, At_p, Must_p, T6.vs_len]
      refine Xg_decn (fun z => ?_) (fun z => ?_)
      · simp (disch := omega) [c, a1, a2, a3, a4, a5, a6, bys_back, anys_nil, awake_p, At_p, Must_p, z, T6.vs_len]
      · have z' : t.l.length = 0 := by omega
        simp (disch := omega) [c, a1, a2, a3, a4, a5, a6, bys_back, anys_nil, awake_p, At_p, Must_p, z', T6.vs_len]
    · have a1 : asN t = 0 := by simp [asN, c]
      have a2 : asB t = [] := by simp [asB, c]
      have a3 : asS t = t.s := by simp [asS, c]
      have a4 : asL t = [] := by simp [asL, c]
      have a5 : mustN t i = 0 := by simp [mustN, c]
      have a6 : atV t i = .nili := atV_none t i (by omega)
      simp (disch := omega) [c, a1, a2, a3, a4, a5, a6, bys_nil, anys_nil, awake_p, At_p, Must_p, T6.vs_len]
      refine Xg_decn (fun z => ?_) (fun z => ?_)
      · simp (disch := omega) [c, a1, a2, a3, a4, a5, a6, bys_nil, anys_nil, awake_p, At_p, Must_p, z, T6.vs_len]
      · have z' : t.l.length = 0 := by omega
        simp (disch := omega) [c, a1, a2, a3, a4, a5, a6, bys_nil, anys_nil, awake_p, At_p, Must_p, z', T6.vs_len]
    · have a1 : asN t = 0 := by simp [asN, c]
      have a2 : asB t = [] := by simp [asB, c]
      have a3 : asS t = [] := by simp [asS, c]
      have a4 : asL t = t.l := by simp [asL, c]
      simp (disch := omega) [c, a1, a2, a3, a4, bys_nil, anys_len, T6.vs_len, Must_p]
      by_cases e0 : i < 0
      · have a5 : mustN t i = 0 := by unfold mustN; rw [if_neg (by omega)]
        have a6 : atV t i = .nili := atV_none t i (by omega)
        simp (disch := omega) [e0, a5, a6, awake_p, At_p, Must_p]
      · by_cases e1 : (t.l.length : Int) ≤ i
        · have a5 : mustN t i = 0 := by unfold mustN; rw [if_neg (by omega)]
          have a6 : atV t i = .nili := atV_none t i (by omega)
          simp (disch := omega) [e0, e1, a5, a6, awake_p, At_p, Must_p, T6.vs_len]
        · have g := List.getElem?_eq_getElem (l := t.l) (i := i.toNat) (by omega)
          have hm := List.getElem_mem (l := t.l) (n := i.toNat) (by omega)
          have a5 : mustN t i = asN t.l[i.toNat] := by unfold mustN; rw [if_pos ⟨c, by omega, by omega⟩, g]
          have a6 := atV_some t i _ c (by omega) g
          have w1 := T6.ws_mem hm
          have ok1 := T6.oks_mem okl hm
          generalize t.l[i.toNat] = x at *
          have xw : x.w ≤ 1048576 := by omega
          have xc0 : x.v.cells[0]? = some (.int .i64 x.k) := by rw [v_eq]; rfl
          have xc1 : x.v.cells[1]? = some (.int .u64 x.n) := by rw [v_eq]; rfl
          have xcl := T6.cells_len x
          have xag := T6.agg_v x
          simp (disch := omega) [e0, e1, a5, a6, T6.vs_len, T6.vs_get, g, Must_p, xc0]
          refine Xb_dec (fun x0 => ?_) (fun x0 => ?_)
          · have x1 : asN x = x.n := by simp [asN, x0]
            simp (disch := omega) [T6.vs_len, T6.vs_get, g, xc0, xc1, xcl, xag, awake_p, x1]
            cases hr : rgt x with
            | false => simp (disch := first | omega | rfl) [T6.vs_len, T6.vs_get, g, xcl, xag, Rt_p, hr, xw]
            | true =>
              cases hg : lgt x with
              | false => simp (disch := first | omega | rfl) [T6.vs_len, T6.vs_get, g, xcl, xag, Rt_p, hr, xw, light_p, hg]
              | true =>
                have hc : cnt x ≤ 4096 := by simp [lgt] at hg; omega
                obtain ⟨b, hb, hs⟩ := sameP x xw ok1 hr hc
                simp (disch := first | omega | rfl) [T6.vs_len, T6.vs_get, g, xcl, xag, Rt_p, hr, xw, light_p, hg, At_p, a6, Any_p, hs]
                cases b with
                | true => simp (disch := omega)
                | false =>
                  have hd : 16 < dp x := by
                    rcases (by omega : 16 < dp x ∨ dp x ≤ 16) with c | c
                    · exact c
                    · have := hb c; cases this
                  simp (disch := first | omega | rfl) [T6.vs_len, T6.vs_get, g, xcl, xag, deep_p, hd, xw]
          · have x1 : asN x = 0 := by simp [asN, x0]
            simp (disch := omega) [T6.vs_len, T6.vs_get, g, xc0, xc1, xcl, xag, awake_p, x1]
            cases hr : rgt x with
            | false => simp (disch := first | omega | rfl) [T6.vs_len, T6.vs_get, g, xcl, xag, Rt_p, hr, xw]
            | true =>
              cases hg : lgt x with
              | false => simp (disch := first | omega | rfl) [T6.vs_len, T6.vs_get, g, xcl, xag, Rt_p, hr, xw, light_p, hg]
              | true =>
                have hc : cnt x ≤ 4096 := by simp [lgt] at hg; omega
                obtain ⟨b, hb, hs⟩ := sameP x xw ok1 hr hc
                simp (disch := first | omega | rfl) [T6.vs_len, T6.vs_get, g, xcl, xag, Rt_p, hr, xw, light_p, hg, At_p, a6, Any_p, hs]
                cases b with
                | true => simp (disch := omega)
                | false =>
                  have hd : 16 < dp x := by
                    rcases (by omega : 16 < dp x ∨ dp x ≤ 16) with c | c
                    · exact c
                    · have := hb c; cases this
                  simp (disch := first | omega | rfl) [T6.vs_len, T6.vs_get, g, xcl, xag, deep_p, hd, xw]
    · have a1 : asN t = 0 := by simp [asN, d0]
      have a2 : asB t = [] := by simp [asB, d2]
      have a3 : asS t = [] := by simp [asS, d3]
      have a4 : asL t = [] := by simp [asL, d4]
      have a5 : mustN t i = 0 := by simp [mustN, d4]
      have a6 : atV t i = .nili := atV_none t i (by omega)
      simp (disch := omega) [d0, d2, d3, d4, a1, a2, a3, a4, a5, a6, bys_nil, anys_nil, awake_p, At_p, Must_p, T6.vs_len]
      refine Xg_decn (fun z => ?_) (fun z => ?_)
      · simp (disch := omega) [d0, d2, d3, d4, a1, a2, a3, a4, a5, a6, bys_nil, anys_nil, awake_p, At_p, Must_p, z, T6.vs_len]
      · have z' : t.l.length = 0 := by omega
        simp (disch := omega) [d0, d2, d3, d4, a1, a2, a3, a4, a5, a6, bys_nil, anys_nil, awake_p, At_p, Must_p, z', T6.vs_len]
theorem law_ItemTakes (x y : V) (hx : ∃ vs, x = .agg vs ∧ Row sh6 vs) (hy : Ty (.i .i64) y) (hb : V.bulk x + V.bulk y ≤ 1048576) : ∃ h', Run T f_law06_ItemTakes [x, y] [] (.bool true) h' := by
  obtain ⟨vs, rfl, hr⟩ := hx
  obtain ⟨i, rfl, _, _⟩ := hy.int
  simp only [V.bulk] at hb
  obtain ⟨t, e, h1, h2⟩ := read6 _ vs (Nat.le_refl _) hr
  rw [e]
  exact ItemTakes_run t i (by omega) h1
end Ev
