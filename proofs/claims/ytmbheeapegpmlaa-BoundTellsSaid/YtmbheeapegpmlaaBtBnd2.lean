/- Bound: the law. Each theorem states its own conditions. -/
import Derived.Test.YtmbheeapegpmlaaBtBnd
set_option linter.all false
namespace Ev
open Go
set_option maxRecDepth 10000
attribute [-simp] getElem?_pos getElem?_neg
set_option maxHeartbeats 4000000 in
theorem bt_run (b p r k pr x y o n : Int) (ds : List UInt8) (hb : -9223372036854775808 ≤ n ∧ n ≤ 9223372036854775807) : ∃ h', Run T f_law40_BoundTells [.agg [.int .i64 b, .int .i64 p, .int .i64 r, .int .i64 k, .str ds, .int .i64 pr, .int .u64 x, .int .u64 y, .int .i64 o, .int .i64 n]] [] (.bool true) h' := by
  refine Run.startE t_law40_BoundTells ?_
  unfold k_law40_BoundTells
  simp (disch := omega)
  apply Xc_regf
  simp (disch := omega)
  simp (disch := omega) [flagsIn, flagP, evOp]
  obtain ⟨w, hw⟩ : ∃ w, w = gW b p r := ⟨_, rfl⟩
  obtain ⟨m, hm⟩ : ∃ m, m = gM b p r := ⟨_, rfl⟩
  obtain ⟨kk, hk⟩ : ∃ kk, kk = max (min o 4096) 0 := ⟨_, rfl⟩
  have hk2 : 0 ≤ kk ∧ kk ≤ 4096 := by omega
  have hsw : swN o = (kk + 15) / 16 := by unfold swN; rw [hk]; congr 2; omega
  have hwb : 0 ≤ w ∧ w ≤ 532 := by rw [hw]; exact gW_le b p r
  have hlp := fun v3 v4 v5 v6 v8 h ks Q hx => bt_loop v3 v4 v5 v6 v8 w kk h hwb hk2 ((kk + 15) / 16).toNat 0 (by omega) (by omega) (by omega) ks Q hx
  simp at hlp
  have hst : stN b p r k o = if k = 8 then w * (1 + (kk + 15) / 16) else if k = 1 ∨ k = 5 then w else if k = 9 then m else 0 := by unfold stN; rw [← hw, ← hm, hsw]
  have hin : gW b p r * (1 + swN o) = w * (1 + (kk + 15) / 16) := by rw [← hw, hsw]
  have hw' := hw.symm
  have hm' := hm.symm
  generalize hz : w * (1 + (kk + 15) / 16) = z at hlp hst hin
  have h8 : stN b p r 8 o = z := by unfold stN; rw [if_pos rfl, hin]
  have h1 : stN b p r 1 o = w := by simp [stN, hw']
  have h5 : stN b p r 5 o = w := by simp [stN, hw']
  have h9 : stN b p r 9 o = m := by simp [stN, hm']
  cases c : gR b p r
  · have hw0 : w = 0 := by rw [hw]; unfold gW; rw [c]; rfl
    have hm0 : m = 0 := by rw [hm]; unfold gM; rw [c]; rfl
    have hz0 : z = 0 := by rw [← hz, hw0]; simp
    subst hw0 hm0 hz0
    simp (disch := omega) [RRight_p, c, LowH_p, HighH_p, ← hk]
    refine hlp _ _ _ _ _ _ _ _ fun e => ?_
    by_cases cn : n ≤ 1000000 <;> by_cases c8 : k = 8
    all_goals try (simp (disch := omega) [c8, cn, Frames_p, RFrames_p, awake40_p, Write_p, Mount_p, Ingest_p, Step_p, hst, h8, h1, h5, h9, hin, hw', hm']; done)
    all_goals by_cases c1 : k = 1
    all_goals try (simp (disch := omega) [c8, c1, cn, Frames_p, RFrames_p, awake40_p, Write_p, Mount_p, Ingest_p, Step_p, hst, h8, h1, h5, h9, hin, hw', hm']; done)
    all_goals by_cases c5 : k = 5
    all_goals try (simp (disch := omega) [c8, c1, c5, cn, Frames_p, RFrames_p, awake40_p, Write_p, Mount_p, Ingest_p, Step_p, hst, h8, h1, h5, h9, hin, hw', hm']; done)
    all_goals by_cases c9 : k = 9
    all_goals simp (disch := omega) [c8, c1, c5, c9, cn, Frames_p, RFrames_p, awake40_p, Write_p, Mount_p, Ingest_p, Step_p, hst, h8, h1, h5, h9, hin, hw', hm']
  · have hw0 : 16 * p + 20 = w := by rw [hw]; unfold gW; rw [c]; rfl
    have hm0 : m = 4 := by rw [hm]; unfold gM; rw [c]; rfl
    have hp := gR_p c
    have hin2 : w * (1 + swN o) = z := by rw [hsw, hz]
    subst hm0
    simp (disch := omega) [RRight_p, c, LowH_p, HighH_p, ← hk, hw0]
    refine hlp _ _ _ _ _ _ _ _ fun e => ?_
    by_cases cn : n ≤ 1000000 <;> by_cases c8 : k = 8
    all_goals try (simp (disch := omega) [c8, cn, Frames_p, RFrames_p, awake40_p, Write_p, Mount_p, Ingest_p, Step_p, hst, h8, h1, h5, h9, hin, hin2, hw', hm']; done)
    all_goals by_cases c1 : k = 1
    all_goals try (simp (disch := omega) [c8, c1, cn, Frames_p, RFrames_p, awake40_p, Write_p, Mount_p, Ingest_p, Step_p, hst, h8, h1, h5, h9, hin, hin2, hw', hm']; done)
    all_goals by_cases c5 : k = 5
    all_goals try (simp (disch := omega) [c8, c1, c5, cn, Frames_p, RFrames_p, awake40_p, Write_p, Mount_p, Ingest_p, Step_p, hst, h8, h1, h5, h9, hin, hin2, hw', hm']; done)
    all_goals by_cases c9 : k = 9
    all_goals simp (disch := omega) [c8, c1, c5, c9, cn, Frames_p, RFrames_p, awake40_p, Write_p, Mount_p, Ingest_p, Step_p, hst, h8, h1, h5, h9, hin, hin2, hw', hm']
theorem law_BoundTells (x0 : V) (h0 : ∃ vs, x0 = .agg vs ∧ Row [.i .i64, .i .i64, .i .i64, .i .i64, .s, .i .i64, .i .u64, .i .u64, .i .i64, .i .i64] vs) : ∃ h', Run T f_law40_BoundTells [x0] [] (.bool true) h' := by
  obtain ⟨vs, rfl, hr⟩ := h0
  obtain ⟨_, _, rfl, t0, hr⟩ := hr.cons
  obtain ⟨_, _, rfl, t1, hr⟩ := hr.cons
  obtain ⟨_, _, rfl, t2, hr⟩ := hr.cons
  obtain ⟨_, _, rfl, t3, hr⟩ := hr.cons
  obtain ⟨_, _, rfl, t4, hr⟩ := hr.cons
  obtain ⟨_, _, rfl, t5, hr⟩ := hr.cons
  obtain ⟨_, _, rfl, t6, hr⟩ := hr.cons
  obtain ⟨_, _, rfl, t7, hr⟩ := hr.cons
  obtain ⟨_, _, rfl, t8, hr⟩ := hr.cons
  obtain ⟨_, _, rfl, t9, hr⟩ := hr.cons
  obtain rfl := hr.none
  obtain ⟨b, rfl, _⟩ := t0.int
  obtain ⟨p, rfl, _⟩ := t1.int
  obtain ⟨r, rfl, _⟩ := t2.int
  obtain ⟨k, rfl, _⟩ := t3.int
  obtain ⟨ds, rfl, _⟩ := t4.str
  obtain ⟨pr, rfl, _⟩ := t5.int
  obtain ⟨x, rfl, _⟩ := t6.int
  obtain ⟨y, rfl, _⟩ := t7.int
  obtain ⟨o, rfl, _⟩ := t8.int
  obtain ⟨n, rfl, hn⟩ := t9.int
  exact bt_run b p r k pr x y o n ds hn
end Ev
