/- The law SegCuts: whatever the input, the Go function returns true and its arguments read as before. No condition beside those of the given statement. -/
import Derived.Test.YtmbheeapegpmlaaRows
import Derived.Test.YtmbheeapegpmlaaSSeg4
import Derived.Test.YtmbheeapegpmlaaSChk
import Derived.WalkKit
import Derived.ProofKit
import Derived.OpenShut
import Derived.ShutString
import Derived.ChangeOld
import Derived.Below
import Derived.SizedLaws
set_option linter.all false
namespace Go.Proofs.Ytmbheeapegpmlaa.segCuts
open Go.ChangeShapes Go.WideShapes Go.ChangeAt Go.RowKit
theorem own : ownKnob Try.prog.godebug = none := by kernel_rfl
theorem laidOut : laidOutB Try.prog = true := by kernel_rfl
theorem tabOk : Ev.TabOk Try.prog Ev.sig Ev.T := Ev.tab_ok rfl rfl (by kernel_rfl) Ev.tabAll
theorem sh0 : Ev.shOf Try.prog 12 59 = some [(.sl false 1 [(.i .u8)])] := by kernel_rfl
theorem ag0 : Ev.isAg Try.prog 59 = false := by kernel_rfl
theorem sh1 : Ev.shOf Try.prog 12 3 = some [(.i .i64)] := by kernel_rfl
theorem ag1 : Ev.isAg Try.prog 3 = false := by kernel_rfl
set_option maxRecDepth 100000 in
theorem lifted (os : Os) (started : os.Started) (H : Type) (enc : TypeId × Value → H) :
    ReturnsInHanded {} Try.checked os 7 .any (Rows.segCutsSpec.pre6 enc Try.prog Try.f7 Rows.segCutsRow.domain false) (Rows.segCutsSpec.post enc Try.prog Try.f7 false true false false) := by
  refine returnsInHanded_of_change_sized (C := Try.checked) own started (by kernel_rfl) Try.func7
    (ChangeSpec.witness6 (enc := enc) (C := Try.checked) false ⟨#[], #[.slice none 0 0, .int .i64 0], []⟩ 8 (by kernel_rfl) (by kernel_rfl) (by kernel_rfl) (by kernel_rfl)) ?_
  intro W base args ds gs before hval0 hW hcnd hsz0 _
  have hsz : (DataW.weightsEach Try.prog (Try.f7.params.toList ++ Rows.segCutsSpec.plain.varTypes Try.prog) (ds ++ gs)).all (· ≤ reachBytes) = true := hsz0
  have hval : ∀ (j : Nat) t v, Try.f7.params[j]? = some t → args[j]? = some v → Value.okWide Try.prog W .any base t v := hval0
  have hW' := hW
  obtain ⟨p, q, hA0, hV, rfl, hfz, hnd⟩ := hW
  have hA : DataW.TrodAll enc Try.prog W 0 (fun _ => true) true Try.f7.params.toList args.toList ds p := hA0
  rw [Try.params7] at hA hval hsz
  obtain ⟨v0, vs0, d0, ds0, p0, q0, hargs, rfl, rfl, h0, r0⟩ := trodAll_cons hA
  obtain ⟨v1, vs1, d1, ds1, p1, q1, rfl, rfl, rfl, h1, r1⟩ := trodAll_cons r0
  obtain ⟨rfl, rfl, rfl⟩ := trodAll_nil r1
  obtain rfl : args = #[v0, v1] := by cases args; simp_all
  obtain ⟨rfl, rfl⟩ := trodVars_none hV
  have k0 := h0
  have lt0 : ∀ x ∈ p0, x.block < W.heap.size := by obtain ⟨m, hm⟩ := k0; exact DataW.trod_lt m _ _ _ hm
  obtain ⟨x0, e0, row0, one0, agg0⟩ := Ev.arg_rel (fun _ => rfl) (hval 0 59 v0 rfl rfl) h0 sh0 (fun k hk => of_decide_eq_true (List.all_eq_true.1 hsz k (DataW.weights_mem_each (j := 0) rfl rfl k hk)))
  obtain ⟨c0, hc0, ty0⟩ := one0 ag0
  obtain rfl := (List.cons.inj hc0).1
  have k1 := h1
  have lt1 : ∀ x ∈ p1, x.block < W.heap.size := by obtain ⟨m, hm⟩ := k1; exact DataW.trod_lt m _ _ _ hm
  obtain ⟨x1, e1, row1, one1, agg1⟩ := Ev.arg_rel (fun _ => rfl) (hval 1 3 v1 rfl rfl) h1 sh1 (fun k hk => of_decide_eq_true (List.all_eq_true.1 hsz k (DataW.weights_mem_each (j := 1) rfl rfl k hk)))
  obtain ⟨c1, hc1, ty1⟩ := one1 ag1
  obtain rfl := (List.cons.inj hc1).1
  clear hA0 hval0 hsz0 hsz
  refine (Ev.law_calls tabOk Ev.t_law31_SegCuts rfl (args := #[v0, v1]) (vs := [x0, x1]) (Ev.Rels.cons e0 (Ev.Rels.cons e1 Ev.Rels.nil)) (Ev.law_SegCuts x0 x1 ty0 ty1)).mono fun e W' ⟨he, bel⟩ => ?_
  subst he
  exact ⟨_, rfl, _, _, _, [], _, [], hW', trodAll_mk1 (shut_bool Try.underlying4 _), (trodAll_cons_mk (Below.trod laidOut (by kernel_rfl) (of_decide_eq_true (by kernel_rfl)) k0 bel lt0) (trodAll_cons_mk (Below.trod laidOut (by kernel_rfl) (of_decide_eq_true (by kernel_rfl)) k1 bel lt1) trodAll_mk0)), rfl, bel.frame _, fun h => by cases h⟩
theorem over : Rows.segCutsRow.holds Try.pinned (OpenSpec.ofChange Rows.segCutsSpec) :=
  OpenClaim.holds_of_wide 7 Try.f7 rfl rfl rfl rfl rfl rfl rfl ⟨rfl, rfl, rfl, rfl, rfl⟩ rfl rfl rfl rfl rfl (by kernel_rfl) Try.func7 (by kernel_rfl)
    (of_decide_eq_true (by kernel_rfl)) (by unfold Func.isWrapper; first | (rw [if_pos (by decide +kernel)]; kernel_rfl) | (rw [if_neg (by decide +kernel)]; exact ⟨rfl, rfl⟩))
    (fun os started H enc _ => lifted os started H enc)
theorem proved : Rows.SegCutsSaid := over
#print axioms proved
end Go.Proofs.Ytmbheeapegpmlaa.segCuts
namespace Go.Proofs.Ytmbheeapegpmlaa
/-- The row, under a short name, for the claim. -/
theorem segCuts_holds : Rows.SegCutsSaid := segCuts.proved
end Go.Proofs.Ytmbheeapegpmlaa
