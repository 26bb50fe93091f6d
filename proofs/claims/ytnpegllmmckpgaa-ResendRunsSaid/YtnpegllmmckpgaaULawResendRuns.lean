/- The law ResendRuns: whatever the input, the Go function returns true and its arguments read as before. No condition beside those of the given statement. -/
import Derived.Test.YtnpegllmmckpgaaRows
import Derived.Test.YtnpegllmmckpgaaURp
import Derived.Test.YtnpegllmmckpgaaUChk
import Derived.WalkKit
import Derived.ProofKit
import Derived.OpenShut
import Derived.ShutString
import Derived.ChangeOld
import Derived.Below
import Derived.SizedLaws
import Derived.Deep.DeepHandedRow
import Derived.LaidMore
import Derived.Lay
import Derived.Stop.Joined
set_option linter.all false
namespace Go.Proofs.Ytnpegllmmckpgaa.resendRuns
open Go.ChangeShapes Go.WideShapes Go.ChangeAt Go.RowKit
theorem own : ownKnob Try.prog.godebug = none := by kernel_rfl
theorem laidOut : laidOutB Try.prog = true := by kernel_rfl
theorem tabOk : Ev.TabOk Try.prog Ev.sig Ev.T := Ev.tab_ok rfl rfl (by kernel_rfl) Ev.tabAll
theorem hrs : ∀ q ∈ Ev.RS, Ev.shOf Try.prog 12 q.1 = some q.2 := by
  unfold Ev.RS
  repeat rw [List.forall_mem_cons]
  first | exact fun _ h => nomatch h | exact ⟨by kernel_rfl, fun _ h => nomatch h⟩
theorem sums {H : Type} : ∀ l : List (DataW H), Rows.uptoBulkAll l = (l.map Rows.uptoBulk).sum
  | [] => by simp [Rows.uptoBulkAll]
  | d :: r => by simp only [Rows.uptoBulkAll, List.map_cons, List.sum_cons, sums r]
theorem bk {H : Type} : Ev.Bk (H := H) Rows.uptoBulk where
  one := fun d => by
    cases d with
    | lit l => cases l <;> simp [Rows.uptoBulk]
    | _ => simp [Rows.uptoBulk]
  str := fun b => by simp [Rows.uptoBulk]
  slice := fun l r => by simp only [Rows.uptoBulk, sums]; omega
  agg := fun l => by simp only [Rows.uptoBulk, sums]; omega
theorem sh0 : Ev.shOf Try.prog 12 25 = some [(.sl true 80 [(.i .u64), (.i .u64), (.i .i64), (.i .i64), (.i .u64), .b, (.i .i64), (.sl false 8 [(.i .i64)])]), (.i .u64), (.i .u64), (.i .u64)] := by kernel_rfl
theorem ag0 : Ev.isAg Try.prog 25 = true := by kernel_rfl
theorem sh1 : Ev.shOf Try.prog 12 5 = some [(.i .u8)] := by kernel_rfl
theorem ag1 : Ev.isAg Try.prog 5 = false := by kernel_rfl
theorem glOk {W : World} (hL : laidMetH Try.prog Rows.resendRunsRow.laid W) : Ev.GlOk (Ev.G0 W) := fun q hq => nomatch hq
noncomputable def laidWorld (os : Os) : World := World.laidAll Try.prog os Rows.resendRunsRow.laid
theorem laid_met (os : Os) (args : Array Value) : laidMetH Try.prog Rows.resendRunsRow.laid ((laidWorld os).forCall (fun _ _ => 0) ⟨#[], args, []⟩).memory := by
  rw [MakeChecks.laidMetH_plain _ _ _ (by kernel_rfl)]
  exact laidMet_laidAll _ (by kernel_rfl) (by kernel_rfl)
set_option maxRecDepth 100000 in
theorem witness_row (os : Os) {H : Type} (enc : TypeId × Value → H) :
    (OpenSpec.ofChange Rows.resendRunsSpec).preRow enc Try.prog Try.f4 Rows.resendRunsRow.domain false Rows.resendRunsRow.laid ((laidWorld os).forCall (fun _ _ => 0) ⟨#[], #[.agg #[.slice none 0 0, .int .u64 0, .int .u64 0, .int .u64 0], .int .u8 0], []⟩).memory #[.agg #[.slice none 0 0, .int .u64 0, .int .u64 0, .int .u64 0], .int .u8 0] := by
  have hw : (DataW.whole enc Try.prog ((laidWorld os).forCall (fun _ _ => 0) ⟨#[], #[.agg #[.slice none 0 0, .int .u64 0, .int .u64 0, .int .u64 0], .int .u8 0], []⟩).memory Try.f4.params.toList Rows.resendRunsSpec.vars false (#[.agg #[.slice none 0 0, .int .u64 0, .int .u64 0, .int .u64 0], .int .u8 0] : Array Value).toList 8).map (fun x => (x.1, x.2.1)) =
      some ([.agg [.nil, .lit (.int .u64 0), .lit (.int .u64 0), .lit (.int .u64 0)], .lit (.int .u8 0)], []) := by kernel_rfl
  obtain ⟨⟨x1, x2, x3⟩, hx, hx1⟩ := Option.map_eq_some_iff.1 hw
  simp only [Prod.mk.injEq] at hx1
  obtain ⟨rfl, rfl⟩ := hx1
  exact OpenSpec.preRow_of_cond 8 hx (by kernel_rfl) (fun k hk => by cases hk) (by kernel_rfl) (laid_met os _)
set_option maxRecDepth 100000 in
theorem lifted (os : Os) (started : os.Started) (H : Type) (enc : TypeId × Value → H) (F : Stop.Interp) :
    ReturnsInHanded {} Try.checked os 4 .any ((OpenSpec.ofChange Rows.resendRunsSpec).preRow enc Try.prog Try.f4 Rows.resendRunsRow.domain false Rows.resendRunsRow.laid) (((OpenSpec.ofChange Rows.resendRunsSpec).at F).post enc Try.prog Try.f4 false true false false) := by
  refine returnsInHanded_of_row (C := Try.checked) (s := (OpenSpec.ofChange Rows.resendRunsSpec)) own started (by kernel_rfl) Try.func4
    (witness_row_at (enc := enc) (C := Try.checked) false (laidWorld os) #[.agg #[.slice none 0 0, .int .u64 0, .int .u64 0, .int .u64 0], .int .u8 0] (World.laidAll_os _ _ _) (by kernel_rfl) (by kernel_rfl) (by kernel_rfl) (witness_row os enc)) ?_
  intro W base args ds gs before hval0 hW _ hcond hsz0 hL _ _
  have hgl := glOk hL
  have hsz : (DataW.weightsEach Try.prog (Try.f4.params.toList ++ Rows.resendRunsSpec.plain.varTypes Try.prog) (ds ++ gs)).all (· ≤ reachBytes) = true := hsz0
  have hval : ∀ (j : Nat) t v, Try.f4.params[j]? = some t → args[j]? = some v → Value.okWide Try.prog W .any base t v := hval0
  have hW' := hW
  obtain ⟨p, q, hA0, hV, rfl, hfz, hnd⟩ := hW
  have hA : DataW.TrodAll enc Try.prog W 0 (fun _ => true) true Try.f4.params.toList args.toList ds p := hA0
  rw [Try.params4] at hA hval hsz
  obtain ⟨v0, vs0, d0, ds0, p0, q0, hargs, rfl, rfl, h0, r0⟩ := trodAll_cons hA
  obtain ⟨v1, vs1, d1, ds1, p1, q1, rfl, rfl, rfl, h1, r1⟩ := trodAll_cons r0
  obtain ⟨rfl, rfl, rfl⟩ := trodAll_nil r1
  obtain rfl : args = #[v0, v1] := by cases args; simp_all
  obtain ⟨rfl, rfl⟩ := trodVars_none hV
  have k0 := h0
  have lt0 : ∀ x ∈ p0, x.block < W.heap.size := by obtain ⟨m, hm⟩ := k0; exact DataW.trod_lt m _ _ _ hm
  obtain ⟨x0, e0, row0, one0, agg0, bk0⟩ := Ev.arg_rel bk (fun _ => rfl) hrs (hval 0 25 v0 rfl rfl) h0 sh0 (fun k hk => of_decide_eq_true (List.all_eq_true.1 hsz k (DataW.weights_mem_each (j := 0) rfl rfl k hk)))
  have ty0 : ∃ vs, x0 = .agg vs ∧ Ev.Row [(.sl true 80 [(.i .u64), (.i .u64), (.i .i64), (.i .i64), (.i .u64), .b, (.i .i64), (.sl false 8 [(.i .i64)])]), (.i .u64), (.i .u64), (.i .u64)] vs := by obtain ⟨vs, rfl⟩ := agg0 ag0; exact ⟨vs, rfl, row0⟩
  have k1 := h1
  have lt1 : ∀ x ∈ p1, x.block < W.heap.size := by obtain ⟨m, hm⟩ := k1; exact DataW.trod_lt m _ _ _ hm
  obtain ⟨x1, e1, row1, one1, agg1, bk1⟩ := Ev.arg_rel bk (fun _ => rfl) hrs (hval 1 5 v1 rfl rfl) h1 sh1 (fun k hk => of_decide_eq_true (List.all_eq_true.1 hsz k (DataW.weights_mem_each (j := 1) rfl rfl k hk)))
  obtain ⟨c1, hc1, ty1⟩ := one1 ag1
  obtain rfl := (List.cons.inj hc1).1
  clear hA0 hval0 hsz0 hsz
  refine (Ev.law_calls tabOk Ev.t_law34_ResendRuns rfl (args := #[v0, v1]) (vs := [x0, x1]) (Ev.Rels.cons e0 (Ev.Rels.cons e1 Ev.Rels.nil)) hgl (Ev.law_ResendRuns x0 x1 ty0 ty1)).mono fun e W' ⟨he, bel⟩ => ?_
  subst he
  exact ⟨_, rfl, _, _, _, [], _, [], hW', trodAll_mk1 (shut_bool Try.underlying4 _), (trodAll_cons_mk (Below.trod laidOut (by kernel_rfl) (of_decide_eq_true (by kernel_rfl)) k0 bel lt0) (trodAll_cons_mk (Below.trod laidOut (by kernel_rfl) (of_decide_eq_true (by kernel_rfl)) k1 bel lt1) trodAll_mk0)), rfl, bel.frame _, fun h => by cases h⟩
theorem over : Rows.ResendRunsSaid :=
  OpenClaim.holds_of_cond 4 Try.f4 rfl rfl rfl rfl rfl rfl rfl ⟨rfl, rfl, rfl, rfl, rfl⟩ rfl rfl rfl rfl rfl (by kernel_rfl) Try.func4 (by kernel_rfl)
    (of_decide_eq_true (by kernel_rfl)) (by unfold Func.isWrapper; first | (rw [if_pos (by decide +kernel)]; kernel_rfl) | (rw [if_neg (by decide +kernel)]; exact ⟨rfl, rfl⟩))
    (fun os started H enc _ F => by rw [OpenClaim.pre_eq_preRow]; exact lifted os started H enc F)
theorem proved : Rows.ResendRunsSaid := over
#print axioms proved
end Go.Proofs.Ytnpegllmmckpgaa.resendRuns
namespace Go.Proofs.Ytnpegllmmckpgaa
/-- The row, under a short name, for the claim. -/
theorem resendRuns_holds : Rows.ResendRunsSaid := resendRuns.proved
end Go.Proofs.Ytnpegllmmckpgaa
