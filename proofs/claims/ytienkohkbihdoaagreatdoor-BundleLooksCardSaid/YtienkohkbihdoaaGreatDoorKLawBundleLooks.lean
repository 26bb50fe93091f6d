/- The law BundleLooks: whatever the input, the Go function returns true and its arguments read as before. No condition beside those of the given statement. -/
import Derived.Test.YtienkohkbihdoaaGreatDoorCards
import Derived.Test.YtienkohkbihdoaaGreatDoorTie
import Derived.Test.YtienkohkbihdoaaGreatDoorKR9
import Derived.Test.YtienkohkbihdoaaGreatDoorKChk
import Derived.WalkKit
import Derived.ProofKit
import Derived.OpenShut
import Derived.ShutString
import Derived.ChangeOld
import Derived.Below
import Derived.SizedLaws
import Derived.Deep.DeepHandedRow
import Derived.LaidMore
import Derived.Lay
import Derived.Stop.Joined
set_option linter.all false
namespace Go.Proofs.YtienkohkbihdoaaGreatDoor.bundleLooks
open Go.ChangeShapes Go.WideShapes Go.ChangeAt Go.RowKit
theorem own : ownKnob Tryz.prog.godebug = none := by kernel_rfl
theorem laidOut : laidOutB Tryz.prog = true := by kernel_rfl
theorem tabOk : Ev.TabOk Tryz.prog Ev.sig Ev.T := Ev.tab_ok rfl rfl (by kernel_rfl) Ev.tabAll
theorem hrs : ∀ q ∈ Ev.RS, Ev.shOf Tryz.prog 12 q.1 = some q.2 := by
  unfold Ev.RS
  repeat rw [List.forall_mem_cons]
  first | exact fun _ h => nomatch h | exact ⟨by kernel_rfl, fun _ h => nomatch h⟩
theorem sums {H : Type} : ∀ l : List (DataW H), Rows.uptoBulkAll l = (l.map Rows.uptoBulk).sum
  | [] => by simp [Rows.uptoBulkAll]
  | d :: r => by simp only [Rows.uptoBulkAll, List.map_cons, List.sum_cons, sums r]
theorem bk {H : Type} : Ev.Bk (H := H) Rows.uptoBulk where
  one := fun d => by
    cases d with
    | lit l => cases l <;> simp [Rows.uptoBulk]
    | _ => simp [Rows.uptoBulk]
  str := fun b => by simp [Rows.uptoBulk]
  slice := fun l r => by simp only [Rows.uptoBulk, sums]; omega
  agg := fun l => by simp only [Rows.uptoBulk, sums]; omega
theorem sh0 : Ev.shOf Tryz.prog 12 46 = some [(.i .u64), (.i .i64), (.i .i64), .s, (.i .u64), (.i .u64), (.i .i64), .s, (.i .u64), (.i .u64), (.i .i64), .s, (.i .u64), (.i .u64), (.i .u64), (.i .u64), (.i .u64), (.i .u64), (.i .u64), (.sl true 48 [(.i .u64), (.i .u64), (.i .u64), (.i .i64), .s]), (.i .u64), (.i .u64), (.i .u64), (.i .i64), .s, (.i .u64), (.i .u64), (.i .u64)] := by kernel_rfl
theorem ag0 : Ev.isAg Tryz.prog 46 = true := by kernel_rfl
set_option maxRecDepth 100000 in
theorem glOk {W : World} (hL : laidMetH Tryz.prog Rows.bundleLooksRow.laid W) : Ev.GlOk (Ev.G0 W) := by
  rw [MakeChecks.laidMetH_plain _ _ _ (by kernel_rfl)] at hL
  obtain ⟨ps, hL, _⟩ := hL
  obtain ⟨g0, t0, cs0, fuel0, p0, q0, hg0, ht0, hv0, hd0, hL, _⟩ := hL
  obtain rfl := Option.some.inj ((show Tryz.prog.globalNamed "unicode/utf8.acceptRanges" = some 1 by kernel_rfl).symm.trans hg0)
  obtain rfl := Option.some.inj ((show (Tryz.prog.globals[1]?).map (·.type) = some 163 by kernel_rfl).symm.trans ht0)
  have c0 : cs0.toList = Ev.acceptZ.map fun z : Nat => Value.int .u8 (z : Int) := by
    have := Ev.cells_of_pairs (H := Unit) (p := p0) (k := .u8) (ps := [(128, 191), (160, 191), (128, 159), (144, 191), (128, 143), (0, 0), (0, 0), (0, 0), (0, 0), (0, 0), (0, 0), (0, 0), (0, 0), (0, 0), (0, 0), (0, 0)]) Tryz.underlying163 Tryz.underlying162 (by kernel_rfl) Tryz.underlying5 (by kernel_rfl) (by kernel_rfl) (by kernel_rfl) (hd0.trans (by kernel_rfl))
    rw [this]; rfl
  obtain ⟨g1, t1, cs1, fuel1, p1, q1, hg1, ht1, hv1, hd1, hL, _⟩ := hL
  obtain rfl := Option.some.inj ((show Tryz.prog.globalNamed "unicode/utf8.first" = some 0 by kernel_rfl).symm.trans hg1)
  obtain rfl := Option.some.inj ((show (Tryz.prog.globals[0]?).map (·.type) = some 160 by kernel_rfl).symm.trans ht1)
  have c1 : cs1.toList = Go.Pinned.utf8FirstZ.map fun z : Nat => Value.int .u8 (z : Int) := by
    have := Lib.cells_of_tab (H := Unit) (p := p1) (k := .u8) (zs := Go.Pinned.utf8FirstZ.map fun z : Nat => (z : Int)) Tryz.underlying160 Tryz.underlying5 (by kernel_rfl) (by kernel_rfl) (hd1.trans (by kernel_rfl))
    rw [this, List.map_map]; rfl
  intro q hq
  unfold Ev.GL at hq
  simp only [List.mem_cons, List.not_mem_nil, or_false] at hq
  rcases hq with rfl | rfl
  · exact Ev.rel_tab (show Tryz.prog.globalNamed "unicode/utf8.first" = some 0 by kernel_rfl) hv1 c1
  · exact Ev.rel_tab (show Tryz.prog.globalNamed "unicode/utf8.acceptRanges" = some 1 by kernel_rfl) hv0 c0
noncomputable def laidWorld (os : Os) : World := World.laidAll Tryz.prog os Rows.bundleLooksRow.laid
theorem laid_met (os : Os) (args : Array Value) : laidMetH Tryz.prog Rows.bundleLooksRow.laid ((laidWorld os).forCall (fun _ _ => 0) ⟨#[], args, []⟩).memory := by
  rw [MakeChecks.laidMetH_plain _ _ _ (by kernel_rfl)]
  exact laidMet_laidAll _ (by kernel_rfl) (by kernel_rfl)
set_option maxRecDepth 100000 in
theorem witness_row (os : Os) {H : Type} (enc : TypeId × Value → H) :
    (OpenSpec.ofChange Rows.bundleLooksSpec).preRow enc Tryz.prog Tryz.f4 Rows.bundleLooksRow.domain false Rows.bundleLooksRow.laid ((laidWorld os).forCall (fun _ _ => 0) ⟨#[], #[.agg #[.int .u64 0, .int .i64 0, .int .i64 0, .string ByteArray.empty, .int .u64 0, .int .u64 0, .int .i64 0, .string ByteArray.empty, .int .u64 0, .int .u64 0, .int .i64 0, .string ByteArray.empty, .int .u64 0, .int .u64 0, .int .u64 0, .int .u64 0, .int .u64 0, .int .u64 0, .int .u64 0, .slice none 0 0, .int .u64 0, .int .u64 0, .int .u64 0, .int .i64 0, .string ByteArray.empty, .int .u64 0, .int .u64 0, .int .u64 0]], []⟩).memory #[.agg #[.int .u64 0, .int .i64 0, .int .i64 0, .string ByteArray.empty, .int .u64 0, .int .u64 0, .int .i64 0, .string ByteArray.empty, .int .u64 0, .int .u64 0, .int .i64 0, .string ByteArray.empty, .int .u64 0, .int .u64 0, .int .u64 0, .int .u64 0, .int .u64 0, .int .u64 0, .int .u64 0, .slice none 0 0, .int .u64 0, .int .u64 0, .int .u64 0, .int .i64 0, .string ByteArray.empty, .int .u64 0, .int .u64 0, .int .u64 0]] := by
  have hw : (DataW.whole enc Tryz.prog ((laidWorld os).forCall (fun _ _ => 0) ⟨#[], #[.agg #[.int .u64 0, .int .i64 0, .int .i64 0, .string ByteArray.empty, .int .u64 0, .int .u64 0, .int .i64 0, .string ByteArray.empty, .int .u64 0, .int .u64 0, .int .i64 0, .string ByteArray.empty, .int .u64 0, .int .u64 0, .int .u64 0, .int .u64 0, .int .u64 0, .int .u64 0, .int .u64 0, .slice none 0 0, .int .u64 0, .int .u64 0, .int .u64 0, .int .i64 0, .string ByteArray.empty, .int .u64 0, .int .u64 0, .int .u64 0]], []⟩).memory Tryz.f4.params.toList Rows.bundleLooksSpec.vars false (#[.agg #[.int .u64 0, .int .i64 0, .int .i64 0, .string ByteArray.empty, .int .u64 0, .int .u64 0, .int .i64 0, .string ByteArray.empty, .int .u64 0, .int .u64 0, .int .i64 0, .string ByteArray.empty, .int .u64 0, .int .u64 0, .int .u64 0, .int .u64 0, .int .u64 0, .int .u64 0, .int .u64 0, .slice none 0 0, .int .u64 0, .int .u64 0, .int .u64 0, .int .i64 0, .string ByteArray.empty, .int .u64 0, .int .u64 0, .int .u64 0]] : Array Value).toList 8).map (fun x => (x.1, x.2.1)) =
      some ([.agg [.agg [.agg [.lit (.int .u64 0), .lit (.int .i64 0), .agg [.lit (.int .i64 0), .lit (.string []), .lit (.int .u64 0), .lit (.int .u64 0)], .agg [.lit (.int .i64 0), .lit (.string []), .lit (.int .u64 0), .lit (.int .u64 0)], .agg [.lit (.int .i64 0), .lit (.string []), .lit (.int .u64 0), .lit (.int .u64 0)], .agg [.lit (.int .u64 0), .lit (.int .u64 0)], .lit (.int .u64 0), .lit (.int .u64 0), .lit (.int .u64 0)], .nil, .agg [.lit (.int .u64 0), .lit (.int .u64 0), .lit (.int .u64 0), .lit (.int .i64 0), .lit (.string [])]], .lit (.int .u64 0), .lit (.int .u64 0), .lit (.int .u64 0)]], []) := by kernel_rfl
  obtain ⟨⟨x1, x2, x3⟩, hx, hx1⟩ := Option.map_eq_some_iff.1 hw
  simp only [Prod.mk.injEq] at hx1
  obtain ⟨rfl, rfl⟩ := hx1
  exact OpenSpec.preRow_of_cond 8 hx (by kernel_rfl) (fun k hk => by cases hk) (by kernel_rfl) (laid_met os _)
set_option maxRecDepth 100000 in
theorem lifted (os : Os) (started : os.Started) (H : Type) (enc : TypeId × Value → H) (F : Stop.Interp) :
    ReturnsInHanded {} Tryz.checked os 4 .any ((OpenSpec.ofChange Rows.bundleLooksSpec).preRow enc Tryz.prog Tryz.f4 Rows.bundleLooksRow.domain false Rows.bundleLooksRow.laid) (((OpenSpec.ofChange Rows.bundleLooksSpec).at F).post enc Tryz.prog Tryz.f4 false true false false) := by
  refine returnsInHanded_of_row (C := Tryz.checked) (s := (OpenSpec.ofChange Rows.bundleLooksSpec)) own started (by kernel_rfl) Tryz.func4
    (witness_row_at (enc := enc) (C := Tryz.checked) false (laidWorld os) #[.agg #[.int .u64 0, .int .i64 0, .int .i64 0, .string ByteArray.empty, .int .u64 0, .int .u64 0, .int .i64 0, .string ByteArray.empty, .int .u64 0, .int .u64 0, .int .i64 0, .string ByteArray.empty, .int .u64 0, .int .u64 0, .int .u64 0, .int .u64 0, .int .u64 0, .int .u64 0, .int .u64 0, .slice none 0 0, .int .u64 0, .int .u64 0, .int .u64 0, .int .i64 0, .string ByteArray.empty, .int .u64 0, .int .u64 0, .int .u64 0]] (World.laidAll_os _ _ _) (by kernel_rfl) (by kernel_rfl) (by kernel_rfl) (witness_row os enc)) ?_
  intro W base args ds gs before hval0 hW _ hcond hsz0 hL _ _
  have hgl := glOk hL
  have hsz : (DataW.weightsEach Tryz.prog (Tryz.f4.params.toList ++ Rows.bundleLooksSpec.plain.varTypes Tryz.prog) (ds ++ gs)).all (· ≤ reachBytes) = true := hsz0
  have hval : ∀ (j : Nat) t v, Tryz.f4.params[j]? = some t → args[j]? = some v → Value.okWide Tryz.prog W .any base t v := hval0
  have hW' := hW
  obtain ⟨p, q, hA0, hV, rfl, hfz, hnd⟩ := hW
  have hA : DataW.TrodAll enc Tryz.prog W 0 (fun _ => true) true Tryz.f4.params.toList args.toList ds p := hA0
  rw [Tryz.params4] at hA hval hsz
  obtain ⟨v0, vs0, d0, ds0, p0, q0, hargs, rfl, rfl, h0, r0⟩ := trodAll_cons hA
  obtain ⟨rfl, rfl, rfl⟩ := trodAll_nil r0
  obtain rfl : args = #[v0] := by cases args; simp_all
  obtain ⟨rfl, rfl⟩ := trodVars_none hV
  have k0 := h0
  have lt0 : ∀ x ∈ p0, x.block < W.heap.size := by obtain ⟨m, hm⟩ := k0; exact DataW.trod_lt m _ _ _ hm
  obtain ⟨x0, e0, row0, one0, agg0, bk0⟩ := Ev.arg_rel bk (fun _ => rfl) hrs (hval 0 46 v0 rfl rfl) h0 sh0 (fun k hk => of_decide_eq_true (List.all_eq_true.1 hsz k (DataW.weights_mem_each (j := 0) rfl rfl k hk)))
  have ty0 : ∃ vs, x0 = .agg vs ∧ Ev.Row [(.i .u64), (.i .i64), (.i .i64), .s, (.i .u64), (.i .u64), (.i .i64), .s, (.i .u64), (.i .u64), (.i .i64), .s, (.i .u64), (.i .u64), (.i .u64), (.i .u64), (.i .u64), (.i .u64), (.i .u64), (.sl true 48 [(.i .u64), (.i .u64), (.i .u64), (.i .i64), .s]), (.i .u64), (.i .u64), (.i .u64), (.i .i64), .s, (.i .u64), (.i .u64), (.i .u64)] vs := by obtain ⟨vs, rfl⟩ := agg0 ag0; exact ⟨vs, rfl, row0⟩
  clear hA0 hval0 hsz0 hsz
  refine (Ev.law_calls tabOk Ev.t_law11_BundleLooks rfl (args := #[v0]) (vs := [x0]) (Ev.Rels.cons e0 Ev.Rels.nil) hgl (Ev.law_BundleLooks x0 ty0)).mono fun e W' ⟨he, bel⟩ => ?_
  subst he
  exact ⟨_, rfl, _, _, _, [], _, [], hW', trodAll_mk1 (shut_bool Tryz.underlying4 _), (trodAll_cons_mk (Below.trod laidOut (by kernel_rfl) (of_decide_eq_true (by kernel_rfl)) k0 bel lt0) trodAll_mk0), rfl, bel.frame _, fun h => by cases h⟩
theorem over : Rows.BundleLooksSaid :=
  OpenClaim.holds_of_cond 4 Tryz.f4 rfl rfl rfl rfl rfl rfl rfl ⟨rfl, rfl, rfl, rfl, rfl⟩ rfl rfl rfl rfl rfl (by kernel_rfl) Tryz.func4 (by kernel_rfl)
    (of_decide_eq_true (by kernel_rfl)) (by unfold Func.isWrapper; first | (rw [if_pos (by decide +kernel)]; kernel_rfl) | (rw [if_neg (by decide +kernel)]; exact ⟨rfl, rfl⟩))
    (fun os started H enc _ F => by rw [OpenClaim.pre_eq_preRow]; exact lifted os started H enc F)
theorem plain (f : FuncId) (fn : Func) (hf : Tryz.pinned.checked.prog.funcNamed "wagtail/wagtaillaw11.BundleLooks" = some f) (hfn : Tryz.pinned.checked.prog.funcs[f]? = some fn) :
    true = Tryz.pinned.checked.prog.looks [] ∧ ∀ (j : Nat) t, fn.params[j]? = some t → Tryz.pinned.checked.prog.wantsStandIn t = false := by
  obtain rfl : f = 4 := Option.some.inj ((show Tryz.prog.funcNamed "wagtail/wagtaillaw11.BundleLooks" = some 4 by kernel_rfl).symm.trans hf) |>.symm
  obtain rfl : fn = Tryz.f4 := (Option.some.inj (Tryz.func4.symm.trans hfn)).symm
  refine ⟨by kernel_rfl, fun j t ht => ?_⟩
  rw [Tryz.params4] at ht
  have hm : t ∈ (#[46] : Array Nat) := Array.mem_of_getElem? ht
  have all : (#[46] : Array Nat).all (fun t => !Tryz.prog.wantsStandIn t) = true := by kernel_rfl
  have := Array.all_eq_true_iff_forall_mem.1 all t hm
  show Tryz.prog.wantsStandIn t = false
  simpa using this
theorem proved : Rows.BundleLooksCardSaid :=
  Claim7.holds_tied_plain_at .later [] _ _ _ _ over (fun _ h => by cases h) (by kernel_rfl) (fun _ h => by cases h) bundleLooks_row_tie rfl ⟨rfl, rfl⟩ (by kernel_rfl) rfl plain (by kernel_rfl)
#print axioms proved
end Go.Proofs.YtienkohkbihdoaaGreatDoor.bundleLooks
namespace Go.Proofs.YtienkohkbihdoaaGreatDoor
/-- The row, under a short name, for the claim. -/
theorem bundleLooks_holds : Rows.BundleLooksCardSaid := bundleLooks.proved
end Go.Proofs.YtienkohkbihdoaaGreatDoor
