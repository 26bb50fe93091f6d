/- A station: a bundle. The reference of a station: what is wrong with a frame, which numbers there are, a bundle. The reference of a station: a bundle. What is missing, as pairs; frames as arguments; a station's awake. The law WholeTakes. Each theorem states its own conditions. -/
import Derived.Test.YtljndaefacbhfaaQCode
import Derived.Test.YtljndaefacbhfaaQUp7
set_option linter.all false
namespace Ev
open Go
set_option maxRecDepth 10000
attribute [-simp] getElem?_pos getElem?_neg
/-- A station's frames. -/
structure Sta (L : List Fm) : Prop where
  ok : LOk L
  nd : (L.map Fm.num).Nodup
  fit : ∀ f g, f ∈ L → g ∈ L → f.id = g.id → f.tot = g.tot ∧ firstF f = firstF g
theorem Sta.inj {L : List Fm} (st : Sta L) {f g : Fm} (hf : f ∈ L) (hg : g ∈ L) (e : f.num = g.num) : f = g := by
  obtain ⟨i, hi, rfl⟩ := List.getElem_of_mem hf
  obtain ⟨j, hj, rfl⟩ := List.getElem_of_mem hg
  have := (List.getElem_inj (h₀ := by simpa using hi) (h₁ := by simpa using hj) st.nd).1 (by simpa using e)
  subst this
  rfl
theorem findN_of {L : List Fm} (st : Sta L) {f : Fm} (hf : f ∈ L) : findN L f.num = some f := by
  cases h : findN L f.num with
  | none => exact absurd rfl (findN_none h f hf)
  | some g =>
    obtain ⟨h1, h2⟩ := findN_mem h
    rw [st.inj h1 hf h2]
def ofId (id : Int) (L : List Fm) : List Fm := L.filter fun f => f.id == id
theorem ofId_mem {id : Int} {L : List Fm} {f : Fm} : f ∈ ofId id L ↔ f ∈ L ∧ f.id = id := by simp [ofId]
theorem nodup_of_map {α β : Type} (f : α → β) : ∀ l : List α, (l.map f).Nodup → l.Nodup
  | [], _ => .nil
  | a :: l, h => by
    rw [List.map_cons, List.nodup_cons] at h
    exact List.nodup_cons.2 ⟨fun hm => h.1 (List.mem_map_of_mem hm), nodup_of_map f l h.2⟩
theorem Sta.one {L : List Fm} (st : Sta L) (id : Int) {f0 : Fm} (h0 : f0 ∈ ofId id L) : OneB (ofId id L) f0.tot.toNat where
  may := fun f hf => st.ok.may f (ofId_mem.1 hf).1
  tot := fun f hf => by
    have h1 := ofId_mem.1 hf
    have h2 := ofId_mem.1 h0
    have := (st.fit f f0 h1.1 h2.1 (by rw [h1.2, h2.2])).1
    have := mayF_off (st.ok.may f h1.1)
    omega
  off := fun f g hf hg e => by
    have h1 := ofId_mem.1 hf
    have h2 := ofId_mem.1 hg
    have h3 := (st.fit f g h1.1 h2.1 (by rw [h1.2, h2.2])).2
    have h4 := mayF_off (st.ok.may f h1.1)
    have h5 := mayF_off (st.ok.may g h2.1)
    have h6 := (st.ok.ok f h1.1).n0
    have h7 := (st.ok.ok g h2.1).n0
    refine st.inj h1.1 h2.1 ?_
    unfold firstF at h3
    rw [wrap_u64_def, wrap_u64_def, e] at h3
    omega
  nd := (nodup_of_map Fm.num _ st.nd).filter _
def totS (S : List Fm) : Int := match S.getLast? with | some f => f.tot | none => 0
theorem totS_snoc (S : List Fm) (f : Fm) : totS (S ++ [f]) = f.tot := by simp [totS]
def pick1 (L : List Fm) (id : Int) (ns : List Int) : List Fm := (ns.filterMap fun n => findN L n).filter fun f => f.id == id
theorem pick1_snoc {L : List Fm} {id : Int} {ns : List Int} {n : Int} {g : Fm} (h : findN L n = some g) : pick1 L id (ns ++ [n]) = if g.id = id then pick1 L id ns ++ [g] else pick1 L id ns := by
  unfold pick1
  rw [List.filterMap_append, List.filter_append]
  simp only [List.filterMap_cons, h, List.filterMap_nil, List.filter_cons, List.filter_nil, beq_iff_eq]
  split <;> simp
theorem bund_loop {h : Heap} {s m : Nat} {L : List Fm} (hS : SH h s m L) (st : Sta L) (id : Int) (ns : List Int) (hl : ns.length ≤ 40) (hns : ∀ n, n ∈ ns → ∃ g, findN L n = some g) : ∀ (k i : Nat) (J : Heap), i + k = ns.length → ∀ ks Q,
    (∀ J' e, Xk T ks (.x 0) ([(0, .ptr s 0), (1, .int .u64 id), (6, .int .i64 (totS (pick1 L id ns))), (7, .ps 1 (ints ((pick1 L id ns).map Fm.off))), (8, .ps 1 (byss ((pick1 L id ns).map Fm.dat)))] ++ e) (h ++ J') Q) →
    Xc T l_whole_Station_Bundle_0 ks [(0, .ptr s 0), (1, .int .u64 id), (6, .int .i64 (totS (pick1 L id (ns.take i)))), (7, .ps 1 (ints ((pick1 L id (ns.take i)).map Fm.off))), (8, .ps 1 (byss ((pick1 L id (ns.take i)).map Fm.dat))), (15, .ps 1 (u64L ns)), (16, .int .i64 ns.length), (17, .int .i64 i)] (h ++ J) Q := by
  intro k
  induction k with
  | zero =>
    intro i J hi ks Q hQ
    rw [L_whole_Station_Bundle_0]; unfold bl_whole_Station_Bundle_0
    have c : ¬ (i : Int) < ns.length := by omega
    simp (disch := omega) [c]
    have := hQ J [(15, .ps 1 (u64L ns)), (16, .int .i64 ns.length), (17, .int .i64 i), (18, .bool false)]
    rw [List.take_of_length_le (by omega)]
    simpa using this
  | succ k ih =>
    intro i J hi ks Q hQ
    rw [L_whole_Station_Bundle_0]; unfold bl_whole_Station_Bundle_0
    have c : (i : Int) < ns.length := by omega
    have hil : i < ns.length := by omega
    have gl : (u64L ns)[i]? = some (.int .u64 ns[i]) := by rw [u64L_get, List.getElem?_eq_getElem hil]; rfl
    obtain ⟨g, hg⟩ := hns ns[i] (List.getElem_mem hil)
    have hgm := (findN_mem hg).1
    have ht : ns.take (i + 1) = ns.take i ++ [ns[i]] := take_get ns i hil
    have hp := pick1_snoc (id := id) (ns := ns.take i) hg
    rw [← ht] at hp
    have hlen : (pick1 L id (ns.take i)).length ≤ 40 := by
      refine Nat.le_trans (List.length_filter_le _ _) (Nat.le_trans (List.length_filterMap_le _ _) ?_)
      simp; omega
    have r1 : ∀ J, (h ++ J).row s = some [.mp m] := fun J => pre_row hS.rs
    have r2 : ∀ J, (h ++ J).row m = some (kvL L) := fun J => pre_row hS.rm
    have lk := fun J => look_kv (r2 J) ns[i] (.agg [.int .u64 0, .int .u64 0, .int .i64 0, .int .i64 0, .str []]) false
    rw [hg] at lk
    simp only [Bool.false_eq_true, if_false] at lk
    have sp : spliceL [V.int .u64 0, .int .u64 0, .int .i64 0, .int .i64 0, .str []] 0 g.cs = g.cs := rfl
    have g1 : g.cs[1]? = some (.int .u64 g.id) := rfl
    have g2 : g.cs[2]? = some (.int .i64 g.off) := rfl
    have g3 : g.cs[3]? = some (.int .i64 g.tot) := rfl
    have g4 : g.cs[4]? = some (.str g.dat) := rfl
    generalize hx : ns[i] = x at *
    have ih' := fun J' => ih (i + 1) J' (by omega) ks Q hQ
    have b1 : ((pick1 L id (ns.take i)).length + 1) * 8 ≤ 140737488355328 := by omega
    have b2 : ((pick1 L id (ns.take i)).length + 1) * 24 ≤ 140737488355328 := by omega
    by_cases ci : g.id = id
    · rw [if_pos ci] at hp
      simp (disch := omega) [c, gl, r1, lk, Fm.v, Fm.one, Fm.len, sp, g1, g2, g3, g4, ci, ints_len, byss_len, b1, b2, sb_bys]
      have := ih' (J ++ [some g.cs])
      rw [hp, totS_snoc] at this
      simpa [ints, byss] using this
    · rw [if_neg ci] at hp
      simp (disch := omega) [c, gl, r1, lk, Fm.v, Fm.one, Fm.len, sp, g1, g2, g3, g4, ci]
      have := ih' (J ++ [some g.cs])
      rw [hp] at this
      simpa using this
theorem pick1_perm {L : List Fm} (st : Sta L) (id : Int) {ns : List Int} (hp : ns.Perm (L.map Fm.num)) : (pick1 L id ns).Perm (ofId id L) := by
  unfold pick1 ofId
  refine List.Perm.filter _ ?_
  have h1 := hp.filterMap fun n => findN L n
  refine h1.trans ?_
  rw [List.filterMap_map]
  have : ∀ l : List Fm, (∀ f, f ∈ l → f ∈ L) → l.filterMap ((fun n => findN L n) ∘ Fm.num) = l := by
    intro l
    induction l with
    | nil => intro _; rfl
    | cons f l ih =>
      intro hl
      rw [List.filterMap_cons]
      simp only [Function.comp, findN_of st (hl f List.mem_cons_self)]
      congr 1
      exact ih fun g hg => hl g (List.mem_cons_of_mem _ hg)
  rw [this L fun _ h => h]
/-- What a station tells of a bundle: nothing, or what its frames fill. -/
def BunS (L : List Fm) (id : Int) (b : List UInt8) (e : Int) : Prop :=
  (ofId id L = [] ∧ b = [] ∧ e = 8) ∨ (∃ f0, f0 ∈ ofId id L ∧ FillP f0.tot.toNat (wD (ofId id L)) b e)
theorem Bundle_run {h : Heap} {s m : Nat} {L : List Fm} (hS : SH h s m L) (st : Sta L) (id : Int) : ∃ b e J, BunS L id b e ∧ Run T f_whole_Station_Bundle [.ptr s 0, .int .u64 id] h (.tup [.ps 1 (bys b), .int .i64 e]) (h ++ J) := by
  have hL := st.ok
  have hll := hL.len
  have np := numsL_perm L 2147483648
  have nf : (L.map Fm.num).filter (fun x => decide (x < 2147483648)) = L.map Fm.num := List.filter_eq_self.2 fun x hx => by
    obtain ⟨f, hf, rfl⟩ := List.mem_map.1 hx
    have := (mayF_off (hL.may f hf)).2.2.2.2.1
    simpa using this
  rw [nf] at np
  have nl : (numsL L 2147483648).length ≤ 40 := by rw [np.length_eq]; simpa using hll
  have hr : ∃ v h', (∃ b e, BunS L id b e ∧ v = .tup [.ps 1 (bys b), .int .i64 e] ∧ ∃ J, h' = h ++ J) ∧ Run T f_whole_Station_Bundle [.ptr s 0, .int .u64 id] h v h' := by
    refine Run.startP t_whole_Station_Bundle ?_
    unfold k_whole_Station_Bundle
    simp (disch := omega)
    obtain ⟨J, nr⟩ := numbers_run hS hL 2147483648
    rw [Xf_run nr]
    simp (disch := omega) [u64L_len]
    have pp := pick1_perm st id np
    have lp := bund_loop hS st id (numsL L 2147483648) nl (fun n hn => by
      obtain ⟨f, hf, rfl⟩ := List.mem_map.1 (np.mem_iff.1 hn)
      exact ⟨f, findN_of st hf⟩) (numsL L 2147483648).length 0 J (by omega)
    rw [List.take_zero] at lp
    have e0 : pick1 L id [] = [] := rfl
    rw [e0] at lp
    simp only [totS, List.getLast?_nil, List.map_nil] at lp
    generalize numsL L 2147483648 = ns at *
    generalize hP : pick1 L id ns = S at *
    refine lp _ _ fun J' e => ?_
    cases hs : S.getLast? with
    | none =>
      have hsn : S = [] := List.getLast?_eq_none_iff.1 hs
      simp (disch := omega)
      refine ⟨[], .inl ⟨by rw [hsn] at pp; exact pp.nil_eq.symm, rfl, rfl⟩, rfl⟩
    | some f0 =>
      have hf0 : f0 ∈ S := List.mem_of_getLast? hs
      have hf1 : f0 ∈ ofId id L := pp.mem_iff.1 hf0
      have ok := st.one id hf1
      have okS := ok.perm pp
      have hm := mayF_off (ok.may f0 hf1)
      have hne : ¬ f0.tot = 0 := by omega
      have hsl : S.length ≤ 40 := by
        rw [pp.length_eq]
        exact Nat.le_trans (List.length_filter_le _ _) hll
      obtain ⟨u, h', hu, hrun⟩ := Fill_run f0.tot (S.map Fm.off) (S.map Fm.dat) (by simp; omega) (by simp; omega) (fun p hp => by
        obtain ⟨f, hf, rfl⟩ := List.mem_map.1 hp
        have := mayF_off (okS.may f hf)
        omega)
      obtain ⟨b, e2, rfl, hu⟩ := hu
      simp (disch := omega) [hne]
      rw [Xp_run hrun (by simp [ints_hfs, byss_hfs]) (by simp [bys_hfs]) (by simp)]
      simp (disch := omega)
      refine ⟨b, .inr ⟨f0, hf1, ?_⟩, rfl⟩
      rcases hu with ⟨k, _⟩ | ⟨_, _, ⟨k, _⟩ | ⟨_, ⟨⟨j, j1, j2, j3⟩, _⟩ | ⟨_, k⟩⟩⟩
      · omega
      · simp at k
      · exfalso
        simp at j1
        have hfj := okS.may S[j] (List.getElem_mem j1)
        have hft := okS.tot S[j] (List.getElem_mem j1)
        have := mayF_off hfj
        simp [fitS] at j3
        omega
      · refine FillP.congr k fun x => ?_
        rw [← wD_perm pp]
        have : zS (S.map Fm.off) (S.map Fm.dat) = S.map fun f => (f.off.toNat, f.dat) := by
          unfold zS
          rw [List.zip_map', List.map_map]
          rfl
        rw [this]
        rfl
  obtain ⟨v, h', ⟨b, e, hb, rfl, J, rfl⟩, r⟩ := hr
  exact ⟨b, e, J, hb, r⟩
def fms (L : List Fm) : List V := L.map Fm.v
theorem fms_len (L : List Fm) : (fms L).length = L.length := by simp [fms]
theorem fms_get (L : List Fm) (i : Nat) (h : i < L.length) : (fms L)[i]? = some (L[i].v) := by unfold fms; rw [List.getElem?_map, List.getElem?_eq_getElem h]; rfl
theorem fms_hfs (L : List Fm) : V.hfs (fms L) = true := hfs_map _ (fun f => by simp [Fm.v, Fm.cs]) _
theorem fms_app (L : List Fm) (f : Fm) : fms (L ++ [f]) = fms L ++ [f.v] := by simp [fms]
theorem RHas_loop (L : List Fm) (n : Int) (hl : L.length ≤ 40) (h : Heap) : ∀ (k i : Nat), i + k = L.length → ∀ ks Q,
    ((∀ f, f ∈ L.drop i → f.num ≠ n) → ∀ e, Xk T ks (.x 0) e h Q) → ((∃ f, f ∈ L.drop i ∧ f.num = n) → Xk T ks .r [(4, .bool true)] h Q) →
    Xc T l_ref46_Has_0 ks [(0, .ps 5 (fms L)), (1, .int .u64 n), (5, .int .i64 i)] h Q := by
  intro k
  induction k with
  | zero =>
    intro i hi ks Q h1 h2
    rw [L_ref46_Has_0]; unfold bl_ref46_Has_0
    have c : ¬ (i : Int) < L.length := by omega
    simp (disch := omega) [fms_len, c]
    exact h1 (by rw [List.drop_of_length_le (by omega)]; simp) _
  | succ k ih =>
    intro i hi ks Q h1 h2
    rw [L_ref46_Has_0]; unfold bl_ref46_Has_0
    have c : (i : Int) < L.length := by omega
    have hil : i < L.length := by omega
    have hd := List.drop_eq_getElem_cons hil
    have g0 : L[i].cs[0]? = some (.int .u64 L[i].num) := rfl
    by_cases cn : L[i].num = n
    · simp (disch := omega) [fms_len, c, fms_get L i hil, Fm.v, g0, cn]
      exact h2 ⟨L[i], by rw [hd]; exact List.mem_cons_self, cn⟩
    · simp (disch := omega) [fms_len, c, fms_get L i hil, Fm.v, g0, cn]
      have := ih (i + 1) (by omega) ks Q (fun k => h1 fun f hf => by
        rw [hd] at hf
        rcases List.mem_cons.1 hf with rfl | hf
        · exact cn
        · exact k f hf) (fun ⟨f, hf, e⟩ => h2 ⟨f, by rw [hd]; exact List.mem_cons_of_mem _ hf, e⟩)
      simpa using this
theorem RHas_run (L : List Fm) (n : Int) (hl : L.length ≤ 40) (h : Heap) : Run T f_ref46_Has [.ps 5 (fms L), .int .u64 n] h (.bool (decide (n ∈ L.map Fm.num))) h := by
  refine Run.start t_ref46_Has ?_
  unfold k_ref46_Has
  generalize hD : decide (n ∈ L.map Fm.num) = D
  simp (disch := omega)
  have := RHas_loop L n hl h L.length 0 (by omega)
  refine this _ _ (fun hn e => ?_) (fun ⟨f, hf, e⟩ => ?_)
  · have : ¬ n ∈ L.map Fm.num := fun hm => by
      obtain ⟨f, hf, e⟩ := List.mem_map.1 hm
      exact hn f (by simpa using hf) e
    rw [decide_eq_false this] at hD
    subst hD
    simp
  · have : n ∈ L.map Fm.num := List.mem_map.2 ⟨f, by simpa using hf, e⟩
    rw [decide_eq_true this] at hD
    subst hD
    simp
theorem RTake_loop0 (L : List Fm) (f : Fm) (hl : L.length ≤ 40) (h : Heap) (b : Nat) (hb : h.row b = some f.cs) (v0 : V) : ∀ (k i : Nat), i + k = L.length → ∀ ks Q,
    (findN (L.drop i) f.num = none → ∀ e, Xk T ks (.x 0) ([(0, .ps 5 (fms L)), (3, .ptr b 0)] ++ e) h Q) → (∀ g, findN (L.drop i) f.num = some g → Xk T ks .r [(4, .int .i64 (if g = f then 15 else 6))] h Q) →
    Xc T l_ref46_Take_0 ks [(0, .ps 5 (fms L)), (3, .ptr b 0), (5, .int .i64 i)] h Q := by
  intro k
  induction k with
  | zero =>
    intro i hi ks Q h1 h2
    rw [L_ref46_Take_0]; unfold bl_ref46_Take_0
    have c : ¬ (i : Int) < L.length := by omega
    simp (disch := omega) [fms_len, c]
    have := h1 (by rw [List.drop_of_length_le (by omega)]; rfl) [(5, .int .i64 i), (14, .bool false)]
    simpa using this
  | succ k ih =>
    intro i hi ks Q h1 h2
    rw [L_ref46_Take_0]; unfold bl_ref46_Take_0
    have c : (i : Int) < L.length := by omega
    have hil : i < L.length := by omega
    have hd := List.drop_eq_getElem_cons hil
    have g0 : ∀ g : Fm, g.cs[0]? = some (.int .u64 g.num) := fun _ => rfl
    have gt : ∀ g : Fm, List.take 5 g.cs = g.cs := fun _ => rfl
    have gl : ∀ g : Fm, g.cs.length = 5 := fun _ => rfl
    generalize hg : L[i] = g at hd
    have fg := fms_get L i hil
    rw [hg] at fg
    by_cases cn : g.num = f.num
    · have hf : findN (L.drop i) f.num = some g := by rw [hd]; simp [findN, cn]
      have h2 := h2 g hf
      by_cases ce : g = f
      · rw [if_pos ce] at h2
        simp (disch := omega) [fms_len, c, fg, Fm.v, g0, gt, gl, cn, hb, ce, Fm.eqv, -eq_fcons]
        exact h2
      · rw [if_neg ce] at h2
        simp (disch := omega) [fms_len, c, fg, Fm.v, g0, gt, gl, cn, hb, ce, Fm.eqv, -eq_fcons]
        exact h2
    · have hf : findN (L.drop i) f.num = findN (L.drop (i + 1)) f.num := by rw [hd]; simp [findN, cn]
      simp (disch := omega) [fms_len, c, fg, Fm.v, g0, gt, gl, cn, hb, Fm.eqv, -eq_fcons]
      have := ih (i + 1) (by omega) ks Q (fun k => h1 (by rw [hf]; exact k)) (fun g k => h2 g (by rw [hf]; exact k))
      simpa using this
theorem quo100 (o : Int) (h0 : 0 ≤ o) (h1 : o < 9223372036854775808) : IntKind.u64.wrap (IntKind.i64.wrap (o.tdiv 100)) = o / 100 := by
  rw [tdiv100 o h0, wrap_i64 (by omega) (by omega), wrap_u64 (by omega) (by omega)]
theorem RTake_loop1 (L : List Fm) (f : Fm) (hl : L.length ≤ 40) (hL : ∀ g, g ∈ L → mayF g = true) (hm : mayF f = true) (h : Heap) (b : Nat) : ∀ (k i : Nat) (J : Heap), i + k = L.length → (h ++ J).row b = some f.cs → ∀ ks Q,
    ((∀ g, g ∈ L.drop i → fits1 f g = true) → ∀ e J', Xk T ks (.x 2) e (h ++ J') Q) → ((∃ g, g ∈ L.drop i ∧ fits1 f g = false) → ∀ J', Xk T ks .r [(4, .int .i64 6)] (h ++ J') Q) →
    Xc T l_ref46_Take_1 ks [(0, .ps 5 (fms L)), (3, .ptr b 0), (6, .int .i64 i)] (h ++ J) Q := by
  intro k
  induction k with
  | zero =>
    intro i J hi hb ks Q h1 h2
    rw [L_ref46_Take_1]; unfold bl_ref46_Take_1
    have c : ¬ (i : Int) < L.length := by omega
    simp (disch := omega) [fms_len, c]
    exact h1 (by rw [List.drop_of_length_le (by omega)]; simp) _ _
  | succ k ih =>
    intro i J hi hb ks Q h1 h2
    rw [L_ref46_Take_1]; unfold bl_ref46_Take_1
    have c : (i : Int) < L.length := by omega
    have hil : i < L.length := by omega
    have hd := List.drop_eq_getElem_cons hil
    have hbl := row_lt hb
    have hgm := hL L[i] (List.getElem_mem hil)
    generalize hg : L[i] = g at hd hgm
    have fg := fms_get L i hil
    rw [hg] at fg
    have o1 := mayF_off hm
    have o2 := mayF_off hgm
    have gl : ∀ g : Fm, g.cs.length = 5 := fun _ => rfl
    have gt : ∀ g : Fm, List.take 5 g.cs = g.cs := fun _ => rfl
    have sp : spliceL [V.int .u64 0, .int .u64 0, .int .i64 0, .int .i64 0, .str []] 0 g.cs = g.cs := rfl
    have a1 : ∀ g : Fm, g.cs[1]? = some (.int .u64 g.id) := fun _ => rfl
    have a2 : ∀ g : Fm, g.cs[2]? = some (.int .i64 g.off) := fun _ => rfl
    have a3 : ∀ g : Fm, g.cs[3]? = some (.int .i64 g.tot) := fun _ => rfl
    have a0 : ∀ g : Fm, g.cs[0]? = some (.int .u64 g.num) := fun _ => rfl
    have hb2 : ∀ K, (h ++ (J ++ K)).row b = some f.cs := fun K => by rw [← List.append_assoc]; exact pre_row hb
    have hb3 : ∀ K, (h ++ J ++ K).row b = some f.cs := fun K => pre_row hb
    have hfit : fits1 f g = !(g.id == f.id && (!(g.tot == f.tot) || !(firstF g == firstF f))) := rfl
    have q1 := quo100 g.off (by omega) (by omega)
    have q2 := quo100 f.off (by omega) (by omega)
    have f1 : IntKind.u64.wrap (g.num - g.off / 100) = firstF g := rfl
    have f2 : IntKind.u64.wrap (f.num - f.off / 100) = firstF f := rfl
    have good : fits1 f g = true → ∀ J', (h ++ J').row b = some f.cs → Xc T l_ref46_Take_1 ks [(0, .ps 5 (fms L)), (3, .ptr b 0), (6, .int .i64 (i + 1))] (h ++ J') Q := fun hf J' hJ => by
      have := ih (i + 1) J' (by omega) hJ ks Q (fun k => h1 fun x hx => by
        rw [hd] at hx
        rcases List.mem_cons.1 hx with rfl | hx
        · exact hf
        · exact k x hx) (fun ⟨x, hx, e⟩ => h2 ⟨x, by rw [hd]; exact List.mem_cons_of_mem _ hx, e⟩)
      simpa using this
    have bad : fits1 f g = false → ∀ J', Xk T ks .r [(4, .int .i64 6)] (h ++ J') Q := fun hf => h2 ⟨g, by rw [hd]; exact List.mem_cons_self, hf⟩
    generalize fits1 f g = X at hfit good bad
    by_cases c1 : g.id = f.id
    · by_cases c2 : g.tot = f.tot
      · by_cases c3 : firstF g = firstF f
        · have hx : X = true := by rw [hfit]; simp [c1, c2, c3]
          simp (disch := omega) [fms_len, c, fg, Fm.v, a0, a1, a2, a3, gl, gt, sp, Fm.one, hb2, hb3, c1, c2, c3, q1, q2, f1, f2]
          exact good hx _ (hb2 _)
        · have hx : X = false := by rw [hfit]; simp [c1, c2, c3]
          simp (disch := omega) [fms_len, c, fg, Fm.v, a0, a1, a2, a3, gl, gt, sp, Fm.one, hb2, hb3, c1, c2, c3, q1, q2, f1, f2]
          exact bad hx _
      · have hx : X = false := by rw [hfit]; simp [c1, c2]
        simp (disch := omega) [fms_len, c, fg, Fm.v, a0, a1, a2, a3, gl, gt, sp, Fm.one, hb2, hb3, c1, c2]
        exact bad hx _
    · have hx : X = true := by rw [hfit]; simp [c1]
      simp (disch := omega) [fms_len, c, fg, Fm.v, a0, a1, a2, a3, gl, gt, sp, Fm.one, hb2, hb3, c1]
      exact good hx _ (hb2 _)
theorem RTake_run (L : List Fm) (f : Fm) (hL : LOk L) (hf : f.ok) (h : Heap) : ∃ h', Run T f_ref46_Take [.ps 5 (fms L), f.v] h (.int .i64 (takeE L f)) h' := by
  have hl := hL.len
  refine Run.startE t_ref46_Take ?_
  unfold k_ref46_Take
  have mp := fun {ks : List Kt} {ops : List AOpr} {K : Kp} {e : Env} {h : Heap} {Q : Ex → Env → Heap → Prop} {d : Nat} => RMay_p (ks := ks) (ops := ops) (K := K) (e := e) (h := h) (Q := Q) (d := d) (lent := false) f hf
  simp only [Fm.v] at mp
  have gt : ∀ g : Fm, List.take 5 g.cs = g.cs := fun _ => rfl
  have gl : ∀ g : Fm, g.cs.length = 5 := fun _ => rfl
  cases cm : mayF f with
  | false =>
    have te : takeE L f = 3 := by unfold takeE; rw [cm]; rfl
    rw [cm] at mp
    simp (disch := omega) [Fm.v, Fm.one, gt, gl, mp, te]
  | true =>
    rw [cm] at mp
    simp (disch := omega) [Fm.v, Fm.one, gt, gl, mp]
    have hb : (h ++ [some f.cs]).row h.length = some f.cs := row_new
    refine RTake_loop0 L f hl (h ++ [some f.cs]) h.length hb .nilp L.length 0 (by omega) _ _ (fun hn e => ?_) (fun g hg => ?_)
    · have hn : findN L f.num = none := by simpa using hn
      simp (disch := omega)
      have := RTake_loop1 L f hl hL.may cm h h.length L.length 0 [some f.cs] (by omega) hb
      refine this _ _ (fun ha e J' => ?_) (fun ⟨g, hg, hx⟩ J' => ?_)
      · have te : takeE L f = 0 := by
          unfold takeE
          rw [cm, hn]
          have : fitsB L f = true := List.all_eq_true.2 fun g hg => ha g (by simpa using hg)
          simp [this]
        simp (disch := omega) [te]
      · have te : takeE L f = 6 := by
          unfold takeE
          rw [cm, hn]
          have : fitsB L f = false := by
            rw [Bool.eq_false_iff]
            intro e
            have := List.all_eq_true.1 e g (by simpa using hg)
            rw [hx] at this
            cases this
          simp [this]
        simp (disch := omega) [te]
    · have hg : findN L f.num = some g := by simpa using hg
      have te : takeE L f = if g = f then 15 else 6 := by
        unfold takeE
        rw [cm, hg]
        simp
      simp (disch := omega) [te]
theorem Sta.take {L : List Fm} (st : Sta L) {f : Fm} (hf : f.ok) (h : takeE L f = 0) (hl : L.length < 40) : Sta (L ++ [f]) := by
  unfold takeE at h
  split at h
  · rename_i cm
    cases hn : findN L f.num with
    | some g =>
      rw [hn] at h
      simp at h
      split at h <;> cases h
    | none =>
      rw [hn] at h
      simp at h
      have hfit : ∀ g, g ∈ L → g.id = f.id → g.tot = f.tot ∧ firstF g = firstF f := fun g hg e => by
        have := List.all_eq_true.1 h g hg
        simp [fits1, e] at this
        exact this
      have hnum := findN_none hn
      refine ⟨⟨fun g hg => ?_, fun g hg => ?_, by simp; omega⟩, ?_, fun g k hg hk e => ?_⟩
      · rcases List.mem_append.1 hg with hg | hg
        · exact st.ok.ok g hg
        · simp at hg; subst hg; exact hf
      · rcases List.mem_append.1 hg with hg | hg
        · exact st.ok.may g hg
        · simp at hg; subst hg; exact cm
      · rw [List.map_append, List.nodup_append]
        refine ⟨st.nd, by simp, fun a ha b hb => ?_⟩
        simp at hb
        subst hb
        obtain ⟨g, hg, rfl⟩ := List.mem_map.1 ha
        exact hnum g hg
      · rcases List.mem_append.1 hg with hg1 | hg1
        · rcases List.mem_append.1 hk with hk1 | hk1
          · exact st.fit g k hg1 hk1 e
          · rw [List.mem_singleton.1 hk1] at e ⊢
            exact hfit g hg1 e
        · rw [List.mem_singleton.1 hg1] at e ⊢
          rcases List.mem_append.1 hk with hk1 | hk1
          · have := hfit k hk1 e.symm
            exact ⟨this.1.symm, this.2.symm⟩
          · rw [List.mem_singleton.1 hk1]; exact ⟨rfl, rfl⟩
  · cases h
theorem ofId_snoc (id : Int) (l : List Fm) (g : Fm) : ofId id (l ++ [g]) = if g.id = id then ofId id l ++ [g] else ofId id l := by
  unfold ofId
  rw [List.filter_append, List.filter_cons, List.filter_nil]
  simp only [beq_iff_eq]
  split <;> simp
theorem RB_loop0 (L : List Fm) (id : Int) (hl : L.length ≤ 40) (h : Heap) (v7 v8 : V) : ∀ (k i : Nat), i + k = L.length → ∀ ks Q,
    (∀ e, Xk T ks (.x 0) ([(0, .ps 5 (fms L)), (1, .int .u64 id), (6, .int .i64 (totS (ofId id L))), (7, v7), (8, v8)] ++ e) h Q) →
    Xc T l_ref46_Bundle_0 ks [(0, .ps 5 (fms L)), (1, .int .u64 id), (6, .int .i64 (totS (ofId id (L.take i)))), (7, v7), (8, v8), (9, .int .i64 i)] h Q := by
  intro k
  induction k with
  | zero =>
    intro i hi ks Q hQ
    rw [L_ref46_Bundle_0]; unfold bl_ref46_Bundle_0
    have c : ¬ (i : Int) < L.length := by omega
    simp (disch := omega) [fms_len, c]
    have := hQ [(9, .int .i64 i), (15, .bool false)]
    rw [List.take_of_length_le (by omega)]
    simpa using this
  | succ k ih =>
    intro i hi ks Q hQ
    rw [L_ref46_Bundle_0]; unfold bl_ref46_Bundle_0
    have c : (i : Int) < L.length := by omega
    have hil : i < L.length := by omega
    have ht := take_get L i hil
    have hs := ofId_snoc id (L.take i) L[i]
    rw [← ht] at hs
    have fg := fms_get L i hil
    have ih' := ih (i + 1) (by omega) ks Q hQ
    generalize L[i] = g at *
    have a1 : g.cs[1]? = some (.int .u64 g.id) := rfl
    have a3 : g.cs[3]? = some (.int .i64 g.tot) := rfl
    by_cases ci : g.id = id
    · rw [if_pos ci] at hs
      rw [hs, totS_snoc] at ih'
      simp (disch := omega) [fms_len, c, fg, Fm.v, a1, a3, ci]
      simpa using ih'
    · rw [if_neg ci] at hs
      rw [hs] at ih'
      simp (disch := omega) [fms_len, c, fg, Fm.v, a1, a3, ci]
      simpa using ih'
theorem flat_le (S : List Fm) (h : ∀ f, f ∈ S → mayF f = true) : (S.flatMap Fm.dat).length ≤ 100 * S.length := by
  induction S with
  | nil => simp
  | cons f S ih =>
    have h1 := mayF_off (h f List.mem_cons_self)
    have h2 := ih fun g hg => h g (List.mem_cons_of_mem _ hg)
    simp only [List.flatMap_cons, List.length_append, List.length_cons]
    omega
theorem chunkD_le (D : List Fm) (j : Nat) (h : ∀ f, f ∈ D → mayF f = true) : (chunkD D j).length ≤ 100 * D.length :=
  Nat.le_trans (flat_le _ fun f hf => h f (List.mem_filter.1 hf).1) (Nat.mul_le_mul_left _ (List.length_filter_le _ _))
theorem chunkD_snoc (D : List Fm) (g : Fm) (j : Nat) : chunkD (D ++ [g]) j = if g.off = 100 * (j : Int) then chunkD D j ++ g.dat else chunkD D j := by
  unfold chunkD
  rw [List.filter_append, List.filter_cons, List.filter_nil]
  simp only [beq_iff_eq]
  split <;> simp
theorem RB_loop1 (L : List Fm) (id : Int) (hl : L.length ≤ 40) (hL : ∀ f, f ∈ L → mayF f = true) (h : Heap) (v6 : V) (s0 : List UInt8) (hs0 : s0.length ≤ 1000000) (j : Nat) (hj : j ≤ 1000000) : ∀ (k i : Nat), i + k = L.length → ∀ ks Q,
    (∀ e, Xk T ks (.x 4) ([(0, .ps 5 (fms L)), (1, .int .u64 id), (6, v6), (7, .int .i64 (s0 ++ chunkD (ofId id L) j).length), (8, .str (s0 ++ chunkD (ofId id L) j)), (10, .int .i64 (100 * j))] ++ e) h Q) →
    Xc T l_ref46_Bundle_1 ks [(0, .ps 5 (fms L)), (1, .int .u64 id), (6, v6), (7, .int .i64 (s0 ++ chunkD (ofId id (L.take i)) j).length), (8, .str (s0 ++ chunkD (ofId id (L.take i)) j)), (10, .int .i64 (100 * j)), (11, .int .i64 i)] h Q := by
  intro k
  induction k with
  | zero =>
    intro i hi ks Q hQ
    rw [L_ref46_Bundle_1]; unfold bl_ref46_Bundle_1
    have c : ¬ (i : Int) < L.length := by omega
    rw [List.take_of_length_le (by omega)]
    have := hQ [(11, .int .i64 i), (40, .bool false)]
    generalize s0 ++ chunkD (ofId id L) j = S at *
    simp (disch := omega) [fms_len, c]
    simpa using this
  | succ k ih =>
    intro i hi ks Q hQ
    rw [L_ref46_Bundle_1]; unfold bl_ref46_Bundle_1
    have c : (i : Int) < L.length := by omega
    have hil : i < L.length := by omega
    have ht := take_get L i hil
    have hs := ofId_snoc id (L.take i) L[i]
    rw [← ht] at hs
    have fg := fms_get L i hil
    have hgm := hL L[i] (List.getElem_mem hil)
    have ih' := ih (i + 1) (by omega) ks Q hQ
    have hb : (chunkD (ofId id (L.take i)) j).length ≤ 4000 := by
      refine Nat.le_trans (chunkD_le _ j fun f hf => hL f (List.mem_of_mem_take (ofId_mem.1 hf).1)) ?_
      have : (ofId id (L.take i)).length ≤ (L.take i).length := List.length_filter_le _ _
      simp at this
      omega
    generalize L[i] = g at *
    have o1 := mayF_off hgm
    have a1 : g.cs[1]? = some (.int .u64 g.id) := rfl
    have a2 : g.cs[2]? = some (.int .i64 g.off) := rfl
    have a4 : g.cs[4]? = some (.str g.dat) := rfl
    by_cases ci : g.id = id
    · rw [if_pos ci] at hs
      rw [hs, chunkD_snoc] at ih'
      by_cases co : g.off = 100 * (j : Int)
      · rw [if_pos co, ← List.append_assoc] at ih'
        have hS : (s0 ++ chunkD (ofId id (L.take i)) j).length ≤ 1004000 := by simp; omega
        generalize s0 ++ chunkD (ofId id (L.take i)) j = S at *
        simp (disch := omega) [fms_len, c, fg, Fm.v, a1, a2, a4, ci, co]
        simpa using ih'
      · rw [if_neg co] at ih'
        generalize s0 ++ chunkD (ofId id (L.take i)) j = S at *
        simp (disch := omega) [fms_len, c, fg, Fm.v, a1, a2, a4, ci, co]
        simpa using ih'
    · rw [if_neg ci] at hs
      rw [hs] at ih'
      generalize s0 ++ chunkD (ofId id (L.take i)) j = S at *
      simp (disch := omega) [fms_len, c, fg, Fm.v, a1, a2, a4, ci]
      simpa using ih'
theorem RB_loop2 (L : List Fm) (id : Int) (hl : L.length ≤ 40) (hL : ∀ f, f ∈ L → mayF f = true) (n : Nat) (hn : n ≤ 3192) (ok : OneB (ofId id L) n) (h : Heap) : ∀ (m j : Nat), n ≤ 100 * j + m → 100 * j < n + 100 → ∀ ks Q,
    (∀ k e, 100 * k < n + 100 → n ≤ 100 * k → Xk T ks (.x 2) ([(0, .ps 5 (fms L)), (1, .int .u64 id), (6, .int .i64 n), (7, .int .i64 (preD (ofId id L) k).length), (8, .str (preD (ofId id L) k))] ++ e) h Q) →
    Xc T l_ref46_Bundle_2 ks [(0, .ps 5 (fms L)), (1, .int .u64 id), (6, .int .i64 n), (7, .int .i64 (preD (ofId id L) j).length), (8, .str (preD (ofId id L) j)), (10, .int .i64 (100 * j))] h Q := by
  intro m
  induction m with
  | zero =>
    intro j hj hj2 ks Q hQ
    rw [L_ref46_Bundle_2]; unfold bl_ref46_Bundle_2
    have c : ¬ (100 * (j : Int)) < n := by omega
    have := hQ j [(10, .int .i64 (100 * j)), (34, .bool false)] (by omega) (by omega)
    generalize preD (ofId id L) j = S at *
    simp (disch := omega) [c]
    simpa using this
  | succ m ih =>
    intro j hj hj2 ks Q hQ
    rw [L_ref46_Bundle_2]; unfold bl_ref46_Bundle_2
    by_cases c : (100 * (j : Int)) < n
    · have hle := preD_le ok j hj2
      have lp := RB_loop1 L id hl hL h (.int .i64 n) (preD (ofId id L) j) (by omega) j (by omega) L.length 0 (by omega)
      rw [List.take_zero] at lp
      have e0 : chunkD (ofId id []) j = [] := rfl
      rw [e0, List.append_nil] at lp
      have ih' := ih (j + 1) (by omega) (by omega) ks Q hQ
      have e1 : preD (ofId id L) j ++ chunkD (ofId id L) j = preD (ofId id L) (j + 1) := rfl
      rw [e1] at lp
      generalize preD (ofId id L) j = S at *
      generalize preD (ofId id L) (j + 1) = S' at *
      simp (disch := omega) [c]
      refine lp _ _ fun e => ?_
      simp (disch := omega)
      rw [show ((100 * ((j + 1 : Nat) : Int))) = 100 * j + 100 by omega] at ih'
      simpa using ih'
    · have := hQ j [(10, .int .i64 (100 * j)), (34, .bool false)] (by omega) (by omega)
      generalize preD (ofId id L) j = S at *
      simp (disch := omega) [c]
      simpa using this
theorem RBundle_run {L : List Fm} (st : Sta L) (id : Int) (h : Heap) : ∃ b e, BunS L id b e ∧ Run T f_ref46_Bundle [.ps 5 (fms L), .int .u64 id] h (.tup [.str b, .int .i64 e]) h := by
  have hL := st.ok
  have hll := hL.len
  have hr : ∃ v h', (∃ b e, BunS L id b e ∧ v = .tup [.str b, .int .i64 e] ∧ h' = h) ∧ Run T f_ref46_Bundle [.ps 5 (fms L), .int .u64 id] h v h' := by
    refine Run.startP t_ref46_Bundle ?_
    unfold k_ref46_Bundle
    simp (disch := omega)
    have lp := RB_loop0 L id hll h (.int .i64 0) (.str []) L.length 0 (by omega)
    rw [List.take_zero] at lp
    refine lp _ _ fun e => ?_
    cases hs : (ofId id L).getLast? with
    | none =>
      have hsn : ofId id L = [] := List.getLast?_eq_none_iff.1 hs
      simp (disch := omega) [totS, hs]
      exact .inl ⟨hsn, rfl, rfl⟩
    | some f0 =>
      have hf0 : f0 ∈ ofId id L := List.mem_of_getLast? hs
      have ok := st.one id hf0
      have hm := mayF_off (ok.may f0 hf0)
      have hne : ¬ f0.tot = 0 := by omega
      have ht : totS (ofId id L) = f0.tot := by simp [totS, hs]
      rw [ht]
      obtain ⟨n, hn⟩ : ∃ n : Nat, f0.tot = n := ⟨f0.tot.toNat, by omega⟩
      rw [hn] at ok hne ⊢
      simp only [Int.toNat_natCast] at ok
      have l2 := RB_loop2 L id hll hL.may n (by omega) ok h n 0 (by omega) (by omega)
      have e0 : preD (ofId id L) 0 = [] := rfl
      rw [e0] at l2
      have hne' : ¬ n = 0 := by omega
      simp (disch := omega) [hne']
      refine l2 _ _ fun k e hk1 hk2 => ?_
      have hf := bndl_fill ok hk1 hk2
      have hlen := preD_le ok k hk1
      unfold bndl at hf
      generalize preD (ofId id L) k = S at *
      by_cases c : S.length = n
      · rw [if_pos c] at hf
        have c' : ((S.length : Int) = n) := by omega
        simp (disch := omega) [c']
        exact .inr ⟨f0, hf0, by rw [hn]; exact hf⟩
      · rw [if_neg c] at hf
        have c' : ¬ ((S.length : Int) = n) := by omega
        simp (disch := omega) [c', c]
        exact .inr ⟨f0, hf0, by rw [hn]; exact hf⟩
  obtain ⟨v, h', ⟨b, e, hb, rfl, rfl⟩, r⟩ := hr
  exact ⟨b, e, hb, r⟩
theorem BunS.det {L : List Fm} {id : Int} (st : Sta L) {b c : List UInt8} {e f : Int} (h : BunS L id b e) (k : BunS L id c f) : b = c ∧ e = f := by
  rcases h with ⟨h1, rfl, rfl⟩ | ⟨f0, h1, h2⟩
  · rcases k with ⟨_, rfl, rfl⟩ | ⟨g0, k1, _⟩
    · exact ⟨rfl, rfl⟩
    · rw [h1] at k1; cases k1
  · rcases k with ⟨k1, _⟩ | ⟨g0, k1, k2⟩
    · rw [k1] at h1; cases h1
    · have e1 := ofId_mem.1 h1
      have e2 := ofId_mem.1 k1
      have := (st.fit f0 g0 e1.1 e2.1 (by rw [e1.2, e2.2])).1
      rw [this] at h2
      exact h2.det k2
theorem missL_mem : ∀ (ns : List Int) (a m : Int), ns.Pairwise (· < ·) → (∀ n, n ∈ ns → a ≤ n ∧ n < m) → ∀ p, p ∈ missL a ns m → a ≤ p.lo ∧ p.lo ≤ p.hi ∧ p.hi < m
  | [], a, m, _, _, p, hp => by
    simp only [missL] at hp
    split at hp
    · simp at hp; subst hp; simp; omega
    · cases hp
  | n :: ns, a, m, hs, hn, p, hp => by
    rw [List.pairwise_cons] at hs
    have hn0 := hn n List.mem_cons_self
    simp only [missL, List.mem_append] at hp
    rcases hp with hp | hp
    · split at hp
      · simp at hp; subst hp; simp; omega
      · cases hp
    · have := missL_mem ns (n + 1) m hs.2 (fun k hk => ⟨by have := hs.1 k hk; omega, (hn k (List.mem_cons_of_mem _ hk)).2⟩) p hp
      omega
theorem missL_in : ∀ (ns : List Int) (a m : Int), ns.Pairwise (· < ·) → (∀ n, n ∈ ns → a ≤ n ∧ n < m) → ∀ x, inP (missL a ns m) x = (decide (a ≤ x) && decide (x < m) && !decide (x ∈ ns))
  | [], a, m, _, _, x => by
    simp only [missL]
    split
    · rw [Bool.eq_iff_iff]
      simp [inP]
      omega
    · rw [Bool.eq_iff_iff]
      simp [inP]
      omega
  | n :: ns, a, m, hs, hn, x => by
    rw [List.pairwise_cons] at hs
    have hn0 := hn n List.mem_cons_self
    have ih := missL_in ns (n + 1) m hs.2 (fun k hk => ⟨by have := hs.1 k hk; omega, (hn k (List.mem_cons_of_mem _ hk)).2⟩) x
    have happ : ∀ A B : List Pr, inP (A ++ B) x = (inP A x || inP B x) := fun A B => by simp [inP]
    simp only [missL, happ, ih]
    have hx : x ≤ n → x ∉ ns := fun h hm => by
      have := hs.1 x hm
      omega
    split
    · rw [Bool.eq_iff_iff]
      simp [inP]
      constructor
      · rintro (h | ⟨⟨h1, h2⟩, h3⟩)
        · exact ⟨⟨by omega, by omega⟩, by omega, hx (by omega)⟩
        · exact ⟨⟨by omega, h2⟩, by omega, h3⟩
      · rintro ⟨⟨h1, h2⟩, h3, h4⟩
        by_cases c : x < n
        · left; omega
        · right; exact ⟨⟨by omega, h2⟩, h4⟩
    · rw [Bool.eq_iff_iff]
      simp [inP]
      constructor
      · rintro ⟨⟨h1, h2⟩, h3⟩
        exact ⟨⟨by omega, h2⟩, by omega, h3⟩
      · rintro ⟨⟨h1, h2⟩, h3, h4⟩
        exact ⟨⟨by omega, h2⟩, h4⟩
theorem missL_apart : ∀ (ns : List Int) (a m : Int), ns.Pairwise (· < ·) → (∀ n, n ∈ ns → a ≤ n ∧ n < m) → (missL a ns m).Pairwise fun q p => q.hi + 2 ≤ p.lo
  | [], a, m, _, _ => by
    simp only [missL]
    split <;> simp
  | n :: ns, a, m, hs, hn => by
    rw [List.pairwise_cons] at hs
    have hn' : ∀ k, k ∈ ns → n + 1 ≤ k ∧ k < m := fun k hk => ⟨by have := hs.1 k hk; omega, (hn k (List.mem_cons_of_mem _ hk)).2⟩
    have ih := missL_apart ns (n + 1) m hs.2 hn'
    have hm := missL_mem ns (n + 1) m hs.2 hn'
    simp only [missL]
    split
    · rw [List.cons_append, List.nil_append, List.pairwise_cons]
      refine ⟨fun p hp => ?_, ih⟩
      have := hm p hp
      simp only
      omega
    · exact ih
theorem missL_len : ∀ (ns : List Int) (a m : Int), (missL a ns m).length ≤ ns.length + 1
  | [], a, m => by simp only [missL]; split <;> simp
  | n :: ns, a, m => by
    have := missL_len ns (n + 1) m
    simp only [missL, List.length_append, List.length_cons]
    split <;> simp <;> omega
theorem aptC_of {l : List Pr} (h1 : ∀ p, p ∈ l → p.lo ≤ p.hi) (h2 : l.Pairwise fun q p => q.hi + 2 ≤ p.lo) : ∀ i, i < l.length → aptC l i := fun i hi => by
  refine ⟨l[i], List.getElem?_eq_getElem hi, h1 _ (List.getElem_mem hi), fun h0 => ⟨l[i - 1], List.getElem?_eq_getElem (by omega), ?_⟩⟩
  exact List.pairwise_iff_getElem.1 h2 (i - 1) i (by omega) hi (by omega)
theorem numsL_strict {L : List Fm} (st : Sta L) (n : Int) : (numsL L n).Pairwise (· < ·) := by
  have h1 := numsL_sorted L n
  have h2 : (numsL L n).Nodup := (numsL_perm L n).nodup_iff.2 (st.nd.filter _)
  have := h1.and h2
  exact this.imp fun ⟨a, b⟩ => by omega
theorem numsL_mem {L : List Fm} {n x : Int} : x ∈ numsL L n ↔ x ∈ L.map Fm.num ∧ x < n := by
  rw [(numsL_perm L n).mem_iff]
  simp only [List.mem_filter, decide_eq_true_eq]
theorem Ty.frames {b : Nat} {x : V} (h : Ty (.sl true b [.i .u64, .i .u64, .i .i64, .i .i64, .s]) x) : ∃ l : List Fm, x = .ps 5 (fms l) ∧ l.length * b ≤ 140737488351232 ∧ ∀ f, f ∈ l → f.ok := by
  obtain ⟨xs, rfl, hl, hx⟩ := h.elems_agg
  have one : ∀ y, y ∈ xs → ∃ f : Fm, y = f.v ∧ f.ok := fun y hy => by
    obtain ⟨vs, rfl, hr⟩ := hx y hy
    obtain ⟨h1, h2⟩ := hr
    match vs, h1, h2 with
    | [v0, v1, v2, v3, v4], _, h2 =>
      obtain ⟨a0, rfl, m0, n0⟩ := (h2 0 (by simp) (by simp)).int
      obtain ⟨a1, rfl, m1, n1⟩ := (h2 1 (by simp) (by simp)).int
      obtain ⟨a2, rfl, m2, n2⟩ := (h2 2 (by simp) (by simp)).int
      obtain ⟨a3, rfl, m3, n3⟩ := (h2 3 (by simp) (by simp)).int
      obtain ⟨a4, rfl, m4⟩ := (h2 4 (by simp) (by simp)).str
      have e0 : IntKind.u64.min = 0 := by decide
      have e1 : IntKind.u64.max = 18446744073709551615 := by decide
      have e2 : IntKind.i64.min = -9223372036854775808 := by decide
      have e3 : IntKind.i64.max = 9223372036854775807 := by decide
      rw [e0] at m0 m1
      rw [e1] at n0 n1
      rw [e2] at m2 m3
      rw [e3] at n2 n3
      exact ⟨⟨a0, a1, a2, a3, a4⟩, rfl, ⟨m0, by show a0 < _; omega, m1, by show a1 < _; omega, m2, by show a2 < _; omega, m3, by show a3 < _; omega, by show a4.length < _; omega⟩⟩
  have all : ∀ l : List V, (∀ y, y ∈ l → y ∈ xs) → ∃ L : List Fm, l = fms L ∧ ∀ f, f ∈ L → f.ok := by
    intro l
    induction l with
    | nil => intro _; exact ⟨[], rfl, by simp⟩
    | cons y l ih =>
      intro hm
      obtain ⟨L, rfl, hL⟩ := ih fun z hz => hm z (List.mem_cons_of_mem _ hz)
      obtain ⟨f, rfl, hf⟩ := one y (hm y List.mem_cons_self)
      exact ⟨f :: L, rfl, fun g hg => by
        rcases List.mem_cons.1 hg with rfl | hg
        · exact hf
        · exact hL g hg⟩
  obtain ⟨L, rfl, hL⟩ := all xs fun _ h => h
  exact ⟨L, rfl, by rwa [fms_len] at hl, hL⟩
theorem awake46 : ∃ h', Run T f_law46_awake [] [] (.bool true) h' := Run.closed (n := 300) (by kernel_rfl)
section
variable {ks : List Kt} {ops : List AOpr} {K : Kp} {e : Env} {h : Heap} {Q : Ex → Env → Heap → Prop} {d : Nat} {lent : Bool}
theorem awake46_p : Xp T f_law46_awake (some ([], lent)) h (some d) ops K ks e Q = Xo T ops K ks ((d, .bool true) :: e) h Q := by
  obtain ⟨h', r⟩ := awake46
  exact Xp_run r rfl rfl (by simp [scalar])
end
theorem cells_mp (b : Nat) : V.cells (.mp b) = [.mp b] := rfl
theorem one_mp (b : Nat) : V.one (.mp b) = true := rfl
theorem New_run (h : Heap) : ∃ s m g, SH g s m [] ∧ Run T f_whole_New [] h (.ptr s 0) g := by
  have hr : ∃ v g, (∃ s m, v = .ptr s 0 ∧ SH g s m []) ∧ Run T f_whole_New [] h v g := by
    refine Run.startP t_whole_New ?_
    unfold k_whole_New
    simp (disch := omega) [cells_mp, one_mp]
    refine ⟨h.length, ?_, ?_, by omega⟩
    · rw [show h ++ [some [], some [V.mp h.length]] = (h ++ [some []]) ++ [some [V.mp h.length]] by simp, row_end (by simp)]
    · rw [show h ++ [some [], some [V.mp h.length]] = (h ++ [some []]) ++ [some [V.mp h.length]] by simp, row_app (by simp), row_end rfl]
      rfl
  obtain ⟨v, g, ⟨s, m, rfl, hs⟩, r⟩ := hr
  exact ⟨s, m, g, hs, r⟩
theorem wt_loop0 (l : List Fm) (hl : l.length ≤ 40) (hok : ∀ f, f ∈ l → f.ok) (v1 v2 : V) {s m : Nat} : ∀ (k i : Nat) (L : List Fm) (g : Heap), i + k = l.length → SH g s m L → Sta L → L.length ≤ i → ∀ ks Q,
    (∀ L g, SH g s m L → Sta L → ∀ e, Xk T ks (.x 0) ([(0, .ps 5 (fms l)), (1, v1), (2, v2), (7, .ptr s 0), (8, .ps 5 (fms L))] ++ e) g Q) → (∀ g, Xk T ks .r [(6, .bool true)] g Q) →
    Xc T l_law46_WholeTakes_0 ks [(0, .ps 5 (fms l)), (1, v1), (2, v2), (7, .ptr s 0), (8, .ps 5 (fms L)), (9, .int .i64 i)] g Q := by
  intro k
  induction k with
  | zero =>
    intro i L g hi hS st hLi ks Q h1 h2
    rw [L_law46_WholeTakes_0]; unfold bl_law46_WholeTakes_0
    have c : ¬ (i : Int) < l.length := by omega
    simp (disch := omega) [fms_len, c]
    have := h1 L g hS st [(9, .int .i64 i), (36, .bool false)]
    simpa using this
  | succ k ih =>
    intro i L g hi hS st hLi ks Q h1 h2
    rw [L_law46_WholeTakes_0]; unfold bl_law46_WholeTakes_0
    have c : (i : Int) < l.length := by omega
    have hil : i < l.length := by omega
    have fg := fms_get l i hil
    have fo := hok l[i] (List.getElem_mem hil)
    generalize l[i] = f at *
    have gt : ∀ g : Fm, List.take 5 g.cs = g.cs := fun _ => rfl
    have gl : ∀ g : Fm, g.cs.length = 5 := fun _ => rfl
    have a4 : f.cs[4]? = some (.str f.dat) := rfl
    by_cases c3 : 300 < (f.dat.length : Int)
    · simp (disch := omega) [fms_len, c, fg, Fm.v, a4, c3]
      exact h2 _
    · obtain ⟨hr, rr⟩ := RTake_run L f st.ok fo []
      obtain ⟨g', hS', wr⟩ := WTake_run hS st.ok f fo
      simp only [Fm.v] at rr wr
      have b1 : (L.length + 1) * 48 ≤ 140737488355328 := by omega
      simp (disch := omega) [fms_len, c, fg, Fm.v, a4, c3, gt, gl]
      rw [Xp_run rr (by simp [fms_hfs, Fm.cs]) rfl (by simp)]
      simp (disch := omega) [fms_len, c, fg, Fm.v, a4, c3, gt, gl]
      rw [Xf_run wr]
      by_cases ct : takeE L f = 0
      · rw [if_pos ct] at hS'
        have ih' := ih (i + 1) (L ++ [f]) g' (by omega) hS' (st.take fo ct (by omega)) (by simp; omega) ks Q h1 h2
        simp (disch := omega) [fms_len, fg, Fm.v, gt, gl, ct, Fm.one, b1]
        rw [fms_app] at ih'
        simpa [Fm.v] using ih'
      · rw [if_neg ct] at hS'
        have ih' := ih (i + 1) L g' (by omega) hS' st (by omega) ks Q h1 h2
        simp (disch := omega) [ct]
        simpa using ih'
def hasN (K : List Fm) (n : Int) : Bool := decide (n ∈ K.map Fm.num)
theorem RHas_run' (K : List Fm) (n : Int) (hl : K.length ≤ 40) (h : Heap) : Run T f_ref46_Has [.ps 5 (fms K), .int .u64 n] h (.bool (hasN K n)) h := RHas_run K n hl h
theorem wt_loop1 (K : List Fm) (hK : K.length ≤ 40) (M : List Pr) (hM : M.length ≤ 50) (N : Nat) (hN : N ≤ 300) (hx : ∀ x : Nat, x < N → inP M x = !hasN K x) (v1 v7 : V) (g : Heap) : ∀ (k i : Nat), i + k = N → ∀ ks Q,
    (∀ e, Xk T ks (.x 2) ([(1, v1), (2, .int .u64 N), (7, v7), (8, .ps 5 (fms K)), (15, .ps 2 (Pr.vs M))] ++ e) g Q) →
    Xc T l_law46_WholeTakes_1 ks [(1, v1), (2, .int .u64 N), (7, v7), (8, .ps 5 (fms K)), (15, .ps 2 (Pr.vs M)), (16, .int .u64 i)] g Q := by
  intro k
  induction k with
  | zero =>
    intro i hi ks Q h1
    rw [L_law46_WholeTakes_1]; unfold bl_law46_WholeTakes_1
    have c : ¬ (i : Int) < N := by omega
    simp (disch := omega) [c]
    have := h1 [(16, .int .u64 i), (102, .bool false)]
    simpa using this
  | succ k ih =>
    intro i hi ks Q h1
    rw [L_law46_WholeTakes_1]; unfold bl_law46_WholeTakes_1
    have c : (i : Int) < N := by omega
    simp (disch := omega) [c]
    rw [Xp_run (RHas_run' K i hK []) (by simp [fms_hfs]) rfl (by simp)]
    simp (disch := omega) [In_p]
    have hi' := hx i (by omega)
    have ih' := ih (i + 1) (by omega) ks Q h1
    rw [hi']
    have e : (hasN K i == !hasN K i) = false := by cases hasN K i <;> rfl
    rw [e]
    simp (disch := omega)
    simpa using ih'
theorem wt_loop2 (M : List Pr) (hM : M.length ≤ 50) (N : Int) (hx : ∀ p, p ∈ M → p.hi < N) (v1 v7 v8 : V) (g : Heap) : ∀ (k i : Nat), i + k = M.length → ∀ ks Q,
    (∀ e, Xk T ks (.x 4) ([(1, v1), (2, .int .u64 N), (7, v7), (8, v8), (15, .ps 2 (Pr.vs M))] ++ e) g Q) →
    Xc T l_law46_WholeTakes_2 ks [(1, v1), (2, .int .u64 N), (7, v7), (8, v8), (15, .ps 2 (Pr.vs M)), (17, .int .i64 i)] g Q := by
  intro k
  induction k with
  | zero =>
    intro i hi ks Q h1
    rw [L_law46_WholeTakes_2]; unfold bl_law46_WholeTakes_2
    have c : ¬ (i : Int) < M.length := by omega
    simp (disch := omega) [c, vs_len]
    have := h1 [(17, .int .i64 i), (115, .bool false)]
    simpa using this
  | succ k ih =>
    intro i hi ks Q h1
    rw [L_law46_WholeTakes_2]; unfold bl_law46_WholeTakes_2
    have c : (i : Int) < M.length := by omega
    have hil : i < M.length := by omega
    have gm : (Pr.vs M)[i]? = some M[i].v := by rw [vs_get, List.getElem?_eq_getElem hil]; rfl
    have hp := hx M[i] (List.getElem_mem hil)
    have c2 : ¬ N ≤ M[i].hi := by omega
    have ih' := ih (i + 1) (by omega) ks Q h1
    generalize M[i] = p at *
    simp (disch := omega) [c, vs_len, gm, Pr.v, Pr.cs, c2]
    simpa using ih'
theorem wt_loop3 (K : List Fm) (hK : K.length ≤ 40) (id : Int) (v7 v15 : V) (g : Heap) : ∀ (k i : Nat), i + k = K.length → ∀ ks Q,
    (∀ e, Xk T ks (.x 6) ([(1, .int .u64 id), (7, v7), (8, .ps 5 (fms K)), (15, v15), (18, .int .i64 (manyI id K))] ++ e) g Q) →
    Xc T l_law46_WholeTakes_3 ks [(1, .int .u64 id), (7, v7), (8, .ps 5 (fms K)), (15, v15), (18, .int .i64 (manyI id (K.take i))), (19, .int .i64 i)] g Q := by
  intro k
  induction k with
  | zero =>
    intro i hi ks Q h1
    rw [L_law46_WholeTakes_3]; unfold bl_law46_WholeTakes_3
    have c : ¬ (i : Int) < K.length := by omega
    rw [List.take_of_length_le (by omega)]
    simp (disch := omega) [c, fms_len]
    have := h1 [(19, .int .i64 i), (128, .bool false)]
    simpa using this
  | succ k ih =>
    intro i hi ks Q h1
    rw [L_law46_WholeTakes_3]; unfold bl_law46_WholeTakes_3
    have c : (i : Int) < K.length := by omega
    have hil : i < K.length := by omega
    have fg := fms_get K i hil
    have ht := take_get K i hil
    have ih' := ih (i + 1) (by omega) ks Q h1
    have hm : manyI id (K.take (i + 1)) = manyI id (K.take i) + if K[i].id = id then 1 else 0 := by
      rw [ht]
      unfold manyI
      rw [List.filter_append, List.filter_cons, List.filter_nil]
      simp only [beq_iff_eq]
      split <;> simp
    have hb : manyI id (K.take i) ≤ 40 := Nat.le_trans (List.length_filter_le _ _) (by simp; omega)
    generalize K[i] = f at *
    have a1 : f.cs[1]? = some (.int .u64 f.id) := rfl
    by_cases ci : f.id = id
    · rw [if_pos ci] at hm
      rw [hm] at ih'
      simp (disch := omega) [c, fms_len, fg, Fm.v, a1, ci]
      simpa using ih'
    · rw [if_neg ci, Nat.add_zero] at hm
      rw [hm] at ih'
      simp (disch := omega) [c, fms_len, fg, Fm.v, a1, ci]
      simpa using ih'
theorem Takes_run (l : List Fm) (hl : l.length < 4611686018427387904) (hok : ∀ f, f ∈ l → f.ok) (id next : Int) (h0 : 0 ≤ next) (hid : 0 ≤ id) : ∃ h', Run T f_law46_WholeTakes [.ps 5 (fms l), .int .u64 id, .int .u64 next] [] (.bool true) h' := by
  by_cases c : l.length ≤ 40 ∧ next ≤ 300
  · obtain ⟨c1, c2⟩ := c
    have k1 : ¬ (40 : Int) < l.length := by omega
    have k2 : ¬ 300 < next := by omega
    refine Run.startE t_law46_WholeTakes ?_
    unfold k_law46_WholeTakes
    obtain ⟨s, m, g, hs, nr⟩ := New_run []
    simp (disch := omega) [fms_len, k1, k2, awake46_p]
    rw [Xf_run nr]
    simp (disch := omega)
    have st0 : Sta [] := ⟨⟨by simp, by simp, by simp⟩, by simp, by simp⟩
    refine wt_loop0 l c1 hok (.int .u64 id) (.int .u64 next) l.length 0 [] g (by omega) hs st0 (by simp) _ _ (fun K g hS st e => ?_) (fun g => ?_)
    · have hK := st.ok.len
      obtain ⟨b, e1, J, hb, br⟩ := Bundle_run hS st id
      obtain ⟨b', e1', hb', br'⟩ := RBundle_run st id []
      obtain ⟨rfl, rfl⟩ := hb.det st hb'
      simp (disch := omega)
      rw [Xf_run br]
      simp (disch := omega)
      rw [Xp_run br' (by simp [fms_hfs]) (by simp) (by simp)]
      have hS2 := hS.app J
      generalize g ++ J = g2 at *
      have mr := Many_run hS2.rs hS2.rm (kvL_count K)
      simp (disch := omega) [bys_back]
      rw [Xf_run mr]
      simp (disch := omega) [fms_len]
      obtain ⟨J3, ms⟩ := Missing_run hS2 st.ok next (by omega)
      rw [Xf_run ms]
      have hS3 := hS2.app J3
      generalize g2 ++ J3 = g3 at *
      have hst := numsL_strict st next
      have hlt : ∀ n, n ∈ numsL K next → 0 ≤ n ∧ n < next := fun n hn => by
        obtain ⟨h1, h2⟩ := numsL_mem.1 hn
        obtain ⟨f, hf, rfl⟩ := List.mem_map.1 h1
        exact ⟨(st.ok.ok f hf).n0, h2⟩
      have hMm := missL_mem (numsL K next) 0 next hst hlt
      have hMi := missL_in (numsL K next) 0 next hst hlt
      have hMa := missL_apart (numsL K next) 0 next hst hlt
      have hMl := missL_len (numsL K next) 0 next
      have hNl : (numsL K next).length ≤ 40 := by
        rw [(numsL_perm K next).length_eq]
        exact Nat.le_trans (List.length_filter_le _ _) (by simpa using hK)
      have hx : ∀ x : Nat, (x : Int) < next → inP (missL 0 (numsL K next) next) x = !hasN K x := fun x hx => by
        rw [hMi]
        have h1 : decide ((0 : Int) ≤ x) = true := decide_eq_true (by omega)
        rw [h1, decide_eq_true hx]
        simp only [Bool.true_and]
        congr 1
        unfold hasN
        rw [decide_eq_decide, numsL_mem]
        exact ⟨fun h => h.1, fun h => ⟨h, hx⟩⟩
      generalize missL 0 (numsL K next) next = M at *
      obtain ⟨N, hN⟩ : ∃ N : Nat, next = N := ⟨next.toNat, by omega⟩
      subst hN
      simp (disch := omega)
      refine wt_loop1 K hK M (by omega) N (by omega) (fun x hx' => hx x (by omega)) (.int .u64 id) (.ptr s 0) g3 N 0 (by omega) _ _ fun e => ?_
      simp (disch := omega)
      refine wt_loop2 M (by omega) N (fun p hp => (hMm p hp).2.2) (.int .u64 id) (.ptr s 0) (.ps 5 (fms K)) g3 M.length 0 (by omega) _ _ fun e => ?_
      simp (disch := omega)
      have l3 := wt_loop3 K hK id (.ptr s 0) (.ps 2 (Pr.vs M)) g3 K.length 0 (by omega)
      rw [List.take_zero] at l3
      refine l3 _ _ fun e => ?_
      have ar := Apart_run M (by omega) (fun p hp => by
        have := hMm p hp
        exact ⟨by omega, by omega, by omega, by omega⟩) (aptC_of (fun p hp => (hMm p hp).2.1) hMa) []
      obtain ⟨g4, dr, d1, d2⟩ := Done_run hS3 st.ok st.nd id
      have mr2 := Many_run d1 d2 (delL_count id K)
      have hmi : manyI id K ≤ K.length := List.length_filter_le _ _
      simp (disch := omega)
      rw [Xp_run ar (by simp [vs_hf]) rfl (by simp)]
      simp (disch := omega)
      rw [Xf_run dr]
      simp (disch := omega)
      rw [Xf_run mr2]
      simp (disch := omega) [fms_len]
      omega
    · simp (disch := omega)
  · refine Run.startE t_law46_WholeTakes ?_
    unfold k_law46_WholeTakes
    by_cases k1 : (40 : Int) < l.length
    · simp (disch := omega) [fms_len, k1, awake46_p]
    · have k2 : 300 < next := by omega
      simp (disch := omega) [fms_len, k1, k2, awake46_p]
theorem law_WholeTakes (x0 x1 x2 : V) (h0 : Ty (.sl true 48 [.i .u64, .i .u64, .i .i64, .i .i64, .s]) x0) (h1 : Ty (.i .u64) x1) (h2 : Ty (.i .u64) x2) : ∃ h', Run T f_law46_WholeTakes [x0, x1, x2] [] (.bool true) h' := by
  obtain ⟨l, rfl, hl, hok⟩ := h0.frames
  obtain ⟨id, rfl, i0, _⟩ := h1.int
  obtain ⟨n, rfl, n0, _⟩ := h2.int
  have e0 : IntKind.u64.min = 0 := by decide
  rw [e0] at i0 n0
  exact Takes_run l (by omega) hok id n n0 i0
end Ev
