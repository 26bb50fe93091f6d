/- ExtentApart: no page is given out twice. Each theorem states its own conditions. -/
import Derived.Test.YtmbheeapegpmlaaEW25
set_option linter.all false
namespace Ev
open Go
set_option maxRecDepth 10000
attribute [-simp] getElem?_pos getElem?_neg

/-- The pages handed out are those that are taken. -/
def Same (l : List Bool) (out : List Int) : Prop := out.Nodup ∧ ∀ x, x ∈ out ↔ isT l x = true

theorem countP_split (out : List Int) (p : Int) (hn : out.Nodup) (hp : p ∈ out) (r : List Int) : out.countP (fun x => decide (x ∈ p :: r)) = (out.filter (· != p)).countP (fun x => decide (x ∈ r)) + 1 := by
  have h1 : out.Perm (p :: out.erase p) := List.perm_cons_erase hp
  rw [h1.countP_eq, hn.erase_eq_filter, List.countP_cons]
  simp only [List.mem_cons, true_or, decide_true, if_true]
  congr 1
  rw [List.countP_filter, List.countP_filter]
  refine List.countP_congr fun x _ => ?_
  simp only [Bool.and_eq_true, decide_eq_true_eq, bne_iff_ne, ne_eq]
  exact ⟨fun ⟨h, k⟩ => ⟨h.resolve_left k, k⟩, fun ⟨h, k⟩ => ⟨.inr h, k⟩⟩

theorem give_same : ∀ (ps : List Int) (l : List Bool) (out : List Int), Same l out → giveK l ps = out.countP (fun x => decide (x ∈ ps)) ∧ Same (giveS l ps) (out.filter fun x => !decide (x ∈ ps))
  | [], l, out, h => by
    refine ⟨by simp [giveK], ?_⟩
    have : (out.filter fun x => !decide (x ∈ ([] : List Int))) = out := by simp
    rw [this]; exact h
  | p :: r, l, out, h => by
    unfold giveK giveS
    split
    · rename_i ht
      obtain ⟨h1, h2⟩ := isT_lt ht
      have hp : p ∈ out := (h.2 p).2 ht
      have hs : Same (l.set p.toNat false) (out.filter (· != p)) := ⟨h.1.filter _, fun x => by
        rw [List.mem_filter, isT_set (by omega) (by omega), show ((p.toNat : Nat) : Int) = p by omega, h.2 x]
        by_cases hx : x = p <;> simp [hx]⟩
      obtain ⟨k1, k2⟩ := give_same r _ _ hs
      refine ⟨by rw [k1, countP_split out p h.1 hp r], ?_⟩
      have : (out.filter fun x => !decide (x ∈ p :: r)) = (out.filter (· != p)).filter fun x => !decide (x ∈ r) := by
        rw [List.filter_filter]
        refine List.filter_congr fun x _ => ?_
        rw [Bool.eq_iff_iff]
        simp [and_comm]
      rw [this]; exact k2
    · rename_i ht
      obtain ⟨k1, k2⟩ := give_same r l out h
      have hne : ∀ x ∈ out, x ≠ p := fun x hx e => ht ((h.2 p).1 (e ▸ hx))
      refine ⟨by
        rw [k1]
        refine List.countP_congr fun x hx => ?_
        simp [hne x hx], ?_⟩
      have : (out.filter fun x => !decide (x ∈ p :: r)) = out.filter fun x => !decide (x ∈ r) := by
        refine List.filter_congr fun x hx => ?_
        simp [hne x hx]
      rw [this]; exact k2

theorem apart_count (t : Int) (acts : List Act) (i : Nat) (hi : i < acts.length) (hal : acts.length < 4611686018427387904) (hli : acts[i].l.length < 4611686018427387904) (out : List Int) (ho : out.length < 10000000) (x : V) (h : Heap) :
    ∀ (m j k : Nat) (left : List Int), j + m = out.length → k ≤ j → left.length ≤ j → ∀ ks Q,
      Xk T ks (.x 2) [(0, .int .u8 t), (1, .ps 3 (acts.map Act.v)), (5, x), (6, .ps 1 (ints out)), (7, .int .i64 i), (8, .int .i64 (k + (out.drop j).countP (fun x => decide (x ∈ acts[i].l)))),
        (9, .ps 1 (ints (left ++ (out.drop j).filter fun x => !decide (x ∈ acts[i].l)))), (10, .int .i64 out.length), (36, .bool false)] h Q →
      Xc T l_law25_ExtentApart_0 ks [(0, .int .u8 t), (1, .ps 3 (acts.map Act.v)), (5, x), (6, .ps 1 (ints out)), (7, .int .i64 i), (8, .int .i64 k), (9, .ps 1 (ints left)), (10, .int .i64 j)] h Q := by
  intro m
  induction m with
  | zero =>
    intro j k left hm hk hl ks Q hQ
    rw [L_law25_ExtentApart_0]; unfold bl_law25_ExtentApart_0
    have e1 : j = out.length := by omega
    subst e1
    simp (disch := omega) [ints_len]
    simpa using hQ
  | succ m ih =>
    intro j k left hm hk hl ks Q hQ
    rw [L_law25_ExtentApart_0]; unfold bl_law25_ExtentApart_0
    have e1 : j < out.length := by omega
    have e3 : (j : Int) < out.length := by omega
    have da : out.drop j = out[j] :: out.drop (j + 1) := List.drop_eq_getElem_cons e1
    simp (disch := omega) [ints_len, ints_get, e3, List.getElem?_eq_getElem e1, List.getElem?_eq_getElem hi, Act.v]
    rw [Xp_run (Has_run acts[i].l out[j] [] hli) (by simp [ints_hfs]) rfl (by simp [scalar])]
    simp (disch := omega)
    apply Xb_dec
    · intro hin
      simp (disch := omega)
      have := ih (j + 1) (k + 1) left (by omega) (by omega) (by omega) ks Q (by
        rw [da, List.countP_cons, List.filter_cons] at hQ
        simp only [hin, decide_true, if_true, Bool.not_true, Bool.false_eq_true, if_false] at hQ
        rw [show ((k + 1 : Nat) : Int) + ((out.drop (j + 1)).countP (fun x => decide (x ∈ acts[i].l)) : Nat) = (k : Int) + (((out.drop (j + 1)).countP (fun x => decide (x ∈ acts[i].l)) + 1 : Nat) : Int) by omega]
        exact hQ)
      simpa [Act.v] using this
    · intro hin
      simp (disch := omega) [ints_get, List.getElem?_eq_getElem e1, ints_len]
      have := ih (j + 1) k (left ++ [out[j]]) (by omega) (by omega) (by simp; omega) ks Q (by
        rw [da, List.countP_cons, List.filter_cons] at hQ
        simp only [hin, decide_false, Bool.false_eq_true, if_true, Bool.not_false, if_false, Nat.add_zero] at hQ
        rw [List.append_assoc]
        exact hQ)
      simpa [Act.v, ints] using this

theorem apart_new (t : Int) (h0 : 0 ≤ t) (h1 : t < 256) (acts : V) (h : Heap) (x v7 : V) (ps : List Int) (hps : ps.Pairwise (· < ·)) (hp1 : ∀ p ∈ ps, 1 ≤ p ∧ p < t) :
    ∀ (m j : Nat) (out : List Int), j + m = ps.length → out.length + m < 10000000 → ps.length < 4611686018427387904 → (∀ p ∈ ps.drop j, p ∉ out) → ∀ ks Q,
      Xk T ks (.x 4) [(0, .int .u8 t), (1, acts), (5, x), (6, .ps 1 (ints (out ++ ps.drop j))), (7, v7), (11, .ps 1 (ints ps)), (13, .int .i64 ps.length), (110, .bool false)] h Q →
      Xc T l_law25_ExtentApart_1 ks [(0, .int .u8 t), (1, acts), (5, x), (6, .ps 1 (ints out)), (7, v7), (11, .ps 1 (ints ps)), (13, .int .i64 j)] h Q := by
  intro m
  induction m with
  | zero =>
    intro j out hm ho hpl hnew ks Q hQ
    rw [L_law25_ExtentApart_1]; unfold bl_law25_ExtentApart_1
    have e1 : j = ps.length := by omega
    subst e1
    simp (disch := omega) [ints_len]
    simpa using hQ
  | succ m ih =>
    intro j out hm ho hpl hnew ks Q hQ
    rw [L_law25_ExtentApart_1]; unfold bl_law25_ExtentApart_1
    have e1 : j < ps.length := by omega
    have e3 : (j : Int) < ps.length := by omega
    have da : ps.drop j = ps[j] :: ps.drop (j + 1) := List.drop_eq_getElem_cons e1
    have hj := hp1 ps[j] (List.getElem_mem _)
    have hnj : ps[j] ∉ out := hnew _ (by rw [da]; exact List.mem_cons_self)
    have c1 : ¬ ps[j] < 1 := by omega
    have c2 : ¬ t ≤ ps[j] := by omega
    simp (disch := omega) [ints_len, ints_get, e3, List.getElem?_eq_getElem e1]
    rw [Xp_run (Has_run out ps[j] [] (by omega)) (by simp [ints_hfs]) rfl (by simp [scalar])]
    simp (disch := omega) [hnj, ints_get, List.getElem?_eq_getElem e1, c1, c2, ints_len]
    have hs : (ps.drop j).Pairwise (· < ·) := hps.sublist (List.drop_sublist _ _)
    rw [da] at hs
    have := ih (j + 1) (out ++ [ps[j]]) (by omega) (by simp; omega) hpl (fun p hp => by
      rw [List.mem_append, List.mem_singleton]
      rintro (h | h)
      · exact hnew p (by rw [da]; exact List.mem_cons_of_mem _ hp) h
      · have := (List.pairwise_cons.1 hs).1 p hp; omega) ks Q (by
      rw [List.append_assoc, List.singleton_append, ← da]; exact hQ)
    simpa [ints] using this

theorem setL_isT : ∀ (ps : List Nat) (l : List Bool) (x : Int), (∀ p ∈ ps, 1 ≤ p ∧ p < l.length) → (isT (setL l true ps) x = true ↔ isT l x = true ∨ ∃ p ∈ ps, x = (p : Int))
  | [], l, x, _ => by simp [setL]
  | p :: r, l, x, h => by
    obtain ⟨h1, h2⟩ := h p (by simp)
    have := setL_isT r (l.set p true) x fun q hq => by simpa using h q (by simp [hq])
    show isT (setL (l.set p true) true r) x = true ↔ _
    rw [this, isT_set h1 h2]
    by_cases hx : x = p
    · simp [hx]
    · simp [hx]
theorem take_same {l : List Bool} {out : List Int} (h : Same l out) (n : Nat) : Same (setL l true (pickP (fun t => !t) l.tail 1 n)) (out ++ (pickP (fun t => !t) l.tail 1 n).map fun (x : Nat) => (x : Int)) := by
  have hm : ∀ p ∈ pickP (fun t => !t) l.tail 1 n, 1 ≤ p ∧ p < l.length ∧ l[p]? = some false := fun p hp => by
    obtain ⟨h5, h6, h7⟩ := pickP_mem _ _ _ _ _ hp
    rw [List.length_tail] at h6
    rw [List.getElem?_tail, show p - 1 + 1 = p by omega] at h7
    refine ⟨h5, by omega, ?_⟩
    cases hx : l[p]? with
    | none => rw [hx] at h7; cases h7
    | some t => rw [hx] at h7; simpa using h7
  refine ⟨List.nodup_append.2 ⟨h.1, ?_, ?_⟩, fun x => ?_⟩
  · have := pickP_sorted (fun t => !t) l.tail 1 n
    rw [List.Nodup, List.pairwise_map]
    exact this.imp fun hlt e => by omega
  · intro a ha b hb e
    subst e
    obtain ⟨p, hp, rfl⟩ := List.mem_map.1 hb
    have := isT_iff.1 ((h.2 _).1 ha)
    have h7 := (hm p hp).2.2
    simp at this
    rw [h7] at this
    simp at this
  · rw [setL_isT _ _ _ fun p hp => ⟨(hm p hp).1, (hm p hp).2.1⟩, List.mem_append, h.2 x]
    refine or_congr_right ?_
    rw [List.mem_map]
    exact ⟨fun ⟨p, hp, e⟩ => ⟨p, hp, e.symm⟩, fun ⟨p, hp, e⟩ => ⟨p, hp, e.symm⟩⟩

theorem apart_loop (t : Int) (ht0 : 0 ≤ t) (ht1 : t < 256) (acts : List Act) (hal : acts.length < 4611686018427387904) (hli : ∀ a ∈ acts, a.l.length < 4611686018427387904) :
    ∀ (k i : Nat) (h : Heap) (l : List Bool) (out : List Int), i + k = 61 → 2 ≤ h.length → (l.length : Int) = max t 1 → Same l out → out.length ≤ 65536 * i → ∀ ks Q,
      (∀ e h, Xk T ks (.x 0) e h Q) → (∀ h, Xk T ks .r [(4, .bool true)] h Q) →
      Xc T l_law25_ExtentApart_2 ks [(0, .int .u8 t), (1, .ps 3 (acts.map Act.v)), (5, .ptr 1 0), (6, .ps 1 (ints out)), (7, .int .i64 i)] (Xh h 1 0 l) Q := by
  obtain ⟨ha, haw⟩ := awake25
  intro k
  induction k with
  | zero =>
    intro i h l out hk hh hl hsame hol ks Q hx hr
    rw [L_law25_ExtentApart_2]; unfold bl_law25_ExtentApart_2
    simp (disch := omega)
    apply Xg_dec
    · intro h1
      have h2 : ¬ (i : Int) < 60 := by omega
      simp (disch := omega) [h1, h2]
      exact hx _ _
    · intro h1
      simp (disch := omega) [h1]
      exact hx _ _
  | succ k ih =>
    intro i h l out hk hh hl hsame hol ks Q hx hr
    have hl1 : 1 ≤ l.length := by omega
    have hl2 : l.length ≤ 65536 := by omega
    have hol' : out.length < 10000000 := by omega
    rw [L_law25_ExtentApart_2]; unfold bl_law25_ExtentApart_2
    simp (disch := omega)
    apply Xg_dec
    · intro h1
      have h1' : i < acts.length := by omega
      have hacc := List.getElem?_eq_getElem h1'
      have hl40 := hli acts[i] (List.getElem_mem _)
      simp (disch := omega) [h1]
      apply Xb_dec
      · intro h2
        simp (disch := omega) [h1, h2, hacc, Act.v]
        apply Xb_dec
        · intro c1
          simp (disch := omega)
          have hcnt := apart_count t acts i h1' hal hl40 out hol' (.ptr 1 0) (Xh h 1 0 l) out.length 0 0 [] (by omega) (by omega) (by simp)
          simp [ints] at hcnt
          simp [ints]
          refine hcnt _ _ ?_
          simp (disch := omega) [hacc, Act.v, ints_len]
          apply Xb_dec
          · intro c2
            simp (disch := omega)
            rw [Xp_run haw rfl rfl rfl]
            simp (disch := omega)
            exact hr _
          · intro c2
            obtain ⟨g1, g2⟩ := give_same acts[i].l l out hsame
            have hg := give_run (h := h) (b := 1) (c := 0) (l := l) acts[i].l (by omega) (by omega) (by omega) hl2 hl40
            rw [g1] at hg
            simp (disch := omega) [hacc, Act.v, ints_len]
            rw [Xf_run hg]
            simp (disch := omega)
            have := ih (i + 1) h (giveS l acts[i].l) (out.filter fun x => !decide (x ∈ acts[i].l)) (by omega) hh (by rw [giveS_len]; exact hl) g2 (by
              have := List.length_filter_le (fun x => !decide (x ∈ acts[i].l)) out
              omega) ks Q hx hr
            simpa [Act.v, ints] using this
        · intro c1
          simp (disch := omega) [hacc, Act.v]
          rcases (by omega : acts[i].n < 1 ∨ (1 ≤ acts[i].n ∧ fr l < acts[i].n) ∨ (1 ≤ acts[i].n ∧ acts[i].n ≤ fr l)) with d1 | ⟨d1, d2⟩ | ⟨d1, d2⟩
          · rw [Xf_run (take_range acts[i].n d1)]
            simp (disch := omega)
            have hnw := apart_new t ht0 ht1 (.ps 3 (acts.map Act.v)) (Xh h 1 0 l) (.ptr 1 0) (.int .i64 i) [] (by simp) (by simp) 0 0 out (by simp) (by omega) (by simp) (by simp)
            simp [ints, Act.v] at hnw
            simp [ints]
            refine hnw _ _ ?_
            simp (disch := omega)
            have := ih (i + 1) h l out (by omega) hh hl hsame (by omega) ks Q hx hr
            simpa [Act.v, ints] using this
          · rw [Xf_run (take_full acts[i].n (by omega) d1 d2)]
            simp (disch := omega)
            have hnw := apart_new t ht0 ht1 (.ps 3 (acts.map Act.v)) (Xh h 1 0 l) (.ptr 1 0) (.int .i64 i) [] (by simp) (by simp) 0 0 out (by simp) (by omega) (by simp) (by simp)
            simp [ints, Act.v] at hnw
            simp [ints]
            refine hnw _ _ ?_
            simp (disch := omega)
            have := ih (i + 1) h l out (by omega) hh hl hsame (by omega) ks Q hx hr
            simpa [Act.v, ints] using this
          · obtain ⟨n, hn⟩ : ∃ n : Nat, acts[i].n = n := ⟨acts[i].n.toNat, by omega⟩
            rw [hn] at d1 d2 ⊢
            have hlen := pickP_length (fun t => !t) l.tail 1 n
            have hfl := @fr_le l
            have hfc := fr_count l
            have hsm := take_same hsame n
            have htk := take_run (h := h) (b := 1) (c := 0) (l := l) n (by omega) (by omega) (by omega) hl2 hl1 (by omega) d2
            have hpm : ∀ p ∈ pickP (fun t => !t) l.tail 1 n, 1 ≤ p ∧ p < l.length := fun p hp => by
              obtain ⟨h5, h6, h7⟩ := pickP_mem _ _ _ _ _ hp
              rw [List.length_tail] at h6
              omega
            have hps := pickP_sorted (fun t => !t) l.tail 1 n
            rw [Xf_run htk]
            have e1 : (intsN (pickP (fun t => !t) l.tail 1 n)).length = n := by simp [intsN]; omega
            simp (disch := omega) [e1, hacc, Act.v, hn]
            have e2 : intsN (pickP (fun t => !t) l.tail 1 n) = ints ((pickP (fun t => !t) l.tail 1 n).map fun (x : Nat) => (x : Int)) := by simp [ints, intsN]
            have hsl := setL_len true (pickP (fun t => !t) l.tail 1 n) l
            have hnw := apart_new t ht0 ht1 (.ps 3 (acts.map Act.v)) (Xh h 1 0 (setL l true (pickP (fun t => !t) l.tail 1 n))) (.ptr 1 0) (.int .i64 i) ((pickP (fun t => !t) l.tail 1 n).map fun (x : Nat) => (x : Int))
              (by rw [List.pairwise_map]; exact hps.imp fun h => by omega) (fun p hp => by
                obtain ⟨q, hq, rfl⟩ := List.mem_map.1 hp
                have := hpm q hq
                omega) n 0 out (by rw [List.length_map]; omega) (by omega) (by rw [List.length_map]; omega) (fun p hp hpo => (List.nodup_append.1 hsm.1).2.2 p hpo p hp rfl)
            rw [List.drop_zero] at hnw
            rw [e2]
            generalize hL : (pickP (fun t => !t) l.tail 1 n).map (fun (x : Nat) => (x : Int)) = L at hnw hsm ⊢
            have hLl : L.length = n := by rw [← hL, List.length_map]; omega
            generalize setL l true (pickP (fun t => !t) l.tail 1 n) = l' at hnw hsm hsl ⊢
            simp [ints, Act.v] at hnw
            simp [ints]
            refine hnw _ _ ?_
            simp (disch := omega)
            have := ih (i + 1) h l' (out ++ L) (by omega) hh (by omega) hsm (by rw [List.length_append]; omega) ks Q hx hr
            simpa [Act.v, ints] using this
      · intro h2
        simp (disch := omega)
        exact hx _ _
    · intro h1
      simp (disch := omega) [h1]
      exact hx _ _

theorem ExtentApart_run (t : Int) (ht0 : 0 ≤ t) (ht1 : t < 256) (acts : List Act) (hal : acts.length < 4611686018427387904) (hli : ∀ a ∈ acts, a.l.length < 4611686018427387904) :
    ∃ h', Run T f_law25_ExtentApart [.int .u8 t, .ps 3 (acts.map Act.v)] [] (.bool true) h' := by
  refine Run.startE t_law25_ExtentApart ?_
  unfold k_law25_ExtentApart
  obtain ⟨ha, haw⟩ := awake25
  have hn := xnew_run t [] [] (by simp) (by simp)
  obtain ⟨N, hN⟩ : ∃ N : Nat, min (max t 1) 65536 = N := ⟨(min (max t 1) 65536).toNat, by omega⟩
  rw [hN] at hn
  simp [ints, newS_nil] at hn
  simp (disch := omega)
  rw [Xf_run hn]
  simp (disch := omega)
  have hl := apart_loop t ht0 ht1 acts hal hli 61 0 [none, none] (List.replicate N false) [] (by omega) (by simp) (by simp; omega) ⟨by simp, fun x => by
    rw [isT_iff]
    simp [List.getElem?_replicate]⟩ (by simp)
  simp [ints] at hl
  refine hl _ _ ?_ ?_
  · intro e h
    simp (disch := omega)
    rw [Xp_run haw rfl rfl rfl]
    simp (disch := omega)
  · intro h
    simp (disch := omega)
theorem law_ExtentApart (x0 x1 : V) (h0 : Ty (.i .u8) x0) (h1 : Ty (.sl true 40 [.i .i64, .i .i64, .sl false 8 [.i .i64]]) x1) : ∃ h', Run T f_law25_ExtentApart [x0, x1] [] (.bool true) h' := by
  obtain ⟨n, rfl, hn1, hn2⟩ := h0.int
  obtain ⟨acts, rfl, ha, hb⟩ := Act.ofTy (c := 0) h1 (by omega)
  have : IntKind.u8.min = 0 := rfl
  have : IntKind.u8.max = 255 := rfl
  exact ExtentApart_run n (by omega) (by omega) acts ha hb
end Ev
