/- The laws of the extent. Each theorem states its own conditions. -/
import Derived.Test.YtmbheeapegpmlaaER25b
set_option linter.all false
namespace Ev
open Go
set_option maxRecDepth 10000
attribute [-simp] getElem?_pos getElem?_neg

def isTrue : Option (V × Heap) → Bool
  | some (.bool true, _) => true
  | _ => false
theorem Run.closed {T : Table} {f n : Nat} (h : isTrue (run T n f [] []) = true) : ∃ h', Run T f [] [] (.bool true) h' := by
  cases hr : run T n f [] [] with
  | none => rw [hr] at h; cases h
  | some r =>
    obtain ⟨v, h'⟩ := r
    rw [hr] at h
    cases v with
    | bool b => cases b with
      | true => exact ⟨h', n, hr⟩
      | false => cases h
    | _ => cases h
theorem awake25 : ∃ h', Run T f_law25_awake [] [] (.bool true) h' := Run.closed (n := 100) (by kernel_rfl)

def Zh (g : Heap) (l : List Bool) : Heap := Xh (Yh g 2 l.length (tkOf l)) 1 0 l
theorem Zh_comm (g : Heap) (l : List Bool) : Zh g l = Yh (Xh g 1 0 l) 2 l.length (tkOf l) := by
  unfold Zh Xh Yh
  rw [List.set_comm _ _ (by omega : (2:Nat) ≠ 0), List.set_comm _ _ (by omega : (2:Nat) ≠ 1)]
theorem Zh_len (g : Heap) (l : List Bool) : (Zh g l).length = g.length := by unfold Zh; rw [Xh_len, Yh_len]
theorem Zh_app (g k : Heap) (l : List Bool) (hg : 3 ≤ g.length) : Zh g l ++ k = Zh (g ++ k) l := by
  unfold Zh Xh Yh
  rw [List.set_append_left _ _ (by omega), List.set_append_left _ _ (by simp; omega), List.set_append_left _ _ (by simp; omega)]
theorem Zh_row (g : Heap) (l : List Bool) (e : Nat) (he : 3 ≤ e) : (Zh g l).row e = g.row e := by
  unfold Zh Xh Yh
  rw [row_ne (by omega), row_ne (by omega), row_ne (by omega)]

section
variable {g : Heap} {l : List Bool}
theorem z_give (hg : 3 ≤ g.length) (hl : l.length ≤ 65536) (ps : List Int) (hp : ps.length < 4611686018427387904) : Run T f_extent_Extent_Give [.ptr 1 0, .ps 1 (ints ps)] (Zh g l) (.int .i64 (giveK l ps)) (Xh (Yh g 2 l.length (tkOf l)) 1 0 (giveS l ps)) :=
  give_run ps (by rw [Yh_len]; omega) (by rw [Yh_len]; omega) (by omega) hl hp
theorem z_mid (l' : List Bool) : Xh (Yh g 2 l.length (tkOf l)) 1 0 l' = Yh (Xh g 1 0 l') 2 l.length (tkOf l) := by
  unfold Xh Yh
  rw [List.set_comm _ _ (by omega : (2:Nat) ≠ 0), List.set_comm _ _ (by omega : (2:Nat) ≠ 1)]
theorem z_fin (l' : List Bool) (h : l'.length = l.length) : Yh (Xh g 1 0 l') 2 l.length (tkOf l') = Zh g l' := by rw [Zh_comm, h]
theorem mid_row (l' : List Bool) (e : Nat) (he : 3 ≤ e) : (Xh (Yh g 2 l.length (tkOf l)) 1 0 l').row e = g.row e := by
  unfold Xh Yh
  rw [row_ne (by omega), row_ne (by omega), row_ne (by omega)]
end

theorem setL_mid : True := trivial
theorem z_take {g : Heap} {l : List Bool} (hg : 3 ≤ g.length) (h0 : 1 ≤ l.length) (hl : l.length ≤ 65536) (n : Int) : ∃ (l' : List Bool) (out : List Int) (er : Int), l'.length = l.length ∧ out.length ≤ 65536 ∧
    Run T f_extent_Extent_Take [.ptr 1 0, .int .i64 n] (Zh g l) (.tup [.ps 1 (ints out), .int .i64 er]) (Xh (Yh g 2 l.length (tkOf l)) 1 0 l') ∧
    Run T f_ref25_X_Take [.ptr 2 0, .int .i64 n] (Xh (Yh g 2 l.length (tkOf l)) 1 0 l') (.tup [.ps 1 (ints out), .int .i64 er]) (Zh g l') := by
  rcases (by omega : n < 1 ∨ (1 ≤ n ∧ fr l < n) ∨ (1 ≤ n ∧ n ≤ fr l)) with h1 | ⟨h1, h2⟩ | ⟨h1, h2⟩
  · exact ⟨l, [], 3, rfl, by simp, take_range n h1, by rw [z_mid, z_fin _ rfl]; exact rtake_range n h1 _⟩
  · refine ⟨l, [], 13, rfl, by simp, take_full n (by rw [Yh_len]; omega) h1 h2, ?_⟩
    have := rtake_full (h := Xh g 1 0 l) (d := 2) n (by rw [Xh_len]; omega) l rfl hl h0 h1 h2
    rw [z_mid, z_fin _ rfl] at *
    exact this
  · obtain ⟨m, rfl⟩ : ∃ m : Nat, n = m := ⟨n.toNat, by omega⟩
    have hlen := pickP_length (fun t => !t) l.tail 1 m
    have hfl := @fr_le l
    refine ⟨setL l true (pickP (fun t => !t) l.tail 1 m), (pickP (fun t => !t) l.tail 1 m).map fun (x : Nat) => (x : Int), 0, setL_len _ _ _, by rw [List.length_map]; omega, ?_, ?_⟩
    · have := take_run (h := Yh g 2 l.length (tkOf l)) (b := 1) (c := 0) (l := l) m (by rw [Yh_len]; omega) (by rw [Yh_len]; omega) (by omega) hl h0 (by omega) h2
      simpa [ints, intsN, Zh, Function.comp_def] using this
    · have := rtake_run (h := Xh g 1 0 (setL l true (pickP (fun t => !t) l.tail 1 m))) (d := 2) m (by rw [Xh_len]; omega) l rfl hl h0 (by omega) h2
      rw [← z_mid, z_fin _ (setL_len _ _ _)] at this
      simpa [ints, intsN, Function.comp_def] using this

structure Act where
  kind : Int
  n : Int
  l : List Int
def Act.v (a : Act) : V := .agg [.int .i64 a.kind, .int .i64 a.n, .ps 1 (ints a.l)]


theorem does_loop (total : Int) (acts : List Act) (hal : acts.length < 4611686018427387904) (hli : ∀ a ∈ acts, a.l.length < 4611686018427387904) : ∀ (k i : Nat) (g : Heap) (l : List Bool), i + k = 41 → 3 ≤ g.length → 1 ≤ l.length → l.length ≤ 65536 → ∀ ks Q,
    (∀ e h, Xk T ks (.x 0) e h Q) → (∀ h, Xk T ks .r [(6, .bool true)] h Q) →
    Xc T l_law25_ExtentDoes_0 ks [(0, .int .i64 total), (2, .ps 3 (acts.map Act.v)), (7, .ptr 1 0), (8, .ptr 2 0), (9, .int .i64 i)] (Zh g l) Q := by
  intro k
  induction k with
  | zero =>
    intro i g l hk hg h0 hl ks Q hx hr
    rw [L_law25_ExtentDoes_0]; unfold bl_law25_ExtentDoes_0
    simp (disch := omega)
    apply Xg_dec
    · intro h1
      have h2 : ¬ (i : Int) < 40 := by omega
      simp (disch := omega) [h1, h2]
      exact hx _ _
    · intro h1
      simp (disch := omega) [h1]
      exact hx _ _
  | succ k ih =>
    intro i g l hk hg h0 hl ks Q hx hr
    rw [L_law25_ExtentDoes_0]; unfold bl_law25_ExtentDoes_0
    simp (disch := omega)
    apply Xg_dec
    · intro h1
      have h1' : i < acts.length := by omega
      have ha := List.getElem?_eq_getElem h1'
      simp (disch := omega) [h1]
      apply Xb_dec
      · intro h2
        have hl40 := hli acts[i] (List.getElem_mem _)
        simp (disch := omega) [h1, h2, ha, Act.v]
        refine (fun (hR : ?R) => ?main) ?rest
        case main =>
          apply Xg_dec
          · intro c1
            simp (disch := omega) [c1]
            apply Xg_decn
            · intro c2
              simp (disch := omega) [c2, ints_len]
              apply Xb_dec
              · intro c3
                simp (disch := omega)
                exact hr _
              · intro c3
                simp (disch := omega)
                exact hR
            · intro c2
              simp (disch := omega) [c2]
              exact hr _
          · intro c1
            simp (disch := omega) [c1, ints_len]
            apply Xb_dec
            · intro c3
              simp (disch := omega)
              exact hr _
            · intro c3
              simp (disch := omega)
              exact hR
        case rest =>
          rw [Zh_app _ _ _ hg, Zh_len]
          obtain ⟨g', hg'⟩ : ∃ g', g' = g ++ [some [V.int IntKind.i64 acts[i].kind, V.int IntKind.i64 acts[i].n, V.ps 1 (ints acts[i].l)]] := ⟨_, rfl⟩
          have hgr : g'.row g.length = some [V.int IntKind.i64 acts[i].kind, V.int IntKind.i64 acts[i].n, V.ps 1 (ints acts[i].l)] := by rw [hg', row_new]
          have hg3 : 3 ≤ g'.length := by rw [hg']; simp; omega
          rw [← hg']
          clear hg'
          have hrow := fun l' => (Zh_row g' l' g.length hg).trans hgr
          have hmid := fun l' => (mid_row (g := g') (l := l) l' g.length hg).trans hgr
          refine share2 (fun (l' : List Bool) (_ : Nat × V) => l'.length = l.length) ?R2 (fun hR => ?main2) ?rest2
          case main2 =>
            apply Xb_dec
            · intro c1
              simp (disch := omega)
              apply Xc_regf
              have hz := z_give (g := g') (l := l) (by omega) hl acts[i].l hl40
              have hy := rgive_run (h := Xh g' 1 0 (giveS l acts[i].l)) (d := 2) (by rw [Xh_len]; omega) acts[i].l l rfl hl h0 hl40
              rw [← z_mid, z_fin _ (giveS_len _ _)] at hy
              simp (disch := omega) [hrow]
              rw [Xf_run hz]
              simp (disch := omega) [hmid]
              rw [Xf_run hy]
              simp (disch := omega) [flagsIn, flagP, hrow, hmid, evOp, c1]
              have hlen := giveS_len acts[i].l l
              generalize giveS l acts[i].l = l' at hlen ⊢
              generalize ((77 : Nat), V.bool false) = x
              exact hR l' x hlen
            · intro c1
              obtain ⟨l', out, er, hlen, hout, r1, r2⟩ := z_take (g := g') (by omega) h0 hl acts[i].n
              simp (disch := omega) [hrow]
              rw [Xf_run r1]
              simp (disch := omega) [hmid]
              rw [Xf_run r2]
              simp (disch := omega)
              rw [Xp_run (Ints_run out out [] (by omega)) (by simp [ints_hfs]) rfl (by simp [scalar])]
              simp (disch := omega)
              generalize ((100 : Nat), V.bool false) = x
              exact hR l' x hlen
          case rest2 =>
            intro l' x hl'
            apply Xc_regf
            have f1 := free_run (h := Yh g' 2 l'.length (tkOf l')) (b := 1) (c := 0) (l := l') (by rw [Yh_len]; omega)
            have f2 := rfree_run (h := Xh g' 1 0 l') (d := 2) (N := l'.length) (t := tkOf l') (by rw [Xh_len]; omega) (by omega) (tkOf_le _ (by omega) (by omega))
            have f3 := taken_run (h := Yh g' 2 l'.length (tkOf l')) (b := 1) (c := 0) (l := l') (by rw [Yh_len]; omega) (by rw [Yh_len]; omega) (by omega) (by omega) (by omega)
            have f4 := is_run (h := Yh g' 2 l'.length (tkOf l')) (b := 1) (c := 0) (l := l') acts[i].n (by rw [Yh_len]; omega) (by rw [Yh_len]; omega) (by omega)
            have hc := tkOf_len l' (by omega) (by omega)
            have hle := tkOf_le l' (by omega) (by omega)
            rw [← Zh_comm, show (l'.length : Int) - 1 - (tkOf l').length = fr l' by omega] at f2
            rw [← tkOf_ints] at f3
            have hrd : (Zh g' l').row 2 = some [.int .i64 l'.length, .ps 1 (ints (tkOf l'))] := by rw [Zh_comm, Yh_d (by rw [Xh_len]; omega)]
            have hmem : decide (acts[i].n ∈ tkOf l') = isT l' acts[i].n := by
              rw [Bool.eq_iff_iff, decide_eq_true_eq]; exact tkOf_mem l' _ (by omega)
            change Run T _ _ (Zh g' l') _ (Zh g' l') at f1 f3 f4
            simp (disch := omega)
            rw [Xf_run f1]
            simp (disch := omega)
            rw [Xf_run f2]
            simp (disch := omega)
            rw [Xf_run f3]
            simp (disch := omega) [hrd]
            rw [Xp_run (Ints_run (tkOf l') (tkOf l') [] (by omega)) (by simp [ints_hfs]) rfl (by simp [scalar])]
            simp (disch := omega) [hrow, hrd]
            rw [Xf_run f4]
            simp (disch := omega) [hrow, hrd]
            rw [Xp_run (Has_run (tkOf l') acts[i].n [] (by omega)) (by simp [ints_hfs]) rfl (by simp [scalar]), hmem]
            simp (disch := omega) [flagsIn, flagP, hrow, hrd, evOp]
            have := ih (i + 1) g' l' (by omega) hg3 (by omega) (by omega) ks Q hx hr
            simpa using this
      · intro h2
        simp (disch := omega)
        exact hx _ _
    · intro h1
      simp (disch := omega) [h1]
      exact hx _ _

theorem awake_hfs : V.hfs ([] : List V) = true := rfl
theorem ExtentDoes_run (total : Int) (taken : List Int) (acts : List Act) (ht : taken.length < 4611686018427387904) (hal : acts.length < 4611686018427387904) (hli : ∀ a ∈ acts, a.l.length < 4611686018427387904) :
    ∃ h', Run T f_law25_ExtentDoes [.int .i64 total, .ps 1 (ints taken), .ps 3 (acts.map Act.v)] [] (.bool true) h' := by
  refine Run.startE t_law25_ExtentDoes ?_
  unfold k_law25_ExtentDoes
  obtain ⟨ha, haw⟩ := awake25
  have hawk : ∀ {ks ops K e h Q} {d : Nat}, Xp T f_law25_awake (some ([], false)) h (some d) ops K ks e Q = Xo T ops K ks ((d, .bool true) :: e) h Q := fun {_ _ _ _ _ _ _} => Xp_run haw rfl rfl rfl
  simp (disch := omega) [ints_len]
  refine (fun (hR : ?R) => ?main) ?rest
  case main =>
    apply Xg_decn
    · intro c1
      simp (disch := omega) [c1]
      apply Xg_dec
      · intro c2
        simp (disch := omega) [c2]
        by_cases c3 : total ≤ 65536
        · simp (disch := omega) [c3, hawk]
        · simp (disch := omega) [c3, hawk]
          exact hR
      · intro c2
        simp (disch := omega) [c2, hawk]
        exact hR
    · intro c1
      simp (disch := omega) [c1, hawk]
  case rest =>
    have hn := xnew_run total taken [] ht (by simp)
    obtain ⟨N, hN⟩ : ∃ N : Nat, min (max total 1) 65536 = N := ⟨(min (max total 1) 65536).toNat, by omega⟩
    have hN1 : 1 ≤ N := by omega
    have hN2 : N ≤ 65536 := by omega
    rw [hN] at hn
    have hr := rnew_run total taken (Xh [none, none] 1 0 (newS (List.replicate N false) taken)) ht
    rw [hN] at hr
    have hl : (newS (List.replicate N false) taken).length = N := by rw [newS_len]; simp
    have e2 : List.length (Xh [none, none] 1 0 (newS (List.replicate N false) taken)) = 2 := by rw [Xh_len]; rfl
    have hz : Yh (Xh [none, none] 1 0 (newS (List.replicate N false) taken) ++ [none]) 2 N (tkOf (newS (List.replicate N false) taken)) = Zh [none, none, none] (newS (List.replicate N false) taken) := by
      rw [Zh_comm, hl]
      rfl
    rw [e2] at hr
    simp only [Int.toNat_natCast] at hr hn
    rw [hz] at hr
    simp at hn
    rw [Xf_run hn]
    simp (disch := omega)
    rw [Xf_run hr]
    simp (disch := omega)
    have hlo := does_loop total acts hal hli 41 0 [none, none, none] (newS (List.replicate N false) taken) (by omega) (by simp) (by omega) (by omega)
    simp at hlo
    refine hlo _ _ ?_ ?_
    · intro e h
      simp (disch := omega)
    · intro h
      simp (disch := omega)

theorem ExtentNone_run (n : Int) : ∃ h', Run T f_law25_ExtentNone [.int .i64 n] [] (.bool true) h' := by
  refine Run.startE t_law25_ExtentNone ?_
  unfold k_law25_ExtentNone
  obtain ⟨ha, haw⟩ := awake25
  simp (disch := omega)
  rw [Xf_run (take_nil n [])]
  simp (disch := omega)
  rw [Xp_run haw rfl rfl rfl]
  simp (disch := omega)
  rw [Xf_run (freen_run [])]
  simp (disch := omega)
  rw [Xf_run (given_run n [])]
  simp (disch := omega)
  rw [Xf_run (takenn_run [])]
  simp (disch := omega)
  rw [Xf_run (isn_run n [])]
  simp (disch := omega)
end Ev
