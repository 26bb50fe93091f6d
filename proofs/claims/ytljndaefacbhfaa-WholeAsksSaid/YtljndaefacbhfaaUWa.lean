/- A station: frames as values; may a frame be? A station: does a frame go with those of its bundle? A station takes a frame. A station: the numbers that were heard. A station: pairs of numbers, what is missing. A station: frames taken out, how many there are. Frames of one bundle: what they fill. A station: a bundle. The reference of a station: what is wrong with a frame, which numbers there are, a bundle. What is missing, as pairs; frames as arguments; a station's awake. The law WholeTakes. Heaps whose other rows stay; slices of the heap cut and cleared. Whole numbers that stand beside equal ones left out: slices.Compact. slices.Compact of whole numbers, a slice that stays. A station: what is asked of a node, whose frames there are. A station: whose frames there are; a nil station; the law WholeAsks. Each theorem states its own conditions. -/
import Derived.Test.YtljndaefacbhfaaUCode
import Derived.Test.YtljndaefacbhfaaUB
import Derived.Test.YtljndaefacbhfaaUR01
set_option linter.all false
namespace Ev
open Go
set_option maxRecDepth 10000
attribute [-simp] getElem?_pos getElem?_neg
structure Fm where
  num : Int
  id : Int
  off : Int
  tot : Int
  dat : List UInt8
  deriving DecidableEq
def Fm.cs (f : Fm) : List V := [.int .u64 f.num, .int .u64 f.id, .int .i64 f.off, .int .i64 f.tot, .str f.dat]
def Fm.v (f : Fm) : V := .agg f.cs
/-- What a frame's numbers are at all. -/
structure Fm.ok (f : Fm) : Prop where
  n0 : 0 ≤ f.num
  n1 : f.num < 18446744073709551616
  i0 : 0 ≤ f.id
  i1 : f.id < 18446744073709551616
  o0 : -9223372036854775808 ≤ f.off
  o1 : f.off < 9223372036854775808
  t0 : -9223372036854775808 ≤ f.tot
  t1 : f.tot < 9223372036854775808
  d1 : f.dat.length < 4611686018427387904
def lenOk (o t : Int) : Bool := decide (1 ≤ t ∧ t ≤ 3192 ∧ 0 ≤ o ∧ o < t ∧ o % 100 = 0)
theorem length_run (o t : Int) (ho : o < 9223372036854775808) (h : Heap) : Run T f_frame_length [.int .i64 o, .int .i64 t] h (.tup [.int .i64 (if lenOk o t then min 100 (t - o) else 0), .bool (lenOk o t)]) h := by
  refine Run.start t_frame_length ?_
  unfold k_frame_length lenOk
  by_cases c1 : t < 1
  · have e1 : ¬ (1 ≤ t ∧ t ≤ 3192 ∧ 0 ≤ o ∧ o < t ∧ o % 100 = 0) := by omega
    simp (disch := omega) [c1, e1]
  by_cases c2 : 3192 < t
  · have e1 : ¬ (1 ≤ t ∧ t ≤ 3192 ∧ 0 ≤ o ∧ o < t ∧ o % 100 = 0) := by omega
    simp (disch := omega) [c1, c2, e1]
  by_cases c3 : o < 0
  · have e1 : ¬ (1 ≤ t ∧ t ≤ 3192 ∧ 0 ≤ o ∧ o < t ∧ o % 100 = 0) := by omega
    simp (disch := omega) [c1, c2, c3, e1]
  by_cases c4 : t ≤ o
  · have e1 : ¬ (1 ≤ t ∧ t ≤ 3192 ∧ 0 ≤ o ∧ o < t ∧ o % 100 = 0) := by omega
    simp (disch := omega) [c1, c2, c3, c4, e1]
  have e5 : o.tmod 100 = o % 100 := Int.tmod_eq_emod_of_nonneg (by omega)
  by_cases c5 : o % 100 = 0
  · have e1 : (1 ≤ t ∧ t ≤ 3192 ∧ 0 ≤ o ∧ o < t ∧ o % 100 = 0) := by omega
    simp (disch := omega) [c1, c2, c3, c4, c5, e1, e5]
  · have e1 : ¬ (1 ≤ t ∧ t ≤ 3192 ∧ 0 ≤ o ∧ o < t ∧ o % 100 = 0) := by omega
    simp (disch := omega) [c1, c2, c3, c4, c5, e1, e5]
def mayF (f : Fm) : Bool := lenOk f.off f.tot && decide (f.num < 2147483648) && decide (f.id < 2147483648) && decide ((f.dat.length : Int) = min 100 (f.tot - f.off))
section
variable {ks : List Kt} {ops : List AOpr} {K : Kp} {e : Env} {h : Heap} {Q : Ex → Env → Heap → Prop} {d : Nat} {lent : Bool}
theorem length_p (o t : Int) (ho : o < 9223372036854775808) : Xp T f_frame_length (some ([.int .i64 o, .int .i64 t], lent)) h (some d) ops K ks e Q = Xo T ops K ks ((d, .tup [.int .i64 (if lenOk o t then min 100 (t - o) else 0), .bool (lenOk o t)]) :: e) h Q := by
  have := Xp_run (length_run o t ho []) (by simp) rfl (b := false) (by simp) (ks := ks) (ops := ops) (K := K) (e := e) (h := h) (Q := Q) (d := d)
  cases lent with
  | false => exact this
  | true => exact Xp_run (length_run o t ho []) (by simp) rfl (by simp [scalar]) 
end
theorem Check_run (f : Fm) (hf : f.ok) (h : Heap) : ∃ h', Run T f_frame_Check [f.v] h (.int .i64 (if mayF f then 0 else 3)) h' := by
  obtain ⟨num, id, off, tot, dat⟩ := f
  obtain ⟨n0, n1, i0, i1, o0, o1, t0, t1, d1⟩ := hf
  simp only at n0 n1 i0 i1 o0 o1 t0 t1 d1
  refine Run.startE t_frame_Check ?_
  unfold k_frame_Check
  unfold mayF
  simp only [Fm.v, Fm.cs]
  have lp := fun {ks : List Kt} {ops : List AOpr} {K : Kp} {e : Env} {h : Heap} {Q : Ex → Env → Heap → Prop} {d : Nat} => length_p (ks := ks) (ops := ops) (K := K) (e := e) (h := h) (Q := Q) (d := d) (lent := false) off tot o1
  cases c0 : lenOk off tot with
  | false =>
    simp only [c0] at lp
    simp (disch := omega) [lp, c0]
  | true =>
    simp only [c0] at lp
    by_cases c1 : 2147483648 ≤ num
    · have e1 : ¬ num < 2147483648 := by omega
      simp (disch := omega) [lp, c0, c1, e1]
    have e1 : num < 2147483648 := by omega
    by_cases c2 : 2147483648 ≤ id
    · have e2 : ¬ id < 2147483648 := by omega
      simp (disch := omega) [lp, c0, c1, e1, c2, e2]
    have e2 : id < 2147483648 := by omega
    by_cases c3 : (dat.length : Int) = min 100 (tot - off)
    · simp (disch := omega) [lp, c0, c1, e1, c2, e2, c3]
    · simp (disch := omega) [lp, c0, c1, e1, c2, e2, c3]
theorem tdiv100 (o : Int) (h : 0 ≤ o) : o.tdiv 100 = o / 100 := Int.tdiv_eq_ediv_of_nonneg h
def firstF (f : Fm) : Int := IntKind.u64.wrap (f.num - f.off / 100)
theorem first_run (f : Fm) (hf : f.ok) (ho : 0 ≤ f.off) (h : Heap) : ∃ h', Run T f_whole_first [f.v] h (.int .u64 (firstF f)) h' := by
  obtain ⟨num, id, off, tot, dat⟩ := f
  obtain ⟨n0, n1, i0, i1, o0, o1, t0, t1, d1⟩ := hf
  simp only at n0 n1 i0 i1 o0 o1 t0 t1 d1 ho
  have e1 := tdiv100 off ho
  refine Run.startE t_whole_first ?_
  unfold k_whole_first firstF
  simp only [Fm.v, Fm.cs]
  simp (disch := omega) [e1]
theorem Fm.vc (f : Fm) : f.v.cells = f.cs := rfl
theorem Fm.one (f : Fm) : f.cs.all V.one = true := rfl
theorem Fm.len (f : Fm) : f.cs.length = 5 := rfl
theorem Fm.hf (f : Fm) : f.v.hf = true := rfl
theorem Fm.eqv (f g : Fm) : eqFs (.cons 0 0 .int (.cons 1 0 .int (.cons 2 0 .int (.cons 3 0 .int (.cons 4 0 .str .nil))))) f.cs g.cs = some (decide (f = g)) := by
  obtain ⟨a, b, c, d, e⟩ := f
  obtain ⟨a', b', c', d', e'⟩ := g
  simp only [Fm.cs]
  by_cases c1 : a = a'
  · by_cases c2 : b = b'
    · by_cases c3 : c = c'
      · by_cases c4 : d = d'
        · by_cases c5 : e = e'
          · simp [c1, c2, c3, c4, c5]
          · simp [c1, c2, c3, c4, c5]
        · simp [c1, c2, c3, c4]
      · simp [c1, c2, c3]
    · simp [c1, c2]
  · simp [c1]
section
variable {ks : List Kt} {ops : List AOpr} {K : Kp} {e : Env} {h : Heap} {Q : Ex → Env → Heap → Prop} {d : Nat} {lent : Bool}
theorem Check_p (f : Fm) (hf : f.ok) : Xp T f_frame_Check (some ([f.v], lent)) h (some d) ops K ks e Q = Xo T ops K ks ((d, .int .i64 (if mayF f then 0 else 3)) :: e) h Q := by
  obtain ⟨h', r⟩ := Check_run f hf []
  exact Xp_run r (by simp [Fm.hf]) rfl (by simp [scalar])
theorem first_p (f : Fm) (hf : f.ok) (ho : 0 ≤ f.off) : Xp T f_whole_first (some ([f.v], lent)) h (some d) ops K ks e Q = Xo T ops K ks ((d, .int .u64 (firstF f)) :: e) h Q := by
  obtain ⟨h', r⟩ := first_run f hf ho []
  exact Xp_run r (by simp [Fm.hf]) rfl (by simp [scalar])
end
/-- A map's row: frames by their numbers. -/
def kvF (f : Fm) : V := .tup [.int .u64 f.num, f.v]
def kvL (L : List Fm) : List V := L.map kvF
theorem kvL_len (L : List Fm) : (kvL L).length = L.length := by simp [kvL]
theorem kvL_get (L : List Fm) (i : Nat) : (kvL L)[i]? = (L[i]?).map kvF := by simp [kvL]
theorem kvL_is (L : List Fm) : isKvs (kvL L) = true := by cases L <;> rfl
def findN (L : List Fm) (n : Int) : Option Fm := L.find? fun g => g.num == n
theorem kvL_find (n : Int) : ∀ (L : List Fm) (i : Nat), ∃ j, kvFind .int (.int .u64 n) (kvL L) i = some ((findN L n).map fun g => (j, g.v))
  | [], i => ⟨0, rfl⟩
  | g :: L, i => by
    obtain ⟨j, hj⟩ := kvL_find n L (i + 1)
    by_cases c : n = g.num
    · exact ⟨i, by simp [kvL, kvF, kvFind, keyEq, findN, c]⟩
    · have c' : ¬ g.num = n := fun e => c e.symm
      refine ⟨j, ?_⟩
      simp only [kvL, List.map_cons, kvF, kvFind, keyEq, if_true, Option.bind_some]
      rw [if_neg (by simpa using c)]
      simp only [findN, List.find?_cons] at hj ⊢
      rw [show (g.num == n) = false by simpa using c']
      exact hj
theorem kvL_count : ∀ L : List Fm, kvCount (kvL L) = some L.length
  | [] => rfl
  | g :: L => by simp [kvL, kvF, kvCount]; exact kvL_count L
/-- A station in the heap. -/
structure SH (h : Heap) (s m : Nat) (L : List Fm) : Prop where
  rs : h.row s = some [.mp m]
  rm : h.row m = some (kvL L)
  ne : s ≠ m
theorem SH.app {h : Heap} {s m : Nat} {L : List Fm} (k : SH h s m L) (J : Heap) : SH (h ++ J) s m L := ⟨by rw [row_app (row_lt k.rs)]; exact k.rs, by rw [row_app (row_lt k.rm)]; exact k.rm, k.ne⟩
structure LOk (L : List Fm) : Prop where
  ok : ∀ f, f ∈ L → f.ok
  may : ∀ f, f ∈ L → mayF f = true
  len : L.length ≤ 40
theorem mayF_off {f : Fm} (h : mayF f = true) : 0 ≤ f.off ∧ f.off < f.tot ∧ f.tot ≤ 3192 ∧ f.off % 100 = 0 ∧ f.num < 2147483648 ∧ f.id < 2147483648 ∧ (f.dat.length : Int) = min 100 (f.tot - f.off) := by
  unfold mayF lenOk at h
  simp only [Bool.and_eq_true, decide_eq_true_eq] at h
  omega
def fits1 (f g : Fm) : Bool := !(g.id == f.id && (!(g.tot == f.tot) || !(firstF g == firstF f)))
def fitsB (L : List Fm) (f : Fm) : Bool := L.all (fits1 f)
theorem pre_row {h J : Heap} {b : Nat} {cs : List V} (hb : h.row b = some cs) : (h ++ J).row b = some cs := by rw [row_app (row_lt hb)]; exact hb
theorem pre_of {h g : Heap} {n : Nat} (hl : h.length ≤ g.length) (hg : ∀ i, i < h.length → g[i]? = h[i]?) : ∃ J, g = h ++ J := by
  refine ⟨g.drop h.length, ?_⟩
  apply List.ext_getElem?
  intro i
  rcases Nat.lt_or_ge i h.length with c | c
  · rw [List.getElem?_append_left c, hg i c]
  · rw [List.getElem?_append_right c, List.getElem?_drop]
    congr 1; omega
/-- The entry that a walk has just told. -/
theorem ent_row {h : Heap} {wk m N last p : Nat} {seen : List Nat} {kvs : List V} {k v : V} (h1 : h.row wk = some [.mp m, .ptr N last, seenV (seen ++ [p])]) (h2 : h.row m = some kvs) (h3 : isKvs kvs = true) (h4 : kvs.length = last) (h5 : kvs[p]? = some (.tup [k, v])) :
    entV h (.itr wk) = some (.tup [k, v]) := by
  have hl : lastV (((seen ++ [p]).map fun j => V.ptr j 0)) = some p := by
    rw [List.map_append]
    generalize seen.map (fun j => V.ptr j 0) = l
    induction l with
    | nil => rfl
    | cons a l ih => cases l with
      | nil => cases a <;> rfl
      | cons b l => cases a <;> exact ih
  simp only [entV, h1, seenV, Option.bind_some, h2, h3, h4, beq_self_eq_true, Bool.and_true, if_true, hl, h5]
theorem set_pre {a : Heap} {wk : Nat} {o : Option (List V)} {J : Heap} (h : a.length ≤ wk) : (a ++ J).set wk o = a ++ J.set (wk - a.length) o := by
  rw [List.set_append]
  rw [if_neg (by omega)]
theorem wfits_run {h : Heap} {s m : Nat} {L : List Fm} (hS : SH h s m L) (hL : LOk L) (f : Fm) (hf : f.ok) (hm : mayF f = true) : ∃ J, Run T f_whole_Station_fits [.ptr s 0, f.v] h (.bool (fitsB L f)) (h ++ J) := by
  have hso := (mayF_off hm).1
  have hr : ∃ v h', (v = .bool (fitsB L f) ∧ ∃ J, h' = h ++ J) ∧ Run T f_whole_Station_fits [.ptr s 0, f.v] h v h' := by
    refine Run.startP t_whole_Station_fits ?_
    unfold k_whole_Station_fits
    simp only [args, Xc_seq]
    simp (disch := omega) [Fm.vc, Fm.one]
    refine Xc_mloop (.r) [(4, .bool (fitsB L f))] (fun h' => ∃ J, h' = h ++ J) ?_ ?_
    · have r1 : (h ++ [some f.cs]).row s = some [.mp m] := pre_row hS.rs
      have r2 : (h ++ [some f.cs]).row m = some (kvL L) := pre_row hS.rm
      simp (disch := omega) [r1, r2, kvL_is, kvL_len]
      refine Mg_walk (Meets.pre h) (wk := h.length + 1) (m := m) (N := L.length)
        (fun seen kvs e hh => kvs = kvL L ∧ e.keep [3, 11] = [(3, .ptr h.length 0), (11, .itr (h.length + 1))] ∧ (∃ J, hh = h ++ some f.cs :: J) ∧ (∃ last, L.length ≤ last ∧ hh.row (h.length + 1) = some [.mp m, .ptr L.length last, seenV seen]) ∧ ∀ p, p ∈ seen → ∀ g, L[p]? = some g → fits1 f g = true)
        ?_ ?_ ?_ L.length [] (kvL L) _ _ (by simp) ?_ (by simp) (by simp)
      · rintro seen kvs e hh ⟨rfl, he, ⟨J, rfl⟩, hw, _⟩
        refine ⟨by rw [he]; rfl, hw, ?_, kvL_is L, kvL_len L⟩
        exact pre_row hS.rm
      · rintro seen kvs e hh ⟨rfl, he, ⟨J, rfl⟩, hw, hall⟩ hn hcov
        have hb : fitsB L f = true := by
          unfold fitsB
          rw [List.all_eq_true]
          intro g hg
          obtain ⟨p, hp⟩ := List.getElem?_of_mem hg
          exact hall p (hcov p _ (by rw [kvL_get, hp]; rfl)) g hp
        rw [he]
        unfold cm_whole_Station_fits_0
        simp [hb]
      · rintro seen kvs e hh p x ⟨rfl, he, ⟨J, rfl⟩, ⟨last, hl1, hw⟩, hall⟩ hn hlt hp hps
        rw [kvL_get] at hp
        cases hg : L[p]? with
        | none => rw [hg] at hp; cases hp
        | some g =>
        rw [hg] at hp
        simp only [Option.map_some, kvF, Option.some.injEq, V.tup.injEq] at hp
        subst hp
        have hgm : g ∈ L := List.mem_of_getElem? hg
        have go := hL.ok g hgm
        have gm := (mayF_off (hL.may g hgm)).1
        have hwl := row_lt hw
        rw [he]
        obtain ⟨Z, hZ⟩ : ∃ Z : Heap, Z = (h ++ some f.cs :: J).set (h.length + 1) (some [.mp m, .ptr L.length L.length, seenV (seen ++ [p])]) := ⟨_, rfl⟩
        have z1 : Z.row (h.length + 1) = some [.mp m, .ptr L.length L.length, seenV (seen ++ [p])] := by rw [hZ, row_set hwl]
        have z2 : Z.row m = some (kvL L) := by
          have : h.length + 1 ≠ m := by have := row_lt hS.rm; omega
          rw [hZ, row_ne this]
          exact pre_row hS.rm
        have z3 : Z.row h.length = some f.cs := by
          rw [hZ, row_ne (by omega)]
          simp
        have zl : h.length < Z.length := row_lt z3
        have zp : ∃ J', Z = h ++ some f.cs :: J' := by
          refine ⟨J.set 0 (some [.mp m, .ptr L.length L.length, seenV (seen ++ [p])]), ?_⟩
          rw [hZ, show h ++ some f.cs :: J = (h ++ [some f.cs]) ++ J by simp, set_pre (by simp)]
          simp
        rw [← hZ]
        have he := ent_row z1 z2 (kvL_is L) (kvL_len L) (p := p) (k := .int .u64 g.num) (v := g.v) (by rw [kvL_get, hg]; rfl)
        clear hZ
        unfold bm_whole_Station_fits_0
        have fp := fun {ks : List Kt} {ops : List AOpr} {K : Kp} {e : Env} {h : Heap} {Q : Ex → Env → Heap → Prop} {d : Nat} => first_p (ks := ks) (ops := ops) (K := K) (e := e) (h := h) (Q := Q) (d := d) (lent := false) f hf hso
        have gp := fun {ks : List Kt} {ops : List AOpr} {K : Kp} {e : Env} {h : Heap} {Q : Ex → Env → Heap → Prop} {d : Nat} => first_p (ks := ks) (ops := ops) (K := K) (e := e) (h := h) (Q := Q) (d := d) (lent := false) g go gm
        have hfit : fits1 f g = !(g.id == f.id && (!(g.tot == f.tot) || !(firstF g == firstF f))) := rfl
        have hin : fits1 f g = false → fitsB L f = false := fun e0 => by
          unfold fitsB
          rw [Bool.eq_false_iff]
          intro e1
          have := List.all_eq_true.1 e1 g hgm
          rw [e0] at this
          cases this
        generalize firstF g = G at hfit gp
        generalize firstF f = F at hfit fp
        generalize fitsB L f = B at hin ⊢
        generalize hX : fits1 f g = X at hfit hin
        have e14 : ∀ q, q ∈ seen ++ [p] → X = true → ∀ g', L[q]? = some g' → fits1 f g' = true := fun q hq hx g' hg' => by
          rcases List.mem_append.1 hq with hq | hq
          · exact hall q hq g' hg'
          · simp at hq
            subst hq
            rw [hg] at hg'
            cases hg'
            rw [hX, hx]
        obtain ⟨gn, gi, go', gt, gd⟩ := g
        obtain ⟨fn, fi, fo, ft, fd⟩ := f
        simp only [Fm.v, Fm.cs] at fp gp he z3 hfit
        have zz : (Z ++ [some [V.int .u64 gn, .int .u64 gi, .int .i64 go', .int .i64 gt, .str gd]]).row h.length = some [V.int .u64 fn, .int .u64 fi, .int .i64 fo, .int .i64 ft, .str fd] := pre_row z3
        have zw : ∀ J : Heap, (Z ++ J).row (h.length + 1) = some [.mp m, .ptr L.length L.length, seenV (seen ++ [p])] := fun J => pre_row z1
        have zq : ∀ J : Heap, ∃ J', Z ++ J = h ++ some (Fm.cs ⟨fn, fi, fo, ft, fd⟩) :: J' := fun J => by
          obtain ⟨J', e⟩ := zp
          exact ⟨J' ++ J, by rw [e]; simp⟩
        have zq2 : ∀ J : Heap, ∃ J', Z ++ J = h ++ J' := fun J => by
          obtain ⟨J', e⟩ := zq J
          exact ⟨_, e⟩
        simp only [Fm.cs] at zq
        by_cases c1 : gi = fi
        · subst c1
          by_cases c2 : gt = ft
          · subst c2
            by_cases c3 : G = F
            · subst c3
              have hx : X = true := by rw [hfit]; simp
              simp (disch := omega) [he, z3, Fm.vc, spliceL, Fm.v, Fm.cs, fp, gp, zz, Wb]
              refine ⟨zq _, ⟨L.length, Nat.le_refl _, zw _⟩, fun q hq => e14 q (by simpa using hq) hx⟩
            · have hx : X = false := by rw [hfit]; simp [c3]
              simp (disch := omega) [he, z3, Fm.vc, spliceL, Fm.v, Fm.cs, c3, fp, gp, zz, Wb, hin hx]
              exact zq2 _
          · have hx : X = false := by rw [hfit]; simp [c2]
            simp (disch := omega) [he, z3, Fm.vc, spliceL, Fm.v, Fm.cs, c2, fp, gp, zz, Wb, hin hx]
            exact zq2 _
        · have hx : X = true := by rw [hfit]; simp [c1]
          simp (disch := omega) [he, z3, Fm.vc, spliceL, Fm.v, Fm.cs, c1, fp, gp, zz, Wb]
          refine ⟨zq _, ⟨L.length, Nat.le_refl _, zw _⟩, fun q hq => e14 q (by simpa using hq) hx⟩
      · refine ⟨rfl, rfl, ⟨_, by simp; rfl⟩, ⟨L.length, Nat.le_refl _, by simp [seenV]⟩, by simp⟩
    · rintro h' ⟨J, rfl⟩
      simp
  obtain ⟨v, h', ⟨rfl, J, rfl⟩, r⟩ := hr
  exact ⟨J, r⟩
theorem look_kv {h : Heap} {m : Nat} {L : List Fm} (hm : h.row m = some (kvL L)) (n : Int) (z : V) (ok : Bool) :
    lookV h .int (.mp m) (.int .u64 n) z ok = some (match findN L n with | some g => if ok then .tup [g.v, .bool true] else g.v | none => if ok then .tup [z, .bool false] else z) := by
  obtain ⟨j, hj⟩ := kvL_find n L 0
  unfold lookV
  simp only [kvsOf, hm, Option.bind_some, keyEq, if_true, hj]
  cases findN L n <;> rfl
theorem mset_kv {h : Heap} {m : Nat} {L : List Fm} (hm : h.row m = some (kvL L)) (f : Fm) (hn : findN L f.num = none) : msetV h .int (.mp m) (.int .u64 f.num) f.v = some (h.set m (some (kvL (L ++ [f])))) := by
  obtain ⟨j, hj⟩ := kvL_find f.num L 0
  rw [hn] at hj
  unfold msetV
  simp only [hm, Option.bind_some, keyEq, if_true, hj, Option.map_none]
  simp [kvL, kvF]
theorem findN_none {L : List Fm} {n : Int} (h : findN L n = none) : ∀ g, g ∈ L → g.num ≠ n := fun g hg => by
  unfold findN at h
  have := List.find?_eq_none.1 h g hg
  simpa using this
theorem SH.setM {h : Heap} {s m : Nat} {L : List Fm} (k : SH h s m L) (L' : List Fm) : SH (h.set m (some (kvL L'))) s m L' := ⟨by rw [row_ne (fun e => k.ne e.symm)]; exact k.rs, by rw [row_set (row_lt k.rm)], k.ne⟩
theorem row_app_ge {h J : Heap} {b : Nat} (hb : h.length ≤ b) : (h ++ J).row b = J.row (b - h.length) := by unfold Heap.row; rw [List.getElem?_append_right hb]
def takeE (L : List Fm) (f : Fm) : Int := if mayF f then (match findN L f.num with | some g => if g = f then 15 else 6 | none => if fitsB L f then 0 else 6) else 3
def Fm.z : Fm := ⟨0, 0, 0, 0, []⟩
theorem WTake_run {h : Heap} {s m : Nat} {L : List Fm} (hS : SH h s m L) (hL : LOk L) (f : Fm) (hf : f.ok) :
    ∃ h', SH h' s m (if takeE L f = 0 then L ++ [f] else L) ∧ Run T f_whole_Station_Take [.ptr s 0, f.v] h (.int .i64 (takeE L f)) h' := by
  have hll := hL.len
  have hr : ∃ v h', (v = .int .i64 (takeE L f) ∧ SH h' s m (if takeE L f = 0 then L ++ [f] else L)) ∧ Run T f_whole_Station_Take [.ptr s 0, f.v] h v h' := by
    refine Run.startP t_whole_Station_Take ?_
    unfold k_whole_Station_Take
    have S1 : ∀ J, SH (h ++ J) s m L := fun J => hS.app J
    have cp := fun {ks : List Kt} {ops : List AOpr} {K : Kp} {e : Env} {h : Heap} {Q : Ex → Env → Heap → Prop} {d : Nat} => Check_p (ks := ks) (ops := ops) (K := K) (e := e) (h := h) (Q := Q) (d := d) (lent := false) f hf
    simp only [Fm.v] at cp
    have ft : f.cs.take 5 = f.cs := rfl
    have gt : ∀ g : Fm, g.cs.take 5 = g.cs := fun _ => rfl
    have gl : ∀ g : Fm, g.cs.length = 5 := fun _ => rfl
    have g1 : ∀ g : Fm, g.cs.all V.one = true := fun _ => rfl
    have g2 : ∀ (g : Fm) x, x ∈ g.cs → x.one = true := fun g x hx => List.all_eq_true.1 (g1 g) x hx
    have fl := f.len
    cases cm : mayF f with
    | false =>
      have te : takeE L f = 3 := by unfold takeE; rw [cm]; rfl
      rw [cm] at cp
      simp (disch := omega) [Fm.v, ft, Fm.one, fl, te, cp, g2]
      exact S1 _
    | true =>
      rw [cm] at cp
      have H1 : ∀ J, (h ++ J).row s = some [.mp m] := fun J => (S1 J).rs
      have H2 : ∀ J, (h ++ J).row m = some (kvL L) := fun J => (S1 J).rm
      have e0 : f.cs[0]? = some (.int .u64 f.num) := rfl
      have lk := fun J => look_kv (H2 J) f.num (.agg [.int .u64 0, .int .u64 0, .int .i64 0, .int .i64 0, .str []]) true
      simp (disch := omega) [Fm.v, ft, Fm.one, fl, cp, g2]
      apply Xc_regf
      cases cf : findN L f.num with
      | some g =>
        rw [cf] at lk
        simp only [if_true, Fm.v] at lk
        have te : takeE L f = if g = f then 15 else 6 := by unfold takeE; rw [cm, cf]; rfl
        have sp : spliceL [V.int .u64 0, .int .u64 0, .int .i64 0, .int .i64 0, .str []] 0 g.cs = g.cs := rfl
        simp (disch := omega) [H1, H2, e0, lk, gl, gt, Fm.one, sp, Fm.eqv, -eq_fcons]
        simp (disch := omega) [flagsIn, flagP, evOp, H1, H2, e0, lk, gl, gt, Fm.one, sp, Fm.eqv, -eq_fcons]
        by_cases c1 : g = f
        · simp (disch := omega) [te, c1]
          exact S1 _
        · simp (disch := omega) [te, c1]
          exact S1 _
      | none =>
        rw [cf] at lk
        simp only [if_true, if_false] at lk
        have te : takeE L f = if fitsB L f then 0 else 6 := by unfold takeE; rw [cm, cf]; rfl
        have ms := fun J => mset_kv (H2 J) f cf
        simp (disch := omega) [H1, H2, e0, lk, gl, gt, Fm.one]
        simp (disch := omega) [flagsIn, flagP, evOp, H1, H2, e0, lk, gl, gt, Fm.one, Fm.eqv, -eq_fcons]
        obtain ⟨J2, fr⟩ := wfits_run (S1 [some f.cs, some [.int .u64 0, .int .u64 0, .int .i64 0, .int .i64 0, .str []]]) hL f hf cm
        simp only [Fm.v] at fr
        rw [Xf_run fr]
        rw [List.append_assoc]
        have rf : (h ++ ([some f.cs, some [V.int .u64 0, V.int .u64 0, V.int .i64 0, V.int .i64 0, V.str []]] ++ J2)).row h.length = some f.cs := by rw [row_app_ge (Nat.le_refl _), Nat.sub_self]; rfl
        have rg : Heap.row ([some f.cs, some [V.int .u64 0, V.int .u64 0, V.int .i64 0, V.int .i64 0, V.str []]] ++ J2) 0 = some f.cs := rfl
        generalize [some f.cs, some [V.int .u64 0, .int .u64 0, .int .i64 0, .int .i64 0, .str []]] ++ J2 = J3 at *
        cases ft : fitsB L f with
        | false =>
          simp (disch := omega) [te, ft]
          exact S1 _
        | true =>
          have ml : ∀ J, mlenV (h ++ J) (.mp m) = some (.int .i64 L.length) := fun J => by
            unfold mlenV kvsOf
            simp only [H2, Option.bind_some, kvL_count, Option.map_some]
          simp only [Fm.v] at ms
          have nl : ¬ (65536 : Int) ≤ L.length := by omega
          simp (disch := omega) [te, ft, H1, ml, nl, rf, rg, e0, ms, gt, gl]
          exact (S1 J3).setM _
  obtain ⟨v, h', ⟨rfl, q⟩, r⟩ := hr
  exact ⟨h', q, r⟩
theorem seen_perm {n : Nat} {seen : List Nat} (h1 : seen.Nodup) (h2 : ∀ p, p ∈ seen → p < n) (h3 : ∀ p, p < n → p ∈ seen) : seen.Perm (List.range n) :=
  (List.perm_ext_iff_of_nodup h1 List.nodup_range).2 fun p => ⟨fun h => List.mem_range.2 (h2 p h), fun h => h3 p (List.mem_range.1 h)⟩
theorem range_map {α : Type} (l : List α) : (List.range l.length).filterMap (fun p => l[p]?) = l := by
  induction l with
  | nil => rfl
  | cons a l ih =>
    rw [List.length_cons, List.range_succ_eq_map, List.filterMap_cons]
    simp only [List.getElem?_cons_zero, List.filterMap_map]
    congr 1
def numsL (L : List Fm) (n : Int) : List Int := ((L.map Fm.num).filter fun x => decide (x < n)).mergeSort fun a b => decide (a ≤ b)
theorem numsL_perm (L : List Fm) (n : Int) : (numsL L n).Perm ((L.map Fm.num).filter fun x => decide (x < n)) := List.mergeSort_perm _ _
theorem numsL_sorted (L : List Fm) (n : Int) : (numsL L n).Pairwise (· ≤ ·) := by
  have := List.pairwise_mergeSort (le := fun a b : Int => decide (a ≤ b)) (fun a b c h k => by simp at *; omega) (fun a b => by simp; omega) ((L.map Fm.num).filter fun x => decide (x < n))
  exact this.imp fun h => by simpa using h
theorem sorted_uniq {a b : List Int} (hp : a.Perm b) (ha : a.Pairwise (· ≤ ·)) (hb : b.Pairwise (· ≤ ·)) : a = b := hp.eq_of_pairwise (fun x y _ _ h k => by omega) ha hb
theorem setrow {h : Heap} {b : Nat} {cs : List V} (hr : h.row b = some cs) : h.set b (some cs) = h := by
  have h1 := row_some hr
  apply List.ext_getElem?
  intro i
  by_cases c : b = i
  · subst c; rw [List.getElem?_set_self (row_lt hr), h1]
  · rw [List.getElem?_set_ne c]
/-- Numbers sorted. -/
theorem SortU_run {h : Heap} {b : Nat} {l : List Int} (hr : h.row b = some (u64L l)) (hn : l.length < 64) : ∃ g l', l'.Perm l ∧ l'.Pairwise (· ≤ ·) ∧ Run T f_slices_Sort_uint64_uint64 [.hs 1 b 0 l.length] h (.tup []) g ∧ h.length ≤ g.length ∧ g.row b = some (u64L l') ∧ ∀ i, i < h.length → i ≠ b → g.row i = h.row i := by
  obtain ⟨g2, d', a1, a2, a3, rs⟩ := sortf_run (h0 := h) (h := h) (b := b) (row_lt hr) ⟨Nat.le_refl _, fun _ _ _ => rfl⟩ l.toArray (by simpa using hn)
  have sd : SD h b l.toArray = h := by
    unfold SD
    exact setrow (by simpa using hr)
  have fsz : l.toArray.size = l.length := by simp
  rw [sd, fsz] at rs
  have dsz : d'.size = l.length := by rw [a2.1, fsz]
  have b2 : b < g2.length := Nat.lt_of_lt_of_le (row_lt hr) a1.1
  refine ⟨_, d'.toList, ?_, ?_, rs, by rw [SD_len]; exact a1.1, SD_row b2 d', fun i hi hne => ?_⟩
  · have := a2.2.2
    simp at this
    rwa [List.take_of_length_le (by simp [dsz])] at this
  · rw [List.pairwise_iff_getElem]
    intro i j hi hj hij
    simp at hi hj
    have := a3 i j (Nat.zero_le _) hij (by rw [fsz, ← dsz]; exact hj)
    simp only [Sort.ltInt, decide_eq_false_iff_not] at this
    simp only [getElem!_pos d' i hi, getElem!_pos d' j hj] at this
    simp
    omega
  · unfold SD
    rw [row_ne (fun e => hne e.symm)]
    exact a1.2 i hi hne
theorem SortU_hn (h : Heap) : Run T f_slices_Sort_uint64_uint64 [.hn 1] h (.tup []) h := by
  have r1 : Run T f_slices_insertionSortOrdered_uint64 [.hn 1, .int .i64 0, .int .i64 0] h (.tup []) h := by
    refine Run.start t_slices_insertionSortOrdered_uint64 ?_
    unfold k_slices_insertionSortOrdered_uint64
    simp (disch := omega)
    rw [L_slices_insertionSortOrdered_uint64_1]; unfold bl_slices_insertionSortOrdered_uint64_1
    simp (disch := omega)
  have r2 : ∀ lim, Run T f_slices_pdqsortOrdered_uint64 [.hn 1, .int .i64 0, .int .i64 0, .int .i64 lim] h (.tup []) h := fun lim => by
    refine Run.start t_slices_pdqsortOrdered_uint64 ?_
    unfold k_slices_pdqsortOrdered_uint64
    simp (disch := omega)
    rw [L_slices_pdqsortOrdered_uint64_0]; unfold bl_slices_pdqsortOrdered_uint64_0
    simp (disch := omega)
    rw [Xf_run r1]
    simp (disch := omega)
  refine Run.start t_slices_Sort_uint64_uint64 ?_
  unfold k_slices_Sort_uint64_uint64
  have := len_run [] 0 (by omega)
  simp at this
  simp (disch := omega)
  rw [Xp_run this (by simp) (by simp) (by simp)]
  simp (disch := omega)
  rw [Xf_run (r2 _)]
  simp (disch := omega)
theorem Meets.imp {c : Prop} {S : Heap → Prop} (a : Meets S) : Meets fun h => c → S h := fun x y hx hy hc => a x y (hx hc) (hy hc)
theorem Meets.row (i : Nat) (cs : List V) : Meets fun h => h.row i = some cs := fun x y hx hy => by
  have := hMeet_at x y i (some cs) (row_some hx) (row_some hy)
  simp [Heap.row, this]
theorem get_row {h g : Heap} {i : Nat} (h1 : i < h.length) (h2 : i < g.length) (hr : g.row i = h.row i) : g[i]? = h[i]? := by
  unfold Heap.row at hr
  rw [List.getElem?_eq_getElem h1, List.getElem?_eq_getElem h2] at hr ⊢
  simpa using hr
def accL (L : List Fm) (n : Int) (seen : List Nat) : List Int := ((seen.filterMap fun p => L[p]?).map Fm.num).filter fun x => decide (x < n)
def accV (k b : Nat) : V := if k = 0 then .hn 1 else .hs 1 b 0 k
theorem numbers_run {h : Heap} {s m : Nat} {L : List Fm} (hS : SH h s m L) (hL : LOk L) (n : Int) : ∃ J, Run T f_whole_Station_numbers [.ptr s 0, .int .u64 n] h (.ps 1 (u64L (numsL L n))) (h ++ J) := by
  have hll := hL.len
  have hr : ∃ v h', (v = .ps 1 (u64L (numsL L n)) ∧ ∃ J, h' = h ++ J) ∧ Run T f_whole_Station_numbers [.ptr s 0, .int .u64 n] h v h' := by
    refine Run.startP t_whole_Station_numbers ?_
    unfold k_whole_Station_numbers
    simp (disch := omega)
    have nl : (numsL L n).length ≤ 40 := by
      rw [(numsL_perm L n).length_eq]
      exact Nat.le_trans (List.length_filter_le _ _) (by simpa using hll)
    generalize hN : numsL L n = N at nl
    refine Xc_mloop (.r) [(4, accV N.length (h.length + N.length))] (fun h' => (∃ J, h' = h ++ J) ∧ (N ≠ [] → h'.row (h.length + N.length) = some (u64L N))) ?_ ?_
    · have r1 : ∀ J, (h ++ J).row s = some [.mp m] := fun J => pre_row hS.rs
      have r2 : ∀ J, (h ++ J).row m = some (kvL L) := fun J => pre_row hS.rm
      simp (disch := omega) [hS.rs, hS.rm, kvL_is, kvL_len]
      refine Mg_walk ((Meets.pre h).and (Meets.imp (Meets.row _ _))) (wk := h.length) (m := m) (N := L.length)
        (fun seen kvs e hh => kvs = kvL L ∧ e.keep [1, 5, 14] = [(1, .int .u64 n), (5, accV (accL L n seen).length (h.length + (accL L n seen).length)), (14, .itr h.length)] ∧ (∃ J, hh = h ++ J ∧ J.length = 1 + (accL L n seen).length) ∧ (∃ last, L.length ≤ last ∧ hh.row h.length = some [.mp m, .ptr L.length last, seenV seen]) ∧ (accL L n seen ≠ [] → hh.row (h.length + (accL L n seen).length) = some (u64L (accL L n seen))) ∧ ∀ p, p ∈ seen → p < L.length)
        ?_ ?_ ?_ L.length [] (kvL L) _ _ (by simp) ?_ (by simp) (by simp)
      · rintro seen kvs e hh ⟨rfl, he, ⟨J, rfl, _⟩, hw, _⟩
        exact ⟨by rw [he]; rfl, hw, r2 _, kvL_is L, kvL_len L⟩
      · rintro seen kvs e hh ⟨rfl, he, ⟨J, rfl, hJ⟩, hw, hacc, hlt⟩ hn hcov
        rw [he]
        unfold cm_whole_Station_numbers_0
        have hperm : (accL L n seen).Perm N := by
          have h1 : seen.Perm (List.range L.length) := seen_perm hn hlt fun p hp => hcov p _ (by rw [kvL_get, List.getElem?_eq_getElem hp]; rfl)
          have h2 := ((h1.filterMap fun p => L[p]?).map Fm.num).filter fun x => decide (x < n)
          rw [range_map] at h2
          rw [← hN]
          exact h2.trans (numsL_perm L n).symm
        have hlen := hperm.length_eq
        by_cases c : accL L n seen = []
        · have cN : N = [] := by rw [c] at hperm; exact hperm.nil_eq.symm
          rw [c]
          simp [accV]
          rw [Xf_run (SortU_hn _)]
          simp [cN]
        · have hl : (accL L n seen).length ≠ 0 := fun e => c (List.length_eq_zero_iff.1 e)
          have cN : N ≠ [] := fun e => by rw [e] at hlen; exact hl hlen
          have hlN : N.length ≠ 0 := by omega
          obtain ⟨g, l', p1, p2, rs, p3, p4, p5⟩ := SortU_run (hacc c) (by omega)
          have hlN' : l' = N := sorted_uniq (p1.trans hperm) p2 (by rw [← hN]; exact numsL_sorted L n)
          subst hlN'
          rw [hlen] at rs p4 p5 ⊢
          simp [accV, hlN]
          rw [Xf_run rs]
          simp [cN, p4]
          simp only [List.length_append] at p3
          refine pre_of (n := 0) (by omega) fun i hi => ?_
          rw [get_row (h := h ++ J) (by simp; omega) (by omega) (p5 i (by simp; omega) (by omega)), List.getElem?_append_left hi]
      · rintro seen kvs e hh p x ⟨rfl, he, ⟨J, rfl, hJ⟩, ⟨last, hl1, hw⟩, hacc, _⟩ hn hlt hp hps
        rw [kvL_get] at hp
        cases hg : L[p]? with
        | none => rw [hg] at hp; cases hp
        | some g =>
        rw [hg] at hp
        simp only [Option.map_some, kvF, Option.some.injEq, V.tup.injEq] at hp
        subst hp
        have hpl : p < L.length := (List.getElem?_eq_some_iff.1 hg).1
        have hwl := row_lt hw
        rw [he]
        obtain ⟨Z, hZ⟩ : ∃ Z : Heap, Z = (h ++ J).set h.length (some [.mp m, .ptr L.length L.length, seenV (seen ++ [p])]) := ⟨_, rfl⟩
        have z1 : Z.row h.length = some [.mp m, .ptr L.length L.length, seenV (seen ++ [p])] := by rw [hZ, row_set hwl]
        have zp : Z = h ++ J.set 0 (some [.mp m, .ptr L.length L.length, seenV (seen ++ [p])]) := by rw [hZ, set_pre (Nat.le_refl _)]; simp
        have z2 : Z.row m = some (kvL L) := by rw [zp]; exact r2 _
        have zl : Z.length = h.length + 1 + (accL L n seen).length := by rw [hZ]; simp; omega
        have z3 : accL L n seen ≠ [] → Z.row (h.length + (accL L n seen).length) = some (u64L (accL L n seen)) := fun c => by
          have : (accL L n seen).length ≠ 0 := fun e => c (List.length_eq_zero_iff.1 e)
          rw [hZ, row_ne (by omega)]
          exact hacc c
        rw [← hZ]
        have he := ent_row z1 z2 (kvL_is L) (kvL_len L) (p := p) (k := .int .u64 g.num) (v := g.v) (by rw [kvL_get, hg]; rfl)
        have ha : accL L n (seen ++ [p]) = if g.num < n then accL L n seen ++ [g.num] else accL L n seen := by
          unfold accL
          simp only [List.filterMap_append, List.filterMap_cons, hg, List.filterMap_nil, List.map_append, List.map_cons, List.map_nil, List.filter_append, List.filter_cons, List.filter_nil]
          split <;> simp_all
        have hlt' : ∀ q, q ∈ seen ++ [p] → q < L.length := fun q hq => by
          rcases List.mem_append.1 hq with hq | hq
          · exact hlt q hq
          · simp at hq; omega
        unfold bm_whole_Station_numbers_0
        by_cases c : g.num < n
        · rw [if_pos c] at ha
          by_cases c2 : accL L n seen = []
          · rw [c2] at ha zl ⊢
            simp at zl
            simp [he, accV, c, Wb]
            rw [ha]
            simp [zl]
            refine ⟨⟨_, by rw [zp, List.append_assoc], by simp [hJ, c2]⟩, ⟨L.length, Nat.le_refl _, z1⟩, ?_, fun q hq => hlt' q (by simpa using hq)⟩
            rw [show h.length + 1 = Z.length by omega, row_new]
            rfl
          · have hl : (accL L n seen).length ≠ 0 := fun e => c2 (List.length_eq_zero_iff.1 e)
            have z3' := z3 c2
            have hb : ((accL L n seen).length + 1) * 8 ≤ 140737488355328 := by
              have h1 := nodup_lt L.length seen hn hlt
              have h2 : (accL L n seen).length ≤ seen.length := Nat.le_trans (List.length_filter_le _ _) (by simpa using List.length_filterMap_le _ _)
              omega
            simp [he, accV, c, Wb, hl, z3', u64L_len, hb]
            rw [ha]
            simp [zl]
            refine ⟨by omega, ⟨_, by rw [zp, set_pre (by omega), List.append_assoc], by simp [hJ]; omega⟩, ⟨L.length, Nat.le_refl _, by rw [row_app (by simp; omega), row_ne (by omega)]; exact z1⟩, ?_, fun q hq => hlt' q (by simpa using hq)⟩
            rw [show h.length + ((accL L n seen).length + 1) = (Z.set (h.length + (accL L n seen).length) none).length by simp; omega, row_new]
            simp [u64L]
        · rw [if_neg c] at ha
          simp [he, accV, c, Wb]
          rw [ha]
          simp
          refine ⟨⟨_, zp, by simp [hJ]⟩, ⟨L.length, Nat.le_refl _, z1⟩, z3, fun q hq => hlt' q (by simpa using hq)⟩
      · refine ⟨rfl, rfl, ⟨_, rfl, rfl⟩, ⟨L.length, Nat.le_refl _, by simp [seenV]⟩, by simp [accL]⟩
    · rintro h' ⟨⟨J, rfl⟩, hrow⟩
      by_cases c : N = []
      · subst c
        simp [accV, u64L]
      · have hl : N.length ≠ 0 := fun e => c (List.length_eq_zero_iff.1 e)
        have hrow := hrow c
        have fz := freeze_hs hrow (u64L_one N)
        rw [u64L_len] at fz
        simp [accV, hl, fz]

  obtain ⟨v, h', ⟨rfl, J, rfl⟩, r⟩ := hr
  exact ⟨J, r⟩
structure Pr where
  lo : Int
  hi : Int
  deriving Inhabited
def Pr.cs (p : Pr) : List V := [.int .u64 p.lo, .int .u64 p.hi]
def Pr.v (p : Pr) : V := .agg p.cs
def prs (l : List Pr) : List V := l.flatMap Pr.cs
theorem prs_len : ∀ (l : List Pr), (prs l).length = l.length * 2
  | [] => rfl
  | x :: r => by
    have := prs_len r
    show (x.cs ++ prs r).length = _
    rw [List.length_append, this]; simp [Pr.cs]; omega
theorem prs_app (a b : List Pr) : prs (a ++ b) = prs a ++ prs b := by simp [prs]
def Pr.vs (l : List Pr) : List V := l.map Pr.v
structure Pr.ok (p : Pr) : Prop where
  l0 : 0 ≤ p.lo
  l1 : p.lo < 18446744073709551616
  h0 : 0 ≤ p.hi
  h1 : p.hi < 18446744073709551616
def inP (l : List Pr) (n : Int) : Bool := l.any fun p => decide (p.lo ≤ n) && decide (n ≤ p.hi)
theorem chunkPr : ∀ l : List Pr, chunk 2 true l.length (prs l) = Pr.vs l
  | [] => rfl
  | x :: l => by
    have ih := chunkPr l
    show V.agg ((prs (x :: l)).take 2) :: chunk 2 true l.length ((prs (x :: l)).drop 2) = x.v :: Pr.vs l
    have e : prs (x :: l) = x.cs ++ prs l := rfl
    have hl : x.cs.length = 2 := rfl
    rw [e, List.take_left' hl, List.drop_left' hl, ih]
    rfl
theorem freezePr (h : Heap) (j : Nat) (l : List Pr) (hr : h.row j = some (prs l)) (ag : Bool) : freeze1 (ag || decide (1 < 2)) (.hs 2 j 0 l.length) h = some (.ps 2 (Pr.vs l), h.set j none) := by
  have fl := prs_len l
  simp only [freeze1, hsCells, hr, Option.bind_some, Nat.zero_add, List.drop_zero]
  rw [if_pos (by omega), Option.bind_some, List.take_of_length_le (by omega), if_pos (by simp [chunkOk])]
  have := chunkPr l
  simp only [show (ag || decide (1 < 2)) = true from by simp]
  rw [this]
theorem vs_len (l : List Pr) : (Pr.vs l).length = l.length := by simp [Pr.vs]
theorem vs_get (l : List Pr) (i : Nat) : (Pr.vs l)[i]? = (l[i]?).map Pr.v := by simp [Pr.vs]
theorem In_loop (l : List Pr) (n : Int) (hb : l.length < 4611686018427387904) (h : Heap) : ∀ (m i : Nat), i + m = l.length → ∀ ks Q,
    (inP (l.drop i) n = false → ∀ z, Xk T ks (.x 0) z h Q) → (inP (l.drop i) n = true → Xk T ks .r [(4, .bool true)] h Q) →
    Xc T l_ref34_In_0 ks [(0, .ps 2 (Pr.vs l)), (1, .int .u64 n), (5, .int .i64 i)] h Q := by
  intro m
  induction m with
  | zero =>
    intro i hi ks Q h1 h2
    have e : l.drop i = [] := List.drop_eq_nil_of_le (by omega)
    rw [e] at h1
    have c1 : ¬ (i : Int) < l.length := by omega
    rw [L_ref34_In_0]; unfold bl_ref34_In_0
    simp (disch := omega) [c1, vs_len]
    exact h1 rfl _
  | succ m ih =>
    intro i hi ks Q h1 h2
    have hil : i < l.length := by omega
    have e := List.drop_eq_getElem_cons hil
    have c1 : (i : Int) < l.length := by omega
    have g1 : (Pr.vs l)[i]? = some l[i].v := by rw [vs_get, List.getElem?_eq_getElem hil]; rfl
    have vc : l[i].v.cells = [.int .u64 l[i].lo, .int .u64 l[i].hi] := rfl
    have q : inP (l.drop i) n = ((decide (l[i].lo ≤ n) && decide (n ≤ l[i].hi)) || inP (l.drop (i + 1)) n) := by rw [e]; exact List.any_cons
    rw [q] at h1 h2
    have ih := ih (i + 1) (by omega) ks Q
    rw [show ((i + 1 : Nat) : Int) = (i : Int) + 1 from rfl] at ih
    rw [L_ref34_In_0]; unfold bl_ref34_In_0
    by_cases c2 : l[i].lo ≤ n
    · by_cases c3 : n ≤ l[i].hi
      · simp (disch := omega) [c1, vs_len, g1, vc, c2, c3]
        exact h2 (by rw [decide_eq_true c2, decide_eq_true c3]; rfl)
      · simp (disch := omega) [c1, vs_len, g1, vc, c2, c3]
        rw [decide_eq_true c2, decide_eq_false c3] at h1 h2
        exact ih h1 h2
    · simp (disch := omega) [c1, vs_len, g1, vc, c2]
      rw [decide_eq_false c2] at h1 h2
      exact ih h1 h2
theorem In_run (l : List Pr) (n : Int) (hb : l.length < 4611686018427387904) (h : Heap) : Run T f_ref34_In [.ps 2 (Pr.vs l), .int .u64 n] h (.bool (inP l n)) h := by
  refine Run.start t_ref34_In ?_
  unfold k_ref34_In
  simp (disch := omega)
  have := In_loop l n hb h l.length 0 (by omega)
  refine this _ _ (fun h z => ?_) (fun h => ?_)
  · rw [List.drop_zero] at h; simp [h]
  · rw [List.drop_zero] at h; simp [h]
theorem vs_hf (l : List Pr) : V.hfs (Pr.vs l) = true := by
  induction l with
  | nil => rfl
  | cons x l ih => show (V.hf x.v && V.hfs (Pr.vs l)) = true; rw [ih]; rfl
section
variable {ks : List Kt} {ops : List AOpr} {K : Kp} {e : Env} {h : Heap} {Q : Ex → Env → Heap → Prop} {d : Nat} {lent : Bool}
theorem In_p (l : List Pr) (n : Int) (hb : l.length < 4611686018427387904) : Xp T f_ref34_In (some ([.ps 2 (Pr.vs l), .int .u64 n], lent)) h (some d) ops K ks e Q = Xo T ops K ks ((d, .bool (inP l n)) :: e) h Q :=
  Xp_run (In_run l n hb []) (by simp [vs_hf]) rfl (by simp [scalar])
end
def missL : Int → List Int → Int → List Pr
  | a, [], m => if a < m then [⟨a, m - 1⟩] else []
  | a, n :: r, m => (if a < n then [⟨a, n - 1⟩] else []) ++ missL (n + 1) r m
def ovP (acc : List Pr) (b : Nat) : V := if acc = [] then .hn 2 else .hs 2 b 0 acc.length
/-- What is gathered: in a box, and where it begins in another one. -/
structure MS (h0 g : Heap) (i5 i6 : Nat) (a : Int) (acc : List Pr) : Prop where
  pre : ∃ J, g = h0 ++ J
  r6 : g.row i6 = some [.int .u64 a]
  r5 : ∃ b, g.row i5 = some [ovP acc b] ∧ (acc ≠ [] → g.row b = some (prs acc) ∧ b ≠ i5 ∧ b ≠ i6 ∧ h0.length ≤ b)
  l5 : h0.length ≤ i5
  l6 : h0.length ≤ i6
  ne : i5 ≠ i6
theorem row_end {h : Heap} {b : Nat} {o : Option (List V)} (e : b = h.length) : Heap.row (h ++ [o]) b = o := by subst e; exact row_new
theorem upTo_run {h0 g : Heap} {i5 i6 : Nat} {a n : Int} {acc : List Pr} (ms : MS h0 g i5 i6 a acc) (ha : 0 ≤ a) (hn : n < 18446744073709551616) (hl : acc.length ≤ 1000) :
    ∃ g', MS h0 g' i5 i6 a (acc ++ if a < n then [⟨a, n - 1⟩] else []) ∧ Run T f_whole_Station_Missing_1 [.int .u64 n, .ptr i6 0, .ptr i5 0] g (.tup []) g' := by
  obtain ⟨pre, r6, ⟨b, r5, rb⟩, l5, l6, ne⟩ := ms
  have q5 := row_lt r5
  have q6 := row_lt r6
  by_cases c : a < n
  · have hr : ∃ v g', (v = .tup [] ∧ MS h0 g' i5 i6 a (acc ++ [⟨a, n - 1⟩])) ∧ Run T f_whole_Station_Missing_1 [.int .u64 n, .ptr i6 0, .ptr i5 0] g v g' := by
      refine Run.startP t_whole_Station_Missing_1 ?_
      unfold k_whole_Station_Missing_1
      by_cases ca : acc = []
      · subst ca
        simp [ovP] at r5
        simp (disch := omega) [r6, r5, c]
        refine ⟨?_, ?_, ⟨g.length, ?_, ?_⟩, l5, l6, ne⟩
        · obtain ⟨J, rfl⟩ := pre
          exact ⟨_, by rw [set_pre l5, List.append_assoc]⟩
        · rw [row_app (by simpa using q6), row_ne ne]; exact r6
        · rw [row_app (by simpa using q5), row_set q5]; rfl
        · intro _
          refine ⟨?_, by omega, by omega, by obtain ⟨J, rfl⟩ := pre; simp⟩
          rw [row_end (by simp)]
          rfl
      · obtain ⟨rb1, rb2, rb3, rb4⟩ := rb ca
        have qb := row_lt rb1
        simp [ovP, ca] at r5
        have hb : (acc.length + 1) * 2 * 16 ≤ 140737488355328 := by omega
        have hb2 : (prs acc ++ (⟨a, n - 1⟩ : Pr).cs).length = acc.length * 2 + 2 := by simp [prs_len, Pr.cs]
        have fr : ∀ x, Heap.row (g.set b none ++ x) i5 = some [.hs 2 b 0 acc.length] := fun x => by rw [row_app (by simpa using q5), row_ne rb2]; exact r5
        simp (disch := omega) [r6, r5, c, rb1, prs_len, fr]
        refine ⟨?_, ?_, ⟨g.length, ?_, fun _ => ⟨?_, by omega, by omega, by obtain ⟨J, rfl⟩ := pre; simp⟩⟩, l5, l6, ne⟩
        · obtain ⟨J, rfl⟩ := pre
          exact ⟨_, by rw [set_pre rb4, List.append_assoc, set_pre l5]⟩
        · rw [row_ne ne, row_app (by simpa using q6), row_ne rb3]; exact r6
        · rw [row_set (by simp; omega)]; simp [ovP]
        · rw [row_ne (by omega), row_end (by simp), prs_app]; rfl
    obtain ⟨v, g', ⟨rfl, q⟩, r⟩ := hr
    rw [if_pos c]
    exact ⟨g', q, r⟩
  · refine ⟨g, ?_, ?_⟩
    · rw [if_neg c, List.append_nil]
      exact ⟨pre, r6, ⟨b, r5, rb⟩, l5, l6, ne⟩
    · refine Run.start t_whole_Station_Missing_1 ?_
      unfold k_whole_Station_Missing_1
      simp (disch := omega) [r6, c]
theorem MS.set6 {h0 g : Heap} {i5 i6 : Nat} {a : Int} {acc : List Pr} (ms : MS h0 g i5 i6 a acc) (a' : Int) : MS h0 (g.set i6 (some [.int .u64 a'])) i5 i6 a' acc := by
  obtain ⟨⟨J, rfl⟩, r6, ⟨b, r5, rb⟩, l5, l6, ne⟩ := ms
  refine ⟨⟨_, set_pre l6⟩, by rw [row_set (row_lt r6)], ⟨b, by rw [row_ne (fun e => ne e.symm)]; exact r5, fun c => ?_⟩, l5, l6, ne⟩
  obtain ⟨h1, h2, h3, h4⟩ := rb c
  exact ⟨by rw [row_ne (fun e => h3 e.symm)]; exact h1, h2, h3, h4⟩
theorem miss_loop {h0 : Heap} {i5 i6 : Nat} (l : List Int) (hl : l.length ≤ 40) (hlt : ∀ n, n ∈ l → 0 ≤ n ∧ n < 2147483648) (u v : V) : ∀ (k i : Nat) (g : Heap) (a : Int) (acc : List Pr), i + k = l.length → MS h0 g i5 i6 a acc → 0 ≤ a → acc.length ≤ i → ∀ ks Q,
    (∀ g' a' acc', MS h0 g' i5 i6 a' acc' → 0 ≤ a' → acc'.length ≤ l.length → (∀ m, acc' ++ missL a' [] m = acc ++ missL a (l.drop i) m) → ∀ e, Xk T ks (.x 0) ([(0, u), (1, v), (5, .ptr i5 0), (6, .ptr i6 0), (7, .fn f_whole_Station_Missing_1 [.ptr i6 0, .ptr i5 0])] ++ e) g' Q) →
    Xc T l_whole_Station_Missing_0 ks [(0, u), (1, v), (5, .ptr i5 0), (6, .ptr i6 0), (7, .fn f_whole_Station_Missing_1 [.ptr i6 0, .ptr i5 0]), (13, .ps 1 (u64L l)), (14, .int .i64 l.length), (15, .int .i64 i)] g Q := by
  intro k
  induction k with
  | zero =>
    intro i g a acc hi ms ha hacc ks Q hQ
    rw [L_whole_Station_Missing_0]; unfold bl_whole_Station_Missing_0
    have c : ¬ (i : Int) < l.length := by omega
    simp (disch := omega) [c]
    have := hQ g a acc ms ha (by omega) (fun m => by rw [List.drop_of_length_le (by omega)]) [(13, .ps 1 (u64L l)), (14, .int .i64 l.length), (15, .int .i64 i), (16, .bool false)]
    simpa using this
  | succ k ih =>
    intro i g a acc hi ms ha hacc ks Q hQ
    rw [L_whole_Station_Missing_0]; unfold bl_whole_Station_Missing_0
    have c : (i : Int) < l.length := by omega
    have hil : i < l.length := by omega
    have hn := hlt l[i] (List.getElem_mem hil)
    have gl : (u64L l)[i]? = some (.int .u64 l[i]) := by rw [u64L_get, List.getElem?_eq_getElem hil]; rfl
    generalize hx : l[i] = x at gl hn
    obtain ⟨g1, ms1, r1⟩ := upTo_run ms ha (n := x) (by omega) (by omega)
    obtain ⟨pre, r6, hb, l5, l6, ne⟩ := ms1
    simp (disch := omega) [c, gl]
    rw [Xv_fn (hf := rfl)]
    simp only [List.cons_append, List.nil_append]
    rw [Xf_run r1]
    simp (disch := omega) [r6]
    have hd : ∀ m, (acc ++ if a < x then [⟨a, x - 1⟩] else []) ++ missL (x + 1) (l.drop (i + 1)) m = acc ++ missL a (l.drop i) m := fun m => by
      rw [List.drop_eq_getElem_cons hil, hx]
      simp [missL]
    have ms2 : MS h0 (g1.set i6 (some [.int .u64 (x + 1)])) i5 i6 (x + 1) (acc ++ if a < x then [⟨a, x - 1⟩] else []) := MS.set6 ⟨pre, r6, hb, l5, l6, ne⟩ _
    have := ih (i + 1) _ (x + 1) _ (by omega) ms2 (by omega) (by split <;> simp <;> omega) ks Q fun g' a' acc' q1 q2 q3 q4 e => hQ g' a' acc' q1 q2 q3 (fun m => by rw [q4, hd]) e
    simpa using this
theorem Missing_run {h : Heap} {s m : Nat} {L : List Fm} (hS : SH h s m L) (hL : LOk L) (n : Int) (hn : n < 18446744073709551616) : ∃ J, Run T f_whole_Station_Missing [.ptr s 0, .int .u64 n] h (.ps 2 (Pr.vs (missL 0 (numsL L n) n))) (h ++ J) := by
  have hll := hL.len
  have nl : (numsL L n).length ≤ 40 := by
    rw [(numsL_perm L n).length_eq]
    exact Nat.le_trans (List.length_filter_le _ _) (by simpa using hll)
  have nb : ∀ x, x ∈ numsL L n → 0 ≤ x ∧ x < 2147483648 := fun x hx => by
    have := (numsL_perm L n).mem_iff.1 hx
    simp at this
    obtain ⟨⟨f, hf, rfl⟩, _⟩ := this
    exact ⟨(hL.ok f hf).n0, (mayF_off (hL.may f hf)).2.2.2.2.1⟩
  have hr : ∃ v h', (v = .ps 2 (Pr.vs (missL 0 (numsL L n) n)) ∧ ∃ J, h' = h ++ J) ∧ Run T f_whole_Station_Missing [.ptr s 0, .int .u64 n] h v h' := by
    refine Run.startP t_whole_Station_Missing ?_
    unfold k_whole_Station_Missing
    simp (disch := omega)
    have hS2 : SH (h ++ [some [V.hn 2], some [V.int .u64 0]]) s m L := hS.app _
    obtain ⟨J, nr⟩ := numbers_run hS2 hL n
    rw [Xf_run nr]
    simp (disch := omega) [u64L_len]
    have ms : MS h (h ++ [some [V.hn 2], some [V.int .u64 0]] ++ J) h.length (h.length + 1) 0 [] := by
      refine ⟨⟨_, by rw [List.append_assoc]⟩, ?_, ⟨0, ?_, by simp⟩, Nat.le_refl _, by omega, by omega⟩
      · rw [row_app (by simp), row_app_ge (by omega)]; simp
      · rw [row_app (by simp), row_app_ge (by omega)]; simp [ovP]
    have lp := miss_loop (numsL L n) nl nb (.ptr s 0) (.int .u64 n) (numsL L n).length 0 _ 0 [] (by omega) ms (by omega) (by simp)
    rw [show h ++ [some [V.hn 2], some [V.int .u64 0]] ++ J = h ++ some [V.hn 2] :: some [V.int .u64 0] :: J by simp] at lp
    refine lp _ _ fun g a acc q1 q2 q3 q4 e => ?_
    obtain ⟨g1, ms1, r1⟩ := upTo_run q1 q2 hn (by omega)
    have q5 : acc ++ (if a < n then [⟨a, n - 1⟩] else []) = missL 0 (numsL L n) n := by
      have := q4 n
      simpa [missL] using this
    rw [q5] at ms1
    simp (disch := omega)
    rw [Xv_fn (hf := rfl)]
    simp only [List.cons_append, List.nil_append]
    rw [Xf_run r1]
    obtain ⟨pre, r6, ⟨b, r5, rb⟩, l5, l6, ne⟩ := ms1
    simp (disch := omega) [r5]
    generalize missL 0 (numsL L n) n = M at *
    by_cases c : M = []
    · subst c
      simp [ovP, Pr.vs]
      exact pre
    · obtain ⟨h1, h2, h3, h4⟩ := rb c
      have fz := freezePr _ _ _ h1 true
      simp only [Bool.true_or] at fz
      simp [ovP, c, fz]
      obtain ⟨J, rfl⟩ := pre
      exact ⟨_, set_pre h4⟩
  obtain ⟨v, h', ⟨rfl, J, rfl⟩, r⟩ := hr
  exact ⟨J, r⟩
/-- The map's row, where of those that were told the ones of a bundle are gone. -/
def dl (id : Int) (L : List Fm) (seen : List Nat) : List V := L.zipIdx.map fun q => if q.2 ∈ seen ∧ q.1.id = id then .nilp else kvF q.1
/-- Frames of one bundle, of so many bytes, no two at one place. -/
structure OneB (D : List Fm) (n : Nat) : Prop where
  may : ∀ f, f ∈ D → mayF f = true
  tot : ∀ f, f ∈ D → f.tot = n
  off : ∀ f g, f ∈ D → g ∈ D → f.off = g.off → f = g
  nd : D.Nodup
theorem OneB.perm {D S : List Fm} {n : Nat} (h : OneB D n) (p : S.Perm D) : OneB S n := ⟨fun f hf => h.may f (p.mem_iff.1 hf), fun f hf => h.tot f (p.mem_iff.1 hf), fun f g hf hg => h.off f g (p.mem_iff.1 hf) (p.mem_iff.1 hg), p.nodup_iff.2 h.nd⟩
theorem OneB.at {D : List Fm} {n : Nat} (ok : OneB D n) {f : Fm} (hf : f ∈ D) : ∃ j : Nat, f.off = 100 * j ∧ 100 * j < n ∧ f.dat.length = min 100 (n - 100 * j) := by
  have h1 := mayF_off (ok.may f hf)
  have h2 := ok.tot f hf
  exact ⟨(f.off / 100).toNat, by omega, by omega, by omega⟩
theorem FillP.congr {n : Nat} {w w' : Wr} {b : List UInt8} {e : Int} (h : FillP n w b e) (hw : ∀ x, x ∈ w ↔ x ∈ w') : FillP n w' b e := by
  have h1 : okW w ↔ okW w' := ⟨fun k p hp q hq => k p ((hw p).2 hp) q ((hw q).2 hq), fun k p hp q hq => k p ((hw p).1 hp) q ((hw q).1 hq)⟩
  have h2 : covW w n ↔ covW w' n := ⟨fun k x hx => by obtain ⟨p, hp, e⟩ := k x hx; exact ⟨p, (hw p).1 hp, e⟩, fun k x hx => by obtain ⟨p, hp, e⟩ := k x hx; exact ⟨p, (hw p).2 hp, e⟩⟩
  rcases h with ⟨a, b, c⟩ | ⟨a, b, c⟩ | ⟨a, b, c, d, e⟩
  · exact .inl ⟨fun k => a (h1.2 k), b, c⟩
  · exact .inr (.inl ⟨h1.1 a, fun k => b (h2.2 k), c⟩)
  · exact .inr (.inr ⟨h1.1 a, h2.1 b, c, fun p hp => d p ((hw p).2 hp), e⟩)
/-- A station's frames. -/
structure Sta (L : List Fm) : Prop where
  ok : LOk L
  nd : (L.map Fm.num).Nodup
  fit : ∀ f g, f ∈ L → g ∈ L → f.id = g.id → f.tot = g.tot ∧ firstF f = firstF g
theorem Sta.inj {L : List Fm} (st : Sta L) {f g : Fm} (hf : f ∈ L) (hg : g ∈ L) (e : f.num = g.num) : f = g := by
  obtain ⟨i, hi, rfl⟩ := List.getElem_of_mem hf
  obtain ⟨j, hj, rfl⟩ := List.getElem_of_mem hg
  have := (List.getElem_inj (h₀ := by simpa using hi) (h₁ := by simpa using hj) st.nd).1 (by simpa using e)
  subst this
  rfl
def ofId (id : Int) (L : List Fm) : List Fm := L.filter fun f => f.id == id
theorem ofId_mem {id : Int} {L : List Fm} {f : Fm} : f ∈ ofId id L ↔ f ∈ L ∧ f.id = id := by simp [ofId]
theorem nodup_of_map {α β : Type} (f : α → β) : ∀ l : List α, (l.map f).Nodup → l.Nodup
  | [], _ => .nil
  | a :: l, h => by
    rw [List.map_cons, List.nodup_cons] at h
    exact List.nodup_cons.2 ⟨fun hm => h.1 (List.mem_map_of_mem hm), nodup_of_map f l h.2⟩
theorem Sta.one {L : List Fm} (st : Sta L) (id : Int) {f0 : Fm} (h0 : f0 ∈ ofId id L) : OneB (ofId id L) f0.tot.toNat where
  may := fun f hf => st.ok.may f (ofId_mem.1 hf).1
  tot := fun f hf => by
    have h1 := ofId_mem.1 hf
    have h2 := ofId_mem.1 h0
    have := (st.fit f f0 h1.1 h2.1 (by rw [h1.2, h2.2])).1
    have := mayF_off (st.ok.may f h1.1)
    omega
  off := fun f g hf hg e => by
    have h1 := ofId_mem.1 hf
    have h2 := ofId_mem.1 hg
    have h3 := (st.fit f g h1.1 h2.1 (by rw [h1.2, h2.2])).2
    have h4 := mayF_off (st.ok.may f h1.1)
    have h5 := mayF_off (st.ok.may g h2.1)
    have h6 := (st.ok.ok f h1.1).n0
    have h7 := (st.ok.ok g h2.1).n0
    refine st.inj h1.1 h2.1 ?_
    unfold firstF at h3
    rw [wrap_u64_def, wrap_u64_def, e] at h3
    omega
  nd := (nodup_of_map Fm.num _ st.nd).filter _
def fms (L : List Fm) : List V := L.map Fm.v
theorem fms_len (L : List Fm) : (fms L).length = L.length := by simp [fms]
theorem fms_get (L : List Fm) (i : Nat) (h : i < L.length) : (fms L)[i]? = some (L[i].v) := by unfold fms; rw [List.getElem?_map, List.getElem?_eq_getElem h]; rfl
theorem Sta.take {L : List Fm} (st : Sta L) {f : Fm} (hf : f.ok) (h : takeE L f = 0) (hl : L.length < 40) : Sta (L ++ [f]) := by
  unfold takeE at h
  split at h
  · rename_i cm
    cases hn : findN L f.num with
    | some g =>
      rw [hn] at h
      simp at h
      split at h <;> cases h
    | none =>
      rw [hn] at h
      simp at h
      have hfit : ∀ g, g ∈ L → g.id = f.id → g.tot = f.tot ∧ firstF g = firstF f := fun g hg e => by
        have := List.all_eq_true.1 h g hg
        simp [fits1, e] at this
        exact this
      have hnum := findN_none hn
      refine ⟨⟨fun g hg => ?_, fun g hg => ?_, by simp; omega⟩, ?_, fun g k hg hk e => ?_⟩
      · rcases List.mem_append.1 hg with hg | hg
        · exact st.ok.ok g hg
        · simp at hg; subst hg; exact hf
      · rcases List.mem_append.1 hg with hg | hg
        · exact st.ok.may g hg
        · simp at hg; subst hg; exact cm
      · rw [List.map_append, List.nodup_append]
        refine ⟨st.nd, by simp, fun a ha b hb => ?_⟩
        simp at hb
        subst hb
        obtain ⟨g, hg, rfl⟩ := List.mem_map.1 ha
        exact hnum g hg
      · rcases List.mem_append.1 hg with hg1 | hg1
        · rcases List.mem_append.1 hk with hk1 | hk1
          · exact st.fit g k hg1 hk1 e
          · rw [List.mem_singleton.1 hk1] at e ⊢
            exact hfit g hg1 e
        · rw [List.mem_singleton.1 hg1] at e ⊢
          rcases List.mem_append.1 hk with hk1 | hk1
          · have := hfit k hk1 e.symm
            exact ⟨this.1.symm, this.2.symm⟩
          · rw [List.mem_singleton.1 hk1]; exact ⟨rfl, rfl⟩
  · cases h
theorem missL_mem : ∀ (ns : List Int) (a m : Int), ns.Pairwise (· < ·) → (∀ n, n ∈ ns → a ≤ n ∧ n < m) → ∀ p, p ∈ missL a ns m → a ≤ p.lo ∧ p.lo ≤ p.hi ∧ p.hi < m
  | [], a, m, _, _, p, hp => by
    simp only [missL] at hp
    split at hp
    · simp at hp; subst hp; simp; omega
    · cases hp
  | n :: ns, a, m, hs, hn, p, hp => by
    rw [List.pairwise_cons] at hs
    have hn0 := hn n List.mem_cons_self
    simp only [missL, List.mem_append] at hp
    rcases hp with hp | hp
    · split at hp
      · simp at hp; subst hp; simp; omega
      · cases hp
    · have := missL_mem ns (n + 1) m hs.2 (fun k hk => ⟨by have := hs.1 k hk; omega, (hn k (List.mem_cons_of_mem _ hk)).2⟩) p hp
      omega
theorem missL_apart : ∀ (ns : List Int) (a m : Int), ns.Pairwise (· < ·) → (∀ n, n ∈ ns → a ≤ n ∧ n < m) → (missL a ns m).Pairwise fun q p => q.hi + 2 ≤ p.lo
  | [], a, m, _, _ => by
    simp only [missL]
    split <;> simp
  | n :: ns, a, m, hs, hn => by
    rw [List.pairwise_cons] at hs
    have hn' : ∀ k, k ∈ ns → n + 1 ≤ k ∧ k < m := fun k hk => ⟨by have := hs.1 k hk; omega, (hn k (List.mem_cons_of_mem _ hk)).2⟩
    have ih := missL_apart ns (n + 1) m hs.2 hn'
    have hm := missL_mem ns (n + 1) m hs.2 hn'
    simp only [missL]
    split
    · rw [List.cons_append, List.nil_append, List.pairwise_cons]
      refine ⟨fun p hp => ?_, ih⟩
      have := hm p hp
      simp only
      omega
    · exact ih
theorem missL_len : ∀ (ns : List Int) (a m : Int), (missL a ns m).length ≤ ns.length + 1
  | [], a, m => by simp only [missL]; split <;> simp
  | n :: ns, a, m => by
    have := missL_len ns (n + 1) m
    simp only [missL, List.length_append, List.length_cons]
    split <;> simp <;> omega
theorem numsL_strict {L : List Fm} (st : Sta L) (n : Int) : (numsL L n).Pairwise (· < ·) := by
  have h1 := numsL_sorted L n
  have h2 : (numsL L n).Nodup := (numsL_perm L n).nodup_iff.2 (st.nd.filter _)
  have := h1.and h2
  exact this.imp fun ⟨a, b⟩ => by omega
theorem numsL_mem {L : List Fm} {n x : Int} : x ∈ numsL L n ↔ x ∈ L.map Fm.num ∧ x < n := by
  rw [(numsL_perm L n).mem_iff]
  simp only [List.mem_filter, decide_eq_true_eq]
theorem Ty.frames {b : Nat} {x : V} (h : Ty (.sl true b [.i .u64, .i .u64, .i .i64, .i .i64, .s]) x) : ∃ l : List Fm, x = .ps 5 (fms l) ∧ l.length * b ≤ 140737488351232 ∧ ∀ f, f ∈ l → f.ok := by
  obtain ⟨xs, rfl, hl, hx⟩ := h.elems_agg
  have one : ∀ y, y ∈ xs → ∃ f : Fm, y = f.v ∧ f.ok := fun y hy => by
    obtain ⟨vs, rfl, hr⟩ := hx y hy
    obtain ⟨h1, h2⟩ := hr
    match vs, h1, h2 with
    | [v0, v1, v2, v3, v4], _, h2 =>
      obtain ⟨a0, rfl, m0, n0⟩ := (h2 0 (by simp) (by simp)).int
      obtain ⟨a1, rfl, m1, n1⟩ := (h2 1 (by simp) (by simp)).int
      obtain ⟨a2, rfl, m2, n2⟩ := (h2 2 (by simp) (by simp)).int
      obtain ⟨a3, rfl, m3, n3⟩ := (h2 3 (by simp) (by simp)).int
      obtain ⟨a4, rfl, m4⟩ := (h2 4 (by simp) (by simp)).str
      have e0 : IntKind.u64.min = 0 := by decide
      have e1 : IntKind.u64.max = 18446744073709551615 := by decide
      have e2 : IntKind.i64.min = -9223372036854775808 := by decide
      have e3 : IntKind.i64.max = 9223372036854775807 := by decide
      rw [e0] at m0 m1
      rw [e1] at n0 n1
      rw [e2] at m2 m3
      rw [e3] at n2 n3
      exact ⟨⟨a0, a1, a2, a3, a4⟩, rfl, ⟨m0, by show a0 < _; omega, m1, by show a1 < _; omega, m2, by show a2 < _; omega, m3, by show a3 < _; omega, by show a4.length < _; omega⟩⟩
  have all : ∀ l : List V, (∀ y, y ∈ l → y ∈ xs) → ∃ L : List Fm, l = fms L ∧ ∀ f, f ∈ L → f.ok := by
    intro l
    induction l with
    | nil => intro _; exact ⟨[], rfl, by simp⟩
    | cons y l ih =>
      intro hm
      obtain ⟨L, rfl, hL⟩ := ih fun z hz => hm z (List.mem_cons_of_mem _ hz)
      obtain ⟨f, rfl, hf⟩ := one y (hm y List.mem_cons_self)
      exact ⟨f :: L, rfl, fun g hg => by
        rcases List.mem_cons.1 hg with rfl | hg
        · exact hf
        · exact hL g hg⟩
  obtain ⟨L, rfl, hL⟩ := all xs fun _ h => h
  exact ⟨L, rfl, by rwa [fms_len] at hl, hL⟩
theorem awake46 : ∃ h', Run T f_law46_awake [] [] (.bool true) h' := Run.closed (n := 300) (by kernel_rfl)
section
variable {ks : List Kt} {ops : List AOpr} {K : Kp} {e : Env} {h : Heap} {Q : Ex → Env → Heap → Prop} {d : Nat} {lent : Bool}
theorem awake46_p : Xp T f_law46_awake (some ([], lent)) h (some d) ops K ks e Q = Xo T ops K ks ((d, .bool true) :: e) h Q := by
  obtain ⟨h', r⟩ := awake46
  exact Xp_run r rfl rfl (by simp [scalar])
end
theorem cells_mp (b : Nat) : V.cells (.mp b) = [.mp b] := rfl
theorem one_mp (b : Nat) : V.one (.mp b) = true := rfl
theorem New_run (h : Heap) : ∃ s m g, SH g s m [] ∧ Run T f_whole_New [] h (.ptr s 0) g := by
  have hr : ∃ v g, (∃ s m, v = .ptr s 0 ∧ SH g s m []) ∧ Run T f_whole_New [] h v g := by
    refine Run.startP t_whole_New ?_
    unfold k_whole_New
    simp (disch := omega) [cells_mp, one_mp]
    refine ⟨h.length, ?_, ?_, by omega⟩
    · rw [show h ++ [some [], some [V.mp h.length]] = (h ++ [some []]) ++ [some [V.mp h.length]] by simp, row_end (by simp)]
    · rw [show h ++ [some [], some [V.mp h.length]] = (h ++ [some []]) ++ [some [V.mp h.length]] by simp, row_app (by simp), row_end rfl]
      rfl
  obtain ⟨v, g, ⟨s, m, rfl, hs⟩, r⟩ := hr
  exact ⟨s, m, g, hs, r⟩
/-- The other rows stay. -/
def HK (g g' : Heap) (j : Nat) : Prop := g.length ≤ g'.length ∧ ∀ i, i ≠ j → i < g.length → Heap.row g' i = Heap.row g i
theorem HK.refl (g : Heap) (j : Nat) : HK g g j := ⟨Nat.le_refl _, fun _ _ _ => rfl⟩
theorem HK.app (g w : Heap) (j : Nat) : HK g (g ++ w) j := ⟨by simp, fun i _ h => row_app h⟩
theorem HK.set (g : Heap) (j : Nat) (v : Option (List V)) : HK g (g.set j v) j := ⟨by simp, fun i hi h => row_ne (fun e => hi e.symm)⟩
theorem HK.trans {g g' g'' : Heap} {j : Nat} (h : HK g g' j) (k : HK g' g'' j) : HK g g'' j := ⟨Nat.le_trans h.1 k.1, fun i hi hl => (k.2 i hi (Nat.lt_of_lt_of_le hl h.1)).trans (h.2 i hi hl)⟩
theorem hlt {g : Heap} {j : Nat} {cs : List V} (h : Heap.row g j = some cs) : j < g.length := by
  unfold Heap.row at h
  cases hg : g[j]? with
  | none => rw [hg] at h; cases h
  | some v => exact (List.getElem?_eq_some_iff.1 hg).1
theorem slN_lo (s b len M : Nat) (h : M < len) : slV (.sl s) (.hs s b 0 len) (some (.int .i64 M)) none none = some (.hs s b (M * s) (len - M)) := by
  have h1 : (0 : Int) ≤ M ∧ (M : Int) ≤ len := by omega
  have h2 : len - M ≠ 0 := by omega
  have h3 : M ≤ len := by omega
  simp [slV, bndO, bndV, h3, h2]
theorem slN_hi (s b len M : Nat) (h : M ≤ len) : slV (.sl s) (.hs s b 0 len) none (some (.int .i64 M)) none = some (if M = 0 then .ps s [] else .hs s b 0 M) := by
  simp [slV, bndO, bndV, h]
  split <;> rfl
theorem clrN (h : Heap) (s b off len : Nat) (z cs : List V) (hz : z.length = s) (hr : h.row b = some cs) (hl : off + len * s ≤ cs.length) : clrV h s z (.hs s b off len) = some (.tup [], h.set b (some (spliceL cs off (repZ len z)))) := by
  simp [clrV, hr, hz, hl]
/-- A list without those that stand beside an equal one. -/
def ddF (p : Int) : List Int → List Int
  | [] => []
  | y :: r => if y = p then ddF p r else y :: ddF y r
def dd : List Int → List Int
  | [] => []
  | x :: r => x :: ddF x r
theorem ddF_app (l : List Int) : ∀ (p y : Int), ddF p (l ++ [y]) = ddF p l ++ (if y = (p :: l).getLast (by simp) then [] else [y]) := by
  induction l with
  | nil => intro p y; by_cases c : y = p <;> simp [ddF, c]
  | cons x r ih =>
    intro p y
    rw [List.cons_append, ddF, ddF]
    by_cases c : x = p
    · rw [if_pos c, if_pos c, ih]
      subst c
      by_cases c2 : y = (x :: r).getLast (by simp) <;> simp [c2]
    · rw [if_neg c, if_neg c, ih]
      by_cases c2 : y = (x :: r).getLast (by simp) <;> simp [c2]
theorem dd_take (l : List Int) (i : Nat) (h1 : 1 ≤ i) (h : i < l.length) : dd (l.take (i + 1)) = dd (l.take i) ++ (if l[i] = l[i - 1] then [] else [l[i]]) := by
  match l, h with
  | x :: r, h =>
    obtain ⟨i, rfl⟩ : ∃ k, i = k + 1 := ⟨i - 1, by omega⟩
    have hi : i < r.length := by simpa using h
    have e : r.take (i + 1) = r.take i ++ [r[i]] := by rw [List.take_succ, List.getElem?_eq_getElem hi]; rfl
    simp only [List.take_succ_cons, dd]
    rw [e, ddF_app]
    have g : (x :: r.take i).getLast (by simp) = (x :: r)[i] := by
      rw [List.getLast_eq_getElem]
      cases i with
      | zero => simp
      | succ i => simp [Nat.min_eq_left (Nat.le_of_lt hi)]
    rw [g]
    simp
theorem dd_len (l : List Int) : (dd l).length ≤ l.length := by
  cases l with
  | nil => simp [dd]
  | cons x r =>
    have : ∀ (r : List Int) (p : Int), (ddF p r).length ≤ r.length := by
      intro r
      induction r with
      | nil => intro p; simp [ddF]
      | cons y r ih =>
        intro p
        rw [ddF]
        split
        · have := ih p; simp; omega
        · have := ih y; simp; omega
    have := this r x
    simp [dd, this]
theorem dd_pos (l : List Int) (h : l ≠ []) : 1 ≤ (dd l).length := by
  cases l with
  | nil => exact absurd rfl h
  | cons x r => simp [dd]
section
variable {h : Heap} {b : Nat}
theorem cmp_in (l : List Int) (N K0 : Nat) (hN : l.length = N) (hb6 : N ≤ 1000000) (hK : 1 ≤ K0) (hK' : K0 < N) : ∀ (m k2 k : Nat) (cur : List Int) (h : Heap), 1 ≤ k2 → K0 + k2 + m = N → cur.length = N → h.row b = some (u64L cur) → k ≤ K0 + k2 - 1 → (dd (l.take (K0 + k2))).length = k → cur.take k = dd (l.take (K0 + k2)) → cur.drop (K0 + k2 - 1) = l.drop (K0 + k2 - 1) → ∀ ks Q,
    (∀ h' cur' z, HK h h' b → cur'.length = N → Heap.row h' b = some (u64L cur') → cur'.take (dd l).length = dd l → Xk T ks (.x 2) ((0, .hs 1 b 0 N) :: (3, .int .i64 (dd l).length) :: z) h' Q) →
    Xc T l_slices_Compact_uint64_uint64_0 ks [(0, .hs 1 b 0 N), (3, .int .i64 k), (4, .hs 1 b K0 (N - K0)), (5, .int .i64 k2)] h Q := by
  intro m
  induction m with
  | zero =>
    intro k2 k cur h h1 h2 hc hr hk hd ht hdr ks Q hx
    rw [L_slices_Compact_uint64_uint64_0]; unfold bl_slices_Compact_uint64_uint64_0
    have c1 : ¬ (k2 : Int) < ((N - K0 : Nat) : Int) := by omega
    have e1 : l.take (K0 + k2) = l := List.take_of_length_le (by omega)
    rw [e1] at hd ht
    rw [← hd] at ht
    simp (disch := omega) [c1]
    rw [← hd] at *
    exact hx h cur _ (HK.refl _ _) hc hr ht
  | succ m ih =>
    intro k2 k cur h h1 h2 hc hr hk hd ht hdr ks Q hx
    rw [L_slices_Compact_uint64_uint64_0]; unfold bl_slices_Compact_uint64_uint64_0
    have c1 : (k2 : Int) < ((N - K0 : Nat) : Int) := by omega
    have jl := hlt hr
    have il : (u64L cur).length = N := by rw [u64L_len, hc]
    have hq : ∀ (p : Nat) (hp : p < l.length), K0 + k2 - 1 ≤ p → (u64L cur)[p]? = some (.int .u64 l[p]) := fun p hp h4 => by
      rw [u64L_get]
      have := congrArg (fun z => z[p - (K0 + k2 - 1)]?) hdr
      simp only [List.getElem?_drop] at this
      rw [show K0 + k2 - 1 + (p - (K0 + k2 - 1)) = p by omega] at this
      rw [this, List.getElem?_eq_getElem hp]; rfl
    have g1 := hq (K0 + k2) (by omega) (by omega)
    have g2 := hq (K0 + (k2 - 1)) (by omega) (by omega)
    have e5 : ((k2 : Int) - 1).toNat = k2 - 1 := by omega
    have c2 : ((k2 : Int) - 1) < ((N - K0 : Nat) : Int) := by omega
    have dt := dd_take l (K0 + k2) (by omega) (by omega)
    have e6 : K0 + k2 - 1 = K0 + (k2 - 1) := by omega
    have ee : ((k2 : Int) + 1) = ((k2 + 1 : Nat) : Int) := by omega
    simp only [e6] at dt
    have tk : (l.take (K0 + k2 + 1)).length = K0 + k2 + 1 := by rw [List.length_take]; omega
    simp (disch := omega) [c1, hr, g1, g2, e5, il]
    by_cases c3 : l[K0 + k2]'(by omega) = l[K0 + (k2 - 1)]'(by omega)
    · rw [if_pos c3, List.append_nil] at dt
      have := ih (k2 + 1) k cur h (by omega) (by omega) hc hr (by omega) (by rw [← Nat.add_assoc, dt]; exact hd) (by rw [← Nat.add_assoc, dt]; exact ht) (by
        rw [show K0 + (k2 + 1) - 1 = (K0 + k2 - 1) + 1 by omega, ← List.drop_drop, ← List.drop_drop, hdr]) ks Q hx
      simp (disch := omega) [c3]
      simpa using this
    · rw [if_neg c3] at dt
      have kN : k < N := by omega
      have := ih (k2 + 1) (k + 1) (cur.set k (l[K0 + k2]'(by omega))) (h.set b (some (u64L (cur.set k (l[K0 + k2]'(by omega)))))) (by omega) (by omega) (by simp [hc]) (by rw [row_set jl]) (by omega) (by rw [← Nat.add_assoc, dt]; simp [hd]) (by
          rw [← Nat.add_assoc, dt, ← ht, List.take_succ, List.take_set_of_le (Nat.le_refl _), List.getElem?_set_self (by omega)]; rfl) (by
          rw [List.drop_set_of_lt (by omega), show K0 + (k2 + 1) - 1 = (K0 + k2 - 1) + 1 by omega, ← List.drop_drop, ← List.drop_drop, hdr]) ks Q (fun h' cur' z a b' => hx h' cur' z ((HK.set _ _ _).trans a) b')
      have si : u64L (cur.set k (l[K0 + k2]'(by omega))) = (u64L cur).set k (.int .u64 (l[K0 + k2]'(by omega))) := by simp [u64L, List.map_set]
      rw [si] at this
      simp (disch := omega) [c3, hr, g1, il, kN]
      simpa using this
theorem cmp_out (l : List Int) (N : Nat) (hN : l.length = N) (hb6 : N ≤ 1000000) : ∀ (m k : Nat) (h : Heap), 1 ≤ k → k + m = N → h.row b = some (u64L l) → dd (l.take k) = l.take k → ∀ ks Q,
    (dd l = l → ∀ z, Xk T ks (.x 0) ((0, .hs 1 b 0 N) :: z) h Q) →
    (∀ h' R, HK h h' b → Heap.row h' b = some R → (dd l).length ≤ R.length → R.take (dd l).length = u64L (dd l) → Xk T ks .r [(2, .hs 1 b 0 (dd l).length)] h' Q) →
    Xc T l_slices_Compact_uint64_uint64_1 ks [(0, .hs 1 b 0 N), (3, .int .i64 k)] h Q := by
  intro m
  induction m with
  | zero =>
    intro k h h1 h2 hr hd ks Q hx hy
    rw [L_slices_Compact_uint64_uint64_1]; unfold bl_slices_Compact_uint64_uint64_1
    have c1 : ¬ (k : Int) < N := by omega
    rw [List.take_of_length_le (by omega)] at hd
    simp (disch := omega) [c1]
    exact hx hd _
  | succ m ih =>
    intro k h h1 h2 hr hd ks Q hx hy
    rw [L_slices_Compact_uint64_uint64_1]; unfold bl_slices_Compact_uint64_uint64_1
    have c1 : (k : Int) < N := by omega
    have kN : k < N := by omega
    have il : (u64L l).length = N := by rw [u64L_len, hN]
    have g1 : (u64L l)[k]? = some (.int .u64 (l[k]'(by omega))) := by rw [u64L_get, List.getElem?_eq_getElem (by omega)]; rfl
    have g2 : (u64L l)[k - 1]? = some (.int .u64 (l[k - 1]'(by omega))) := by rw [u64L_get, List.getElem?_eq_getElem (by omega)]; rfl
    have e5 : ((k : Int) - 1).toNat = k - 1 := by omega
    have dt := dd_take l k (by omega) (by omega)
    simp (disch := omega) [c1, hr, g1, g2, e5, il, kN]
    by_cases c3 : l[k]'(by omega) = l[k - 1]'(by omega)
    · rw [if_pos c3, List.append_nil] at dt
      have tk : (l.take k).length = k := by rw [List.length_take]; omega
      have sv1 := slN_lo 1 b N k kN
      have cI := cmp_in (b := b) l N k hN hb6 h1 kN m 1 k l h (by omega) (by omega) hN hr (by omega) (by rw [dt, hd, tk]) (by rw [dt, hd]) rfl
      have dp := dd_pos l (by intro e; rw [e] at hN; simp at hN; omega)
      have dl : (dd l).length < N := by
        have : ∀ (m i : Nat), k + 1 + i + m = N → (dd (l.take (k + 1 + i))).length ≤ k + i → (dd l).length ≤ N - 1 := by
          intro m
          induction m with
          | zero => intro i h3 h4; rw [List.take_of_length_le (by omega)] at h4; omega
          | succ m ih =>
            intro i h3 h4
            refine ih (i + 1) (by omega) ?_
            have := dd_take l (k + 1 + i) (by omega) (by omega)
            rw [← Nat.add_assoc, this, List.length_append]
            split <;> simp <;> omega
        have := this m 0 (by omega) (by rw [Nat.add_zero, dt, hd, tk]; omega)
        omega
      generalize hM : (dd l).length = M at *
      simp (disch := omega) [c3, sv1]
      refine cI _ _ fun h' cur z q1 q2 q3 q4 => ?_
      have sv2 := slN_lo 1 b N M dl
      have sv3 := slN_hi 1 b N M (by omega)
      have il2 : (u64L cur).length = N := by rw [u64L_len, q2]
      have cv := clrN h' 1 b (M * 1) (N - M) [.int .u64 0] (u64L cur) rfl q3 (by rw [il2]; omega)
      have M0 : M ≠ 0 := by omega
      have rl : (repZ (N - M) [V.int .u64 0]).length = N - M := by simp [repZ]
      rw [if_neg M0] at sv3
      simp only [Nat.mul_one] at sv2 cv
      simp (disch := omega) [sv2, sv3, cv]
      refine hy _ _ (q1.trans (HK.set _ _ _)) (row_set (hlt q3)) ?_ ?_
      · simp only [spliceL, List.length_append, List.length_take, rl, il2]; omega
      · unfold spliceL
        rw [List.append_assoc, List.take_left' (by rw [List.length_take]; omega)]
        rw [← q4]; simp [u64L, List.map_take]
    · rw [if_neg c3, hd] at dt
      have := ih (k + 1) h (by omega) (by omega) hr (by rw [dt, List.take_succ, List.getElem?_eq_getElem (by omega)]; rfl) ks Q hx hy
      simp (disch := omega) [c3]
      simpa using this
end
theorem CompactP_run (l : List Int) (hb6 : l.length ≤ 1000000) (hl : l ≠ []) (b : Nat) (h : Heap) (hr : h.row b = some (u64L l)) :
    ∃ h', Run T f_slices_Compact_uint64_uint64 [.hs 1 b 0 l.length] h (.ps 1 (u64L (dd l))) h' ∧ HK h h' b := by
  have ln : l.length ≠ 0 := fun e => hl (List.eq_nil_of_length_eq_zero e)
  have lp := cmp_out (b := b) l l.length rfl hb6 (l.length - 1) 1 h (by omega) (by omega) hr (by
    cases l with
    | nil => exact absurd rfl hl
    | cons x r => simp [dd, ddF])
  have fz : ∀ (g : Heap) (R : List V) (F : List Int), Heap.row g b = some R → F.length ≤ R.length → R.take F.length = u64L F → freeze1 false (.hs 1 b 0 F.length) g = some (.ps 1 (u64L F), g.set b none) := fun g R F h9 h11 h10 => by
    have hc : hsCells g 1 b 0 F.length = some (u64L F) := by simp [hsCells, h9, h10, h11]
    have ck : chunkOk 1 false (u64L F) = true := by simp [chunkOk, u64L]
    simp only [freeze1, hc, Option.bind_some]
    rw [if_pos ck, chunk1 _ _ (u64L_len F)]
  obtain ⟨v, h', ⟨ev, q1⟩, r⟩ := Run.startP (P := fun v h' => v = .ps 1 (u64L (dd l)) ∧ HK h h' b) (vs := [.hs 1 b 0 l.length]) (h := h) t_slices_Compact_uint64_uint64 (by
    unfold k_slices_Compact_uint64_uint64
    by_cases c : l.length < 2
    · have e : dd l = l := by
        match l, c with
        | [], _ => rfl
        | [x], _ => rfl
        | x :: y :: r, c => simp at c; omega
      have c' : (l.length : Int) < 2 := by omega
      have f := fz h (u64L l) l hr (by rw [u64L_len]; omega) (List.take_of_length_le (by rw [u64L_len]; omega))
      simp (disch := omega) [c, c', e]
      rw [f]
      simp only [Option.bind_some, epiP_some]
      exact ⟨rfl, HK.set _ _ _⟩
    · have c' : ¬ (l.length : Int) < 2 := by omega
      simp (disch := omega) [c, c']
      refine lp _ _ (fun e z => ?_) (fun h' R q1 q2 q3 q4 => ?_)
      · have f := fz h (u64L l) l hr (by rw [u64L_len]; omega) (List.take_of_length_le (by rw [u64L_len]; omega))
        simp (disch := omega) [e]
        rw [f]
        simp only [Option.bind_some, epiP_some]
        exact ⟨rfl, HK.set _ _ _⟩
      · have f := fz h' R (dd l) q2 q3 q4
        simp (disch := omega)
        rw [f]
        simp only [Option.bind_some, epiP_some]
        exact ⟨rfl, q1.trans (HK.set _ _ _)⟩)
  subst ev
  exact ⟨h', r, q1⟩
theorem CompactP_hn (h : Heap) : Run T f_slices_Compact_uint64_uint64 [.hn 1] h (.ps 1 []) h := by
  refine Run.start t_slices_Compact_uint64_uint64 ?_
  unfold k_slices_Compact_uint64_uint64
  simp (disch := omega)
/-- A range in parts of 256. -/
def cutF : Nat → Int → Int → List Pr
  | 0, _, _ => []
  | k + 1, a, b => if a ≤ b then ⟨a, min (a + 255) b⟩ :: cutF k (a + 256) b else []
def cutR (p : Pr) : List Pr := cutF 300 p.lo p.hi
def askL (M : List Pr) : List Pr := M.flatMap cutR
def stpC (p : Pr) : List V := [.int .i64 4, .str [], .int .i64 0, .int .u64 p.lo, .int .u64 p.hi]
def stps (A : List Pr) : List V := A.map fun p => .agg (stpC p)
theorem stps_len (A : List Pr) : (stps A).length = A.length := by simp [stps]
theorem cutF_len : ∀ (k : Nat) (a b : Int), (cutF k a b).length ≤ k
  | 0, _, _ => by simp [cutF]
  | k + 1, a, b => by
    have := cutF_len k (a + 256) b
    unfold cutF
    split <;> simp <;> omega
theorem ask_loop0 (b : Int) (hb : b < 65536) (v11 v12 v13 : V) (lo : Int) (g : Heap) (x : Nat) (hx : g.row x = some [.int .u64 lo, .int .u64 b]) : ∀ (k : Nat) (a0 : Int) (A : List Pr), 0 ≤ a0 → b + 1 - a0 ≤ 256 * k → a0 ≤ 70000 → A.length + k ≤ 100000 → ∀ ks Q,
    (∀ a e, Xk T ks (.x 2) ([(5, .ps 5 (stps (A ++ cutF k a0 b))), (7, .ptr x 0), (8, .int .u64 a), (11, v11), (12, v12), (13, v13)] ++ e) g Q) →
    Xc T l_whole_Station_Ask_0 ks [(5, .ps 5 (stps A)), (7, .ptr x 0), (8, .int .u64 a0), (11, v11), (12, v12), (13, v13)] g Q := by
  intro k
  induction k with
  | zero =>
    intro a A ha hk h7 hA ks Q hQ
    rw [L_whole_Station_Ask_0]; unfold bl_whole_Station_Ask_0
    have c : ¬ a ≤ b := by omega
    simp (disch := omega) [hx, c]
    have := hQ a [(22, .bool false)]
    simpa [cutF] using this
  | succ k ih =>
    intro a A ha hk h7 hA ks Q hQ
    rw [L_whole_Station_Ask_0]; unfold bl_whole_Station_Ask_0
    by_cases c : a ≤ b
    · have b1 : (A.length + 1) * 48 ≤ 140737488355328 := by omega
      have e1 : a + 256 - 1 = a + 255 := by omega
      simp (disch := omega) [hx, c, stps_len, b1, e1]
      have := ih (a + 256) (A ++ [⟨a, min (a + 255) b⟩]) (by omega) (by omega) (by omega) (by simp; omega) ks Q fun a' e => by
        have := hQ a' e
        unfold cutF at this
        rw [if_pos c] at this
        simpa using this
      simpa [stps, stpC] using this
    · simp (disch := omega) [hx, c]
      have := hQ a [(22, .bool false)]
      unfold cutF at this
      rw [if_neg c] at this
      simpa using this
theorem ask_loop1 (M : List Pr) (hM : M.length ≤ 50) (hb : ∀ p, p ∈ M → 0 ≤ p.lo ∧ p.lo ≤ p.hi ∧ p.hi < 65536) (h : Heap) : ∀ (k i : Nat) (J : Heap), i + k = M.length → ∀ ks Q,
    (∀ e J, Xk T ks (.x 0) ((5, .ps 5 (stps (askL M))) :: e) (h ++ J) Q) →
    Xc T l_whole_Station_Ask_1 ks [(5, .ps 5 (stps (askL (M.take i)))), (11, .ps 2 (Pr.vs M)), (12, .int .i64 M.length), (13, .int .i64 i)] (h ++ J) Q := by
  intro k
  induction k with
  | zero =>
    intro i J hi ks Q hQ
    rw [L_whole_Station_Ask_1]; unfold bl_whole_Station_Ask_1
    have c : ¬ (i : Int) < M.length := by omega
    rw [List.take_of_length_le (by omega)]
    simp (disch := omega) [c]
    exact hQ _ _
  | succ k ih =>
    intro i J hi ks Q hQ
    rw [L_whole_Station_Ask_1]; unfold bl_whole_Station_Ask_1
    have c : (i : Int) < M.length := by omega
    have hil : i < M.length := by omega
    have gm : (Pr.vs M)[i]? = some M[i].v := by rw [vs_get, List.getElem?_eq_getElem hil]; rfl
    have hp := hb M[i] (List.getElem_mem hil)
    have ht : askL (M.take (i + 1)) = askL (M.take i) ++ cutR M[i] := by
      unfold askL
      rw [take_get M i hil, List.flatMap_append, List.flatMap_cons, List.flatMap_nil, List.append_nil]
    have hlen : (askL (M.take i)).length ≤ 15000 := by
      have : ∀ l : List Pr, (askL l).length ≤ 300 * l.length := fun l => by
        induction l with
        | nil => simp [askL]
        | cons p l ih =>
          have := cutF_len 300 p.lo p.hi
          simp only [askL, List.flatMap_cons, List.length_append, List.length_cons, cutR] at ih ⊢
          omega
      have := this (M.take i)
      simp at this
      omega
    have ih' := fun J => ih (i + 1) J (by omega) ks Q hQ
    rw [ht] at ih'
    generalize M[i] = p at *
    simp (disch := omega) [c, gm, Pr.v, Pr.cs]
    have lp := ask_loop0 p.hi (by omega) (.ps 2 (Pr.vs M)) (.int .i64 M.length) (.int .i64 i) p.lo (h ++ (J ++ [some [.int .u64 p.lo, .int .u64 p.hi]])) (h.length + J.length) (by
      rw [← List.append_assoc, row_end (by simp)]) 300 p.lo (askL (M.take i)) (by omega) (by omega) (by omega) (by omega)
    refine lp _ _ fun a e => ?_
    simp (disch := omega)
    simpa [cutR] using ih' _
theorem Ask_run {h : Heap} {s m : Nat} {L : List Fm} (hS : SH h s m L) (st : Sta L) (n : Int) (h0 : 0 ≤ n) (hn : n ≤ 65536) : ∃ J, Run T f_whole_Station_Ask [.ptr s 0, .int .u64 n] h (.ps 5 (stps (askL (missL 0 (numsL L n) n)))) (h ++ J) := by
  have hr : ∃ v h', (v = .ps 5 (stps (askL (missL 0 (numsL L n) n))) ∧ ∃ J, h' = h ++ J) ∧ Run T f_whole_Station_Ask [.ptr s 0, .int .u64 n] h v h' := by
    refine Run.startP t_whole_Station_Ask ?_
    unfold k_whole_Station_Ask
    simp (disch := omega)
    obtain ⟨J3, ms⟩ := Missing_run hS st.ok n (by omega)
    rw [Xf_run ms]
    have hst := numsL_strict st n
    have hlt : ∀ x, x ∈ numsL L n → 0 ≤ x ∧ x < n := fun x hx => by
      obtain ⟨h1, h2⟩ := numsL_mem.1 hx
      obtain ⟨f, hf, rfl⟩ := List.mem_map.1 h1
      exact ⟨(st.ok.ok f hf).n0, h2⟩
    have hMm := missL_mem (numsL L n) 0 n hst hlt
    have hMl := missL_len (numsL L n) 0 n
    have hNl : (numsL L n).length ≤ 40 := by
      rw [(numsL_perm L n).length_eq]
      exact Nat.le_trans (List.length_filter_le _ _) (by simpa using st.ok.len)
    generalize missL 0 (numsL L n) n = M at *
    have lp := ask_loop1 M (by omega) (fun p hp => by have := hMm p hp; omega) h M.length 0 J3 (by omega)
    rw [List.take_zero] at lp
    simp (disch := omega) [vs_len]
    refine lp _ _ fun e J => ?_
    simp (disch := omega)
  obtain ⟨v, h', ⟨rfl, J, rfl⟩, r⟩ := hr
  exact ⟨J, r⟩
theorem ddF_ltP : ∀ (r : List Int) (p : Int), (p :: r).Pairwise (· ≤ ·) → (p :: ddF p r).Pairwise (· < ·)
  | [], p, _ => by simp [ddF]
  | y :: r, p, h => by
    have h1 := (List.pairwise_cons.1 h).1
    have h2 := (List.pairwise_cons.1 h).2
    have hy : p ≤ y := h1 y (by simp)
    rw [ddF]
    split
    · rename_i c
      subst c
      exact ddF_ltP r y h2
    · rename_i c
      have i2 := ddF_ltP r y h2
      refine List.pairwise_cons.2 ⟨fun x hx => ?_, i2⟩
      rcases List.mem_cons.1 hx with rfl | hx
      · omega
      · have := (List.pairwise_cons.1 i2).1 x hx; omega
theorem dd_ltP (l : List Int) (h : l.Pairwise (· ≤ ·)) : (dd l).Pairwise (· < ·) := by
  cases l with
  | nil => exact List.Pairwise.nil
  | cons x r => exact ddF_ltP r x h
/-- A slice that is gathered in the heap. -/
def Gath (h g : Heap) (v : V) (acc : List Int) : Prop := (∃ J, g = h ++ J) ∧ ((acc = [] ∧ v = .hn 1) ∨ (acc ≠ [] ∧ ∃ b, v = .hs 1 b 0 acc.length ∧ g.row b = some (u64L acc) ∧ h.length ≤ b))
theorem ids_loop {h : Heap} {s m : Nat} {L : List Fm} (hS : SH h s m L) (ns : List Int) (hl : ns.length ≤ 40) : ∀ (k i : Nat) (acc : List Int) (v : V) (g : Heap), i + k = ns.length → Gath h g v acc → acc.length = i → ∀ ks Q,
    (∀ acc v g, Gath h g v acc → acc.length = ns.length → ∀ e, Xk T ks (.x 0) ([(0, .ptr s 0), (3, v)] ++ e) g Q) →
    Xc T l_whole_Station_Ids_0 ks [(0, .ptr s 0), (3, v), (7, .ps 1 (u64L ns)), (8, .int .i64 ns.length), (9, .int .i64 i)] g Q := by
  intro k
  induction k with
  | zero =>
    intro i acc v g hi hG ha ks Q hQ
    rw [L_whole_Station_Ids_0]; unfold bl_whole_Station_Ids_0
    have c : ¬ (i : Int) < ns.length := by omega
    simp (disch := omega) [c]
    have := hQ acc v g hG (by omega) [(7, .ps 1 (u64L ns)), (8, .int .i64 ns.length), (9, .int .i64 i), (10, .bool false)]
    simpa using this
  | succ k ih =>
    intro i acc v g hi hG ha ks Q hQ
    rw [L_whole_Station_Ids_0]; unfold bl_whole_Station_Ids_0
    have c : (i : Int) < ns.length := by omega
    have hil : i < ns.length := by omega
    have gl : (u64L ns)[i]? = some (.int .u64 ns[i]) := by rw [u64L_get, List.getElem?_eq_getElem hil]; rfl
    generalize ns[i] = x at *
    obtain ⟨pre, hG⟩ := hG
    have r1 : g.row s = some [.mp m] := by obtain ⟨J, rfl⟩ := pre; exact pre_row hS.rs
    have r2 : g.row m = some (kvL L) := by obtain ⟨J, rfl⟩ := pre; exact pre_row hS.rm
    have hgl : h.length ≤ g.length := by obtain ⟨J, rfl⟩ := pre; simp
    have lk := look_kv r2 x (.agg [.int .u64 0, .int .u64 0, .int .i64 0, .int .i64 0, .str []]) false
    obtain ⟨y, W, hW, hW1⟩ : ∃ y : Int, ∃ W : List V, lookV g .int (.mp m) (.int .u64 x) (.agg [.int .u64 0, .int .u64 0, .int .i64 0, .int .i64 0, .str []]) false = some (.agg W) ∧ W[1]? = some (.int .u64 y) := by
      cases hf : findN L x with
      | none => exact ⟨0, _, by rw [lk, hf]; rfl, rfl⟩
      | some f => exact ⟨f.id, f.cs, by rw [lk, hf]; rfl, rfl⟩
    have ih' := fun v g hG => ih (i + 1) (acc ++ [y]) v g (by omega) hG (by simp; omega) ks Q hQ
    rcases hG with ⟨rfl, rfl⟩ | ⟨hne, b, rfl, hr, hb⟩
    · simp (disch := omega) [c, gl, r1, hW, hW1]
      have := ih' (.hs 1 g.length 0 1) (g ++ [some [.int .u64 y]]) ⟨by obtain ⟨J, rfl⟩ := pre; exact ⟨_, List.append_assoc _ _ _⟩, .inr ⟨by simp, g.length, rfl, row_end rfl, hgl⟩⟩
      simpa using this
    · have hl2 : (acc.length + 1) * 8 ≤ 140737488355328 := by omega
      have q := row_lt hr
      simp (disch := omega) [c, gl, r1, hW, hW1, hr, u64L_len, hl2]
      have := ih' (.hs 1 g.length 0 (acc.length + 1)) (g.set b none ++ [some (u64L acc ++ [.int .u64 y])]) ⟨by obtain ⟨J, rfl⟩ := pre; exact ⟨_, by rw [set_pre hb, List.append_assoc]⟩, .inr ⟨by simp, g.length, by simp, by rw [row_end (by simp)]; simp [u64L], hgl⟩⟩
      simpa using this
theorem Ids_run {h : Heap} {s m : Nat} {L : List Fm} (hS : SH h s m L) (st : Sta L) : ∃ U h', U.Pairwise (· < ·) ∧ U.length ≤ 40 ∧ Run T f_whole_Station_Ids [.ptr s 0] h (.ps 1 (u64L U)) h' := by
  have hr : ∃ v h', (∃ U, U.Pairwise (· < ·) ∧ U.length ≤ 40 ∧ v = .ps 1 (u64L U)) ∧ Run T f_whole_Station_Ids [.ptr s 0] h v h' := by
    refine Run.startP t_whole_Station_Ids ?_
    unfold k_whole_Station_Ids
    simp (disch := omega)
    obtain ⟨J, nr⟩ := numbers_run hS st.ok 2147483648
    have nl : (numsL L 2147483648).length ≤ 40 := by
      rw [(numsL_perm L 2147483648).length_eq]
      exact Nat.le_trans (List.length_filter_le _ _) (by simpa using st.ok.len)
    rw [Xf_run nr]
    simp (disch := omega) [u64L_len]
    generalize numsL L 2147483648 = ns at *
    refine ids_loop hS ns nl ns.length 0 [] (.hn 1) (h ++ J) (by omega) ⟨⟨_, rfl⟩, .inl ⟨rfl, rfl⟩⟩ rfl _ _ fun acc v g hG ha e => ?_
    rcases hG with ⟨pre, ⟨rfl, rfl⟩ | ⟨hne, b, rfl, hr, hb⟩⟩
    · simp (disch := omega)
      rw [Xf_run (SortU_hn _)]
      simp (disch := omega)
      rw [Xf_run (CompactP_hn _)]
      simp (disch := omega)
      exact ⟨[], .nil, by simp, rfl⟩
    · obtain ⟨g2, l', p1, p2, rs, p3, p4, p5⟩ := SortU_run hr (by omega)
      have hl' : l'.length = acc.length := p1.length_eq
      have hne' : l' ≠ [] := fun e => by rw [e] at hl'; exact hne (List.length_eq_zero_iff.1 hl'.symm)
      obtain ⟨g3, rc, _⟩ := CompactP_run l' (by omega) hne' b g2 p4
      rw [hl'] at rc
      simp (disch := omega)
      rw [Xf_run rs]
      simp (disch := omega)
      rw [Xf_run rc]
      simp (disch := omega)
      have := dd_len l'
      exact ⟨dd l', dd_ltP _ p2, by omega, rfl⟩
  obtain ⟨v, h', ⟨U, h1, h2, rfl⟩, r⟩ := hr
  exact ⟨U, h', h1, h2, r⟩
end Ev
