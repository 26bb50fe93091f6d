/- Blocks of any value: what the sum says; the reference's answer. Each theorem states its own conditions. -/
import Derived.Test.YtienkohkbihdoaaDoorLBlk7
set_option linter.all false
namespace Ev
open Go
set_option maxRecDepth 10000
attribute [-simp] getElem?_pos getElem?_neg List.drop_one

theorem hdB_small (m n : Nat) (h : n < 24) : (hdB m n).length = 1 := by unfold hdB; rw [if_pos h]; rfl
theorem hdB_pos (m n : Nat) : 1 ≤ (hdB m n).length := by unfold hdB; split <;> simp
theorem enc_snoc (l : List T6) (S : List UInt8) : enc (node (l ++ [byt6 S])) = (hdB 4 (l.length + 1) ++ encs l) ++ (hdB 2 S.length ++ S) := by
  rw [enc_node, encs_app]
  simp [encs, enc]
theorem snoc_len (l : List T6) (S S' : List UInt8) (hS : S.length < 24) (h : enc (node (l ++ [byt6 S])) = enc (node (l ++ [byt6 S']))) : S'.length = S.length := by
  rw [enc_snoc, enc_snoc, List.append_cancel_left_eq] at h
  have h := congrArg List.length h
  rw [List.length_append, List.length_append, hdB_small 2 _ hS] at h
  rcases Nat.lt_or_ge S'.length 24 with c | c
  · rw [hdB_small 2 _ c] at h; omega
  · have := hdB_pos 2 S'.length; omega
theorem sealB_len (l : List T6) (k : Nat) (S : List UInt8) (hk : k = 1 ∨ k = 2) (h : sealB l k = enc (node (l ++ [byt6 S]))) : S.length = widthN k := by
  unfold sealB at h
  have w := sumB_len k (enc (node (l ++ [byt6 (List.replicate (widthN k) 0)])))
  have wl := widthN_le k
  have := snoc_len l _ S (by omega) h
  omega
theorem OpenN_run (l : List T6) (S : List UInt8) (h : Heap) (hw : (node (l ++ [byt6 S])).w ≤ 4194304) (hS : S.length ≤ 3000000) (h2 : S.length ≠ 2) (h4 : S.length ≠ 4) : ∃ h', Run T f_block_Open [.iface 36 (.ps 1 (anys (l ++ [byt6 S])))] h (.tup [.ps 1 (anys (l ++ [byt6 S])), .int .i64 0, .int .i64 0]) h' := by
  have hg : (anys (l ++ [byt6 S]))[l.length]? = some (.iface 31 (.ps 1 (bys S))) := by
    rw [anys_get, List.getElem?_append_right (by omega), Nat.sub_self]; rfl
  have hlen : (anys (l ++ [byt6 S])).length = l.length + 1 := by rw [anys_len]; simp
  refine Run.startE t_block_Open ?_
  unfold k_block_Open
  have ln := fun {ks ops K e h Q d} => List_n (ks := ks) (ops := ops) (K := K) (e := e) (h := h) (Q := Q) (d := d) (l ++ [byt6 S]) hw
  have b5 : l.length ≤ 4194304 := by
    have h1 := T6.ws_len (l ++ [byt6 S])
    have h2 := T6.lt_ws (node (l ++ [byt6 S]))
    simp at h1
    have : (node (l ++ [byt6 S])).l = l ++ [byt6 S] := rfl
    rw [this] at h2
    omega
  have hA := anys_hfs (l ++ [byt6 S])
  generalize anys (l ++ [byt6 S]) = A at *
  have z : ¬ ((l.length : Int) + 1 = 0) := by omega
  have zA : ¬ (A = []) := by intro e; rw [e] at hlen; simp at hlen
  have e1 : ((A.length : Int) - 1).toNat = l.length := by omega
  have w1 : (1 : Int) ≤ A.length := by omega
  have n2 : ¬ ((S.length : Int) = 2) := by omega
  have n4 : ¬ ((S.length : Int) = 4) := by omega
  simp (disch := first | omega | assumption) [ln, z, hlen, hg, Bytes_b, bys_len, n2, n4, h2, h4, bwidth_1, bwidth_2]
/-- What block.Open answers, and what it says of the sum. -/
theorem OpenG_run (l : List T6) (S : List UInt8) (h : Heap) (hl : GoodL l) (hw : (node (l ++ [byt6 S])).w ≤ 4194304) (hS : S.length ≤ 3000000) (k : Nat) (hk : k = 1 ∨ k = 2) : ∃ L j e h', Run T f_block_Open [.iface 36 (.ps 1 (anys (l ++ [byt6 S])))] h (.tup [.ps 1 L, .int .i64 j, .int .i64 e]) h' ∧ V.hfs L = true ∧ ((e = 0 ∧ j = k) ↔ sealB l k = enc (node (l ++ [byt6 S]))) := by
  have gen : ∀ q : Nat, (q = 1 ∨ q = 2) → S.length = widthN q → ∃ L j e h', Run T f_block_Open [.iface 36 (.ps 1 (anys (l ++ [byt6 S])))] h (.tup [.ps 1 L, .int .i64 j, .int .i64 e]) h' ∧ V.hfs L = true ∧ ((e = 0 ∧ j = q) ↔ sealB l q = enc (node (l ++ [byt6 S]))) ∧ (e = 0 → j = q) := fun q hq hSq => by
    obtain ⟨h', r⟩ := Open_run l q S h hl hq hSq
    unfold openV at r
    by_cases c : sealB l q = enc (node (l ++ [byt6 S]))
    · rw [if_pos c] at r
      exact ⟨_, _, _, h', r, anys_hfs l, ⟨fun _ => c, fun _ => ⟨rfl, rfl⟩⟩, fun _ => rfl⟩
    · rw [if_neg c] at r
      exact ⟨_, _, _, h', r, rfl, ⟨fun k => absurd k.1 (by decide), fun k => absurd k c⟩, fun k => absurd k (by decide)⟩
  by_cases e1 : S.length = widthN k
  · obtain ⟨L, j, e, h', r, r1, r2, _⟩ := gen k hk e1
    exact ⟨L, j, e, h', r, r1, r2⟩
  · have ne : ¬ sealB l k = enc (node (l ++ [byt6 S])) := fun c => e1 (sealB_len l k S hk c)
    have w1 : widthN 1 = 2 := rfl
    have w2 : widthN 2 = 4 := rfl
    by_cases c2 : S.length = 2
    · obtain ⟨L, j, e, h', r, r1, r2, r3⟩ := gen 1 (.inl rfl) c2
      refine ⟨L, j, e, h', r, r1, ⟨fun q => ?_, fun q => absurd q ne⟩⟩
      have := r3 q.1
      rcases hk with rfl | rfl
      · exact absurd c2 e1
      · omega
    · by_cases c4 : S.length = 4
      · obtain ⟨L, j, e, h', r, r1, r2, r3⟩ := gen 2 (.inr rfl) c4
        refine ⟨L, j, e, h', r, r1, ⟨fun q => ?_, fun q => absurd q ne⟩⟩
        have := r3 q.1
        rcases hk with rfl | rfl
        · omega
        · exact absurd c4 e1
      · obtain ⟨h', r⟩ := OpenN_run l S h hw hS c2 c4
        refine ⟨_, _, _, h', r, anys_hfs _, ⟨fun q => ?_, fun q => absurd q ne⟩⟩
        have := q.2
        rcases hk with rfl | rfl <;> omega
/-- A value's fourth, as a number. -/
def kindN (t : T6) : Nat := (asN (el t 3)).toNat
def refV (t : T6) : T6 := refT (asN (el t 0)) (asN (el t 1)) (asN (el t 2)) (kindN t) (asB (el t 4))
def shp2 (t : T6) : Prop := shp1 t ∧ (0 < asN (el t 3) → (el t 5).k = 2)
/-- What is answered at any value. -/
noncomputable def getS (t : T6) : V := open Classical in if shp2 t then (if enc t = enc (refV t) then chkV t else .tup [zblk, .int .i64 7]) else .tup [zblk, .int .i64 18]
theorem getS_hf (t : T6) : V.hf (getS t) = true := by
  unfold getS
  (repeat' split) <;> first | exact chkV_hf t | simp [zblk_hf]
theorem any_eq (t : T6) (h : t.k = 0) : anyV t = anyV (num6 (asN t)) ∧ enc t = enc (num6 (asN t)) := by
  obtain ⟨k, n, s, l⟩ := t
  have : k = 0 := h
  subst this
  exact ⟨rfl, by simp [asN, T6.k, T6.n, enc]⟩
theorem any_eqb (t : T6) (h : t.k = 2) : anyV t = anyV (byt6 (asB t)) ∧ enc t = enc (byt6 (asB t)) := by
  obtain ⟨k, n, s, l⟩ := t
  have : k = 2 := h
  subst this
  exact ⟨rfl, by simp [asB, T6.k, T6.s, enc]⟩
theorem any_eql (t : T6) (h : t.k = 4) : anyV t = anyV (node t.l) ∧ enc t = enc (node t.l) := by
  obtain ⟨k, n, s, l⟩ := t
  have : k = 4 := h
  subst this
  exact ⟨rfl, by simp [T6.l, enc]⟩
theorem list_el5 (t : T6) (h : t.k = 4) (hl : t.l.length = 5) : t.l = [el t 0, el t 1, el t 2, el t 3, el t 4] := by
  obtain ⟨k, n, s, l⟩ := t
  simp only [el, if_pos h]
  change l.length = 5 at hl
  match l, hl with
  | [a, b, c, d, e], _ => rfl
theorem list_el6 (t : T6) (h : t.k = 4) (hl : t.l.length = 6) : t.l = [el t 0, el t 1, el t 2, el t 3, el t 4, el t 5] := by
  obtain ⟨k, n, s, l⟩ := t
  simp only [el, if_pos h]
  change l.length = 6 at hl
  match l, hl with
  | [a, b, c, d, e, f], _ => rfl
theorem shp_k4 {t : T6} (h : shp1 t) : t.k = 4 := by
  rcases Decidable.em (t.k = 4) with c | c
  · exact c
  · have := h.2.2
    simp [asL, c, manyN] at this
    split at this <;> omega
theorem shp_0 {t : T6} (h : shp1 t) (c : ¬ 0 < asN (el t 3)) (h0 : 0 ≤ asN (el t 3)) : anyV t = anyV (node (vals (asN (el t 0)) (asN (el t 1)) (asN (el t 2)) 0 (asB (el t 4)))) ∧ enc t = enc (node (vals (asN (el t 0)) (asN (el t 1)) (asN (el t 2)) 0 (asB (el t 4)))) := by
  have k4 := shp_k4 h
  obtain ⟨⟨⟨⟨⟨d0, d1⟩, d2⟩, d3⟩, d4⟩, _, hl⟩ := h
  have eL : asL t = t.l := by simp [asL, k4]
  rw [eL, manyN, if_neg c] at hl
  have el5 := list_el5 t k4 (by omega)
  have e3 : asN (el t 3) = 0 := by omega
  have q0 := any_eq _ d0
  have q1 := any_eq _ d1
  have q2 := any_eq _ d2
  have q3 := any_eq _ d3
  have q4 := any_eqb _ d4
  rw [e3] at q3
  have q := any_eql t k4
  rw [q.1, q.2, el5]
  constructor
  · rw [any_node, any_node]
    simp only [vals, anys, q0.1, q1.1, q2.1, q3.1, q4.1]
  · rw [enc_node, enc_node]
    simp only [vals, encs, q0.2, q1.2, q2.2, q3.2, q4.2, List.length_cons, List.length_nil]
theorem shp_1 {t : T6} (h : shp1 t) (c : 0 < asN (el t 3)) (h5 : (el t 5).k = 2) : anyV t = anyV (blkT (asN (el t 0)) (asN (el t 1)) (asN (el t 2)) (kindN t) (asB (el t 4)) (asB (el t 5))) ∧ enc t = enc (blkT (asN (el t 0)) (asN (el t 1)) (asN (el t 2)) (kindN t) (asB (el t 4)) (asB (el t 5))) := by
  have k4 := shp_k4 h
  obtain ⟨⟨⟨⟨⟨d0, d1⟩, d2⟩, d3⟩, d4⟩, _, hl⟩ := h
  have eL : asL t = t.l := by simp [asL, k4]
  rw [eL, manyN, if_pos c] at hl
  have el5 := list_el6 t k4 (by omega)
  have e3 : ((kindN t : Nat) : Int) = asN (el t 3) := by unfold kindN; omega
  have q0 := any_eq _ d0
  have q1 := any_eq _ d1
  have q2 := any_eq _ d2
  have q3 := any_eq _ d3
  have q4 := any_eqb _ d4
  have q5 := any_eqb _ h5
  rw [← e3] at q3
  have q := any_eql t k4
  rw [q.1, q.2, el5]
  constructor
  · rw [any_node, blkT_any]
    simp only [vals, anys, anys_app, q0.1, q1.1, q2.1, q3.1, q4.1, q5.1]
    rfl
  · rw [enc_node, blkT, enc_node]
    simp only [vals, encs, encs_app, q0.2, q1.2, q2.2, q3.2, q4.2, q5.2]
    simp
theorem asB_le (t : T6) : (asB t).length ≤ t.w := by
  obtain ⟨k, n, s, l⟩ := t
  unfold asB
  split
  · rw [T6.w]; show s.length ≤ _; omega
  · simp
theorem el_le (t : T6) (i : Nat) : (el t i).w ≤ t.w := by
  rcases el_mem t i with h | h
  · rw [h]; have := T6.w_pos t; simp [T6.w, T6.ws]; omega
  · have := T6.ws_mem h
    have := T6.lt_ws t
    omega
theorem shp_good {t : T6} (hw : t.w ≤ 1048576) (ok : t.ok) (h : shp1 t) : GoodL (vals (asN (el t 0)) (asN (el t 1)) (asN (el t 2)) (kindN t) (asB (el t 4))) ∧ kindN t ≤ 2 := by
  have n0 := el_n t 0 ok
  have n1 := el_n t 1 ok
  have n2 := el_n t 2 ok
  have n3 := el_n t 3 ok
  have b := asB_le (el t 4)
  have := el_le t 4
  have k2 : kindN t ≤ 2 := by have := h.2.1; unfold kindN; omega
  exact ⟨vals_good _ _ _ _ _ n0.1 n0.2 n1.1 n1.2 n2.1 n2.2 (by omega) (by omega) (by omega), k2⟩
/-- block.Get at any value. -/
theorem GetS_run (t : T6) (hw : t.w ≤ 1048576) (ok : t.ok) : ∃ h', Run T f_block_Get [anyV t] [] (getS t) h' := by
  have n3 := el_n t 3 ok
  by_cases c : shp1 t ∧ 0 < asN (el t 3) ∧ (el t 5).k = 2
  · obtain ⟨hs, hp, h5⟩ := c
    obtain ⟨gl, k2⟩ := shp_good hw ok hs
    obtain ⟨ea, ee⟩ := shp_1 hs hp h5
    have kp : 0 < kindN t := by unfold kindN; omega
    have b5 := asB_le (el t 5)
    have := el_le t 5
    obtain ⟨L, j, e, h', r, r1, r2⟩ := OpenG_run _ (asB (el t 5)) [] gl (by
      have := asB_le (el t 4)
      have := el_le t 4
      simp only [vals, T6.w, ws_app, T6.ws, List.length_nil]
      omega) (by omega) (kindN t) (by omega)
    rw [← blkT_any, ← ea] at r
    obtain ⟨hG, rG⟩ := GetG_run t (by omega) ok L j e h' r1 (fun _ _ _ => r)
    refine ⟨hG, ?_⟩
    have eq : getS t = getV t j e := by
      unfold getS getV
      rw [if_pos (show shp2 t from ⟨hs, fun _ => h5⟩), if_pos hs, if_pos hp, if_pos h5]
      have ek : ((kindN t : Nat) : Int) = asN (el t 3) := by unfold kindN; omega
      have er := encRef (asN (el t 0)) (asN (el t 1)) (asN (el t 2)) (kindN t) (asB (el t 4)) (by omega)
      rw [er] at r2
      rw [ee]
      rw [ek] at r2
      have : (e = 0 ∧ j = asN (el t 3)) ↔ enc (blkT (asN (el t 0)) (asN (el t 1)) (asN (el t 2)) (kindN t) (asB (el t 4)) (asB (el t 5))) = enc (refV t) := r2.trans ⟨fun h => h.symm, fun h => h.symm⟩
      by_cases q : e = 0 ∧ j = asN (el t 3)
      · rw [if_pos q, if_pos (this.1 q)]
      · rw [if_neg q, if_neg (fun k => q (this.2 k))]
    rw [eq]
    exact rG
  · obtain ⟨hG, rG⟩ := GetG_run t (by omega) ok [] 0 0 [] rfl (fun h1 h2 h3 => absurd ⟨h1, h2, h3⟩ c)
    refine ⟨hG, ?_⟩
    have eq : getS t = getV t 0 0 := by
      unfold getS getV
      by_cases hs : shp1 t
      · rw [if_pos hs]
        by_cases hp : 0 < asN (el t 3)
        · rw [if_pos hp, if_neg (fun k => c ⟨hs, hp, k⟩), if_neg (fun k : shp2 t => c ⟨hs, hp, k.2 hp⟩)]
        · rw [if_neg hp, if_pos (show shp2 t from ⟨hs, fun k => absurd k hp⟩)]
          have k0 : kindN t = 0 := by unfold kindN; omega
          have e0 := (shp_0 hs hp n3.1).2
          rw [if_pos (by rw [e0]; unfold refV refT; rw [if_pos k0, k0]; rfl)]
      · rw [if_neg hs, if_neg (fun k : shp2 t => hs k.1)]
    rw [eq]
    exact rG
end Ev
