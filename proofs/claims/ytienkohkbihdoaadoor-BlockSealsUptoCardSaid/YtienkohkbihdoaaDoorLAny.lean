/- Values as the document's types, and taken as types. Each theorem states its own conditions. -/
import Derived.Test.YtienkohkbihdoaaDoorLV6
import Derived.Test.YtienkohkbihdoaaDoorLHd
set_option linter.all false
namespace Ev
open Go
set_option maxRecDepth 10000
attribute [-simp] getElem?_pos getElem?_neg List.drop_one

@[simp] theorem ta_eq (t : Nat) (z v : V) : taV t z true (.iface t v) = some (.tup [v, .bool true]) := by simp [taV]
@[simp] theorem ta_ne (t t' : Nat) (z v : V) (h : t' ≠ t) : taV t z true (.iface t' v) = some (.tup [z, .bool false]) := by simp [taV, h]
@[simp] theorem ta_nil (t : Nat) (z : V) : taV t z true .nili = some (.tup [z, .bool false]) := by simp [taV]
@[simp] theorem ta_f (t : Nat) (z v : V) : taV t z false (.iface t v) = some v := by simp [taV]

mutual
def anyV : T6 → V
  | .mk k n s l => if k = 0 then .iface 22 (.int .u64 n) else if k = 1 then .iface 90 (.int .u64 n) else if k = 2 then .iface 31 (.ps 1 (bys s)) else if k = 3 then .iface 9 (.str s) else
    if k = 4 then .iface 36 (.ps 1 (anys l)) else if k = 5 then .iface 4 (.bool false) else if k = 6 then .iface 4 (.bool true) else .nili
def anys : List T6 → List V
  | [] => []
  | x :: r => anyV x :: anys r
end
theorem anys_map : ∀ l : List T6, anys l = l.map anyV
  | [] => rfl
  | x :: r => by rw [anys, anys_map r]; rfl
theorem anys_len (l : List T6) : (anys l).length = l.length := by rw [anys_map]; simp
theorem anys_get (l : List T6) (i : Nat) : (anys l)[i]? = (l[i]?).map anyV := by rw [anys_map]; simp
theorem anys_app (a b : List T6) : anys (a ++ b) = anys a ++ anys b := by simp [anys_map]
mutual
theorem anyV_hf : ∀ t : T6, V.hf (anyV t) = true
  | .mk k n s l => by unfold anyV; (repeat' split) <;> simp [bys_hfs, anys_hfs l]
theorem anys_hfs : ∀ l : List T6, V.hfs (anys l) = true
  | [] => rfl
  | x :: r => by simp [anys, anyV_hf x, anys_hfs r]
end
theorem anyV_one (t : T6) : V.one (anyV t) = true := by
  obtain ⟨k, n, s, l⟩ := t
  unfold anyV
  (repeat' split) <;> rfl
theorem anyV_cells (t : T6) : (anyV t).cells = [anyV t] := by
  obtain ⟨k, n, s, l⟩ := t
  unfold anyV
  (repeat' split) <;> rfl
theorem Any_loop (n : Int) (s : List UInt8) (l : List T6) (hw : T6.ws l ≤ 4194304) (hl : ∀ x ∈ l, ∃ h', Run T f_law06_Any [x.v] [] (anyV x) h') :
    ∀ (m i : Nat), i + m = l.length → ∀ ks Q (e : Env) (h0 : Heap),
    (∀ e, Xk T ks (.x 1) ([(1, .ptr h0.length 0), (3, .ps 1 (anys l))] ++ e) (h0 ++ [some [.int .i64 4, .int .u64 n, .str s, .ps 4 (T6.vs l)]]) Q) →
    Xc T l_law06_Any_0 ks ([(1, .ptr h0.length 0), (3, .ps 1 (anys (l.take i))), (4, .int .i64 i)] ++ e) (h0 ++ [some [.int .i64 4, .int .u64 n, .str s, .ps 4 (T6.vs l)]]) Q := by
  intro m
  induction m with
  | zero =>
    intro i hi ks Q e h0 hQ
    rw [L_law06_Any_0]; unfold bl_law06_Any_0
    have b5 := T6.ws_len l
    have e0 : i = l.length := by omega
    subst e0
    rw [List.take_length]
    simp (disch := omega) [T6.vs_len]
    exact hQ _
  | succ m ih =>
    intro i hi ks Q e h0 hQ
    rw [L_law06_Any_0]; unfold bl_law06_Any_0
    have e1 : i < l.length := by omega
    have e3 : (i : Int) < l.length := by omega
    have g := List.getElem?_eq_getElem e1
    obtain ⟨h', r⟩ := hl l[i] (List.getElem_mem e1)
    have b5 := T6.ws_len l
    have ht := take_get l i e1
    have lt : (l.take i).length = i := by rw [List.length_take]; omega
    simp (disch := omega) [T6.vs_len, T6.vs_get, e3, g, T6.cells_len, T6.agg_v]
    rw [Xp_run r (by simp [T6.v_hf]) (by simp [anyV_hf]) (by simp)]
    simp (disch := omega) [anyV_hf, anyV_one, anyV_cells, anys_len, lt]
    have := ih (i + 1) (by omega) ks Q [] h0 hQ
    rw [ht, anys_app] at this
    simpa [anys] using this
theorem Any_run : ∀ (N : Nat) (t : T6), t.w ≤ N → t.w ≤ 4194304 → ∃ h', Run T f_law06_Any [t.v] [] (anyV t) h' := by
  intro N
  induction N with
  | zero => intro t ht; have := T6.w_pos t; omega
  | succ N ih =>
    intro t ht hb
    obtain ⟨k, n, s, l⟩ := t
    rw [T6.w] at ht hb
    refine Run.startE t_law06_Any ?_
    unfold k_law06_Any
    rw [anyV]
    have b5 := T6.ws_len l
    simp (disch := omega) [T6.v]
    refine Xb_dec (fun c0 => ?_) (fun c0 => ?_)
    · subst c0; simp (disch := omega)
    · simp (disch := omega)
      refine Xb_dec (fun c1 => ?_) (fun c1 => ?_)
      · subst c1; simp (disch := omega)
      · simp (disch := omega)
        refine Xb_dec (fun c2 => ?_) (fun c2 => ?_)
        · subst c2; simp (disch := omega) [sb_bys]
        · simp (disch := omega)
          refine Xb_dec (fun c3 => ?_) (fun c3 => ?_)
          · subst c3; simp (disch := omega)
          · simp (disch := omega)
            refine Xb_dec (fun c4 => ?_) (fun c4 => ?_)
            · subst c4
              simp (disch := omega)
              have := Any_loop n s l (by omega) (fun x hx => ih x (by have := T6.ws_mem hx; omega) (by have := T6.ws_mem hx; omega)) l.length 0 (by omega)
              simp at this
              refine this _ _ [] [] (fun e => ?_)
              simp (disch := omega)
            · simp (disch := omega)
              refine Xb_dec (fun c5 => ?_) (fun c5 => ?_)
              · subst c5; simp (disch := omega)
              · simp (disch := omega)
                refine Xb_dec (fun c6 => ?_) (fun c6 => ?_)
                · subst c6; simp (disch := omega)
                · simp (disch := omega) [c0, c1, c2, c3, c4, c5, c6]
end Ev
