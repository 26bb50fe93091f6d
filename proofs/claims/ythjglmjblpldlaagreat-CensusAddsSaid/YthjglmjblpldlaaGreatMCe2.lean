/- A blank device in the heap, and what is read of it. A blank device is scanned: nothing is found. A blank device: no marked blocks, no tables, no versions. The census of a blank device. A new device; a layer is not mounted on one that is too small; what must come at any rate. Censuses together: what the program computes. The law CensusAdds. Each theorem states its own conditions. -/
import Derived.Test.YthjglmjblpldlaaGreatMCode
import Derived.Test.YthjglmjblpldlaaGreatMBy
set_option linter.all false
namespace Ev
open Go
set_option maxRecDepth 10000
attribute [-simp] getElem?_pos getElem?_neg List.drop_one
theorem CrowA {g w : Heap} {x : Option (List V)} : Heap.row (g ++ x :: w) g.length = x := by
  unfold Heap.row
  rw [List.getElem?_append_right (Nat.le_refl _), Nat.sub_self]; rfl
theorem CrowB {g w : Heap} {x y : Option (List V)} : Heap.row (g ++ x :: y :: w) (g.length + 1) = y := by
  rw [show g ++ x :: y :: w = (g ++ [x]) ++ y :: w by simp, show g.length + 1 = (g ++ [x]).length by simp]; exact CrowA
theorem Crlt {g : Heap} {j : Nat} {cs : List V} (h : Heap.row g j = some cs) : j < g.length := by
  unfold Heap.row at h
  cases hh : g[j]? with
  | none => simp [hh] at h
  | some z => exact (List.getElem?_eq_some_iff.1 hh).1
theorem Crow_app {g w : Heap} {j : Nat} {cs : List V} (h : Heap.row g j = some cs) : Heap.row (g ++ w) j = some cs := by
  rw [row_app (Crlt h)]; exact h
def dvc (a p n w : Nat) : List V := [.int .i64 8, .int .i64 4, .int .i64 0, .hs 1 a 0 8, .hs 1 p 0 32, .hs 1 n 0 8, .hs 1 w 0 8, .ps 3 [], .int .i64 0, .bool false]
/-- A blank device. -/
structure Dev (r a p n w : Nat) (g : Heap) : Prop where
  d : g.row r = some (dvc a p n w)
  a : g.row a = some (List.replicate 8 (.bool false))
  p : g.row p = some (List.replicate 32 (.ps 1 page1))
  w : g.row w = some (List.replicate 8 (.int .i64 0))
theorem Dev.app {r a p n w : Nat} {g : Heap} (D : Dev r a p n w g) (k : Heap) : Dev r a p n w (g ++ k) := ⟨Crow_app D.d, Crow_app D.a, Crow_app D.p, Crow_app D.w⟩
/-- A run that leaves all rows as they were. -/
def RunG (f : Nat) (vs : List V) (g : Heap) (v : V) : Prop := ∃ k, Run T f vs g v (g ++ k)
theorem RunG.of {f : Nat} {vs : List V} {g : Heap} {v : V} (h : ∃ u h', (u = v ∧ ∃ k, h' = g ++ k) ∧ Run T f vs g u h') : RunG f vs g v := by
  obtain ⟨_, _, ⟨rfl, k, rfl⟩, r⟩ := h
  exact ⟨k, r⟩
/-- A heap that has more rows. -/
def Ext (g g' : Heap) : Prop := ∃ k, g' = g ++ k
theorem Ext.refl (g : Heap) : Ext g g := ⟨[], by simp⟩
theorem Ext.trans {g h k : Heap} (x : Ext g h) (y : Ext h k) : Ext g k := by
  obtain ⟨a, rfl⟩ := x
  obtain ⟨b, rfl⟩ := y
  exact ⟨a ++ b, by rw [List.append_assoc]⟩
theorem Ext.of (g k : Heap) : Ext g (g ++ k) := ⟨k, rfl⟩
theorem Ext.row {g h : Heap} (x : Ext g h) {j : Nat} {cs : List V} (hr : Heap.row g j = some cs) : Heap.row h j = some cs := by
  obtain ⟨a, rfl⟩ := x
  exact Crow_app hr
theorem RunG.ext {f : Nat} {vs : List V} {g : Heap} {v : V} (h : RunG f vs g v) : ∃ g', Ext g g' ∧ Run T f vs g v g' := by
  obtain ⟨k, r⟩ := h
  exact ⟨_, ⟨k, rfl⟩, r⟩
theorem Dev.ext {r a p n w : Nat} {g g' : Heap} (D : Dev r a p n w g) (x : Ext g g') : Dev r a p n w g' := by
  obtain ⟨k, rfl⟩ := x
  exact D.app k
section
variable {r a p n w : Nat} {g : Heap}
theorem dvc_len : (dvc a p n w).length = 10 := rfl
theorem dvc_g : (dvc a p n w).take 3 = geo := rfl
theorem dvc_0 : (dvc a p n w)[0]? = some (.int .i64 8) := rfl
theorem dvc_3 : (dvc a p n w)[3]? = some (.hs 1 a 0 8) := rfl
theorem dvc_4 : (dvc a p n w)[4]? = some (.hs 1 p 0 32) := rfl
theorem dvc_6 : (dvc a p n w)[6]? = some (.hs 1 w 0 8) := rfl
theorem dvc_9 : (dvc a p n w)[9]? = some (.bool false) := rfl
attribute [local simp] dvc_len dvc_g dvc_0 dvc_3 dvc_4 dvc_6 dvc_9
theorem Sides_run (D : Dev r a p n w g) : RunG f_nand_Device_Sides [.ptr r 0] g (.agg geo) := by
  refine .of (Run.startP t_nand_Device_Sides ?_)
  unfold k_nand_Device_Sides
  have gl : geo.length = 3 := rfl
  have gc : V.cells (.agg geo) = geo := rfl
  have go : geo.all V.one = true := rfl
  have sp : spliceL [V.int .i64 0, V.int .i64 0, V.int .i64 0] 0 geo = geo := rfl
  have gt : geo.take 3 = geo := rfl
  have d := D.d
  have dA : ∀ k, Heap.row (g ++ k) r = some (dvc a p n w) := fun k => Crow_app d
  have rA : ∀ x w, Heap.row (g ++ x :: w) g.length = x := fun x w => CrowA
  simp (disch := omega) [d, dA, rA, gl, gc, go, sp, gt]
theorem There_run (D : Dev r a p n w g) (b : Nat) (hb : b < 8) : RunG f_nand_Device_there [.ptr r 0, .int .i64 b] g (.bool true) := by
  refine .of (Run.startP t_nand_Device_there ?_)
  unfold k_nand_Device_there
  have d := D.d
  have b0 : (0 : Int) ≤ b := by omega
  have b1 : (b : Int) < 8 := by omega
  simp (disch := omega) [d, b0, b1]
theorem Marked_run (D : Dev r a p n w g) (b : Nat) (hb : b < 8) : RunG f_nand_Device_Marked [.ptr r 0, .int .i64 b] g (.bool false) := by
  obtain ⟨k, rt⟩ := There_run D b hb
  have D1 := D.app k
  refine .of (Run.startP t_nand_Device_Marked ?_)
  unfold k_nand_Device_Marked
  have d := D1.d
  have da := D1.a
  have ge : (List.replicate 8 (V.bool false))[b]? = some (.bool false) := by rw [List.getElem?_replicate, if_pos hb]
  have gl : (List.replicate 8 (V.bool false)).length = 8 := rfl
  have b1 : (b : Int) < 8 := by omega
  simp (disch := omega)
  rw [Xf_run rt]
  generalize List.replicate 8 (V.bool false) = R at *
  simp (disch := omega) [d, da, ge, gl, b1, hb]
theorem Wear_run (D : Dev r a p n w g) (b : Nat) (hb : b < 8) : RunG f_nand_Device_Wear [.ptr r 0, .int .i64 b] g (.int .i64 0) := by
  obtain ⟨k, rt⟩ := There_run D b hb
  have D1 := D.app k
  refine .of (Run.startP t_nand_Device_Wear ?_)
  unfold k_nand_Device_Wear
  have d := D1.d
  have da := D1.w
  have ge : (List.replicate 8 (V.int .i64 0))[b]? = some (.int .i64 0) := by rw [List.getElem?_replicate, if_pos hb]
  have gl : (List.replicate 8 (V.int .i64 0)).length = 8 := rfl
  have b1 : (b : Int) < 8 := by omega
  simp (disch := omega)
  rw [Xf_run rt]
  generalize List.replicate 8 (V.int .i64 0) = R at *
  simp (disch := omega) [d, da, ge, gl, b1, hb]
theorem Down_run (D : Dev r a p n w g) : RunG f_nand_Device_Down [.ptr r 0] g (.bool false) := by
  refine .of (Run.startP t_nand_Device_Down ?_)
  unfold k_nand_Device_Down
  have d := D.d
  simp (disch := omega) [d]
theorem Up_run (D : Dev r a p n w g) : RunG f_nand_Device_up [.ptr r 0] g (.int .i64 0) := by
  refine .of (Run.startP t_nand_Device_up ?_)
  unfold k_nand_Device_up
  have d := D.d
  simp (disch := omega) [d]
theorem page1_flat : flat page1 = page1 := by kernel_rfl
theorem page1_ok : chunkOk 1 false page1 = true := by kernel_rfl
theorem page1_chunk : chunk 1 false 256 page1 = page1 := by kernel_rfl
theorem page0_spl : spliceL (List.replicate 256 (V.int .u8 0)) 0 page1 = page1 := by kernel_rfl
theorem CpRead_run (D : Dev r a p n w g) (b k : Nat) (hb : b < 8) (hk : k < 4) : RunG f_nand_Device_Read [.ptr r 0, .agg [.int .i64 b, .int .i64 k]] g (.tup [.ps 1 page1, .int .i64 0]) := by
  obtain ⟨_, rp⟩ := Place1_run b k hb hk
  obtain ⟨i, hi⟩ : ∃ i, i = b * 4 + k := ⟨_, rfl⟩
  have hi2 : i < 32 := by omega
  rw [← hi] at rp
  have D1 := D.app [some [V.int .i64 b, V.int .i64 k]]
  obtain ⟨k1, ru⟩ := Up_run D1
  have D2 := D1.app k1
  refine .of (Run.startP t_nand_Device_Read ?_)
  unfold k_nand_Device_Read
  have ge : (List.replicate 32 (V.ps 1 page1))[i]? = some (.ps 1 page1) := by rw [List.getElem?_replicate, if_pos hi2]
  have gl : (List.replicate 32 (V.ps 1 page1)).length = 32 := rfl
  simp (disch := omega)
  rw [Xf_run ru]
  have rX : Heap.row (g ++ [some [V.int .i64 b, V.int .i64 k]] ++ k1) g.length = some [V.int .i64 b, V.int .i64 k] := by rw [List.append_assoc]; exact CrowA
  obtain ⟨G, hG⟩ : ∃ G, G = g ++ [some [V.int .i64 b, V.int .i64 k]] ++ k1 := ⟨_, rfl⟩
  rw [← hG] at rX D2 ⊢
  have d := D2.d
  have dp := D2.p
  have gg : V.cells (.agg geo) = geo := rfl
  have dA : ∀ x, Heap.row (G ++ x) r = some (dvc a p n w) := fun x => Crow_app d
  have pA : ∀ x, Heap.row (G ++ x) p = some (List.replicate 32 (.ps 1 page1)) := fun x => Crow_app dp
  have rA : ∀ x w, Heap.row (G ++ x :: w) G.length = x := fun x w => CrowA
  have bs : (List.replicate 256 (V.int .u8 0)).length = 256 := rfl
  have z0 : ¬ (i : Int) < 0 := by omega
  have pl := page1_len
  have il : (i : Int) < 32 := by omega
  have pt : page1.take 256 = page1 := List.take_of_length_le (by omega)
  have ps := page0_spl
  have pf := page1_flat
  have po := page1_ok
  have pc := page1_chunk
  have ph := page1_hf
  generalize List.replicate 32 (V.ps 1 page1) = R at *
  generalize page1 = PG at *
  simp (disch := omega) [d, rX]
  rw [Xp_run rp (by simp [geo]) (by simp) (by simp [scalar])]
  simp (disch := omega) [-List.reduceReplicate, z0, dA, pA, rA, ge, gl, il, hi2]
  generalize List.replicate 256 (V.int .u8 0) = Z at *
  have cp : copyV (G ++ [some Z]) 1 (V.hs 1 G.length 0 256) (V.ps 1 PG) = some (.int .i64 256, (G ++ [some Z]).set G.length (some PG)) := by
    simp only [copyV, newCells, rA, Option.bind_some, if_true, pf, pl, Nat.div_one, Nat.mul_one, Nat.min_self, Nat.zero_add, bs, Nat.le_refl, pt, ps]
    rfl
  have fz : freeze1 false (.hs 1 G.length 0 256) (G ++ [some PG]) = some (.ps 1 PG, G ++ [none]) := by
    have hc : hsCells (G ++ [some PG]) 1 G.length 0 256 = some PG := by
      simp only [hsCells, rA, Option.bind_some, Nat.zero_add, Nat.mul_one, List.drop_zero]
      rw [if_pos (by omega), pt]
    have he : (G ++ [some PG]).set G.length none = G ++ [none] := by rw [List.set_append_right _ _ (Nat.le_refl _)]; simp
    simp only [freeze1, hc, Option.bind_some, po, if_true, pc, he]
  rw [cp]
  simp (disch := omega) [freezes, fz]
  exact ⟨_, by rw [hG, List.append_assoc, List.append_assoc]⟩
end
section
variable {r a p n w : Nat} {g : Heap}
attribute [local simp] dvc_len dvc_g dvc_0 dvc_3 dvc_4 dvc_6 dvc_9
theorem zHead_c : V.cells (.agg zHead) = zHead := rfl
theorem zHead_s : spliceL [V.int .i64 0, V.int .i64 0, V.int .i64 0, V.int .u64 0, V.int .u64 0, V.int .i64 0, V.int .i64 0] 0 zHead = zHead := rfl
theorem zHead_l : zHead.length = 7 := rfl
theorem zHead_o : zHead.all V.one = true := rfl
theorem zHead_t : zHead.take 7 = zHead := rfl
theorem zHead_0 : zHead[0]? = some (.int .i64 0) := rfl
attribute [local simp] zHead_c zHead_s zHead_l zHead_o zHead_t zHead_0
theorem Data_run (D : Dev r a p n w g) (b k : Nat) (hb : b < 8) (hk : k < 4) : RunG f_scan_Data [.ptr r 0, .agg [.int .i64 b, .int .i64 k]] g (.tup [.agg zHead, .str [], .int .i64 8]) := by
  have D1 := D.app [some [V.int .i64 b, V.int .i64 k], some [V.int .i64 0, V.int .i64 0, V.int .i64 0, V.int .u64 0, V.int .u64 0, V.int .i64 0, V.int .i64 0]]
  obtain ⟨k1, rr⟩ := CpRead_run D1 b k hb hk
  obtain ⟨_, rg⟩ := Get1_run
  have rA : ∀ x w, Heap.row (g ++ x :: w) g.length = x := fun x w => CrowA
  have rB : ∀ x y w, Heap.row (g ++ x :: y :: w) (g.length + 1) = y := fun x y w => CrowB
  have r0 : zHead = [V.int .i64 0, V.int .i64 0, V.int .i64 0, V.int .u64 0, V.int .u64 0, V.int .i64 0, V.int .i64 0] := rfl
  refine .of (Run.startP t_scan_Data ?_)
  unfold k_scan_Data
  rw [List.append_assoc] at rr
  simp (disch := omega) [rA]
  rw [Xf_run rr]
  simp (disch := omega)
  rw [Xp_run rg (by simp [page1_hf]) (by simp [r0]) (by simp [scalar])]
  simp (disch := omega) [rB]
theorem See_run (D : Dev r a p n w g) (dp : Nat) (hdp : g.row dp = some [.ptr r 0]) (o : Nat) (b k : Nat) (hb : b < 8) (hk : k < 4) : RunG f_scan_All_1 [.agg [.int .i64 b, .int .i64 k], .ptr dp 0, .ptr o 0] g (.tup []) := by
  have D1 := D.app [some [V.int .i64 b, V.int .i64 k]]
  obtain ⟨k1, rr⟩ := Data_run D1 b k hb hk
  have rA : ∀ x w, Heap.row (g ++ x :: w) g.length = x := fun x w => CrowA
  have dA : ∀ w, Heap.row (g ++ w) dp = some [.ptr r 0] := fun w => Crow_app hdp
  refine .of (Run.startP t_scan_All_1 ?_)
  unfold k_scan_All_1
  rw [List.append_assoc] at rr
  simp (disch := omega) [rA, dA]
  rw [Xf_run rr]
  simp (disch := omega)
theorem All_loop0 (b : Nat) (hb : b < 8) (dp o : Nat) : ∀ (m i : Nat) (g : Heap), i + m = 4 → Dev r a p n w g → g.row dp = some [.ptr r 0] → ∀ ks Q, (∀ z g', Ext g g' → Xk T ks (.x 3) ((1, .ptr dp 0) :: (4, .ptr o 0) :: (5, .fn f_scan_All_1 [.ptr dp 0, .ptr o 0]) :: (6, .int .i64 b) :: z) g' Q) →
    Xc T l_scan_All_0 ks [(1, .ptr dp 0), (4, .ptr o 0), (5, .fn f_scan_All_1 [.ptr dp 0, .ptr o 0]), (6, .int .i64 b), (27, .int .i64 4), (28, .int .i64 i)] g Q := by
  have hf : T.free f_scan_All_1 = true := rfl
  intro m
  induction m with
  | zero =>
    intro i g hi D hd ks Q hx
    have c1 : ¬ (i : Int) < 4 := by omega
    rw [L_scan_All_0]; unfold bl_scan_All_0
    simp (disch := omega) [c1]
    exact hx _ g (.refl g)
  | succ m ih =>
    intro i g hi D hd ks Q hx
    have c1 : (i : Int) < 4 := by omega
    obtain ⟨g1, x1, rs⟩ := (See_run D dp hd o b i hb (by omega)).ext
    have ih := ih (i + 1) g1 (by omega) (D.ext x1) (x1.row hd) ks Q (fun z g' x => hx z g' (x1.trans x))
    rw [show ((i + 1 : Nat) : Int) = (i : Int) + 1 from rfl] at ih
    rw [L_scan_All_0]; unfold bl_scan_All_0
    simp (disch := omega) [c1, hf]
    rw [Xf_run rs]
    simp (disch := omega)
    exact ih
theorem All_loop1 (dp o : Nat) : ∀ (m b : Nat) (g : Heap), b + m = 8 → Dev r a p n w g → g.row dp = some [.ptr r 0] → ∀ ks Q, (∀ z g', Ext g g' → Xk T ks (.x 1) ((1, .ptr dp 0) :: (4, .ptr o 0) :: z) g' Q) →
    Xc T l_scan_All_1 ks [(1, .ptr dp 0), (4, .ptr o 0), (5, .fn f_scan_All_1 [.ptr dp 0, .ptr o 0]), (6, .int .i64 b)] g Q := by
  have f0 : fldV 0 0 (.agg geo) = some (.int .i64 8) := rfl
  have f1 : fldV 1 0 (.agg geo) = some (.int .i64 4) := rfl
  intro m
  induction m with
  | zero =>
    intro b g hi D hd ks Q hx
    have c1 : ¬ (b : Int) < 8 := by omega
    obtain ⟨g1, x1, rs⟩ := (Sides_run D).ext
    rw [L_scan_All_1]; unfold bl_scan_All_1
    simp (disch := omega) [hd]
    rw [Xf_run rs]
    simp (disch := omega) [f0, c1]
    exact hx _ _ x1
  | succ m ih =>
    intro b g hi D hd ks Q hx
    have c1 : (b : Int) < 8 := by omega
    obtain ⟨g1, x1, rs⟩ := (Sides_run D).ext
    have D1 := D.ext x1
    obtain ⟨g2, x2, rm⟩ := (Marked_run D1 b (by omega)).ext
    have D2 := D1.ext x2
    obtain ⟨g3, x3, rs2⟩ := (Sides_run D2).ext
    have D3 := D2.ext x3
    have d1 := x1.row hd
    have d2 := x2.row d1
    have d3 := x3.row d2
    have l0 := All_loop0 (n := n) b (by omega) dp o 4 0 g3 (by omega) D3 d3
    rw [L_scan_All_1]; unfold bl_scan_All_1
    simp (disch := omega) [hd]
    rw [Xf_run rs]
    simp (disch := omega) [f0, c1, d1]
    rw [Xf_run rm]
    simp (disch := omega) [d2]
    rw [Xf_run rs2]
    simp (disch := omega) [f1]
    refine l0 _ _ fun z g4 x4 => ?_
    have ih := ih (b + 1) g4 (by omega) (D3.ext x4) (x4.row d3) ks Q (fun z g' x => hx z g' (x1.trans (x2.trans (x3.trans (x4.trans x)))))
    rw [show ((b + 1 : Nat) : Int) = (b : Int) + 1 from rfl] at ih
    simp (disch := omega)
    exact ih
theorem All_run (D : Dev r a p n w g) : RunG f_scan_All [.ptr r 0] g (.tup [.ps 9 [], .int .i64 0]) := by
  have D1 := D.ext (.of g [some [.ptr r 0]])
  have d1 : Heap.row (g ++ [some [.ptr r 0]]) g.length = some [.ptr r 0] := CrowA
  obtain ⟨g2, x2, rd⟩ := (Down_run D1).ext
  have D2 := D1.ext x2
  have d2 := x2.row d1
  have D3 := D2.ext (.of g2 [some [.hn 9]])
  have d3 := (Ext.of g2 [some [.hn 9]]).row d2
  have o3 : Heap.row (g2 ++ [some [.hn 9]]) g2.length = some [.hn 9] := CrowA
  have lp := All_loop1 g.length g2.length 6 2 (g2 ++ [some [.hn 9]]) (by omega) D3 d3
  refine .of (Run.startP t_scan_All ?_)
  unfold k_scan_All
  simp (disch := omega) [d1]
  rw [Xf_run rd]
  simp (disch := omega)
  refine lp _ _ fun z g4 x4 => ?_
  have o4 := x4.row o3
  have e4 : Ext g g4 := (Ext.of g _).trans (x2.trans ((Ext.of g2 _).trans x4))
  simp (disch := omega) [o4, freezes, freeze1]
  exact e4
end
section
variable {r a p n w : Nat} {g : Heap}
attribute [local simp] dvc_len dvc_g dvc_0 dvc_3 dvc_4 dvc_6 dvc_9 zHead_c zHead_s zHead_l zHead_o zHead_t zHead_0
theorem geo_0 : geo[0]? = some (.int .i64 8) := rfl
theorem geo_1 : geo[1]? = some (.int .i64 4) := rfl
attribute [local simp] geo_0 geo_1
theorem Some_loop (D0 : Dev r a p n w g) : ∀ (m b : Nat) (g : Heap), b + m = 8 → Dev r a p n w g → ∀ ks Q, (∀ z g', Ext g g' → Xk T ks (.x 0) ((0, .ptr r 0) :: (1, .bool true) :: (5, .hn 1) :: z) g' Q) →
    Xc T l_scan_some_0 ks [(0, .ptr r 0), (1, .bool true), (5, .hn 1), (6, .int .i64 b)] g Q := by
  intro m
  induction m with
  | zero =>
    intro b g hi D ks Q hx
    have c1 : ¬ (b : Int) < 8 := by omega
    obtain ⟨g1, x1, rs⟩ := (Sides_run D).ext
    rw [L_scan_some_0]; unfold bl_scan_some_0
    simp (disch := omega)
    rw [Xf_run rs]
    simp (disch := omega) [c1]
    exact hx _ _ x1
  | succ m ih =>
    intro b g hi D ks Q hx
    have c1 : (b : Int) < 8 := by omega
    obtain ⟨g1, x1, rs⟩ := (Sides_run D).ext
    have D1 := D.ext x1
    obtain ⟨g2, x2, rm⟩ := (Marked_run D1 b (by omega)).ext
    have D2 := D1.ext x2
    have ih := ih (b + 1) g2 (by omega) D2 ks Q (fun z g' x => hx z g' (x1.trans (x2.trans x)))
    rw [show ((b + 1 : Nat) : Int) = (b : Int) + 1 from rfl] at ih
    rw [L_scan_some_0]; unfold bl_scan_some_0
    simp (disch := omega)
    rw [Xf_run rs]
    simp (disch := omega) [c1]
    rw [Xf_run rm]
    simp (disch := omega)
    exact ih
theorem CeMarked_run (D : Dev r a p n w g) : RunG f_scan_Marked [.ptr r 0] g (.hn 1) := by
  have lp := Some_loop D 6 2 g (by omega) D
  have rs : RunG f_scan_some [.ptr r 0, .bool true] g (.hn 1) := by
    refine .of (Run.startP t_scan_some ?_)
    unfold k_scan_some
    simp (disch := omega)
    refine lp _ _ fun z g1 x1 => ?_
    simp (disch := omega)
    exact x1
  obtain ⟨g1, x1, rs⟩ := rs.ext
  refine .of (Run.startP t_scan_Marked ?_)
  unfold k_scan_Marked
  simp (disch := omega)
  rw [Xf_run rs]
  simp (disch := omega)
  exact x1
theorem CeUp_run (D : Dev r a p n w g) : RunG f_mirror_up [.ptr r 0] g (.int .i64 0) := by
  obtain ⟨g1, x1, rd⟩ := (Down_run D).ext
  refine .of (Run.startP t_mirror_up ?_)
  unfold k_mirror_up
  simp (disch := omega)
  rw [Xf_run rd]
  simp (disch := omega)
  exact x1
def zTab : List V := [.int .u64 0, .ps 1 [], .ps 1 [], .ps 1 []]
theorem zTab_c : V.cells (.agg zTab) = zTab := rfl
theorem zTab_s : spliceL [V.int .u64 0, .ps 1 [], .ps 1 [], .ps 1 []] 0 zTab = zTab := rfl
theorem zTab_l : zTab.length = 4 := rfl
theorem zTab_o : zTab.all V.one = true := rfl
theorem zTab_t : zTab.take 4 = zTab := rfl
attribute [local simp] zTab_c zTab_s zTab_l zTab_o zTab_t
theorem TabGet_run : ∃ h', Run T f_table_Get [.ps 1 page1] [] (.tup [.agg zTab, .int .i64 8]) h' := by
  obtain ⟨_, rg⟩ := Get1_run
  have r0 : zHead = [V.int .i64 0, V.int .i64 0, V.int .i64 0, V.int .u64 0, V.int .u64 0, V.int .i64 0, V.int .i64 0] := rfl
  refine Run.startE t_table_Get ?_
  unfold k_table_Get
  simp (disch := omega)
  rw [Xp_run rg (by simp [page1_hf]) (by simp [r0]) (by simp [scalar])]
  simp (disch := omega)
  rfl
theorem Tab1_run (D : Dev r a p n w g) (dp rp o : Nat) (hd : g.row dp = some [.ptr r 0]) (b : Nat) (hb : b < 8) (hr : g.row rp = some [.int .i64 b]) (k : Nat) (hk : k < 4) : RunG f_mirror_Tables_1 [.int .i64 k, .ptr dp 0, .ptr rp 0, .ptr o 0] g (.tup []) := by
  obtain ⟨g1, x1, rr⟩ := (CpRead_run D b k hb hk).ext
  obtain ⟨_, rt⟩ := TabGet_run
  refine .of (Run.startP t_mirror_Tables_1 ?_)
  unfold k_mirror_Tables_1
  simp (disch := omega) [hd, hr]
  rw [Xf_run rr]
  simp (disch := omega)
  rw [Xp_run rt (by simp [page1_hf]) (by simp [zTab]) (by simp [scalar])]
  simp (disch := omega)
  exact x1.trans (.of _ _)
theorem Tab_loop (b : Nat) (hb : b < 8) (dp rp o : Nat) : ∀ (m i : Nat) (g : Heap), i + m = 4 → Dev r a p n w g → g.row dp = some [.ptr r 0] → g.row rp = some [.int .i64 b] → ∀ ks Q, (∀ z g', Ext g g' → Xk T ks (.x 0) ((5, .ptr o 0) :: z) g' Q) →
    Xc T l_mirror_Tables_0 ks [(5, .ptr o 0), (6, .fn f_mirror_Tables_1 [.ptr dp 0, .ptr rp 0, .ptr o 0]), (18, .int .i64 4), (19, .int .i64 i)] g Q := by
  have hf : T.free f_mirror_Tables_1 = true := rfl
  intro m
  induction m with
  | zero =>
    intro i g hi D hd hr ks Q hx
    have c1 : ¬ (i : Int) < 4 := by omega
    rw [L_mirror_Tables_0]; unfold bl_mirror_Tables_0
    simp (disch := omega) [c1]
    exact hx _ g (.refl g)
  | succ m ih =>
    intro i g hi D hd hr ks Q hx
    have c1 : (i : Int) < 4 := by omega
    obtain ⟨g1, x1, rs⟩ := (Tab1_run D dp rp o hd b hb hr i (by omega)).ext
    have ih := ih (i + 1) g1 (by omega) (D.ext x1) (x1.row hd) (x1.row hr) ks Q (fun z g' x => hx z g' (x1.trans x))
    rw [show ((i + 1 : Nat) : Int) = (i : Int) + 1 from rfl] at ih
    rw [L_mirror_Tables_0]; unfold bl_mirror_Tables_0
    simp (disch := omega) [c1, hf]
    rw [Xf_run rs]
    simp (disch := omega)
    exact ih
theorem Tables_run (D : Dev r a p n w g) (b : Nat) (hb : b < 2) : RunG f_mirror_Tables [.ptr r 0, .int .i64 b] g (.ps 4 []) := by
  have e : Ext g (g ++ [some [.ptr r 0], some [.int .i64 b], some [.hn 4]]) := .of _ _
  have rA : Heap.row (g ++ [some [V.ptr r 0], some [V.int .i64 b], some [V.hn 4]]) g.length = some [.ptr r 0] := CrowA
  have rB : Heap.row (g ++ [some [V.ptr r 0], some [V.int .i64 b], some [V.hn 4]]) (g.length + 1) = some [.int .i64 b] := CrowB
  have rC : Heap.row (g ++ [some [V.ptr r 0], some [V.int .i64 b], some [V.hn 4]]) (g.length + 2) = some [.hn 4] := by
    rw [show g ++ [some [V.ptr r 0], some [V.int .i64 b], some [V.hn 4]] = (g ++ [some [V.ptr r 0]]) ++ some [V.int .i64 b] :: some [V.hn 4] :: [] by simp, show g.length + 2 = (g ++ [some [V.ptr r 0]]).length + 1 by simp]; exact CrowB
  generalize hG : g ++ [some [V.ptr r 0], some [V.int .i64 b], some [V.hn 4]] = G at *
  have D1 := D.ext e
  obtain ⟨g1, x1, rs⟩ := (Sides_run D1).ext
  have lp := Tab_loop b (by omega) g.length (g.length + 1) (g.length + 2) 4 0 g1 (by omega) (D1.ext x1) (x1.row rA) (x1.row rB)
  refine .of (Run.startP t_mirror_Tables ?_)
  unfold k_mirror_Tables
  have fin : ∀ z g2, Ext g1 g2 → Xk T [.block 0, .seq (.seq (.reg [xS 26 (.load 0 (.t 5)), xT 4 26] [4]) .ret)] (.x 0) ((5, .ptr (g.length + 2) 0) :: z) g2 (RetP [RV.t 4] [(0, true)] fun u h' => u = V.ps 4 [] ∧ ∃ k, h' = g ++ k) := by
    intro z g2 x2
    have o2 := x2.row (x1.row rC)
    have e2 : Ext g g2 := e.trans (x1.trans x2)
    simp (disch := omega) [o2, freezes, freeze1]
    exact e2
  by_cases c0 : b = 0
  · subst c0
    rw [show ((0 : Nat) : Int) = 0 from rfl] at hG rB
    simp (disch := omega) [hG, rA, rB]
    rw [Xf_run rs]
    simp (disch := omega)
    exact lp _ _ fin
  · have c1 : b = 1 := by omega
    subst c1
    rw [show ((1 : Nat) : Int) = 1 from rfl] at hG rB
    simp (disch := omega) [hG, rA, rB]
    rw [Xf_run rs]
    simp (disch := omega)
    exact lp _ _ fin
theorem Newest_loop (o q : Nat) : ∀ (m b : Nat) (g : Heap), b + m = 2 → Dev r a p n w g → ∀ ks Q, (∀ z g', Ext g g' → Xk T ks (.x 0) ((0, .ptr r 0) :: (2, .ptr o 0) :: (6, .ptr q 0) :: (7, .int .i64 0) :: (8, .bool false) :: z) g' Q) →
    Xc T l_mirror_Newest_1 ks [(0, .ptr r 0), (2, .ptr o 0), (6, .ptr q 0), (7, .int .i64 0), (8, .bool false), (18, .int .i64 b)] g Q := by
  intro m
  induction m with
  | zero =>
    intro b g hi D ks Q hx
    have c1 : ¬ (b : Int) < 2 := by omega
    rw [L_mirror_Newest_1]; unfold bl_mirror_Newest_1
    simp (disch := omega) [c1]
    exact hx _ g (.refl g)
  | succ m ih =>
    intro b g hi D ks Q hx
    have c1 : (b : Int) < 2 := by omega
    obtain ⟨g1, x1, rt⟩ := (Tables_run D b (by omega)).ext
    have ih := ih (b + 1) g1 (by omega) (D.ext x1) ks Q (fun z g' x => hx z g' (x1.trans x))
    rw [show ((b + 1 : Nat) : Int) = (b : Int) + 1 from rfl] at ih
    rw [L_mirror_Newest_1]; unfold bl_mirror_Newest_1
    simp (disch := omega) [c1]
    rw [Xf_run rt]
    simp (disch := omega)
    rw [L_mirror_Newest_0]; unfold bl_mirror_Newest_0
    simp (disch := omega)
    exact ih
theorem Newest_run (D : Dev r a p n w g) : RunG f_mirror_Newest [.ptr r 0] g (.tup [.agg zTab, .int .i64 0, .int .i64 8]) := by
  have e1 : Ext g (g ++ [some zTab]) := .of _ _
  have r1 : Heap.row (g ++ [some zTab]) g.length = some zTab := CrowA
  obtain ⟨g2, x2, ru⟩ := (CeUp_run (D.ext e1)).ext
  have e2 := e1.trans x2
  have r2 := x2.row r1
  have e3 : Ext g2 (g2 ++ [some zTab]) := .of _ _
  have lp := Newest_loop (n := n) g.length g2.length 2 0 (g2 ++ [some zTab]) (by omega) (D.ext (e2.trans e3))
  have zt : zTab = [V.int .u64 0, .ps 1 [], .ps 1 [], .ps 1 []] := rfl
  refine .of (Run.startP t_mirror_Newest ?_)
  unfold k_mirror_Newest
  rw [← zt]
  simp (disch := omega)
  rw [Xf_run ru]
  simp (disch := omega)
  refine lp _ _ fun z g4 x4 => ?_
  have r4 := x4.row (e3.row r2)
  have l4 := Crlt r4
  have s4 : spliceL zTab 0 zTab = zTab := rfl
  have es : g4.set g.length (some zTab) = g4 := by
    refine List.ext_getElem (by simp) fun i h1 h2 => ?_
    rw [List.getElem_set]
    split
    · rename_i e
      subst e
      unfold Heap.row at r4
      rw [List.getElem?_eq_getElem l4] at r4
      simpa using r4.symm
    · rfl
  have e4 : Ext g g4 := e2.trans (e3.trans x4)
  simp (disch := omega) [r4, s4, es]
  exact e4
theorem Void_run (D : Dev r a p n w g) : RunG f_census_void [.ptr r 0] g (.ps 1 []) := by
  obtain ⟨g1, x1, rn⟩ := (Newest_run D).ext
  refine .of (Run.startP t_census_void ?_)
  unfold k_census_void
  simp (disch := omega)
  rw [Xf_run rn]
  simp (disch := omega)
  exact x1.trans (.of _ _)
theorem Vers_run : ∃ h', Run T f_latest_Versions [.ps 9 [], .ps 1 []] [] (.ps 3 []) h' := Run.closedV (n := 100) (by kernel_rfl)
theorem Logi_run : ∃ h', Run T f_geom_Logical [.agg geo, .ps 1 []] [] (.int .i64 0) h' := Run.closedV (n := 100) (by kernel_rfl)
end
/-- The rows but one stay. -/
def ExtC (c : Nat) (g g' : Heap) : Prop := g.length ≤ g'.length ∧ ∀ j, j ≠ c → j < g.length → Heap.row g' j = Heap.row g j
theorem ExtC.refl (c : Nat) (g : Heap) : ExtC c g g := ⟨Nat.le_refl _, fun _ _ _ => rfl⟩
theorem ExtC.trans {c : Nat} {g h k : Heap} (x : ExtC c g h) (y : ExtC c h k) : ExtC c g k := ⟨Nat.le_trans x.1 y.1, fun j h1 h2 => (y.2 j h1 (Nat.lt_of_lt_of_le h2 x.1)).trans (x.2 j h1 h2)⟩
theorem Ext.c {c : Nat} {g h : Heap} (x : Ext g h) : ExtC c g h := by
  obtain ⟨k, rfl⟩ := x
  exact ⟨by simp, fun j _ h => row_app h⟩
theorem ExtC.set (c : Nat) (g : Heap) (x : Option (List V)) : ExtC c g (g.set c x) := ⟨by simp, fun j h _ => row_ne (fun e => h e.symm)⟩
theorem ExtC.row {c : Nat} {g h : Heap} (x : ExtC c g h) {j : Nat} {cs : List V} (hj : j ≠ c) (hr : Heap.row g j = some cs) : Heap.row h j = some cs := by rw [x.2 j hj (Crlt hr)]; exact hr
theorem Dev.extc {r a p n w c : Nat} {g g' : Heap} (D : Dev r a p n w g) (h : r ≠ c ∧ a ≠ c ∧ p ≠ c ∧ w ≠ c) (x : ExtC c g g') : Dev r a p n w g' := ⟨x.row h.1 D.d, x.row h.2.1 D.a, x.row h.2.2.1 D.p, x.row h.2.2.2 D.w⟩
/-- A census: so many blank pages. -/
def cw (k : Nat) : List V := [.int .i64 k, .int .i64 0, .int .i64 0, .int .i64 0, .int .i64 0, .int .i64 0, .int .i64 0, .int .i64 0, .int .i64 0, .int .i64 0, .int .i64 0, .int .i64 0]
section
variable {r a p n w : Nat} {g : Heap}
attribute [local simp] dvc_len dvc_g dvc_0 dvc_3 dvc_4 dvc_6 dvc_9 zHead_c zHead_s zHead_l zHead_o zHead_t zHead_0 geo_0 geo_1
theorem CSee_run (c k : Nat) (hk : k < 1000) (hc : g.row c = some (cw k)) : Run T f_census_see [.ptr c 0, .ps 1 page1] g (.tup []) (g.set c (some (cw (k + 1)))) := by
  obtain ⟨_, rc⟩ := Class1_run
  refine Run.start t_census_see ?_
  unfold k_census_see
  have l0 : (cw k)[0]? = some (.int .i64 k) := rfl
  have ll : (cw k).length = 12 := rfl
  have s0 : ∀ v, (cw k).set 0 (.int .i64 v) = (.int .i64 v) :: (cw 0).tail := fun _ => rfl
  have e1 : (.int .i64 ((k : Int) + 1)) :: (cw 0).tail = cw (k + 1) := rfl
  have wk : IntKind.i64.wrap ((k : Int) + 1) = k + 1 := wrap_i64 (by omega) (by omega)
  simp (disch := omega)
  rw [Xp_run rc (by simp [page1_hf]) (by simp) (by simp [scalar])]
  simp (disch := omega) [hc, l0, ll, wk, s0]
  rw [e1]
theorem Each_loop (c dp gp : Nat) (hdp : dp ≠ c) (hne : r ≠ c ∧ a ≠ c ∧ p ≠ c ∧ w ≠ c) (b : Nat) (hb : b < 8) (k0 : Nat) (hk0 : k0 < 900) : ∀ (m i : Nat) (g : Heap), i + m = 4 → Dev r a p n w g → g.row dp = some [.ptr r 0] → g.row c = some (cw (k0 + i)) → ∀ ks Q,
    (∀ z g', ExtC c g g' → g'.row c = some (cw (k0 + 4)) → Xk T ks (.x 0) z g' Q) →
    Xc T l_census_Of_1_0 ks [(0, .int .i64 b), (1, .ptr c 0), (2, .ptr dp 0), (23, .int .i64 4), (24, .int .i64 i)] g Q := by
  intro m
  induction m with
  | zero =>
    intro i g hi D hd hc ks Q hx
    have e : i = 4 := by omega
    subst e
    have c1 : ¬ ((4 : Nat) : Int) < 4 := by omega
    rw [L_census_Of_1_0]; unfold bl_census_Of_1_0
    simp (disch := omega) [c1]
    exact hx _ g (.refl c g) hc
  | succ m ih =>
    intro i g hi D hd hc ks Q hx
    have c1 : (i : Int) < 4 := by omega
    obtain ⟨g1, x1, rr⟩ := (CpRead_run D b i hb (by omega)).ext
    have c2 := x1.row hc
    have rs := CSee_run (g := g1) c (k0 + i) (by omega) c2
    have y : ExtC c g (g1.set c (some (cw (k0 + i + 1)))) := x1.c.trans (.set _ _ _)
    have ih := ih (i + 1) (g1.set c (some (cw (k0 + i + 1)))) (by omega) (D.extc hne y) (y.row hdp hd) (row_set (Crlt c2)) ks Q (fun z g' x hc => hx z g' (y.trans x) hc)
    rw [show ((i + 1 : Nat) : Int) = (i : Int) + 1 from rfl] at ih
    rw [L_census_Of_1_0]; unfold bl_census_Of_1_0
    simp (disch := omega) [c1, hd]
    rw [Xf_run rr]
    simp (disch := omega)
    rw [Xf_run rs]
    simp (disch := omega)
    exact ih
theorem Crow_same {h : Heap} {b : Nat} {cs : List V} (hr : h.row b = some cs) : h.set b (some cs) = h := by
  have hb := Crlt hr
  refine List.ext_getElem (by simp) fun i h1 h2 => ?_
  rw [List.getElem_set]
  split
  · rename_i e
    subst e
    unfold Heap.row at hr
    rw [List.getElem?_eq_getElem hb] at hr
    simpa using hr.symm
  · rfl
theorem Each_run (D : Dev r a p n w g) (c dp gp : Nat) (hdp : dp ≠ c) (hgp : gp ≠ c) (hne : r ≠ c ∧ a ≠ c ∧ p ≠ c ∧ w ≠ c) (hd : g.row dp = some [.ptr r 0]) (hg : g.row gp = some geo) (b : Nat) (hb : b < 8) (k : Nat) (hk : k < 900) (hc : g.row c = some (cw k)) :
    ∃ g', ExtC c g g' ∧ g'.row c = some (cw (k + 4)) ∧ Run T f_census_Of_1 [.int .i64 b, .ptr c 0, .ptr dp 0, .ptr gp 0] g (.tup []) g' := by
  obtain ⟨g1, x1, rw1⟩ := (Wear_run D b hb).ext
  have D1 := D.ext x1
  have c1 := x1.row hc
  have d1 := x1.row hd
  obtain ⟨g2, x2, rw2⟩ := (Wear_run D1 b hb).ext
  have D2 := D1.ext x2
  have c2 := x2.row c1
  have d2 := x2.row d1
  have gg2 := x2.row (x1.row hg)
  have l10 : (cw k)[10]? = some (.int .i64 0) := rfl
  have l11 : (cw k)[11]? = some (.int .i64 0) := rfl
  have ll : (cw k).length = 12 := rfl
  have s10 : (cw k).set 10 (.int .i64 0) = cw k := rfl
  have s11 : (cw k).set 11 (.int .i64 0) = cw k := rfl
  have e1 := Crow_same c1
  have e2 := Crow_same c2
  have lp := Each_loop c dp gp hdp hne b hb k hk 4 0 g2 (by omega) D2 d2 c2
  obtain ⟨v, h', ⟨rfl, q1, q2⟩, rr⟩ := Run.startP (P := fun v h' => v = .tup [] ∧ ExtC c g h' ∧ h'.row c = some (cw (k + 4))) (vs := [.int .i64 b, .ptr c 0, .ptr dp 0, .ptr gp 0]) (h := g) t_census_Of_1 (by
    unfold k_census_Of_1
    simp (disch := omega)
    apply Xc_regf
    simp (disch := omega) [hc, l10, hd]
    rw [Xf_run rw1]
    simp (disch := omega) [c1, ll, s10, e1]
    simp (disch := omega) [flagsIn, flagP, evOp, c1, l10, hc]
    apply Xc_regf
    simp (disch := omega) [c1, l11, d1]
    rw [Xf_run rw2]
    simp (disch := omega) [c2, ll, s11, e2]
    simp (disch := omega) [flagsIn, flagP, evOp, c1, c2, l11, gg2]
    refine lp _ _ fun z g3 x3 c3 => ?_
    simp (disch := omega)
    exact ⟨(x1.trans x2).c.trans x3, c3⟩)
  exact ⟨h', q1, q2, rr⟩
theorem Blocks_loop (c dp gp o : Nat) (hdp : dp ≠ c) (hgp : gp ≠ c) (hne : r ≠ c ∧ a ≠ c ∧ p ≠ c ∧ w ≠ c) : ∀ (m b : Nat) (g : Heap), b + m = 8 → Dev r a p n w g → g.row dp = some [.ptr r 0] → g.row gp = some geo → g.row c = some (cw (b * 4)) → ∀ ks Q,
    (∀ z g', ExtC c g g' → g'.row c = some (cw 32) → Xk T ks (.x 0) ((2, .ptr o 0) :: (6, .ptr c 0) :: z) g' Q) →
    Xc T l_census_Of_0 ks [(2, .ptr o 0), (6, .ptr c 0), (8, .fn f_census_Of_1 [.ptr c 0, .ptr dp 0, .ptr gp 0]), (29, .int .i64 8), (30, .int .i64 b)] g Q := by
  have hf : T.free f_census_Of_1 = true := rfl
  intro m
  induction m with
  | zero =>
    intro b g hi D hd hg hc ks Q hx
    have e : b = 8 := by omega
    subst e
    rw [L_census_Of_0]; unfold bl_census_Of_0
    simp (disch := omega)
    exact hx _ g (.refl c g) hc
  | succ m ih =>
    intro b g hi D hd hg hc ks Q hx
    have c1 : (b : Int) < 8 := by omega
    obtain ⟨g1, x1, hc1, re⟩ := Each_run D c dp gp hdp hgp hne hd hg b (by omega) (b * 4) (by omega) hc
    have e4 : b * 4 + 4 = (b + 1) * 4 := by omega
    rw [e4] at hc1
    have ih := ih (b + 1) g1 (by omega) (D.extc hne x1) (x1.row hdp hd) (x1.row hgp hg) hc1 ks Q (fun z g' x hc => hx z g' (x1.trans x) hc)
    rw [show ((b + 1 : Nat) : Int) = (b : Int) + 1 from rfl] at ih
    rw [L_census_Of_0]; unfold bl_census_Of_0
    simp (disch := omega) [c1, hf]
    rw [Xf_run re]
    simp (disch := omega)
    exact ih
theorem cw0 : [V.int .i64 0, V.int .i64 0, V.int .i64 0, V.int .i64 0, V.int .i64 0, V.int .i64 0, V.int .i64 0, V.int .i64 0, V.int .i64 0, V.int .i64 0, V.int .i64 0, V.int .i64 0] = cw 0 := rfl
theorem Of_run (D : Dev r a p n w g) : ∃ g', Dev r a p n w g' ∧ Run T f_census_Of [.ptr r 0] g (.tup [.agg (cw 32), .int .i64 0]) g' := by
  have e1 : Ext g (g ++ [some [.ptr r 0], some (cw 0)]) := .of _ _
  have d1 : Heap.row (g ++ [some [.ptr r 0], some (cw 0)]) g.length = some [.ptr r 0] := CrowA
  have o1 : Heap.row (g ++ [some [.ptr r 0], some (cw 0)]) (g.length + 1) = some (cw 0) := CrowB
  have ln1 : (g ++ [some [V.ptr r 0], some (cw 0)]).length = g.length + 2 := by simp
  generalize hG1 : g ++ [some [V.ptr r 0], some (cw 0)] = G1 at *
  obtain ⟨g2, x2, ra⟩ := (All_run (D.ext e1)).ext
  have D2 := (D.ext e1).ext x2
  have d2 := x2.row d1
  have o2 := x2.row o1
  obtain ⟨g3, x3, rv⟩ := (Void_run D2).ext
  have D3 := D2.ext x3
  have d3 := x3.row d2
  have o3 := x3.row o2
  obtain ⟨_, rvs⟩ := Vers_run
  have x4 : Ext g3 (g3 ++ [some (cw 0)]) := .of _ _
  have D4 := D3.ext x4
  have d4 := x4.row d3
  have o4 := x4.row o3
  have c4 : Heap.row (g3 ++ [some (cw 0)]) g3.length = some (cw 0) := CrowA
  obtain ⟨g5, x5, rs⟩ := (Sides_run D4).ext
  have D5 := D4.ext x5
  have d5 := x5.row d4
  have o5 := x5.row o4
  have c5 := x5.row c4
  have x6 : Ext g5 (g5 ++ [some geo]) := .of _ _
  have D6 := D5.ext x6
  have d6 := x6.row d5
  have o6 := x6.row o5
  have c6 := x6.row c5
  have g6 : Heap.row (g5 ++ [some geo]) g5.length = some geo := CrowA
  have l3 := Crlt d3
  have l3b := Crlt o3
  have l5 := Crlt c5
  have k1 := Crlt D3.d
  have k2 := Crlt D3.a
  have k3 := Crlt D3.p
  have k4 := Crlt D3.w
  have lp := Blocks_loop g3.length g.length g5.length (g.length + 1) (by omega) (by omega) ⟨by omega, by omega, by omega, by omega⟩ 8 0 (g5 ++ [some geo]) (by omega) D6 d6 g6 c6
  have gl : geo.length = 3 := rfl
  have gc : V.cells (.agg geo) = geo := rfl
  have go : geo.all V.one = true := rfl
  have gsp : spliceL [V.int .i64 0, V.int .i64 0, V.int .i64 0] 0 geo = geo := rfl
  have cl : ∀ k, (cw k).length = 12 := fun _ => rfl
  have cc : ∀ k, V.cells (.agg (cw k)) = cw k := fun _ => rfl
  have co : ∀ k, (cw k).all V.one = true := fun _ => by simp [cw]
  have ct : ∀ k, (cw k).take 12 = cw k := fun _ => rfl
  have cs : ∀ k, spliceL (cw 0) 0 (cw k) = cw k := fun _ => rfl
  have c9 : spliceL (cw 0) 9 [.int .i64 0] = cw 0 := rfl
  have co' : ∀ k, (∀ x, x ∈ cw k → x.one = true) = True := fun k => eq_true (List.all_eq_true.1 (co k))
  have go' : (∀ x, x ∈ geo → x.one = true) = True := eq_true (List.all_eq_true.1 go)
  obtain ⟨v, h', ⟨rfl, q⟩, rr⟩ := Run.startP (P := fun v h' => v = .tup [.agg (cw 32), .int .i64 0] ∧ Dev r a p n w h') (vs := [.ptr r 0]) (h := g) t_census_Of (by
    unfold k_census_Of
    rw [cw0]
    simp (disch := omega) [hG1, d1]
    rw [Xf_run ra]
    simp (disch := omega) [d2]
    rw [Xf_run rv]
    simp (disch := omega)
    rw [Xp_run rvs (by simp) (by simp) (by simp [scalar])]
    have rA3 : ∀ x, Heap.row (g3 ++ [x]) g3.length = x := fun x => CrowA
    have rA5 : ∀ x, Heap.row (g5 ++ [x]) g5.length = x := fun x => CrowA
    simp (disch := omega) [cl, cc, co', ct, cs, c9, rA3, d4]
    rw [Xf_run rs]
    simp (disch := omega) [gl, gc, go', gsp, rA5, g6]
    refine lp _ _ fun z g7 x7 c7 => ?_
    have o7 := x7.row (by omega) o6
    have D7 := D6.extc ⟨by omega, by omega, by omega, by omega⟩ x7
    have l7 := Crlt o7
    have s7 : ExtC (g.length + 1) g7 (g7.set (g.length + 1) (some (cw 32))) := .set _ _ _
    have j1 := Crlt D.d
    have j2 := Crlt D.a
    have j3 := Crlt D.p
    have j4 := Crlt D.w
    have D8 := D7.extc ⟨by omega, by omega, by omega, by omega⟩ s7
    have r8 : Heap.row (g7.set (g.length + 1) (some (cw 32))) (g.length + 1) = some (cw 32) := row_set l7
    simp (disch := omega) [c7, cl, cc, co', ct, cs, o7, r8]
    exact D8)
  exact ⟨h', q, rr⟩
end
/-- The device while its pages are made. -/
def dvq (v : V) : List V := [.int .i64 8, .int .i64 4, .int .i64 0, .hs 1 1 0 8, v, .hs 1 2 0 8, .hs 1 3 0 8, .ps 3 [], .int .i64 0, .bool false]
def PgV (i : Nat) (v : V) (g : Heap) : Prop := (i = 0 ∧ v = .hn 1) ∨ (0 < i ∧ ∃ P, v = .hs 1 P 0 i ∧ 5 ≤ P ∧ g.row P = some (List.replicate i (.ps 1 page1)))
theorem New_loop : ∀ (m i : Nat) (v : V) (g : Heap), i + m = 32 → PgV i v g → 5 ≤ g.length → g.row 4 = some (dvq v) → g.row 1 = some (List.replicate 8 (.bool false)) → g.row 3 = some (List.replicate 8 (.int .i64 0)) → ∀ ks Q,
    (∀ z g' P, g'.row 4 = some (dvq (.hs 1 P 0 32)) → g'.row P = some (List.replicate 32 (.ps 1 page1)) → g'.row 1 = some (List.replicate 8 (.bool false)) → g'.row 3 = some (List.replicate 8 (.int .i64 0)) → Xk T ks (.x 2) ((2, .ps 3 []) :: (9, .ptr 4 0) :: z) g' Q) →
    Xc T l_nand_New_1 ks [(2, .ps 3 []), (9, .ptr 4 0), (56, .int .i64 32), (57, .int .i64 i)] g Q := by
  obtain ⟨_, ro⟩ := Ones1_run
  intro m
  induction m with
  | zero =>
    intro i v g hi hp hl h4 h1 h3 ks Q hx
    have e : i = 32 := by omega
    subst e
    rcases hp with ⟨q, _⟩ | ⟨_, P, rfl, _, hP⟩
    · cases q
    · rw [L_nand_New_1]; unfold bl_nand_New_1
      simp (disch := omega) [-List.reduceReplicate]
      exact hx _ g P h4 hP h1 h3
  | succ m ih =>
    intro i v g hi hp hl h4 h1 h3 ks Q hx
    have c1 : (i : Int) < 32 := by omega
    have q4 : (dvq v)[4]? = some v := rfl
    have ql : (dvq v).length = 10 := rfl
    have qs : ∀ u, (dvq v).set 4 u = dvq u := fun _ => rfl
    have ih := ih (i + 1)
    rw [show ((i + 1 : Nat) : Int) = (i : Int) + 1 from rfl] at ih
    rw [L_nand_New_1]; unfold bl_nand_New_1
    simp (disch := omega) [-List.reduceReplicate, c1, h4, q4]
    rw [Xp_run ro (by simp) (by simp [page1_hf]) (by simp [scalar])]
    rcases hp with ⟨rfl, rfl⟩ | ⟨hi0, P, rfl, hP5, hP⟩
    · have h4A : ∀ k, Heap.row (g ++ k) 4 = some (dvq (.hn 1)) := fun k => Crow_app h4
      simp (disch := omega) [-List.reduceReplicate, h4A, ql, qs]
      have a1 : ∀ X Y : List V, Heap.row (g.set 4 (some X) ++ [some Y]) g.length = some Y := fun X Y => by
        rw [show g.length = (g.set 4 (some X)).length by simp]; exact CrowA
      have a2 : ∀ (X Y : List V) (j : Nat) (cs : List V), j ≠ 4 → g.row j = some cs → Heap.row (g.set 4 (some X) ++ [some Y]) j = some cs := fun X Y j cs hj hr => Crow_app (by rw [row_ne (fun e => hj e.symm)]; exact hr)
      have a3 : ∀ X Y : List V, Heap.row (g.set 4 (some X) ++ [some Y]) 4 = some X := fun X Y => Crow_app (row_set (by omega))
      exact ih _ _ (by omega) (.inr ⟨by omega, g.length, rfl, hl, a1 _ _⟩) (by simp; omega) (a3 _ _) (a2 _ _ _ _ (by omega) h1) (a2 _ _ _ _ (by omega) h3) ks Q hx
    · have rs : List.replicate (i + 1) (V.ps 1 page1) = List.replicate i (V.ps 1 page1) ++ [V.ps 1 page1] := List.replicate_succ'
      have rl : (List.replicate i (V.ps 1 page1)).length = i := List.length_replicate
      have Pl := Crlt hP
      have h4A : ∀ k, Heap.row (g.set P none ++ k) 4 = some (dvq (.hs 1 P 0 i)) := fun k => Crow_app (by rw [row_ne (by omega)]; exact h4)
      have fl : flat [V.ps 1 page1] = [V.ps 1 page1] := rfl
      simp (disch := omega) [-List.reduceReplicate, hP, rl, ← rs, h4A, ql, qs]
      have a1 : ∀ X Y : List V, Heap.row ((g.set P none).set 4 (some X) ++ [some Y]) g.length = some Y := fun X Y => by
        rw [show g.length = ((g.set P none).set 4 (some X)).length by simp]; exact CrowA
      have a2 : ∀ (X Y : List V) (j : Nat) (cs : List V), j ≠ 4 → j ≠ P → g.row j = some cs → Heap.row ((g.set P none).set 4 (some X) ++ [some Y]) j = some cs := fun X Y j cs hj hP hr => Crow_app (by rw [row_ne (fun e => hj e.symm), row_ne (fun e => hP e.symm)]; exact hr)
      have a3 : ∀ X Y : List V, Heap.row ((g.set P none).set 4 (some X) ++ [some Y]) 4 = some X := fun X Y => Crow_app (row_set (by simp; omega))
      rw [List.set_append_left _ _ (by simp; omega)]
      exact ih _ _ (by omega) (.inr ⟨by omega, g.length, rfl, hl, a1 _ _⟩) (by simp; omega) (a3 _ _) (a2 _ _ _ _ (by omega) (by omega) h1) (a2 _ _ _ _ (by omega) (by omega) h3) ks Q hx
theorem New_run : ∃ P g, Dev 4 1 P 2 3 g ∧ Run T f_nand_New [.agg geo, .ps 1 [], .ps 3 []] [] (.tup [.ptr 4 0, .int .i64 0]) g := by
  obtain ⟨_, rc⟩ := Check1_run
  have lp := New_loop 32 0 (.hn 1) [some geo, some (List.replicate 8 (.bool false)), some (List.replicate 8 (.int .i64 0)), some (List.replicate 8 (.int .i64 0)), some (dvq (.hn 1))] (by omega) (.inl ⟨rfl, rfl⟩) (by simp) rfl rfl rfl
  have gl : geo.length = 3 := rfl
  have gc : V.cells (.agg geo) = geo := rfl
  have go : geo.all V.one = true := rfl
  have gt : geo.take 3 = geo := rfl
  have r0 : ∀ v w, Heap.row (v :: w : Heap) 0 = v := fun v w => rfl
  have g0 : geo[0]? = some (.int .i64 8) := rfl
  have g1 : geo[1]? = some (.int .i64 4) := rfl
  obtain ⟨v, h', ⟨P, rfl, q⟩, rr⟩ := Run.startP (P := fun v h' => ∃ P, v = .tup [.ptr 4 0, .int .i64 0] ∧ Dev 4 1 P 2 3 h') (vs := [.agg geo, .ps 1 [], .ps 3 []]) (h := []) t_nand_New (by
    unfold k_nand_New
    simp (disch := omega) [-List.reduceReplicate, gc, go, r0, gl, gt]
    rw [Xp_run rc (by simp [geo]) (by simp) (by simp [scalar])]
    simp (disch := omega)
    apply Xc_regf
    have sp : spliceL [V.int .i64 0, .int .i64 0, .int .i64 0, .hn 1, .hn 1, .hn 1, .hn 1, .ps 3 [], .int .i64 0, .bool false] 0 geo = [V.int .i64 8, .int .i64 4, .int .i64 0, .hn 1, .hn 1, .hn 1, .hn 1, .ps 3 [], .int .i64 0, .bool false] := rfl
    simp (disch := omega) [-List.reduceReplicate, gc, go, r0, gl, gt, g0, sp]
    simp (disch := omega) [-List.reduceReplicate, flagsIn, flagP, evOp, r0, gl, gt, g0]
    rw [L_nand_New_0]; unfold bl_nand_New_0
    simp (disch := omega) [-List.reduceReplicate, r0, g0, g1]
    refine lp _ _ fun z g' P h4 hP h1 h3 => ?_
    simp (disch := omega) [-List.reduceReplicate]
    rw [L_nand_New_2]; unfold bl_nand_New_2
    simp (disch := omega) [-List.reduceReplicate]
    exact ⟨P, h4, h1, hP, h3⟩)
  exact ⟨P, h', q, rr⟩
section
variable {r a p n w : Nat} {g : Heap}
theorem Mount_run (D : Dev r a p n w g) : RunG f_ftl_Mount [.ptr r 0] g (.tup [.nilp, .int .i64 3]) := by
  have e1 : Ext g (g ++ [some [.ptr r 0]]) := .of _ _
  have d1 : Heap.row (g ++ [some [.ptr r 0]]) g.length = some [.ptr r 0] := CrowA
  obtain ⟨g2, x2, rs⟩ := (Sides_run (D.ext e1)).ext
  have D2 := (D.ext e1).ext x2
  have d2 := x2.row d1
  have x3 : Ext g2 (g2 ++ [some geo]) := .of _ _
  have D3 := D2.ext x3
  have d3 := x3.row d2
  have g3 : Heap.row (g2 ++ [some geo]) g2.length = some geo := CrowA
  obtain ⟨g4, x4, rm⟩ := (CeMarked_run D3).ext
  have g4' := x4.row g3
  obtain ⟨_, rl⟩ := Logi_run
  have gl : geo.length = 3 := rfl
  have gc : V.cells (.agg geo) = geo := rfl
  have go : geo.all V.one = true := rfl
  have go' : (∀ x, x ∈ geo → x.one = true) = True := eq_true (List.all_eq_true.1 go)
  have gt : geo.take 3 = geo := rfl
  have gsp : spliceL [V.int .i64 0, V.int .i64 0, V.int .i64 0] 0 geo = geo := rfl
  have rA2 : ∀ x, Heap.row (g2 ++ [x]) g2.length = x := fun x => CrowA
  have e4 : Ext g g4 := e1.trans (x2.trans (x3.trans x4))
  refine .of (Run.startP t_ftl_Mount ?_)
  unfold k_ftl_Mount
  simp (disch := omega) [d1]
  rw [Xf_run rs]
  simp (disch := omega) [gc, gl, go', gsp, rA2]
  apply Xc_regf
  simp (disch := omega) [g3, gl, gt, d3]
  rw [Xf_run rm]
  simp (disch := omega)
  rw [Xp_run rl (by simp [geo]) (by simp) (by simp [scalar])]
  simp (disch := omega)
  simp (disch := omega) [flagsIn, flagP, evOp, g3, g4', gl, gt]
  exact e4
end
theorem awake42 : ∃ h', Run T f_law42_awake [] [] (.bool true) h' := by
  obtain ⟨P, g1, D, rn⟩ := New_run
  obtain ⟨g2, D2, ro⟩ := Of_run D
  have x3 : Ext g2 (g2 ++ [some (cw 32)]) := .of _ _
  obtain ⟨g4, x4, rm⟩ := (Mount_run (D2.ext x3)).ext
  have c3 : Heap.row (g2 ++ [some (cw 32)]) g2.length = some (cw 32) := CrowA
  have c4 := x4.row c3
  have gg : V.agg [.int .i64 8, .int .i64 4, .int .i64 0] = .agg geo := rfl
  have cl : ∀ k, (cw k).length = 12 := fun _ => rfl
  have cc : ∀ k, V.cells (.agg (cw k)) = cw k := fun _ => rfl
  have co : ∀ k, (cw k).all V.one = true := fun _ => by simp [cw]
  have co' : ∀ k, (∀ x, x ∈ cw k → x.one = true) = True := fun k => eq_true (List.all_eq_true.1 (co k))
  have ct : ∀ k, (cw k).take 12 = cw k := fun _ => rfl
  have cs : ∀ k, spliceL (cw 0) 0 (cw k) = cw k := fun _ => rfl
  obtain ⟨_, rt⟩ : ∃ h', Run T f_census_Total [.agg (cw 32)] [] (.int .i64 32) h' := Run.closedV (n := 100) (by kernel_rfl)
  obtain ⟨_, rw'⟩ : ∃ h', Run T f_census_Waste [.agg [.int .i64 0, .int .i64 5, .int .i64 0, .int .i64 0, .int .i64 1, .int .i64 0, .int .i64 0, .int .i64 0, .int .i64 0, .int .i64 2, .int .i64 0, .int .i64 0]] [] (.int .i64 2) h' := Run.closedV (n := 100) (by kernel_rfl)
  refine Run.startE t_law42_awake ?_
  unfold k_law42_awake
  simp (disch := omega) [gg]
  rw [Xf_run rn]
  simp (disch := omega)
  rw [Xf_run ro]
  rw [cw0]
  simp (disch := omega) [cl, cc, co', ct, cs]
  rw [Xf_run rm]
  have sc : spliceL (cw 0) 0 [V.int .i64 32] = cw 32 := rfl
  have l0 : (cw 32)[0]? = some (.int .i64 32) := rfl
  have l1 : (cw 32)[1]? = some (.int .i64 0) := rfl
  have l2 : (cw 32)[2]? = some (.int .i64 0) := rfl
  have l9 : (cw 32)[9]? = some (.int .i64 0) := rfl
  have l10 : (cw 32)[10]? = some (.int .i64 0) := rfl
  have l11 : (cw 32)[11]? = some (.int .i64 0) := rfl
  have t6 : ((cw 32).drop 3).take 6 = [.int .i64 0, .int .i64 0, .int .i64 0, .int .i64 0, .int .i64 0, .int .i64 0] := rfl
  simp (disch := omega) [c4, cl, ct, sc, l0, l1, l2, l9, l10, l11, t6]
  rw [Xp_run rt (by simp [cw]) (by simp) (by simp [scalar])]
  simp (disch := omega) [cw0.symm]
  rw [Xp_run rw' (by simp) (by simp) (by simp [scalar])]
  simp (disch := omega)
/-- A census. -/
structure C12 where
  a : Int
  b : Int
  c : Int
  k0 : Int
  k1 : Int
  k2 : Int
  k3 : Int
  k4 : Int
  k5 : Int
  u : Int
  w : Int
  m : Int
def C12.cells (x : C12) : List V := [.int .i64 x.a, .int .i64 x.b, .int .i64 x.c, .int .i64 x.k0, .int .i64 x.k1, .int .i64 x.k2, .int .i64 x.k3, .int .i64 x.k4, .int .i64 x.k5, .int .i64 x.u, .int .i64 x.w, .int .i64 x.m]
def adW (x y : Int) : Int := IntKind.i64.wrap (x + y)
def addC (x y : C12) : C12 := ⟨adW x.a y.a, adW x.b y.b, adW x.c y.c, adW x.k0 y.k0, adW x.k1 y.k1, adW x.k2 y.k2, adW x.k3 y.k3, adW x.k4 y.k4, adW x.k5 y.k5, adW x.u y.u, adW x.w y.w, max x.m y.m⟩
theorem CAdd_run (x y : C12) : ∃ h', Run T f_census_Add [.agg x.cells, .agg y.cells] [] (.agg (addC x y).cells) h' := by
  refine Run.startE t_census_Add ?_
  unfold k_census_Add C12.cells addC adW
  have r0 : ∀ v w, Heap.row (v :: w : Heap) 0 = v := fun v w => rfl
  have r1 : ∀ a v w, Heap.row (a :: v :: w : Heap) 1 = v := fun a v w => rfl
  have r2 : ∀ a b v w, Heap.row (a :: b :: v :: w : Heap) 2 = v := fun a b v w => rfl
  simp (disch := omega) [r0, r1, r2]
  rw [L_census_Add_0]; unfold bl_census_Add_0
  simp (disch := omega) [r0, r1, r2]
  rw [L_census_Add_0]; unfold bl_census_Add_0
  simp (disch := omega) [r0, r1, r2]
  rw [L_census_Add_0]; unfold bl_census_Add_0
  simp (disch := omega) [r0, r1, r2]
  rw [L_census_Add_0]; unfold bl_census_Add_0
  simp (disch := omega) [r0, r1, r2]
  rw [L_census_Add_0]; unfold bl_census_Add_0
  simp (disch := omega) [r0, r1, r2]
  rw [L_census_Add_0]; unfold bl_census_Add_0
  simp (disch := omega) [r0, r1, r2]
  rw [L_census_Add_0]; unfold bl_census_Add_0
  simp (disch := omega) [r0, r1, r2]
def sameC (x y : C12) : Bool := (decide (x.k0 = y.k0) && decide (x.k1 = y.k1) && decide (x.k2 = y.k2) && decide (x.k3 = y.k3) && decide (x.k4 = y.k4) && decide (x.k5 = y.k5)) && decide (x.a = y.a) && decide (x.b = y.b) && decide (x.c = y.c) && decide (x.u = y.u)
theorem CSame_run (x y : C12) : ∃ h', Run T f_census_Same [.agg x.cells, .agg y.cells] [] (.bool (sameC x y)) h' := by
  refine Run.startE t_census_Same ?_
  unfold k_census_Same C12.cells sameC
  have r0 : ∀ v w, Heap.row (v :: w : Heap) 0 = v := fun v w => rfl
  have r1 : ∀ a v w, Heap.row (a :: v :: w : Heap) 1 = v := fun a v w => rfl
  have eK : (if x.k0 = y.k0 then if x.k1 = y.k1 then if x.k2 = y.k2 then if x.k3 = y.k3 then if x.k4 = y.k4 then if x.k5 = y.k5 then some true else some false else some false else some false else some false else some false else some false) = some (decide (x.k0 = y.k0) && decide (x.k1 = y.k1) && decide (x.k2 = y.k2) && decide (x.k3 = y.k3) && decide (x.k4 = y.k4) && decide (x.k5 = y.k5)) := by
    by_cases d0 : x.k0 = y.k0
    · by_cases d1 : x.k1 = y.k1
      · by_cases d2 : x.k2 = y.k2
        · by_cases d3 : x.k3 = y.k3
          · by_cases d4 : x.k4 = y.k4
            · by_cases d5 : x.k5 = y.k5 <;> simp [d0, d1, d2, d3, d4, d5]
            · simp [d0, d1, d2, d3, d4]
          · simp [d0, d1, d2, d3]
        · simp [d0, d1, d2]
      · simp [d0, d1]
    · simp [d0]
  cases hK : (decide (x.k0 = y.k0) && decide (x.k1 = y.k1) && decide (x.k2 = y.k2) && decide (x.k3 = y.k3) && decide (x.k4 = y.k4) && decide (x.k5 = y.k5)) with
  | false =>
    rw [hK] at eK
    simp (disch := omega) [r0, r1, eK]
  | true =>
    rw [hK] at eK
    by_cases c0 : x.a = y.a
    · by_cases c1 : x.b = y.b
      · by_cases c2 : x.c = y.c
        · simp (disch := omega) [r0, r1, eK, c0, c1, c2]
        · simp (disch := omega) [r0, r1, eK, c0, c1, c2]
      · simp (disch := omega) [r0, r1, eK, c0, c1]
    · simp (disch := omega) [r0, r1, eK, c0]
def totC (x : C12) : Int := adW (adW x.a x.b) x.c
def wasC (x : C12) : Int := max (IntKind.i64.wrap (IntKind.i64.wrap (x.b - x.k1) - x.u)) 0
theorem CTot_run (x : C12) : ∃ h', Run T f_census_Total [.agg x.cells] [] (.int .i64 (totC x)) h' := by
  refine Run.startE t_census_Total ?_
  unfold k_census_Total C12.cells totC adW
  have r0 : ∀ v w, Heap.row (v :: w : Heap) 0 = v := fun v w => rfl
  simp (disch := omega) [r0]
theorem CWas_run (x : C12) : ∃ h', Run T f_census_Waste [.agg x.cells] [] (.int .i64 (wasC x)) h' := by
  refine Run.startE t_census_Waste ?_
  unfold k_census_Waste C12.cells wasC
  have r0 : ∀ v w, Heap.row (v :: w : Heap) 0 = v := fun v w => rfl
  simp (disch := omega) [r0]
section
variable {ks : List Kt} {ops : List AOpr} {K : Kp} {e : Env} {h : Heap} {Q : Ex → Env → Heap → Prop} {d : Nat} {lent : Bool}
theorem awake42_p : Xp T f_law42_awake (some ([], lent)) h (some d) ops K ks e Q = Xo T ops K ks ((d, .bool true) :: e) h Q := by
  obtain ⟨h', r⟩ := awake42
  exact Xp_run r rfl rfl (by simp [scalar])
end
/-- All that is looked at is read: far, or not. -/
theorem Cl1_loop (L : List Int) (hL : L.length ≤ 1000) : ∀ (m i : Nat) (g : Heap), i + m = L.length → ∀ ks Q, (∀ z, Xk T ks (.x 2) ((2, .ptr 0 0) :: (3, .ptr 1 0) :: z) g Q) → (Xk T ks .r [(4, .bool true)] g Q) →
    Xc T l_law42_CensusAdds_1 ks [(2, .ptr 0 0), (3, .ptr 1 0), (5, .int .i64 1099511627776), (6, .ps 1 (ints L)), (8, .int .i64 i)] g Q := by
  have ll : (ints L).length = L.length := by simp [ints]
  intro m
  induction m with
  | zero =>
    intro i g hi ks Q h1 h2
    have c1 : ¬ (i : Int) < L.length := by omega
    rw [L_law42_CensusAdds_1]; unfold bl_law42_CensusAdds_1
    simp (disch := omega) [ll, c1]
    exact h1 _
  | succ m ih =>
    intro i g hi ks Q h1 h2
    have hil : i < L.length := by omega
    have c1 : (i : Int) < L.length := by omega
    have gi : (ints L)[i]? = some (.int .i64 L[i]) := by simp [ints, List.getElem?_eq_getElem hil]
    have ih := ih (i + 1) g (by omega) ks Q h1 h2
    rw [show ((i + 1 : Nat) : Int) = (i : Int) + 1 from rfl] at ih
    generalize L[i] = x at gi
    rw [L_law42_CensusAdds_1]; unfold bl_law42_CensusAdds_1
    by_cases c2 : 1099511627776 < x
    · simp (disch := omega) [ll, c1, hil, gi, c2, awake42_p]
      exact h2
    · by_cases c3 : x < -1099511627776
      · simp (disch := omega) [ll, c1, hil, gi, c2, c3, awake42_p]
        exact h2
      · simp (disch := omega) [ll, c1, hil, gi, c2, c3]
        exact ih
theorem Cl2_step (x y : C12) (i : Nat) (hi : i < 6) (u v : Int) (hx : x.cells[3 + i]? = some (.int .i64 u)) (hy : y.cells[3 + i]? = some (.int .i64 v)) (hz : (addC x y).cells[3 + i]? = some (.int .i64 (adW u v))) (s : Bool) (ks : List Kt) (Q : Ex → Env → Heap → Prop)
    (h : Xc T l_law42_CensusAdds_2 ks [(2, .ptr 0 0), (3, .ptr 1 0), (9, .ptr 2 0), (10, .bool (s && decide (u = v))), (11, .int .i64 (i + 1 : Nat))] [some x.cells, some y.cells, some (addC x y).cells] Q) :
    Xc T l_law42_CensusAdds_2 ks [(2, .ptr 0 0), (3, .ptr 1 0), (9, .ptr 2 0), (10, .bool s), (11, .int .i64 i)] [some x.cells, some y.cells, some (addC x y).cells] Q := by
  have r0 : ∀ v w, Heap.row (v :: w : Heap) 0 = v := fun v w => rfl
  have r1 : ∀ a v w, Heap.row (a :: v :: w : Heap) 1 = v := fun a v w => rfl
  have r2 : ∀ a b v w, Heap.row (a :: b :: v :: w : Heap) 2 = v := fun a b v w => rfl
  have c1 : (i : Int) < 6 := by omega
  have ed : adW u v = IntKind.i64.wrap (u + v) := rfl
  rw [ed] at hz
  rw [show ((i + 1 : Nat) : Int) = (i : Int) + 1 from rfl] at h
  rw [L_law42_CensusAdds_2]; unfold bl_law42_CensusAdds_2
  cases s with
  | false =>
    simp (disch := omega) [r0, r1, r2, c1, hi, hx, hy, hz]
    simpa using h
  | true =>
    by_cases c : u = v
    · rw [decide_eq_true c] at h
      simp (disch := omega) [r0, r1, r2, c1, hi, hx, hy, hz, c]
      exact h
    · rw [decide_eq_false c] at h
      simp (disch := omega) [r0, r1, r2, c1, hi, hx, hy, hz, c]
      simpa using h
def tlA : ACode := match k_law42_CensusAdds with
  | .seq _ (.seq _ (.seq _ (.seq _ (.seq _ t)))) => t
  | _ => .skip
def tlB : ACode := match k_law42_CensusAdds with
  | .seq _ (.seq _ (.seq _ (.seq _ (.seq _ (.seq _ (.seq _ t)))))) => t
  | _ => .skip
def tlC : ACode := match k_law42_CensusAdds with
  | .seq _ (.seq _ (.seq _ (.seq _ (.seq _ (.seq _ (.seq _ (.seq _ (.seq _ t)))))))) => t
  | _ => .skip
theorem Cl_end (x y : C12) (s : Bool) (hs : s = sameC x y) (z : List (Nat × V)) : Xc T tlB [] ((2, .ptr 0 0) :: (3, .ptr 1 0) :: (9, .ptr 2 0) :: (10, .bool (decide (x.a = y.a) && decide (x.b = y.b) && decide (x.c = y.c) && decide (x.u = y.u))) :: z) [some x.cells, some y.cells, some (addC x y).cells] (RetE [RV.t 4] [] (.bool true)) := by
  have r0 : ∀ v w, Heap.row (v :: w : Heap) 0 = v := fun v w => rfl
  have r1 : ∀ a v w, Heap.row (a :: v :: w : Heap) 1 = v := fun a v w => rfl
  have r2 : ∀ a b v w, Heap.row (a :: b :: v :: w : Heap) 2 = v := fun a b v w => rfl
  obtain ⟨_, rs⟩ := CSame_run x y
  obtain ⟨_, rt⟩ := CTot_run x
  obtain ⟨_, rw'⟩ := CWas_run x
  have hsame : (((((((decide (x.a = y.a) && decide (x.b = y.b) && decide (x.c = y.c) && decide (x.u = y.u)) && decide (x.k0 = y.k0)) && decide (x.k1 = y.k1)) && decide (x.k2 = y.k2)) && decide (x.k3 = y.k3)) && decide (x.k4 = y.k4)) && decide (x.k5 = y.k5)) = sameC x y := by
    unfold sameC
    generalize decide (x.a = y.a) = b1
    generalize decide (x.b = y.b) = b2
    generalize decide (x.c = y.c) = b3
    generalize decide (x.u = y.u) = b4
    generalize decide (x.k0 = y.k0) = b5
    generalize decide (x.k1 = y.k1) = b6
    generalize decide (x.k2 = y.k2) = b7
    generalize decide (x.k3 = y.k3) = b8
    generalize decide (x.k4 = y.k4) = b9
    generalize decide (x.k5 = y.k5) = b10
    revert b1 b2 b3 b4 b5 b6 b7 b8 b9 b10
    decide
  show Xc T (.seq (.seq _ (.block 4 l_law42_CensusAdds_2)) (.seq _ tlC)) _ _ _ _
  simp (disch := omega)
  refine Cl2_step x y 0 (by omega) x.k0 y.k0 rfl rfl rfl _ _ _ ?_
  refine Cl2_step x y 1 (by omega) x.k1 y.k1 rfl rfl rfl _ _ _ ?_
  refine Cl2_step x y 2 (by omega) x.k2 y.k2 rfl rfl rfl _ _ _ ?_
  refine Cl2_step x y 3 (by omega) x.k3 y.k3 rfl rfl rfl _ _ _ ?_
  refine Cl2_step x y 4 (by omega) x.k4 y.k4 rfl rfl rfl _ _ _ ?_
  refine Cl2_step x y 5 (by omega) x.k5 y.k5 rfl rfl rfl _ _ _ ?_
  rw [hsame]
  rw [L_law42_CensusAdds_2]; unfold bl_law42_CensusAdds_2
  have x0 : x.cells[0]? = some (.int .i64 x.a) := rfl
  have x1 : x.cells[1]? = some (.int .i64 x.b) := rfl
  have x2 : x.cells[2]? = some (.int .i64 x.c) := rfl
  have x4 : x.cells[4]? = some (.int .i64 x.k1) := rfl
  have x9 : x.cells[9]? = some (.int .i64 x.u) := rfl
  have x10 : x.cells[10]? = some (.int .i64 x.w) := rfl
  have x11 : x.cells[11]? = some (.int .i64 x.m) := rfl
  have y0 : y.cells[0]? = some (.int .i64 y.a) := rfl
  have y1 : y.cells[1]? = some (.int .i64 y.b) := rfl
  have y2 : y.cells[2]? = some (.int .i64 y.c) := rfl
  have y9 : y.cells[9]? = some (.int .i64 y.u) := rfl
  have y10 : y.cells[10]? = some (.int .i64 y.w) := rfl
  have y11 : y.cells[11]? = some (.int .i64 y.m) := rfl
  have z0 : (addC x y).cells[0]? = some (.int .i64 (IntKind.i64.wrap (x.a + y.a))) := rfl
  have z1 : (addC x y).cells[1]? = some (.int .i64 (IntKind.i64.wrap (x.b + y.b))) := rfl
  have z2 : (addC x y).cells[2]? = some (.int .i64 (IntKind.i64.wrap (x.c + y.c))) := rfl
  have z9 : (addC x y).cells[9]? = some (.int .i64 (IntKind.i64.wrap (x.u + y.u))) := rfl
  have z10 : (addC x y).cells[10]? = some (.int .i64 (IntKind.i64.wrap (x.w + y.w))) := rfl
  have z11 : (addC x y).cells[11]? = some (.int .i64 (max x.m y.m)) := rfl
  have xl : x.cells.length = 12 := rfl
  have yl : y.cells.length = 12 := rfl
  have xt : x.cells.take 12 = x.cells := rfl
  have yt : y.cells.take 12 = y.cells := rfl
  have xh : V.hfs [V.agg x.cells] = true := rfl
  have xyh : V.hfs [V.agg x.cells, V.agg y.cells] = true := rfl
  have et : totC x = IntKind.i64.wrap (IntKind.i64.wrap (x.a + x.b) + x.c) := rfl
  have ew : wasC x = max (IntKind.i64.wrap (IntKind.i64.wrap (x.b - x.k1) - x.u)) 0 := rfl
  rw [et] at rt
  rw [ew] at rw'
  simp (disch := omega) [r0, r1, r2, x1, x4, x9, High_pb]
  rw [show tlC = .seq _ _ from rfl]
  simp (disch := omega) [awake42_p, r0, r1, r2, x0, x1, x2, x4, x9, x10, x11, y0, y1, y2, y9, y10, y11, z0, z1, z2, z9, z10, z11, High_pb, xl, yl, xt, yt]
  rw [Xp_run rs (by simp [V.hfs, C12.cells]) (by simp) (by simp [scalar])]
  simp (disch := omega) [r0, xl, xt]
  rw [Xp_run rt (by simp [V.hfs, C12.cells]) (by simp) (by simp [scalar])]
  simp (disch := omega) [r0, x0, x1, x2, xl, xt]
  rw [Xp_run rw' (by simp [V.hfs, C12.cells]) (by simp) (by simp [scalar])]
  simp (disch := omega)
theorem CAdds_run (x y : C12) : ∃ h', Run T f_law42_CensusAdds [.agg x.cells, .agg y.cells] [] (.bool true) h' := by
  have r0 : ∀ v w, Heap.row (v :: w : Heap) 0 = v := fun v w => rfl
  have r1 : ∀ a v w, Heap.row (a :: v :: w : Heap) 1 = v := fun a v w => rfl
  obtain ⟨_, ra⟩ := CAdd_run x y
  refine Run.startE t_law42_CensusAdds ?_
  show Xc T (.seq _ (.seq _ (.seq _ (.seq _ (.seq _ tlA))))) _ _ _ _
  have xo : x.cells.all V.one = true := rfl
  have yo : y.cells.all V.one = true := rfl
  have xc : V.cells (.agg x.cells) = x.cells := rfl
  have yc : V.cells (.agg y.cells) = y.cells := rfl
  have x0 : x.cells[0]? = some (.int .i64 x.a) := rfl
  have x1 : x.cells[1]? = some (.int .i64 x.b) := rfl
  have x2 : x.cells[2]? = some (.int .i64 x.c) := rfl
  have x3 : x.cells[3]? = some (.int .i64 x.k0) := rfl
  have x4 : x.cells[4]? = some (.int .i64 x.k1) := rfl
  have x5 : x.cells[5]? = some (.int .i64 x.k2) := rfl
  have x6 : x.cells[6]? = some (.int .i64 x.k3) := rfl
  have x7 : x.cells[7]? = some (.int .i64 x.k4) := rfl
  have x8 : x.cells[8]? = some (.int .i64 x.k5) := rfl
  have x9 : x.cells[9]? = some (.int .i64 x.u) := rfl
  have x10 : x.cells[10]? = some (.int .i64 x.w) := rfl
  have y0 : y.cells[0]? = some (.int .i64 y.a) := rfl
  have y1 : y.cells[1]? = some (.int .i64 y.b) := rfl
  have y2 : y.cells[2]? = some (.int .i64 y.c) := rfl
  have y3 : y.cells[3]? = some (.int .i64 y.k0) := rfl
  have y4 : y.cells[4]? = some (.int .i64 y.k1) := rfl
  have y5 : y.cells[5]? = some (.int .i64 y.k2) := rfl
  have y6 : y.cells[6]? = some (.int .i64 y.k3) := rfl
  have y7 : y.cells[7]? = some (.int .i64 y.k4) := rfl
  have y8 : y.cells[8]? = some (.int .i64 y.k5) := rfl
  have y9 : y.cells[9]? = some (.int .i64 y.u) := rfl
  have y10 : y.cells[10]? = some (.int .i64 y.w) := rfl
  have lp := Cl1_loop [x.a, x.b, x.c, x.u, x.w, y.a, y.b, y.c, y.u, y.w, x.k0, y.k0, x.k1, y.k1, x.k2, y.k2, x.k3, y.k3, x.k4, y.k4, x.k5, y.k5] (by simp) 22 0 [some x.cells, some y.cells] (by simp)
  simp (disch := omega) [xo, yo, xc, yc, r0, r1, x0, x1, x2, x9, x10, y0, y1, y2, y9, y10]
  rw [L_law42_CensusAdds_0]; unfold bl_law42_CensusAdds_0
  simp (disch := omega) [r0, r1, x3, y3]
  rw [L_law42_CensusAdds_0]; unfold bl_law42_CensusAdds_0
  simp (disch := omega) [r0, r1, x4, y4]
  rw [L_law42_CensusAdds_0]; unfold bl_law42_CensusAdds_0
  simp (disch := omega) [r0, r1, x5, y5]
  rw [L_law42_CensusAdds_0]; unfold bl_law42_CensusAdds_0
  simp (disch := omega) [r0, r1, x6, y6]
  rw [L_law42_CensusAdds_0]; unfold bl_law42_CensusAdds_0
  simp (disch := omega) [r0, r1, x7, y7]
  rw [L_law42_CensusAdds_0]; unfold bl_law42_CensusAdds_0
  simp (disch := omega) [r0, r1, x8, y8]
  rw [L_law42_CensusAdds_0]; unfold bl_law42_CensusAdds_0
  simp (disch := omega)
  refine lp _ _ (fun z => ?_) ?_
  · have xl : x.cells.length = 12 := rfl
    have yl : y.cells.length = 12 := rfl
    have xt : x.cells.take 12 = x.cells := rfl
    have yt : y.cells.take 12 = y.cells := rfl
    have r2 : ∀ a b v w, Heap.row (a :: b :: v :: w : Heap) 2 = v := fun a b v w => rfl
    have wl : (addC x y).cells.length = 12 := rfl
    have wc : V.cells (.agg (addC x y).cells) = (addC x y).cells := rfl
    have wo : (∀ u, u ∈ (addC x y).cells → u.one = true) = True := eq_true (List.all_eq_true.1 rfl)
    have ws : spliceL [V.int .i64 0, V.int .i64 0, V.int .i64 0, V.int .i64 0, V.int .i64 0, V.int .i64 0, V.int .i64 0, V.int .i64 0, V.int .i64 0, V.int .i64 0, V.int .i64 0, V.int .i64 0] 0 (addC x y).cells = (addC x y).cells := rfl
    show Xc T (.seq _ (.seq _ tlB)) _ _ _ _
    simp (disch := omega) [r0, r1, xl, yl, xt, yt]
    rw [Xp_run ra (by simp [V.hfs, C12.cells]) (by simp [addC, C12.cells]) (by simp [scalar])]
    simp (disch := omega) [r2, wl, wc, wo, ws, r0, r1, x0, y0]
    have k := Cl_end x y (sameC x y) rfl []
    by_cases c0 : x.a = y.a
    · by_cases c1 : x.b = y.b
      · by_cases c2 : x.c = y.c
        · by_cases c3 : x.u = y.u
          · rw [show (decide (x.a = y.a) && decide (x.b = y.b) && decide (x.c = y.c) && decide (x.u = y.u)) = true by simp [c0, c1, c2, c3]] at k
            simp (disch := omega) [r0, r1, x1, y1, x2, y2, x9, y9, c0, c1, c2, c3]
            exact k
          · rw [show (decide (x.a = y.a) && decide (x.b = y.b) && decide (x.c = y.c) && decide (x.u = y.u)) = false by simp [c3]] at k
            simp (disch := omega) [r0, r1, x1, y1, x2, y2, x9, y9, c0, c1, c2, c3]
            exact k
        · rw [show (decide (x.a = y.a) && decide (x.b = y.b) && decide (x.c = y.c) && decide (x.u = y.u)) = false by simp [c2]] at k
          simp (disch := omega) [r0, r1, x1, y1, x2, y2, c0, c1, c2]
          exact k
      · rw [show (decide (x.a = y.a) && decide (x.b = y.b) && decide (x.c = y.c) && decide (x.u = y.u)) = false by simp [c1]] at k
        simp (disch := omega) [r0, r1, x1, y1, c0, c1]
        exact k
    · rw [show (decide (x.a = y.a) && decide (x.b = y.b) && decide (x.c = y.c) && decide (x.u = y.u)) = false by simp [c0]] at k
      simp (disch := omega) [c0]
      exact k
  · simp (disch := omega)
theorem readC12 (v : V) (hv : ∃ vs, v = .agg vs ∧ Row [.i .i64, .i .i64, .i .i64, .i .i64, .i .i64, .i .i64, .i .i64, .i .i64, .i .i64, .i .i64, .i .i64, .i .i64] vs) : ∃ x : C12, v = .agg x.cells := by
  obtain ⟨vs, rfl, hr⟩ := hv
  obtain ⟨v0, r0, rfl, t0, hr⟩ := hr.cons
  obtain ⟨v1, r1, rfl, t1, hr⟩ := hr.cons
  obtain ⟨v2, r2, rfl, t2, hr⟩ := hr.cons
  obtain ⟨v3, r3, rfl, t3, hr⟩ := hr.cons
  obtain ⟨v4, r4, rfl, t4, hr⟩ := hr.cons
  obtain ⟨v5, r5, rfl, t5, hr⟩ := hr.cons
  obtain ⟨v6, r6, rfl, t6, hr⟩ := hr.cons
  obtain ⟨v7, r7, rfl, t7, hr⟩ := hr.cons
  obtain ⟨v8, r8, rfl, t8, hr⟩ := hr.cons
  obtain ⟨v9, r9, rfl, t9, hr⟩ := hr.cons
  obtain ⟨v10, r10, rfl, t10, hr⟩ := hr.cons
  obtain ⟨v11, r11, rfl, t11, hr⟩ := hr.cons
  obtain rfl := hr.none
  obtain ⟨x0, rfl, _⟩ := t0.int
  obtain ⟨x1, rfl, _⟩ := t1.int
  obtain ⟨x2, rfl, _⟩ := t2.int
  obtain ⟨x3, rfl, _⟩ := t3.int
  obtain ⟨x4, rfl, _⟩ := t4.int
  obtain ⟨x5, rfl, _⟩ := t5.int
  obtain ⟨x6, rfl, _⟩ := t6.int
  obtain ⟨x7, rfl, _⟩ := t7.int
  obtain ⟨x8, rfl, _⟩ := t8.int
  obtain ⟨x9, rfl, _⟩ := t9.int
  obtain ⟨x10, rfl, _⟩ := t10.int
  obtain ⟨x11, rfl, _⟩ := t11.int
  exact ⟨⟨x0, x1, x2, x3, x4, x5, x6, x7, x8, x9, x10, x11⟩, rfl⟩
theorem law_CensusAdds (x y : V) (hx : ∃ vs, x = .agg vs ∧ Row [.i .i64, .i .i64, .i .i64, .i .i64, .i .i64, .i .i64, .i .i64, .i .i64, .i .i64, .i .i64, .i .i64, .i .i64] vs) (hy : ∃ vs, y = .agg vs ∧ Row [.i .i64, .i .i64, .i .i64, .i .i64, .i .i64, .i .i64, .i .i64, .i .i64, .i .i64, .i .i64, .i .i64, .i .i64] vs) : ∃ h', Run T f_law42_CensusAdds [x, y] [] (.bool true) h' := by
  obtain ⟨a, rfl⟩ := readC12 x hx
  obtain ⟨b, rfl⟩ := readC12 y hy
  exact CAdds_run a b
end Ev
