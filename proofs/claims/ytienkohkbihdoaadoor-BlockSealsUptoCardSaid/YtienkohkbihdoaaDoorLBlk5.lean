/- Blocks without a sum. Each theorem states its own conditions. -/
import Derived.Test.YtienkohkbihdoaaDoorLBlk3
set_option linter.all false
namespace Ev
open Go
set_option maxRecDepth 10000
attribute [-simp] getElem?_pos getElem?_neg List.drop_one
theorem Seal0_run (l : List T6) (h : Heap) (hl : GoodL l) : ∃ h', Run T f_block_Seal [.ps 1 (anys l), .int .i64 0] h (.tup [.ps 1 (bys (enc (node l))), .int .i64 0]) h' := by
  refine Run.startE t_block_Seal ?_
  unfold k_block_Seal
  have g := hl.node
  have := T6.ws_len l
  have := hl.w
  have pn := fun {ks ops K e h Q d} => Put_node (ks := ks) (ops := ops) (K := K) (e := e) (h := h) (Q := Q) (d := d) _ g
  simp (disch := first | omega | assumption) [anys_len, pn]
theorem blockPut0_run (ty nu fl : Int) (s : List UInt8) (h : Heap) (hl : GoodL (vals ty nu fl 0 s)) (hc : chkS nu 0 s = 0) : ∃ h', Run T f_block_Put [blkV ty nu fl 0 s] h (.tup [.ps 1 (bys (enc (node (vals ty nu fl 0 s)))), .int .i64 0]) h' := by
  obtain ⟨h1, r1⟩ := Check_run ty nu fl 0 s []
  obtain ⟨h2, r2⟩ := values_run ty nu fl 0 s [] (by omega) (by omega)
  obtain ⟨h3, r3⟩ := Seal0_run (vals ty nu fl 0 s) [] hl
  rw [hc] at r1
  refine Run.startE t_block_Put ?_
  unfold k_block_Put blkV
  simp (disch := omega)
  simp only [blk_fold]
  rw [Xp_run r1 (by simp [blk_hf]) (by simp) (by simp)]
  simp (disch := omega)
  simp only [blk_fold]
  rw [Xp_run r2 (by simp [blk_hf]) (by simp [anys_hfs]) (by simp)]
  simp (disch := omega)
  rw [Xp_run r3 (by simp [anys_hfs]) (by simp [bys_hfs]) (by simp)]
  simp (disch := omega)
theorem blockPutE_run (ty nu fl k : Int) (s : List UInt8) (h : Heap) (hc : chkS nu k s ≠ 0) : ∃ h', Run T f_block_Put [blkV ty nu fl k s] h (.tup [.ps 1 [], .int .i64 (chkS nu k s)]) h' := by
  obtain ⟨h1, r1⟩ := Check_run ty nu fl k s []
  refine Run.startE t_block_Put ?_
  unfold k_block_Put blkV
  simp (disch := omega)
  simp only [blk_fold]
  rw [Xp_run r1 (by simp [blk_hf]) (by simp) (by simp)]
  generalize chkS nu k s = z at *
  simp (disch := omega) [hc]
end Ev
