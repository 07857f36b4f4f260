/- What the rows' list gives: the table of the errors' numbers. -/
import Derived.Test.YtoeiaimoppmjdaaDoorRdr2
import Derived.Test.YtoeiaimoppmjdaaDoorRows
import Derived.Lib.LaidTab
namespace Go.Proofs.YtoeiaimoppmjdaaDoor.Wr
open Go.RowKit Go.Proofs.YtoeiaimoppmjdaaDoor.Bytes
theorem gTab : Tryd.prog.globalNamed "till/code.errnos" = some 0 := by kernel_rfl
theorem gTabType : (Tryd.prog.globals[0]?).map (·.type) = some 109 := by kernel_rfl
theorem cellsTab : Tryd.prog.cellsOf 109 = 5 := by kernel_rfl
theorem cellsErr : Tryd.prog.cellsOf 43 = 1 := by kernel_rfl
theorem errtab {W : World} (h : laidMetH Tryd.prog [("till/code.errnos", Rows.laid_till_code_errnos)] W) : ErrTab W ∧ 0 < W.heap.size := by
  have t : Lib.TabIs Tryd.prog W "till/code.errnos" .i64 [0, 10, 11, 12, 14] := Lib.tabIs_of_head (rest := []) gTab gTabType Tryd.underlying109 Tryd.underlying43 cellsErr cellsTab h
  have c0 := t.cell gTab 0 (by decide)
  have c1 := t.cell gTab 1 (by decide)
  have c2 := t.cell gTab 2 (by decide)
  have c3 := t.cell gTab 3 (by decide)
  have c4 := t.cell gTab 4 (by decide)
  refine ⟨fun k hk => ?_, World.block_lt_of_cell? W _ c0⟩
  have : k = 0 ∨ k = 1 ∨ k = 2 ∨ k = 3 ∨ k = 4 := by omega
  rcases this with rfl | rfl | rfl | rfl | rfl
  · exact c0
  · exact c1
  · exact c2
  · exact c3
  · exact c4
end Go.Proofs.YtoeiaimoppmjdaaDoor.Wr
