/- What every card of this seat needs. -/
import Derived.Test.YthcfjdkflmkhbaaDoorHCh12
import Derived.Test.YthcfjdkflmkhbaaDoorHChBr
import Derived.Test.YthcfjdkflmkhbaaDoorCards
import Derived.Test.YthcfjdkflmkhbaaDoorTie
set_option linter.all false
namespace Go.Proofs.YthcfjdkflmkhbaaDoor
open Go.Av Go.ChangeShapes Go.WideShapes Go.ChangeAt Go.RowKit

theorem ownG : ownKnob Tryd.prog.godebug = none := by kernel_rfl
theorem gTab : Tryd.prog.globalNamed "passim/choose.none" = some 0 := by kernel_rfl
theorem gTabType : (Tryd.prog.globals[0]?).map (·.type) = some 97 := by kernel_rfl
theorem cells97 : Tryd.prog.cellsOf 97 = 2 := by kernel_rfl
theorem cells84 : Tryd.prog.cellsOf 84 = 4 := by kernel_rfl
theorem cells3 : Tryd.prog.cellsOf 3 = 1 := by kernel_rfl
theorem laidB : laidOutB Tryd.prog = true := by kernel_rfl

/-- What the row's list gives: the variable's cells. -/
theorem gok {W : World} (h : laidMetH Tryd.prog Rows.chooseCostsRow.laid W) : GOK gG W := by
  have ht : Lib.TabIs Tryd.prog W "passim/choose.none" .i64 [-1, -1] := Lib.tabIs_of_head (rest := []) gTab gTabType Tryd.underlying97 Tryd.underlying3 cells3 cells97 h
  have c0 : W.cell? ⟨0, 0, none⟩ = some (.int .i64 (-1)) := ht.cell gTab 0 (by decide)
  have c1 : W.cell? ⟨0, 1, none⟩ = some (.int .i64 (-1)) := ht.cell gTab 1 (by decide)
  intro p hp
  simp only [gG, List.mem_cons, List.not_mem_nil, or_false] at hp
  subst hp
  refine ⟨(cell_spot c0).2, ?_⟩
  simp only [Dat.cells_agg, RepC, Rep1]
  exact ⟨⟨trivial, _, c0, rfl⟩, ⟨trivial, _, c1, rfl⟩, trivial⟩

end Go.Proofs.YthcfjdkflmkhbaaDoor

