/-
  TopSolved: what the list gives: the table of powers of ten.
-/
import Derived.Test.YtfneloplbkjbhaaDoorTM3
import Derived.Test.YtfneloplbkjbhaaDoorCards
import Derived.Test.YtfneloplbkjbhaaDoorTie
import Derived.WalkKit
import Derived.Deep.DeepHandedRow
import Derived.Deep.DeepLaidRun
import Derived.Stop.LaidErr
import Derived.Lib.LaidTab
namespace Go.Proofs.YtfneloplbkjbhaaDoor
open Go.ChangeShapes Go.WideShapes Go.ChangeAt Go.RowKit Go.Shelf
set_option linter.unusedVariables false
namespace topSolved
theorem gPow : Tryd.prog.globalNamed "internal/strconv.uint64pow10" = some 2 := by kernel_rfl
theorem gPowType : (Tryd.prog.globals[2]?).map (·.type) = some 152 := by kernel_rfl
theorem cellsPow : Tryd.prog.cellsOf 152 = 20 := by kernel_rfl
theorem cellsU64 : Tryd.prog.cellsOf 92 = 1 := by kernel_rfl
theorem laid_plain {W : World} (h : laidMetH Tryd.prog Rows.topSolvedRow.laid W) : laidMet Tryd.prog Rows.topSolvedRow.laid W := h
theorem pow_of_laid {W : World} (h : laidMetH Tryd.prog Rows.topSolvedRow.laid W) : PowB W.heap.size W := by
  have h1 := (laid_plain h).tail.tail
  exact Lib.tabBelow_of_tabIs (Lib.tabIs_of_head gPow gPowType Tryd.underlying152 Tryd.underlying92 cellsU64 cellsPow h1)
end topSolved
end Go.Proofs.YtfneloplbkjbhaaDoor
