/-
  The table of the library that the laws' rows list: what it gives a walk, and a world that holds it.
-/
import Derived.Test.YtakkfgkogomjbaaDoorGA
import Derived.Test.YtakkfgkogomjbaaDoorLw
import Derived.Test.YtakkfgkogomjbaaDoorCards
import Derived.Test.YtakkfgkogomjbaaDoorTie
import Derived.WalkKit
import Derived.Deep.DeepHandedRow
import Derived.Lib.LaidTab
namespace Go.Proofs.YtakkfgkogomjbaaDoor
open Go.ChangeShapes Go.WideShapes Go.ChangeAt Go.RowKit Go.Shelf
set_option linter.unusedVariables false

theorem gTab : Tryd.prog.globalNamed "math/bits.deBruijn64tab" = some 0 := by kernel_rfl
theorem gTabType : (Tryd.prog.globals[0]?).map (·.type) = some 173 := by kernel_rfl
theorem cellsTab : Tryd.prog.cellsOf 173 = 64 := by kernel_rfl
theorem cellsByte : Tryd.prog.cellsOf 5 = 1 := by kernel_rfl
def tabI : List Int := Lib.deBruijn64tab.map fun n : Nat => (n : Int)
theorem tab_data : (Rows.topDriftRow.laid : List (String × DataW Unit)) = [("math/bits.deBruijn64tab", Lib.tabData .u8 tabI)] := by kernel_rfl
theorem tab_of_laid {W : World} (h : laidMetH Tryd.prog Rows.topDriftRow.laid W) : Tab W := by
  rw [tab_data] at h
  have hT : Lib.TabIs Tryd.prog W "math/bits.deBruijn64tab" .u8 tabI := Lib.tabIs_of_head (rest := []) gTab gTabType Tryd.underlying173 Tryd.underlying5 cellsByte cellsTab h
  intro j hj
  have := hT.cell gTab j (by simpa [tabI] using hj)
  rw [this]
  congr 2
  unfold tabI
  simp [List.getD_eq_getElem?_getD, hj]
theorem u64_bounds {n : Int} (h : (Lit.int .u64 n).wf = true) : 0 ≤ n ∧ n ≤ 18446744073709551615 := by
  simp [Lit.wf, IntKind.min, IntKind.max, IntKind.signed, IntKind.bits] at h
  omega
theorem tab_size {W : World} (h : Tab W) : 0 < W.heap.size := (cell_some_lt (h 0 (by decide))).1
/-- A world for the witness: the settled one, the table holding what its initialiser lays. -/
noncomputable def laidWorld (os : Os) : World :=
  { World.holding Tryd.prog os ⟨#[], #[], []⟩ with heap := (World.holding Tryd.prog os ⟨#[], #[], []⟩).heap.modify 0 fun
      | .cells _ t frozen => .cells (Lib.deBruijn64tab.map fun n : Nat => Value.int .u8 (n : Int)).toArray t frozen
      | o => o }
end Go.Proofs.YtakkfgkogomjbaaDoor
