/-
  demand.One and its reference; vergelaw23.each, vergelaw23.lives.
-/
import Derived.Test.YtfneloplbkjbhaaDem4
namespace Go.Proofs.Ytfneloplbkjbhaa
open Go.RowKit
set_option linter.unusedVariables false

theorem r4_newn (w : World) (n : Nat) (hn : w.heap.size = n) (xs : List Q4) (T : TypeId) (fr : Nat × Nat) : R4 (w.alloc (.cells (xs.flatMap Q4.cells).toArray T fr)) (w.alloc (.cells (xs.flatMap Q4.cells).toArray T fr)).heap.size (some ⟨n, 0, none⟩) xs := by
  rw [← hn]; exact r4_new w xs T fr
end Go.Proofs.Ytfneloplbkjbhaa
