/-
  A configuration as text: a task's numbers, its lock's, a line's and its thread's.
-/
import Derived.Test.YtfneloplbkjbhaaDoorTS4
import Derived.Test.YtfneloplbkjbhaaDoorVr
namespace Go.Proofs.YtfneloplbkjbhaaDoor
open Go.RowKit Go.Shelf
set_option linter.unusedVariables false
/-- A fresh row of numbers. -/
def NumRes (w : World) (ns : List Int) (e : Ending) (w' : World) : Prop := ∃ nb, e = .returned (.slice (some ⟨nb, 0, none⟩) ns.length ns.length) ∧ w'.heap[nb]? = some (.cells (ns.map (Value.int .i64)).toArray 2 (0, 0)) ∧ Below w.heap.size w w'
def tkNums (t : Tk) : List Int := [t.p, t.b, t.c, t.d, t.e, t.f]
def lkNums (t : Tk) : List Int := [t.g, t.h, t.i]
theorem heap_new2 (w : World) (o1 o2 : Obj) : ((w.alloc o1).alloc o2).heap[w.heap.size + 1]? = some o2 := by
  have := heap_alloc_new (w.alloc o1) o2
  simpa using this
theorem heap_new3 (w : World) (o1 o2 o3 : Obj) : (((w.alloc o1).alloc o2).alloc o3).heap[w.heap.size + 2]? = some o3 := by
  have := heap_alloc_new ((w.alloc o1).alloc o2) o3
  simpa using this
theorem ctask_any (t : Tk) (w : World) : Calls Tryd.prog 29 #[.agg t.arr] w (NumRes w (tkNums t)) := by
  go_enter Tryd.func29, Tryd.ntmps29
  go_wp2
  go_ret
  refine ⟨_, rfl, heap_new2 _ _ _, (below_box w _).alloc (by simp) _⟩
theorem clocks_any (t : Tk) (w : World) : Calls Tryd.prog 30 #[.agg t.arr] w (NumRes w (lkNums t)) := by
  go_enter Tryd.func30, Tryd.ntmps30
  go_wp2
  go_ret
  refine ⟨_, rfl, heap_new2 _ _ _, (below_box w _).alloc (by simp) _⟩
/-- Four numbers: a line, or a thread. -/
abbrev Q4.arr (x : Q4) : Array Value := #[.int .i64 x.a, .int .i64 x.b, .int .i64 x.c, .int .i64 x.d]
def svNums (x y : Q4) : List Int := [x.a, x.b, x.c, x.d, y.a, y.b, y.c, y.d]
theorem served_any (x y : Q4) (w : World) : Calls Tryd.prog 31 #[.agg x.arr, .agg y.arr] w (NumRes w (svNums x y)) := by
  go_enter Tryd.func31, Tryd.ntmps31
  go_wp2
  go_ret
  refine ⟨_, rfl, heap_new3 _ _ _ _, ((below_box w _).alloc (by simp) _).alloc (by simp; omega) _⟩
theorem NumRes.ints {w w' : World} {nb : Nat} {ns : List Int} (h : w'.heap[nb]? = some (.cells (ns.map (Value.int .i64)).toArray 2 (0, 0))) : Ints w' w'.heap.size (some ⟨nb, 0, none⟩) ns := fun _ =>
  ⟨nb, 0, rfl, (Array.getElem?_eq_some_iff.1 h).1, fun j hj => by
    rw [cell_of_row _ _ (0 + j) _ _ _ h]
    simp [hj]⟩
end Go.Proofs.YtfneloplbkjbhaaDoor
