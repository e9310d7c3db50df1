/-
  A slice of ints as a result; three boxes.
-/
import Derived.Test.YtakkfgkogomjbaaDoorVi
namespace Go.Proofs.YtakkfgkogomjbaaDoor
open Go.RowKit
set_option linter.unusedVariables false
def IntRes (w : World) (L : List Int) (e : Ending) (w' : World) : Prop :=
  ∃ A c, e = .returned (.slice A L.length c) ∧ Ints w' w'.heap.size A L ∧ Below w.heap.size w w'
theorem IntRes.own {w w' : World} {L : List Int} {v : Value} {base : Nat} {t : TypeId} {n : Nat} (hn : n = L.length) (h : w'.ownsRow base t 1 v n (L.map (Value.int .i64))) (hb : Below w.heap.size w w') : IntRes w L (.returned v) w' := by
  subst hn
  obtain ⟨A, c, rfl⟩ := own_slice h
  exact ⟨A, c, rfl, (Ints.of_own h).2, hb⟩
theorem info_int : (Tryd.prog.info? 3).map (fun i => (i.zero, i.size, i.bytes)) = some (some (.int .i64 0), 1, 8) := by kernel_rfl
theorem three_box {w w1 : World} {v0 v1 v2 : Value} {t0 t1 t2 : TypeId} (hb : Below (((w.alloc (.cells #[v0] t0)).alloc (.cells #[v1] t1)).alloc (.cells #[v2] t2)).heap.size (((w.alloc (.cells #[v0] t0)).alloc (.cells #[v1] t1)).alloc (.cells #[v2] t2)) w1) :
    w1.cell? ⟨w.heap.size, 0, none⟩ = some v0 ∧ w1.frozen? ⟨w.heap.size, 0, none⟩ = false ∧ w1.cell? ⟨w.heap.size + 1, 0, none⟩ = some v1 ∧ w1.frozen? ⟨w.heap.size + 1, 0, none⟩ = false ∧ w1.cell? ⟨w.heap.size + 2, 0, none⟩ = some v2 ∧ w1.frozen? ⟨w.heap.size + 2, 0, none⟩ = false ∧ w.heap.size + 3 ≤ w1.heap.size ∧ Below w.heap.size w w1 := by
  have h1 : Below ((w.alloc (.cells #[v0] t0)).alloc (.cells #[v1] t1)).heap.size ((w.alloc (.cells #[v0] t0)).alloc (.cells #[v1] t1)) w1 := hb.box (Nat.le_refl _)
  have h0 : Below (w.alloc (.cells #[v0] t0)).heap.size (w.alloc (.cells #[v0] t0)) w1 := h1.box (Nat.le_refl _)
  have c0 := box_cell h0 0 v0 rfl
  have f0 := box_free h0 0
  have c1 := box_cell h1 0 v1 rfl
  have f1 := box_free h1 0
  have c2 := box_cell hb 0 v2 rfl
  have f2 := box_free hb 0
  have e : (w.alloc (.cells #[v0] t0)).heap.size = w.heap.size + 1 := by simp
  have e2 : ((w.alloc (.cells #[v0] t0)).alloc (.cells #[v1] t1)).heap.size = w.heap.size + 2 := by simp
  rw [e] at c1 f1
  rw [e2] at c2 f2
  exact ⟨c0, f0, c1, f1, c2, f2, by have := hb.size; simp at this; omega, h0.box (Nat.le_refl _)⟩
end Go.Proofs.YtakkfgkogomjbaaDoor
