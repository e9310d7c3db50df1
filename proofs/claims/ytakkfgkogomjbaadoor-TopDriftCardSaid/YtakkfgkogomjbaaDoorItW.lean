/-
  Worlds behind an iterator: boxes, an append into a captured variable, what a round keeps.
-/
import Derived.Test.YtakkfgkogomjbaaDoorVi
import Derived.RangeFuncNested
import Derived.RangeFuncBound
import Derived.RangeFuncCalls
import Derived.RangeFuncLeaves
import Derived.RangeFuncBox
import Derived.Shelf.Abstract
import Derived.Shelf.RegionOpen
import Derived.OwnWalkIn
import Derived.TacticsInMore
import Derived.LoopNIn
import Derived.LoopIn
import Derived.Maps.AppendAt
namespace Go.Proofs.YtakkfgkogomjbaaDoor
open Go.RowKit Go.Shelf
set_option linter.unusedVariables false

/-- Two boxes of one cell each, and what lies behind. -/
theorem two_box {w w1 : World} {v0 v1 : Value} {t0 t1 : TypeId} (hb : Below ((w.alloc (.cells #[v0] t0)).alloc (.cells #[v1] t1)).heap.size ((w.alloc (.cells #[v0] t0)).alloc (.cells #[v1] t1)) w1) :
    w1.cell? ⟨w.heap.size, 0, none⟩ = some v0 ∧ w1.frozen? ⟨w.heap.size, 0, none⟩ = false ∧ w1.cell? ⟨w.heap.size + 1, 0, none⟩ = some v1 ∧ w1.frozen? ⟨w.heap.size + 1, 0, none⟩ = false ∧ w.heap.size + 2 ≤ w1.heap.size ∧ Below w.heap.size w w1 := by
  have h0 : Below (w.alloc (.cells #[v0] t0)).heap.size (w.alloc (.cells #[v0] t0)) w1 := hb.box (Nat.le_refl _)
  have c0 := box_cell h0 0 v0 rfl
  have f0 := box_free h0 0
  have c1 := box_cell hb 0 v1 rfl
  have f1 := box_free hb 0
  have e : (w.alloc (.cells #[v0] t0)).heap.size = w.heap.size + 1 := by simp
  rw [e] at c1 f1
  exact ⟨c0, f0, c1, f1, by have := hb.size; simp at this; omega, h0.box (Nat.le_refl _)⟩

theorem set2_first {W : World} {b b' : Nat} {u : Value} (hb : b ≠ b') (h : W.cell? ⟨b, 0, none⟩ = some u) (v v' : Value) : ((W.setCell ⟨b, 0, none⟩ v).setCell ⟨b', 0, none⟩ v').cell? ⟨b, 0, none⟩ = some v := by
  rw [World.cell?_setCell_other _ _ _ _ (by simp <;> omega)]
  exact World.cell?_setCell_same' _ _ _ (by rw [h]; rfl)
theorem set2_second {W : World} {b b' : Nat} {u : Value} (hb : b ≠ b') (h : W.cell? ⟨b', 0, none⟩ = some u) (v v' : Value) : ((W.setCell ⟨b, 0, none⟩ v).setCell ⟨b', 0, none⟩ v').cell? ⟨b', 0, none⟩ = some v' :=
  World.cell?_setCell_same' _ _ _ (by rw [World.cell?_setCell_other _ _ _ _ (by simp <;> omega), h]; rfl)

/-! ### worlds -/
theorem own_cells {W : World} {base : Nat} {e : TypeId} {sz k : Nat} {v : Value} {xs : List Value} (h : W.ownsRow base e sz v k xs) : ∀ (j : Nat) (o : Obj), v.ownBlock = some j → W.heap[j]? = some o → o.isCells = true := by
  intro j o hj ho
  rcases h.2 with ⟨rfl, _⟩ | ⟨g, cap, cur, rfl, _, hg, _⟩
  · simp [Value.ownBlock] at hj
  · simp only [Value.ownBlock, Option.some.injEq] at hj
    subst hj
    rw [hg] at ho
    cases ho
    rfl
theorem own_book {W W' : World} {base : Nat} {e : TypeId} {sz k : Nat} {v : Value} {xs : List Value} {row : Option Nat} (h : W.ownsRow base e sz v k xs) (hg : W.grownBy W' row) (hr : ∀ r, row = some r → ∃ o : Obj, W.heap[r]? = some o ∧ o.isCells = false) : W'.ownsRow base e sz v k xs := by
  refine h.kept hg ?_
  cases hv : v.ownBlock with
  | none => exact .inl rfl
  | some j =>
    right
    intro e
    obtain ⟨o, ho, hc⟩ := hr j e.symm
    rw [own_cells h j o hv ho] at hc
    cases hc
theorem set_own {W : World} {base b : Nat} {e : TypeId} {sz k : Nat} {v : Value} {xs : List Value} (h : W.ownsRow base e sz v k xs) (hb : b < base) (u : Value) : (W.setCell ⟨b, 0, none⟩ u).ownsRow base e sz v k xs := by
  refine h.kept (grownBy_setCell' W b u) ?_
  cases hv : v.ownBlock with
  | none => exact .inl rfl
  | some j => right; intro e; cases e; have := (h.lt _ hv).1; omega
theorem app_far {W W4 : World} {o : Obj} {base : Nat} {e : TypeId} {k : Nat} {xs : List Value} {v : Value} (hown : W.ownsRow base e 1 v k xs) (hg : (W.alloc o).grownBy W4 v.ownBlock) (hb : base ≤ W.heap.size) (p : Addr) (hp : p.block < base) : W4.cell? p = W.cell? p ∧ W4.frozen? p = W.frozen? p := by
  have hne : some p.block ≠ v.ownBlock := fun h => by have := (hown.lt p.block h.symm).1; omega
  have hg' : W.grownBy W4 v.ownBlock := (World.grownBy_alloc W o _).trans hg
  exact ⟨hg'.cell_far p (by omega) hne, hg'.frozen_far p (by omega) hne⟩
theorem app_step {W W4 : World} {o : Obj} {base N1 B : Nat} {e : TypeId} {k k' : Nat} {xs xs' : List Value} {v v' : Value} (hown : W.ownsRow base e 1 v k xs) (hown4 : W4.ownsRow base e 1 v' k' xs') (hg : (W.alloc o).grownBy W4 v.ownBlock) (hN : N1 < base) (hb : base ≤ W.heap.size) (hB : B ≤ N1) {u0 : Value} (hq : W.cell? ⟨N1, 0, none⟩ = some u0) :
    KeepsOthers W (W4.setCell ⟨N1, 0, none⟩ v') ∧ Below B W (W4.setCell ⟨N1, 0, none⟩ v') ∧ (W4.setCell ⟨N1, 0, none⟩ v').ownsRow base e 1 v' k' xs' ∧ (∀ (p : Addr) u, p.block < base → p ≠ ⟨N1, 0, none⟩ → W.cell? p = some u → (W4.setCell ⟨N1, 0, none⟩ v').cell? p = some u) ∧
      (∀ p : Addr, p.block < base → (W4.setCell ⟨N1, 0, none⟩ v').frozen? p = W.frozen? p) ∧ (W4.setCell ⟨N1, 0, none⟩ v').cell? ⟨N1, 0, none⟩ = some v' ∧ base ≤ (W4.setCell ⟨N1, 0, none⟩ v').heap.size := by
  have hne : ∀ p : Addr, p.block < base → some p.block ≠ v.ownBlock := fun p hp h => by have := (hown.lt p.block h.symm).1; omega
  have hg' : W.grownBy W4 v.ownBlock := (World.grownBy_alloc W o _).trans hg
  have hc4 : ∀ p : Addr, p.block < base → W4.cell? p = W.cell? p := fun p hp => hg'.cell_far p (by omega) (hne p hp)
  have hf4 : ∀ p : Addr, p.block < base → W4.frozen? p = W.frozen? p := fun p hp => hg'.frozen_far p (by omega) (hne p hp)
  refine ⟨(KeepsOthers.of_grownBy hg' (own_cells hown)).trans (KeepsOthers.setCell _ _ _), ?_, ?_, ?_, ?_, ?_, ?_⟩
  · exact (below_grown (Below.refl B W) hg' hown (by omega) (by omega)).setCell (p := ⟨N1, 0, none⟩) hB _
  · refine hown4.kept (grownBy_setCell' W4 N1 v') ?_
    cases hv : v'.ownBlock with
    | none => exact .inl rfl
    | some j => right; intro e; cases e; have := (hown4.lt _ hv).1; omega
  · intro p u hp hpq hu
    rw [World.cell?_setCell_other _ _ _ _ (by first | exact hpq | exact fun h => hpq h.symm), hc4 p hp]
    exact hu
  · intro p hp
    rw [World.frozen?_setCell]
    exact hf4 p hp
  · exact World.cell?_setCell_same' _ _ _ (by rw [hc4 ⟨N1, 0, none⟩ hN, hq]; rfl)
  · have := hg'.size
    simp
    omega

end Go.Proofs.YtakkfgkogomjbaaDoor
