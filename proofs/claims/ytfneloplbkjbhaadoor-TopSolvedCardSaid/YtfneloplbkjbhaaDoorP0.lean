/-
  A pool in memory: three blocks, told by numbers; what keeps them, and what keeps all others.
-/
import Derived.Test.YtfneloplbkjbhaaDoorVi
import Derived.Test.YtfneloplbkjbhaaDoorQPL
import Derived.Deep.RegionHeld3
import Derived.StillTailTactics
import Derived.Deep.QuietTactic
import Derived.BigQuiet
namespace Go.Proofs.YtfneloplbkjbhaaDoor
open Go.RowKit
set_option linter.unusedVariables false
/-- A fact put by, which nothing opens. -/
structure Kept (p : Prop) : Prop where
  out : p
theorem cell_lt {w : World} {b o : Nat} {v : Value} (h : w.cell? ⟨b, o, none⟩ = some v) : b < w.heap.size := by
  unfold World.cell? at h
  split at h
  · rename_i hh; exact (Array.getElem?_eq_some_iff.1 hh).1
  · cases h
/-- A block of numbers. -/
structure NB (w : World) (L N : Nat) (F : Nat → Int) : Prop where
  c : ∀ j, j < N → w.cell? ⟨L, j, none⟩ = some (.int .i64 (F j))
  f : ∀ j, w.frozen? ⟨L, j, none⟩ = false
/-- Whatever lies outside of the blocks from lo on, below hi, stays. -/
structure Kp (lo hi : Nat) (w w' : World) : Prop where
  os : w'.os = w.os
  tape : w'.tape = w.tape
  output : w'.output = w.output
  size : w.heap.size ≤ w'.heap.size
  block : ∀ i, i < w.heap.size → (i < lo ∨ hi ≤ i) → w'.heap[i]? = w.heap[i]?
theorem Kp.of_below {lo hi : Nat} {w w' : World} (h : Below w.heap.size w w') : Kp lo hi w w' := ⟨h.os, h.tape, h.output, h.size, fun i hi _ => h.block i hi⟩
theorem Kp.refl (lo hi : Nat) (w : World) : Kp lo hi w w := ⟨rfl, rfl, rfl, Nat.le_refl _, fun _ _ _ => rfl⟩
theorem Kp.trans {lo hi : Nat} {a b c : World} (h : Kp lo hi a b) (k : Kp lo hi b c) : Kp lo hi a c :=
  ⟨k.os.trans h.os, k.tape.trans h.tape, k.output.trans h.output, Nat.le_trans h.size k.size, fun i hi hc => (k.block i (Nat.lt_of_lt_of_le hi h.size) hc).trans (h.block i hi hc)⟩
theorem Kp.below {lo hi B : Nat} {a w w' : World} (h : Below B a w) (k : Kp lo hi w w') (hB : B ≤ lo) (hs : B ≤ w.heap.size) : Below B a w' :=
  h.trans ⟨k.os, k.tape, k.output, k.size, fun i hi => k.block i (by omega) (.inl (by omega))⟩
theorem Kp.drewN {lo hi : Nat} {a w : World} (h : Kp lo hi a w) (n : Nat) : Kp lo hi a (w.drewN n) := ⟨h.os, h.tape, h.output, h.size, h.block⟩
theorem Kp.set {lo hi : Nat} {a w : World} (h : Kp lo hi a w) {p : Addr} (h1 : lo ≤ p.block) (h2 : p.block < hi) (v : Value) : Kp lo hi a (w.setCell p v) := by
  refine ⟨h.os, h.tape, h.output, by simpa using h.size, fun i hi hc => ?_⟩
  rw [Below.heap_setCell _ _ _ _ (by omega)]
  exact h.block i hi hc
theorem Kp.alloc {lo hi : Nat} {a w : World} (h : Kp lo hi a w) (o : Obj) : Kp lo hi a (w.alloc o) := h.trans (Kp.of_below (below_box w o))
theorem Kp.set_new {lo hi : Nat} {a w : World} (h : Kp lo hi a w) {p : Addr} (h1 : a.heap.size ≤ p.block) (v : Value) : Kp lo hi a (w.setCell p v) := by
  refine ⟨h.os, h.tape, h.output, by simpa using h.size, fun i hi hc => ?_⟩
  rw [Below.heap_setCell _ _ _ _ (by omega)]
  exact h.block i hi hc
theorem NB.kept {w w' : World} {L N : Nat} {F : Nat → Int} (h : NB w L N F) (hb : w'.heap[L]? = w.heap[L]?) : NB w' L N F :=
  ⟨fun j hj => (World.cell?_of_block (a := ⟨L, j, none⟩) hb).trans (h.c j hj), fun j => (World.frozen?_of_block (a := ⟨L, j, none⟩) hb).trans (h.f j)⟩
theorem NB.far {w : World} {L N : Nat} {F : Nat → Int} (h : NB w L N F) {p : Addr} (hp : p.block ≠ L) (v : Value) : NB (w.setCell p v) L N F :=
  h.kept (Below.heap_setCell _ _ _ _ (fun e => hp e.symm))
theorem NB.set {w : World} {L N : Nat} {F : Nat → Int} (h : NB w L N F) {o : Nat} (ho : o < N) (v : Int) : NB (w.setCell ⟨L, o, none⟩ (.int .i64 v)) L N (upd F o v) := by
  refine ⟨fun j hj => ?_, fun j => ?_⟩
  · by_cases e : j = o
    · subst e
      rw [upd_same]
      exact World.cell?_setCell_same' _ _ _ (by rw [h.c j ho]; rfl)
    · rw [upd_ne e, World.cell?_setCell_other _ _ _ _ (by simp)]
      exact h.c j hj
  · rw [World.frozen?_setCell]
    exact h.f j
theorem NB.drewN {w : World} {L N : Nat} {F : Nat → Int} (h : NB w L N F) (n : Nat) : NB (w.drewN n) L N F := ⟨h.c, h.f⟩
theorem NB.lt {w : World} {L N : Nat} {F : Nat → Int} (h : NB w L N F) (hN : 0 < N) : L < w.heap.size := (cell_lt (h.c 0 hN))
/-- A pool. -/
structure PB (w : World) (p L K n m : Nat) (F G : Nat → Int) (top free : Int) : Prop where
  c0 : w.cell? ⟨p, 0, none⟩ = some (.slice (some ⟨L, 0, none⟩) n n)
  c1 : w.cell? ⟨p, 1, none⟩ = some (.slice (some ⟨K, 0, none⟩) m m)
  c2 : w.cell? ⟨p, 2, none⟩ = some (.int .i64 top)
  c3 : w.cell? ⟨p, 3, none⟩ = some (.int .i64 free)
  pf : ∀ i, w.frozen? ⟨p, i, none⟩ = false
  l : NB w L (n * 3) F
  k : NB w K (m * 2) G
theorem PB.kept {w w' : World} {p L K n m : Nat} {F G : Nat → Int} {top free : Int} (h : PB w p L K n m F G top free) (h1 : w'.heap[p]? = w.heap[p]?) (h2 : w'.heap[L]? = w.heap[L]?) (h3 : w'.heap[K]? = w.heap[K]?) : PB w' p L K n m F G top free :=
  ⟨(World.cell?_of_block (a := ⟨p, 0, none⟩) h1).trans h.c0, (World.cell?_of_block (a := ⟨p, 1, none⟩) h1).trans h.c1, (World.cell?_of_block (a := ⟨p, 2, none⟩) h1).trans h.c2, (World.cell?_of_block (a := ⟨p, 3, none⟩) h1).trans h.c3, fun i => (World.frozen?_of_block (a := ⟨p, i, none⟩) h1).trans (h.pf i), h.l.kept h2, h.k.kept h3⟩
/-- Where a pool's blocks lie. -/
structure PL (lo hi p L K : Nat) : Prop where
  p1 : lo ≤ p
  p2 : p < hi
  l1 : lo ≤ L
  l2 : L < hi
  k1 : lo ≤ K
  k2 : K < hi
  pl : p ≠ L
  pk : p ≠ K
  lk : L ≠ K
theorem PB.below {w w' : World} {p L K n m : Nat} {F G : Nat → Int} {top free : Int} (h : PB w p L K n m F G top free) (hb : Below w.heap.size w w') {lo hi : Nat} (hl : PL lo hi p L K) (hh : hi ≤ w.heap.size) : PB w' p L K n m F G top free :=
  h.kept (hb.block _ (by have := hl.p2; omega)) (hb.block _ (by have := hl.l2; omega)) (hb.block _ (by have := hl.k2; omega))
theorem PB.drewN {w : World} {p L K n m : Nat} {F G : Nat → Int} {top free : Int} (h : PB w p L K n m F G top free) (j : Nat) : PB (w.drewN j) p L K n m F G top free := ⟨h.c0, h.c1, h.c2, h.c3, h.pf, h.l.drewN j, h.k.drewN j⟩
end Go.Proofs.YtfneloplbkjbhaaDoor
