/-
  Two rows that grow side by side; the lists that Jobs makes.
-/
import Derived.Test.YtcchmkpodfjhcaaJ3
namespace Go.Proofs.Ytcchmkpodfjhcaa
open Go.RowKit Go.Shelf
set_option linter.unusedVariables false
theorem addB_block (a : Addr) (n : Nat) : (a.add n).block = a.block := by unfold Addr.add; split <;> rfl
/-- Two rows, of which each may have something made to be appended. -/
structure AB (W0 W : World) (R : Nat) (e1 e2 : TypeId) (s1 s2 : Nat) (v1 v2 p1 p2 : Value) (m1 m2 : Nat) (l1 l2 x1 x2 : List Value) (k1 k2 : Bool) (g1 g2 : Nat) : Prop where
  size : W0.heap.size ≤ W.heap.size
  keep : ∀ i, i < W0.heap.size → v1.ownBlock ≠ some i → v2.ownBlock ≠ some i → W.heap[i]? = W0.heap[i]?
  io : W.os = W0.os ∧ W.tape = W0.tape ∧ W.output = W0.output
  a : W.ownsRow R e1 s1 p1 m1 l1
  b : W.ownsRow R e2 s2 p2 m2 l2
  a1 : k1 = true → g1 < W.heap.size ∧ (∀ j u, x1[j]? = some u → W.cell? ((⟨g1, 0, none⟩ : Addr).add j) = some u) ∧ p2.ownBlock ≠ some g1
  b1 : k2 = true → g2 < W.heap.size ∧ (∀ j u, x2[j]? = some u → W.cell? ((⟨g2, 0, none⟩ : Addr).add j) = some u) ∧ p1.ownBlock ≠ some g2
  ao : p1.ownBlock = v1.ownBlock ∨ ∃ g, p1.ownBlock = some g ∧ W0.heap.size ≤ g
  bo : p2.ownBlock = v2.ownBlock ∨ ∃ g, p2.ownBlock = some g ∧ W0.heap.size ≤ g
  dis : ∀ g, p1.ownBlock = some g → p2.ownBlock = some g → False
section
variable {W0 W W' : World} {R : Nat} {e1 e2 : TypeId} {s1 s2 : Nat} {v1 v2 p1 p2 : Value} {m1 m2 : Nat} {l1 l2 x1 x2 : List Value} {k1 k2 : Bool} {g1 g2 : Nat}
theorem AB.swap (h : AB W0 W R e1 e2 s1 s2 v1 v2 p1 p2 m1 m2 l1 l2 x1 x2 k1 k2 g1 g2) : AB W0 W R e2 e1 s2 s1 v2 v1 p2 p1 m2 m1 l2 l1 x2 x1 k2 k1 g2 g1 :=
  ⟨h.size, fun i hi h1 h2 => h.keep i hi h2 h1, h.io, h.b, h.a, h.b1, h.a1, h.bo, h.ao, fun g a b => h.dis g b a⟩
theorem AB.start (ha : W.ownsRow R e1 s1 v1 m1 l1) (hb : W.ownsRow R e2 s2 v2 m2 l2) (hd : ∀ g, v1.ownBlock = some g → v2.ownBlock = some g → False) : AB W W R e1 e2 s1 s2 v1 v2 v1 v2 m1 m2 l1 l2 x1 x2 false false g1 g2 :=
  ⟨Nat.le_refl _, fun _ _ _ _ => rfl, ⟨rfl, rfl, rfl⟩, ha, hb, fun h => (by cases h), fun h => (by cases h), .inl rfl, .inl rfl, hd⟩
/-- Something is made to be appended. -/
theorem AB.build (h : AB W0 W R e1 e2 s1 s2 v1 v2 p1 p2 m1 m2 l1 l2 x1 x2 false k2 g1 g2) (T : TypeId) {cs : Array Value} (hx : x1 = cs.toList) : AB W0 (W.alloc (.cells cs T)) R e1 e2 s1 s2 v1 v2 p1 p2 m1 m2 l1 l2 x1 x2 true k2 W.heap.size g2 := by
  have hb := below_box W (.cells cs T)
  have hs := h.size
  refine ⟨by simp; omega, fun i hi h1 h2 => (hb.block i (by omega)).trans (h.keep i hi h1 h2), h.io, h.a.alloc _, h.b.alloc _, fun _ => ⟨by simp, ?_, fun e => by have := (h.b.lt _ e).2; omega⟩, fun hk => ?_, h.ao, h.bo, h.dis⟩
  · subst hx
    exact World.news_of_block (heap_alloc_new W _)
  · obtain ⟨a, b, c⟩ := h.b1 hk
    refine ⟨by simp; omega, fun j u hj => ?_, c⟩
    rw [← b j u hj]
    exact hb.cell (p := (⟨g2, 0, none⟩ : Addr).add j) (by rw [addB_block]; exact a)
/-- It is appended. -/
theorem AB.app (h : AB W0 W R e1 e2 s1 s2 v1 v2 p1 p2 m1 m2 l1 l2 x1 x2 true k2 g1 g2) {q : Value} {g : Nat} (hq : q.ownBlock = some g) {m' : Nat} {l' : List Value} (ho : W'.ownsRow R e1 s1 q m' l') (hg : W.grownBy W' p1.ownBlock) (hl : p1.ownBlock = some g ∨ g = W.heap.size) :
    AB W0 W' R e1 e2 s1 s2 v1 v2 q p2 m' m2 l' l2 x1 x2 false k2 g1 g2 := by
  have hs := h.size
  refine ⟨by have := hg.size; omega, fun i hi h1 h2 => (hg.block i (by omega) ?_).trans (h.keep i hi h1 h2), ⟨hg.os.trans h.io.1, hg.tape.trans h.io.2.1, hg.output.trans h.io.2.2⟩, ho, h.b.kept hg ?_, fun e => (by cases e), fun hk => ?_, ?_, h.bo, fun g' a b => ?_⟩
  · intro e
    rcases h.ao with e' | ⟨j, e', hj⟩
    · exact h1 (by rw [← e', ← e])
    · rw [e'] at e; cases e; omega
  · cases hp : p2.ownBlock with
    | none => exact .inl rfl
    | some j => right; intro e; exact h.dis j e.symm hp
  · obtain ⟨a, b, c⟩ := h.b1 hk
    refine ⟨by have := hg.size; omega, fun j u hj => ?_, fun e => ?_⟩
    · rw [← b j u hj]
      exact hg.cell_far _ (by rw [addB_block]; exact a) (by rw [addB_block]; exact fun e => c e.symm)
    · rw [hq] at e
      cases e
      rcases hl with hl | hl
      · exact c hl
      · omega
  · rcases hl with hl | hl
    · rcases h.ao with e' | ⟨j, e', hj⟩
      · left; rw [hq, ← e', hl]
      · right; rw [hl] at e'; cases e'; exact ⟨_, hq, hj⟩
    · right; exact ⟨g, hq, by omega⟩
  · rw [hq] at a
    cases a
    rcases hl with hl | hl
    · exact h.dis _ hl b
    · have := (h.b.lt _ b).2; omega
end
/-- The cells of the pieces of jobs. -/
def pC (ps : List J4) : List Value := ps.flatMap fun x => [.int .i64 x.a, .int .i64 x.b, .int .i64 x.c]
def dC (ps : List J4) : List Value := ps.map fun x => .int .i64 x.d
theorem pC_snoc (ps : List J4) (x : J4) : pC (ps ++ [x]) = pC ps ++ [.int .i64 x.a, .int .i64 x.b, .int .i64 x.c] := by unfold pC; simp
theorem dC_snoc (ps : List J4) (x : J4) : dC (ps ++ [x]) = dC ps ++ [.int .i64 x.d] := by unfold dC; simp
/-- The lists that Jobs makes, so far. -/
structure JB (N R c1 c2 : Nat) (w W : World) (ps : List J4) : Prop where
  c : N ≤ c1 ∧ c1 < R ∧ N ≤ c2 ∧ c2 < R ∧ c1 ≠ c2
  rows : ∃ A1 n1 A2 n2, W.cell? ⟨c1, 0, none⟩ = some (.slice A1 ps.length n1) ∧ W.cell? ⟨c2, 0, none⟩ = some (.slice A2 ps.length n2) ∧ W.ownsRow R 108 3 (.slice A1 ps.length n1) ps.length (pC ps) ∧ W.ownsRow R 2 1 (.slice A2 ps.length n2) ps.length (dC ps) ∧
    ∀ g, (Value.slice A1 ps.length n1).ownBlock = some g → (Value.slice A2 ps.length n2).ownBlock = some g → False
  f : W.frozen? ⟨c1, 0, none⟩ = false ∧ W.frozen? ⟨c2, 0, none⟩ = false
  size : R ≤ W.heap.size
  bw : Below N w W
theorem JB.kept {N R c1 c2 : Nat} {w W W' : World} {ps : List J4} (h : JB N R c1 c2 w W ps) {row : Option Nat} (hg : W.grownBy W' row) (hr : ∀ r, row = some r → ∃ o : Obj, W.heap[r]? = some o ∧ o.isCells = false) (hb : Below N w W') : JB N R c1 c2 w W' ps := by
  obtain ⟨A1, n1, A2, n2, h1, h2, h3, h4, h5⟩ := h.rows
  exact ⟨h.c, ⟨A1, n1, A2, n2, cell_kept h1 hg hr, cell_kept h2 hg hr, own_book h3 hg hr, own_book h4 hg hr, h5⟩, ⟨(frozen_kept h1 hg hr).trans h.f.1, (frozen_kept h2 hg hr).trans h.f.2⟩, Nat.le_trans h.size hg.size, hb⟩
theorem cells_of {W : World} {c : Nat} {v : Value} (h : W.cell? ⟨c, 0, none⟩ = some v) {o : Obj} (ho : W.heap[c]? = some o) : o.isCells = true := by
  obtain ⟨o', h1, h2⟩ := cells_of_cell h
  rw [show W.heap[c]? = some o' from h1] at ho
  cases ho
  exact h2
/-- Both boxes are turned. -/
theorem JB.final {N R c1 c2 : Nat} {w W w4 : World} {ps : List J4} (h : JB N R c1 c2 w W ps) (hNR : N ≤ R) {A1 A2 : Option Addr} {n1 n2 g1 cap1 g2 cap2 ga gb : Nat} {x : J4} {x1 x2 : List Value}
    (r1 : W.cell? ⟨c1, 0, none⟩ = some (.slice A1 ps.length n1)) (r2 : W.cell? ⟨c2, 0, none⟩ = some (.slice A2 ps.length n2)) (o1 : W.ownsRow R 108 3 (.slice A1 ps.length n1) ps.length (pC ps)) (o2 : W.ownsRow R 2 1 (.slice A2 ps.length n2) ps.length (dC ps))
    (hab : AB W.drew w4 R 108 2 3 1 (.slice A1 ps.length n1) (.slice A2 ps.length n2) (.slice (some ⟨g1, 0, none⟩) (ps.length + 1) cap1) (.slice (some ⟨g2, 0, none⟩) (ps.length + 1) cap2) (ps.length + 1) (ps.length + 1) (pC ps ++ [.int .i64 x.a, .int .i64 x.b, .int .i64 x.c]) (dC ps ++ [.int .i64 x.d]) x1 x2 false false ga gb) :
    KeepsOthers W ((w4.setCell ⟨c1, 0, none⟩ (.slice (some ⟨g1, 0, none⟩) (ps.length + 1) cap1)).setCell ⟨c2, 0, none⟩ (.slice (some ⟨g2, 0, none⟩) (ps.length + 1) cap2)) ∧
    KpJ c1 c2 W ((w4.setCell ⟨c1, 0, none⟩ (.slice (some ⟨g1, 0, none⟩) (ps.length + 1) cap1)).setCell ⟨c2, 0, none⟩ (.slice (some ⟨g2, 0, none⟩) (ps.length + 1) cap2)) ∧
    JB N R c1 c2 w ((w4.setCell ⟨c1, 0, none⟩ (.slice (some ⟨g1, 0, none⟩) (ps.length + 1) cap1)).setCell ⟨c2, 0, none⟩ (.slice (some ⟨g2, 0, none⟩) (ps.length + 1) cap2)) (ps ++ [x]) := by
  obtain ⟨W', hW'⟩ : ∃ W', W' = ((w4.setCell ⟨c1, 0, none⟩ (.slice (some ⟨g1, 0, none⟩) (ps.length + 1) cap1)).setCell ⟨c2, 0, none⟩ (.slice (some ⟨g2, 0, none⟩) (ps.length + 1) cap2)) := ⟨_, rfl⟩
  have hc := h.c
  have hsz := h.size
  have hs4 : W.heap.size ≤ w4.heap.size := hab.size
  have hsW : W'.heap.size = w4.heap.size := by rw [hW']; simp
  have hfar : ∀ i, i ≠ c1 → i ≠ c2 → W'.heap[i]? = w4.heap[i]? := fun i h1 h2 => by
    rw [hW', Below.heap_setCell _ _ _ _ h2, Below.heap_setCell _ _ _ _ h1]
  have hkeep : ∀ i, i < W.heap.size → i ≠ c1 → i ≠ c2 → (Value.slice A1 ps.length n1).ownBlock ≠ some i → (Value.slice A2 ps.length n2).ownBlock ≠ some i → W'.heap[i]? = W.heap[i]? := fun i hi h1 h2 h3 h4 =>
    (hfar i h1 h2).trans (hab.keep i hi h3 h4)
  have n1 : ∀ {b}, b < R → (Value.slice A1 ps.length n1).ownBlock ≠ some b := fun hb e => by have := (o1.lt _ e).1; omega
  have n2 : ∀ {b}, b < R → (Value.slice A2 ps.length n2).ownBlock ≠ some b := fun hb e => by have := (o2.lt _ e).1; omega
  have q1 : w4.cell? ⟨c1, 0, none⟩ = W.cell? ⟨c1, 0, none⟩ := World.cell?_of_block (a := ⟨c1, 0, none⟩) (hab.keep c1 (by show c1 < W.heap.size; omega) (n1 hc.2.1) (n2 hc.2.1))
  have q2 : w4.cell? ⟨c2, 0, none⟩ = W.cell? ⟨c2, 0, none⟩ := World.cell?_of_block (a := ⟨c2, 0, none⟩) (hab.keep c2 (by show c2 < W.heap.size; omega) (n1 hc.2.2.2.1) (n2 hc.2.2.2.1))
  have f1 : w4.frozen? ⟨c1, 0, none⟩ = W.frozen? ⟨c1, 0, none⟩ := World.frozen?_of_block (a := ⟨c1, 0, none⟩) (hab.keep c1 (by show c1 < W.heap.size; omega) (n1 hc.2.1) (n2 hc.2.1))
  have f2 : w4.frozen? ⟨c2, 0, none⟩ = W.frozen? ⟨c2, 0, none⟩ := World.frozen?_of_block (a := ⟨c2, 0, none⟩) (hab.keep c2 (by show c2 < W.heap.size; omega) (n1 hc.2.2.2.1) (n2 hc.2.2.2.1))
  have d1 : W'.cell? ⟨c1, 0, none⟩ = some (.slice (some ⟨g1, 0, none⟩) (ps.length + 1) cap1) := by
    rw [hW', World.cell?_setCell_other _ _ _ _ (by simp <;> omega)]
    exact World.cell?_setCell_same' _ _ _ (by rw [q1, r1]; rfl)
  have d2 : W'.cell? ⟨c2, 0, none⟩ = some (.slice (some ⟨g2, 0, none⟩) (ps.length + 1) cap2) := by
    rw [hW']
    exact World.cell?_setCell_same' _ _ _ (by rw [World.cell?_setCell_other _ _ _ _ (by simp <;> omega), q2, r2]; rfl)
  have el : (ps ++ [x]).length = ps.length + 1 := by simp
  have row : ∀ {e : TypeId} {sz n : Nat} {v : Value} {l : List Value}, w4.ownsRow R e sz v n l → W'.ownsRow R e sz v n l := fun ho => by
    refine ⟨ho.1, ?_⟩
    rcases ho.2 with e | ⟨g, cap', cur, e1, e2, e3, e4⟩
    · exact .inl e
    · exact .inr ⟨g, cap', cur, e1, e2, (hfar g (by omega) (by omega)).trans e3, e4⟩
  rw [← hW']
  refine ⟨⟨by omega, fun k o hk ho => ?_⟩, ⟨by omega, fun i o hi ho h1 h2 h3 h4 => ?_, ?_, ?_⟩, ⟨hc, ⟨some ⟨g1, 0, none⟩, cap1, some ⟨g2, 0, none⟩, cap2, by rw [el]; exact d1, by rw [el]; exact d2, by rw [el, pC_snoc]; exact row hab.a, by rw [el, dC_snoc]; exact row hab.b, by rw [el]; exact hab.dis⟩, ⟨?_, ?_⟩, by omega, ?_⟩⟩
  · rw [hkeep k (lt_of_block hk) (fun e => by subst e; have := cells_of r1 hk; rw [ho] at this; cases this) (fun e => by subst e; have := cells_of r2 hk; rw [ho] at this; cases this)
      (fun e => by have := own_cells o1 k o e hk; rw [ho] at this; cases this) (fun e => by have := own_cells o2 k o e hk; rw [ho] at this; cases this)]
    exact hk
  · rw [hkeep i (lt_of_block hi) h1 h2 (by rw [← ob_eq r1]; exact h3) (by rw [← ob_eq r2]; exact h4)]
    exact hi
  · rw [ob_eq d1, ob_eq r1]
    exact hab.ao
  · rw [ob_eq d2, ob_eq r2]
    exact hab.bo
  · rw [hW', World.frozen?_setCell, World.frozen?_setCell, f1]; exact h.f.1
  · rw [hW', World.frozen?_setCell, World.frozen?_setCell, f2]; exact h.f.2
  · refine ⟨?_, ?_, ?_, by have := h.bw.size; omega, fun i hi => ?_⟩
    · rw [hW']; exact hab.io.1.trans h.bw.os
    · rw [hW']; exact hab.io.2.1.trans h.bw.tape
    · rw [hW']; exact hab.io.2.2.trans h.bw.output
    · rw [hkeep i (by omega) (by omega) (by omega) (n1 (by omega)) (n2 (by omega))]
      exact h.bw.block i hi
end Go.Proofs.Ytcchmkpodfjhcaa
