/-
  The reference queue as a value: rows of ids with their priorities.
-/
import Derived.Test.YtcchmkpodfjhcaaQB
import Derived.Test.YtcchmkpodfjhcaaApp1
namespace Go.Proofs.Ytcchmkpodfjhcaa
open Go.RowKit
set_option linter.unusedVariables false
def qcells (y : Int × Nat) : List Value := [.int .i64 y.1, .int .i64 (y.2 : Int)]
/-- The slice at A reads as Q, whose cells lie from the block hi on. -/
def RQ (w : World) (hi : Nat) (A : Option Addr) (Q : QL) : Prop :=
  0 < Q.length → ∃ b off, A = some ⟨b, off, none⟩ ∧ hi ≤ b ∧ b < w.heap.size ∧ ∀ j y, Q[j]? = some y → w.cell? ⟨b, off + j * 2, none⟩ = some (.int .i64 y.1) ∧ w.cell? ⟨b, off + j * 2 + 1, none⟩ = some (.int .i64 (y.2 : Int))
theorem RQ.blocks {w w' : World} {hi : Nat} {A : Option Addr} {Q : QL} (h : RQ w hi A Q) (hs : w.heap.size ≤ w'.heap.size) (hb : ∀ i, hi ≤ i → i < w.heap.size → w'.heap[i]? = w.heap[i]?) : RQ w' hi A Q := fun h0 => by
  obtain ⟨b, off, e, h1, h2, hc⟩ := h h0
  refine ⟨b, off, e, h1, Nat.lt_of_lt_of_le h2 hs, fun j y hj => ?_⟩
  obtain ⟨q1, q2⟩ := hc j y hj
  exact ⟨(World.cell?_of_block (a := ⟨b, off + j * 2, none⟩) (hb b h1 h2)).trans q1, (World.cell?_of_block (a := ⟨b, off + j * 2 + 1, none⟩) (hb b h1 h2)).trans q2⟩
theorem RQ.below {w w' : World} {hi : Nat} {A : Option Addr} {Q : QL} (h : RQ w hi A Q) (hb : Below w.heap.size w w') : RQ w' hi A Q := h.blocks hb.size fun i _ hi => hb.block i hi
theorem RQ.kp {w w' : World} {lo hi : Nat} {A : Option Addr} {Q : QL} (h : RQ w hi A Q) (hk : Kp lo hi w w') : RQ w' hi A Q := h.blocks hk.size fun i h1 h2 => hk.block i h2 (.inr h1)
theorem RQ.mono {w : World} {hi hi' : Nat} {A : Option Addr} {Q : QL} (h : RQ w hi A Q) (hh : hi' ≤ hi) : RQ w hi' A Q := fun h0 => by
  obtain ⟨b, off, e, h1, h2⟩ := h h0
  exact ⟨b, off, e, Nat.le_trans hh h1, h2⟩
theorem RQ.nil (w : World) (hi : Nat) (A : Option Addr) : RQ w hi A [] := fun h => by simp at h
theorem cells2_at : ∀ (Q : QL) (j o : Nat) (y : Int × Nat), Q[j]? = some y → o < 2 → (Q.flatMap qcells)[j * 2 + o]? = (qcells y)[o]?
  | [], j, o, x, h, _ => by simp at h
  | y :: r, 0, o, x, h, ho => by
    simp only [List.getElem?_cons_zero, Option.some.injEq] at h
    subst h
    rw [List.flatMap_cons, Nat.zero_mul, Nat.zero_add, List.getElem?_append_left (by simpa [qcells] using ho)]
  | y :: r, j + 1, o, x, h, ho => by
    rw [List.flatMap_cons, List.getElem?_append_right (by simp [qcells]; omega)]
    have := cells2_at r j o x (by simpa using h) ho
    rw [← this]
    congr 1
    simp [qcells]; omega
theorem cells2_length (Q : QL) : (Q.flatMap qcells).length = Q.length * 2 := by
  induction Q with
  | nil => rfl
  | cons x r ih => rw [List.flatMap_cons, List.length_append, ih]; simp [qcells]; omega
theorem cells2_of : ∀ (Q : QL) (i : Nat) (v : Value), (Q.flatMap qcells)[i]? = some v → ∃ j y, Q[j]? = some y ∧ ((i = j * 2 ∧ v = .int .i64 y.1) ∨ (i = j * 2 + 1 ∧ v = .int .i64 (y.2 : Int)))
  | [], i, v, h => by simp at h
  | y :: r, 0, v, h => ⟨0, y, rfl, .inl ⟨rfl, by simpa [qcells] using h.symm⟩⟩
  | y :: r, 1, v, h => ⟨0, y, rfl, .inr ⟨rfl, by simpa [qcells] using h.symm⟩⟩
  | y :: r, i + 2, v, h => by
    rw [List.flatMap_cons, List.getElem?_append_right (by simp [qcells])] at h
    obtain ⟨j, x, h1, h2⟩ := cells2_of r i v (by simpa [qcells] using h)
    exact ⟨j + 1, x, by simpa using h1, by
      rcases h2 with ⟨rfl, e⟩ | ⟨rfl, e⟩
      · exact .inl ⟨by omega, e⟩
      · exact .inr ⟨by omega, e⟩⟩
theorem RQ.of_own {w : World} {hi base : Nat} {A : Option Addr} {n c : Nat} {Q : QL} (h : w.ownsRow base 77 2 (.slice A n c) n (Q.flatMap qcells)) (hh : hi ≤ base) : RQ w hi A Q := fun h0 => by
  have hl := h.1
  rw [cells2_length] at hl
  obtain ⟨g, cap, hv, hg, hlt⟩ := h.form (by omega)
  have hA : A = some ⟨g, 0, none⟩ := by injection hv
  subst hA
  refine ⟨g, 0, rfl, Nat.le_trans hh hg, hlt, fun j y hj => ⟨?_, ?_⟩⟩
  · have := h.cells (g := g) rfl (j * 2) _ ((cells2_at Q j 0 y hj (by omega)).trans rfl)
    rw [show (⟨g, 0 + j * 2, none⟩ : Addr) = (⟨g, 0, none⟩ : Addr).add (j * 2) from by unfold Addr.add; split <;> simp_all]
    exact this
  · have := h.cells (g := g) rfl (j * 2 + 1) _ ((cells2_at Q j 1 y hj (by omega)).trans rfl)
    rw [show (⟨g, 0 + j * 2 + 1, none⟩ : Addr) = (⟨g, 0, none⟩ : Addr).add (j * 2 + 1) from by unfold Addr.add; split <;> simp_all <;> omega]
    exact this
/-- A reference queue as a value. -/
structure RefQ (w : World) (hi n : Nat) (Q : QL) (v : Value) : Prop where
  of : ∃ A c, v = .agg #[.int .i64 (n : Int), .slice A Q.length c] ∧ RQ w hi A Q ∧ (A = none → c = 0)
  len : Q.length ≤ 4096
  nb : n ≤ 4096
theorem RefQ.blocks {w w' : World} {hi n : Nat} {Q : QL} {v : Value} (h : RefQ w hi n Q v) (hs : w.heap.size ≤ w'.heap.size) (hb : ∀ i, hi ≤ i → i < w.heap.size → w'.heap[i]? = w.heap[i]?) : RefQ w' hi n Q v := by
  obtain ⟨⟨A, c, e, h1, h2⟩, h3, h4⟩ := h
  exact ⟨⟨A, c, e, h1.blocks hs hb, h2⟩, h3, h4⟩
theorem RefQ.below {w w' : World} {hi n : Nat} {Q : QL} {v : Value} (h : RefQ w hi n Q v) (hb : Below w.heap.size w w') : RefQ w' hi n Q v := h.blocks hb.size fun i _ hi => hb.block i hi
theorem RefQ.kp {w w' : World} {lo hi n : Nat} {Q : QL} {v : Value} (h : RefQ w hi n Q v) (hk : Kp lo hi w w') : RefQ w' hi n Q v := h.blocks hk.size fun i h1 h2 => hk.block i h2 (.inr h1)
theorem rprio_any (k : Int) (w : World) :
    Calls Try.prog 84 #[.int .i64 k] w fun e w' => e = .returned (.bool (decide (0 ≤ k ∧ k < 64))) ∧ w = w' := by
  by_cases h1 : 0 ≤ k
  · by_cases h2 : k ≤ 63
    · rw [decide_eq_true ⟨h1, by omega⟩]
      go_enter Try.func84, Try.ntmps84
      go_wp2
      go_ret
      exact ⟨rfl, rfl⟩
    · rw [decide_eq_false (by omega)]
      go_enter Try.func84, Try.ntmps84
      go_wp2
      go_ret
      exact ⟨rfl, rfl⟩
  · rw [decide_eq_false (by omega)]
    go_enter Try.func84, Try.ntmps84
    go_wp2
    go_ret
    exact ⟨rfl, rfl⟩
theorem results_one {fn : Func} {p u : Tmp} (h : fn.results = #[.cell p 77, .tmp u]) (tmps : Array Value) (w : World) (g : Nat) (v0 v1 vu : Value)
    (hp : tmps.getD p undef = .pointer (some ⟨g, 0, none⟩)) (hu : tmps.getD u undef = vu) (c0 : w.cell? ⟨g, 0, none⟩ = some v0) (c1 : w.cell? ⟨g, 1, none⟩ = some v1) :
    (results fn tmps).run Try.prog w = .ok (.tuple #[.agg #[v0, v1], vu]) w := by
  have e : (results fn tmps).run Try.prog w = ((asAddr (tmps.getD p undef)).run Try.prog w).andThen fun a w₁ => ((loadVar 77 a).run Try.prog w₁).andThen fun v w₂ => .ok (.tuple #[v, tmps.getD u undef]) w₂ := by
    simp only [results, h]
    simp [Sem.run_bind, Result.andThen]
  rw [e, hp, hu]
  go_simp
theorem results_que {fn : Func} {p u : Tmp} (h : fn.results = #[.cell p 69, .tmp u]) (tmps : Array Value) (w : World) (g : Nat) (v0 v1 vu : Value)
    (hp : tmps.getD p undef = .pointer (some ⟨g, 0, none⟩)) (hu : tmps.getD u undef = vu) (c0 : w.cell? ⟨g, 0, none⟩ = some v0) (c1 : w.cell? ⟨g, 1, none⟩ = some v1) :
    (results fn tmps).run Try.prog w = .ok (.tuple #[.agg #[v0, v1], vu]) w := by
  have e : (results fn tmps).run Try.prog w = ((asAddr (tmps.getD p undef)).run Try.prog w).andThen fun a w₁ => ((loadVar 69 a).run Try.prog w₁).andThen fun v w₂ => .ok (.tuple #[v, tmps.getD u undef]) w₂ := by
    simp only [results, h]
    simp [Sem.run_bind, Result.andThen]
  rw [e, hp, hu]
  go_simp
theorem results_que1 {fn : Func} {p : Tmp} (h : fn.results = #[.cell p 69]) (tmps : Array Value) (w : World) (g : Nat) (v0 v1 : Value)
    (hp : tmps.getD p undef = .pointer (some ⟨g, 0, none⟩)) (c0 : w.cell? ⟨g, 0, none⟩ = some v0) (c1 : w.cell? ⟨g, 1, none⟩ = some v1) :
    (results fn tmps).run Try.prog w = .ok (.agg #[v0, v1]) w := by
  have e : (results fn tmps).run Try.prog w = ((asAddr (tmps.getD p undef)).run Try.prog w).andThen fun a w₁ => (loadVar 69 a).run Try.prog w₁ := by
    simp only [results, h]
    simp [Sem.run_bind, Result.andThen]
  rw [e, hp]
  go_simp
end Go.Proofs.Ytcchmkpodfjhcaa
