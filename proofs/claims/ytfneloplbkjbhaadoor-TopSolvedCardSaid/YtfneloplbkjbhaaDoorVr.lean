/-
  Slices of records of four numbers (threads, lines, loads) as lists.
-/
import Derived.Test.YtfneloplbkjbhaaDoorVi
import Derived.Test.YtfneloplbkjbhaaDoorLw
import Derived.Deep.Slices
namespace Go.Proofs.YtfneloplbkjbhaaDoor
open Go.ChangeShapes Go.WideShapes Go.RowKit
set_option linter.unusedVariables false

structure Q4 where
  a : Int
  b : Int
  c : Int
  d : Int
instance : Inhabited Q4 := ⟨⟨0, 0, 0, 0⟩⟩
def Q4.cells (q : Q4) : List Value := [.int .i64 q.a, .int .i64 q.b, .int .i64 q.c, .int .i64 q.d]
def Q4.wf (q : Q4) : Prop := (Lit.int .i64 q.a).wf = true ∧ (Lit.int .i64 q.b).wf = true ∧ (Lit.int .i64 q.c).wf = true ∧ (Lit.int .i64 q.d).wf = true
theorem Q4.eta (q : Q4) : q = ⟨q.a, q.b, q.c, q.d⟩ := rfl

/-- The slice at A reads as xs, whose cells lie in a block below B. -/
def R4 (w : World) (B : Nat) (A : Option Addr) (xs : List Q4) : Prop :=
  0 < xs.length → ∃ b off, A = some ⟨b, off, none⟩ ∧ b < B ∧ ∀ j x, xs[j]? = some x → w.cell? ⟨b, off + j * 4, none⟩ = some (.int .i64 x.a) ∧ w.cell? ⟨b, off + j * 4 + 1, none⟩ = some (.int .i64 x.b) ∧ w.cell? ⟨b, off + j * 4 + 2, none⟩ = some (.int .i64 x.c) ∧ w.cell? ⟨b, off + j * 4 + 3, none⟩ = some (.int .i64 x.d)

theorem R4.below {w w' : World} {B : Nat} {A : Option Addr} {xs : List Q4} (h : R4 w B A xs) (hb : Below B w w') : R4 w' B A xs := fun h0 => by
  obtain ⟨b, off, e, hlt, hc⟩ := h h0
  refine ⟨b, off, e, hlt, fun j x hj => ?_⟩
  obtain ⟨h1, h2, h3, h4⟩ := hc j x hj
  exact ⟨(hb.cell (p := ⟨b, off + j * 4, none⟩) hlt).trans h1, (hb.cell (p := ⟨b, off + j * 4 + 1, none⟩) hlt).trans h2, (hb.cell (p := ⟨b, off + j * 4 + 2, none⟩) hlt).trans h3, (hb.cell (p := ⟨b, off + j * 4 + 3, none⟩) hlt).trans h4⟩
theorem R4.mono {w : World} {B B' : Nat} {A : Option Addr} {xs : List Q4} (h : R4 w B A xs) (hB : B ≤ B') : R4 w B' A xs := fun h0 => by
  obtain ⟨b, off, e, hlt, hc⟩ := h h0
  exact ⟨b, off, e, by omega, hc⟩
theorem R4.nil (w : World) (B : Nat) (A : Option Addr) : R4 w B A [] := fun h => by simp at h

theorem cells4_at : ∀ (xs : List Q4) (j o : Nat) (x : Q4), xs[j]? = some x → o < 4 → (xs.flatMap Q4.cells)[j * 4 + o]? = x.cells[o]?
  | [], j, o, x, h, _ => by simp at h
  | y :: r, 0, o, x, h, ho => by
    simp only [List.getElem?_cons_zero, Option.some.injEq] at h
    subst h
    rw [List.flatMap_cons, Nat.zero_mul, Nat.zero_add, List.getElem?_append_left (by simpa [Q4.cells] using ho)]
  | y :: r, j + 1, o, x, h, ho => by
    rw [List.flatMap_cons, List.getElem?_append_right (by simp [Q4.cells]; omega)]
    have := cells4_at r j o x (by simpa using h) ho
    rw [← this]
    congr 1
    simp [Q4.cells]; omega
theorem cells4_length (xs : List Q4) : (xs.flatMap Q4.cells).length = xs.length * 4 := by
  induction xs with
  | nil => rfl
  | cons x r ih => rw [List.flatMap_cons, List.length_append, ih]; simp [Q4.cells]; omega

theorem R4.of_cells {w : World} {b off : Nat} {B : Nat} {xs : List Q4} (hb : b < B) (h : ∀ i v, (xs.flatMap Q4.cells)[i]? = some v → w.cell? ⟨b, off + i, none⟩ = some v) : R4 w B (some ⟨b, off, none⟩) xs := fun _ => by
  refine ⟨b, off, rfl, hb, fun j x hj => ⟨?_, ?_, ?_, ?_⟩⟩
  · exact h (j * 4) _ (cells4_at xs j 0 x hj (by omega))
  · exact h (j * 4 + 1) _ (cells4_at xs j 1 x hj (by omega))
  · exact h (j * 4 + 2) _ (cells4_at xs j 2 x hj (by omega))
  · exact h (j * 4 + 3) _ (cells4_at xs j 3 x hj (by omega))

theorem R4.of_own {w : World} {base : Nat} {e : TypeId} {A : Option Addr} {n c : Nat} {xs : List Q4} (h : w.ownsRow base e 4 (.slice A n c) n (xs.flatMap Q4.cells)) : n = xs.length ∧ R4 w w.heap.size A xs := by
  have hl := h.1
  rw [cells4_length] at hl
  refine ⟨by omega, fun h0 => ?_⟩
  obtain ⟨g, cap, hv, _, hlt⟩ := h.form (by omega)
  have hA : A = some ⟨g, 0, none⟩ := by injection hv
  subst hA
  exact R4.of_cells hlt (fun i v hi => by
    have := h.cells (g := g) rfl i v hi
    rwa [add_at] at this) h0

theorem r4_new (w : World) (xs : List Q4) (T : TypeId) (fr : Nat × Nat) : R4 (w.alloc (.cells (xs.flatMap Q4.cells).toArray T fr)) (w.alloc (.cells (xs.flatMap Q4.cells).toArray T fr)).heap.size (some ⟨w.heap.size, 0, none⟩) xs :=
  R4.of_cells (by simp) fun i v hi => by
    rw [cell_of_row _ w.heap.size (0 + i) _ T fr (heap_alloc_new w _)]
    simpa using hi

theorem dropR_cons {xs : List Q4} {k : Nat} {x : Q4} (h : xs[k]? = some x) : xs.drop k = x :: xs.drop (k + 1) := by
  obtain ⟨hk, e⟩ := List.getElem?_eq_some_iff.1 h
  rw [List.drop_eq_getElem_cons hk, e]
theorem some_at {xs : List Q4} {k : Nat} (h : k < xs.length) : ∃ x, xs[k]? = some x := ⟨xs[k], List.getElem?_eq_getElem h⟩

section
variable {H : Type} {enc : TypeId × Value → H} {P : Program} {w : World} {base : Nat} {spare : Nat → Bool} {held : Bool}
/-- A slice of records of four int64 or int. -/
theorem open_r4 {r : Reach} {b0 : Nat} {t e : TypeId} {v : Value} {d : DataW H} {p : List MemPlace} (n : Nat) (ht : P.underlying t = some (.slice e)) (hl : leaves P n e = some [some .i64, some .i64, some .i64, some .i64]) (hc : P.cellsOf e = 4)
    (hv : Value.okWide P w r b0 t v) (h : DataW.Trod enc P w base spare held t v d p) : ∃ (A : Option Addr) (xs : List Q4) (cap : Nat), v = .slice A xs.length cap ∧ R4 w w.heap.size A xs ∧ xs.length ≤ 9223372036854775807 ∧ ∀ x ∈ xs, x.wf := by
  obtain ⟨a0, l0, c0, rfl⟩ := okWide_slice ht hv
  obtain ⟨fuel, hf⟩ := h
  have hf' : DataW.trod enc P w base spare held fuel t [.slice a0 l0 c0] = some (d, p) := hf
  rcases Go.Deep.open_slice ht hf' with ⟨h1, _⟩ | ⟨a, len, cap, m, n', D, Pl, h1, hb, hle, hmax, hm, _, hx⟩
  · simp only [List.cons.injEq, and_true] at h1
    rw [h1]
    exact ⟨none, [], 0, rfl, R4.nil _ _ _, by simp, by simp⟩
  · simp only [List.cons.injEq, and_true] at h1
    rw [h1]
    have hlm : len ≤ m := by rw [hm]; split <;> omega
    have each : ∀ i, i < len → ∃ q : Q4, q.wf ∧ w.cell? (a.add (i * 4)) = some (.int .i64 q.a) ∧ w.cell? (a.add (i * 4 + 1)) = some (.int .i64 q.b) ∧ w.cell? (a.add (i * 4 + 2)) = some (.int .i64 q.c) ∧ w.cell? (a.add (i * 4 + 3)) = some (.int .i64 q.d) := by
      intro i hi
      obtain ⟨cs, hcs, ht'⟩ := hx i (by omega)
      rw [hc] at hcs
      obtain ⟨q1, _, rfl, w1, q2, _, rfl, w2, q3, _, rfl, w3, q4, _, rfl, w4, rfl⟩ := leafy_of_trod n e _ n' cs _ hl ht'
      obtain ⟨_, _, hcell⟩ := World.cells?_some hcs
      refine ⟨⟨q1, q2, q3, q4⟩, ⟨w1, w2, w3, w4⟩, ?_, ?_, ?_, ?_⟩
      · have := hcell 0 (by omega); rw [Go.Deep.add_add] at this; simpa using this
      · have := hcell 1 (by omega); rw [Go.Deep.add_add] at this; simpa using this
      · have := hcell 2 (by omega); rw [Go.Deep.add_add] at this; simpa using this
      · have := hcell 3 (by omega); rw [Go.Deep.add_add] at this; simpa using this
    obtain ⟨f, hfq⟩ := Go.Deep.choose_lt (α := Q4) (p := fun i q => q.wf ∧ w.cell? (a.add (i * 4)) = some (.int .i64 q.a) ∧ w.cell? (a.add (i * 4 + 1)) = some (.int .i64 q.b) ∧ w.cell? (a.add (i * 4 + 2)) = some (.int .i64 q.c) ∧ w.cell? (a.add (i * 4 + 3)) = some (.int .i64 q.d)) each
    refine ⟨some a, (List.range len).map f, cap, by simp, fun h0 => ?_, by simp; unfold maxLen at hmax; omega, fun x hx => ?_⟩
    · simp only [List.length_map, List.length_range] at h0
      obtain ⟨hlt, ha⟩ := cell_some_lt (hfq 0 h0).2.1
      have e0 : a.add (0 * 4) = a := by simp [Addr.add]
      rw [e0] at hlt ha
      refine ⟨a.block, a.off, by rw [← ha], hlt, fun j x hj => ?_⟩
      obtain ⟨hj', e⟩ := List.getElem?_eq_some_iff.1 hj
      simp only [List.length_map, List.length_range] at hj'
      simp only [List.getElem_map, List.getElem_range] at e
      subst e
      obtain ⟨_, c1, c2, c3, c4⟩ := hfq j hj'
      have g : ∀ o, a.add o = ⟨a.block, a.off + o, none⟩ := fun o => by
        have h2 := add_at a.block a.off o
        rw [← ha] at h2
        exact h2
      rw [g] at c1 c2 c3 c4
      exact ⟨c1, c2, c3, c4⟩
    · simp only [List.mem_map, List.mem_range] at hx
      obtain ⟨i, hi, rfl⟩ := hx
      exact (hfq i hi).1
end
end Go.Proofs.YtfneloplbkjbhaaDoor
