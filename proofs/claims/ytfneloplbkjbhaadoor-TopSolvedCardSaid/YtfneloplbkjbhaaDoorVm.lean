/-
  Slices of marks (a time, a kind, who, a number) as lists.
-/
import Derived.Test.YtfneloplbkjbhaaDoorVi
import Derived.Test.YtfneloplbkjbhaaDoorLw
import Derived.Deep.Slices
namespace Go.Proofs.YtfneloplbkjbhaaDoor
open Go.ChangeShapes Go.WideShapes Go.RowKit
set_option linter.unusedVariables false

structure QM where
  a : Int
  b : Int
  c : Int
  d : Int
instance : Inhabited QM := ⟨⟨0, 0, 0, 0⟩⟩
def QM.cells (q : QM) : List Value := [.int .i64 q.a, .int .u8 q.b, .int .i64 q.c, .int .i64 q.d]
def QM.wf (q : QM) : Prop := (Lit.int .i64 q.a).wf = true ∧ (Lit.int .u8 q.b).wf = true ∧ (Lit.int .i64 q.c).wf = true ∧ (Lit.int .i64 q.d).wf = true
theorem QM.eta (q : QM) : q = ⟨q.a, q.b, q.c, q.d⟩ := rfl

/-- The slice at A reads as xs, whose cells lie in a block below B. -/
def RM (w : World) (B : Nat) (A : Option Addr) (xs : List QM) : Prop :=
  0 < xs.length → ∃ b off, A = some ⟨b, off, none⟩ ∧ b < B ∧ ∀ j x, xs[j]? = some x → w.cell? ⟨b, off + j * 4, none⟩ = some (.int .i64 x.a) ∧ w.cell? ⟨b, off + j * 4 + 1, none⟩ = some (.int .u8 x.b) ∧ w.cell? ⟨b, off + j * 4 + 2, none⟩ = some (.int .i64 x.c) ∧ w.cell? ⟨b, off + j * 4 + 3, none⟩ = some (.int .i64 x.d)

theorem RM.below {w w' : World} {B : Nat} {A : Option Addr} {xs : List QM} (h : RM w B A xs) (hb : Below B w w') : RM w' B A xs := fun h0 => by
  obtain ⟨b, off, e, hlt, hc⟩ := h h0
  refine ⟨b, off, e, hlt, fun j x hj => ?_⟩
  obtain ⟨h1, h2, h3, h4⟩ := hc j x hj
  exact ⟨(hb.cell (p := ⟨b, off + j * 4, none⟩) hlt).trans h1, (hb.cell (p := ⟨b, off + j * 4 + 1, none⟩) hlt).trans h2, (hb.cell (p := ⟨b, off + j * 4 + 2, none⟩) hlt).trans h3, (hb.cell (p := ⟨b, off + j * 4 + 3, none⟩) hlt).trans h4⟩
theorem RM.mono {w : World} {B B' : Nat} {A : Option Addr} {xs : List QM} (h : RM w B A xs) (hB : B ≤ B') : RM w B' A xs := fun h0 => by
  obtain ⟨b, off, e, hlt, hc⟩ := h h0
  exact ⟨b, off, e, by omega, hc⟩
theorem RM.nil (w : World) (B : Nat) (A : Option Addr) : RM w B A [] := fun h => by simp at h

theorem cellsM_at : ∀ (xs : List QM) (j o : Nat) (x : QM), xs[j]? = some x → o < 4 → (xs.flatMap QM.cells)[j * 4 + o]? = x.cells[o]?
  | [], j, o, x, h, _ => by simp at h
  | y :: r, 0, o, x, h, ho => by
    simp only [List.getElem?_cons_zero, Option.some.injEq] at h
    subst h
    rw [List.flatMap_cons, Nat.zero_mul, Nat.zero_add, List.getElem?_append_left (by simpa [QM.cells] using ho)]
  | y :: r, j + 1, o, x, h, ho => by
    rw [List.flatMap_cons, List.getElem?_append_right (by simp [QM.cells]; omega)]
    have := cellsM_at r j o x (by simpa using h) ho
    rw [← this]
    congr 1
    simp [QM.cells]; omega
theorem cellsM_length (xs : List QM) : (xs.flatMap QM.cells).length = xs.length * 4 := by
  induction xs with
  | nil => rfl
  | cons x r ih => rw [List.flatMap_cons, List.length_append, ih]; simp [QM.cells]; omega

theorem RM.of_cells {w : World} {b off : Nat} {B : Nat} {xs : List QM} (hb : b < B) (h : ∀ i v, (xs.flatMap QM.cells)[i]? = some v → w.cell? ⟨b, off + i, none⟩ = some v) : RM w B (some ⟨b, off, none⟩) xs := fun _ => by
  refine ⟨b, off, rfl, hb, fun j x hj => ⟨?_, ?_, ?_, ?_⟩⟩
  · exact h (j * 4) _ (cellsM_at xs j 0 x hj (by omega))
  · exact h (j * 4 + 1) _ (cellsM_at xs j 1 x hj (by omega))
  · exact h (j * 4 + 2) _ (cellsM_at xs j 2 x hj (by omega))
  · exact h (j * 4 + 3) _ (cellsM_at xs j 3 x hj (by omega))

theorem RM.of_own {w : World} {base : Nat} {e : TypeId} {A : Option Addr} {n c : Nat} {xs : List QM} (h : w.ownsRow base e 4 (.slice A n c) n (xs.flatMap QM.cells)) : n = xs.length ∧ RM w w.heap.size A xs := by
  have hl := h.1
  rw [cellsM_length] at hl
  refine ⟨by omega, fun h0 => ?_⟩
  obtain ⟨g, cap, hv, _, hlt⟩ := h.form (by omega)
  have hA : A = some ⟨g, 0, none⟩ := by injection hv
  subst hA
  exact RM.of_cells hlt (fun i v hi => by
    have := h.cells (g := g) rfl i v hi
    rwa [add_at] at this) h0

theorem rM_new (w : World) (xs : List QM) (T : TypeId) (fr : Nat × Nat) : RM (w.alloc (.cells (xs.flatMap QM.cells).toArray T fr)) (w.alloc (.cells (xs.flatMap QM.cells).toArray T fr)).heap.size (some ⟨w.heap.size, 0, none⟩) xs :=
  RM.of_cells (by simp) fun i v hi => by
    rw [cell_of_row _ w.heap.size (0 + i) _ T fr (heap_alloc_new w _)]
    simpa using hi

theorem dropM_cons {xs : List QM} {k : Nat} {x : QM} (h : xs[k]? = some x) : xs.drop k = x :: xs.drop (k + 1) := by
  obtain ⟨hk, e⟩ := List.getElem?_eq_some_iff.1 h
  rw [List.drop_eq_getElem_cons hk, e]
theorem some_atM {xs : List QM} {k : Nat} (h : k < xs.length) : ∃ x, xs[k]? = some x := ⟨xs[k], List.getElem?_eq_getElem h⟩

section
variable {H : Type} {enc : TypeId × Value → H} {P : Program} {w : World} {base : Nat} {spare : Nat → Bool} {held : Bool}
/-- A slice of marks. -/
theorem open_rM {r : Reach} {b0 : Nat} {t e : TypeId} {v : Value} {d : DataW H} {p : List MemPlace} (n : Nat) (ht : P.underlying t = some (.slice e)) (hl : leaves P n e = some [some .i64, some .u8, some .i64, some .i64]) (hc : P.cellsOf e = 4)
    (hv : Value.okWide P w r b0 t v) (h : DataW.Trod enc P w base spare held t v d p) : ∃ (A : Option Addr) (xs : List QM) (cap : Nat), v = .slice A xs.length cap ∧ RM w w.heap.size A xs ∧ xs.length ≤ 9223372036854775807 ∧ ∀ x ∈ xs, x.wf := by
  obtain ⟨a0, l0, c0, rfl⟩ := okWide_slice ht hv
  obtain ⟨fuel, hf⟩ := h
  have hf' : DataW.trod enc P w base spare held fuel t [.slice a0 l0 c0] = some (d, p) := hf
  rcases Go.Deep.open_slice ht hf' with ⟨h1, _⟩ | ⟨a, len, cap, m, n', D, Pl, h1, hb, hle, hmax, hm, _, hx⟩
  · simp only [List.cons.injEq, and_true] at h1
    rw [h1]
    exact ⟨none, [], 0, rfl, RM.nil _ _ _, by simp, by simp⟩
  · simp only [List.cons.injEq, and_true] at h1
    rw [h1]
    have hlm : len ≤ m := by rw [hm]; split <;> omega
    have each : ∀ i, i < len → ∃ q : QM, q.wf ∧ w.cell? (a.add (i * 4)) = some (.int .i64 q.a) ∧ w.cell? (a.add (i * 4 + 1)) = some (.int .u8 q.b) ∧ w.cell? (a.add (i * 4 + 2)) = some (.int .i64 q.c) ∧ w.cell? (a.add (i * 4 + 3)) = some (.int .i64 q.d) := by
      intro i hi
      obtain ⟨cs, hcs, ht'⟩ := hx i (by omega)
      rw [hc] at hcs
      obtain ⟨q1, _, rfl, w1, q2, _, rfl, w2, q3, _, rfl, w3, q4, _, rfl, w4, rfl⟩ := leafy_of_trod n e _ n' cs _ hl ht'
      obtain ⟨_, _, hcell⟩ := World.cells?_some hcs
      refine ⟨⟨q1, q2, q3, q4⟩, ⟨w1, w2, w3, w4⟩, ?_, ?_, ?_, ?_⟩
      · have := hcell 0 (by omega); rw [Go.Deep.add_add] at this; simpa using this
      · have := hcell 1 (by omega); rw [Go.Deep.add_add] at this; simpa using this
      · have := hcell 2 (by omega); rw [Go.Deep.add_add] at this; simpa using this
      · have := hcell 3 (by omega); rw [Go.Deep.add_add] at this; simpa using this
    obtain ⟨f, hfq⟩ := Go.Deep.choose_lt (α := QM) (p := fun i q => q.wf ∧ w.cell? (a.add (i * 4)) = some (.int .i64 q.a) ∧ w.cell? (a.add (i * 4 + 1)) = some (.int .u8 q.b) ∧ w.cell? (a.add (i * 4 + 2)) = some (.int .i64 q.c) ∧ w.cell? (a.add (i * 4 + 3)) = some (.int .i64 q.d)) each
    refine ⟨some a, (List.range len).map f, cap, by simp, fun h0 => ?_, by simp; unfold maxLen at hmax; omega, fun x hx => ?_⟩
    · simp only [List.length_map, List.length_range] at h0
      obtain ⟨hlt, ha⟩ := cell_some_lt (hfq 0 h0).2.1
      have e0 : a.add (0 * 4) = a := by simp [Addr.add]
      rw [e0] at hlt ha
      refine ⟨a.block, a.off, by rw [← ha], hlt, fun j x hj => ?_⟩
      obtain ⟨hj', e⟩ := List.getElem?_eq_some_iff.1 hj
      simp only [List.length_map, List.length_range] at hj'
      simp only [List.getElem_map, List.getElem_range] at e
      subst e
      obtain ⟨_, c1, c2, c3, c4⟩ := hfq j hj'
      have g : ∀ o, a.add o = ⟨a.block, a.off + o, none⟩ := fun o => by
        have h2 := add_at a.block a.off o
        rw [← ha] at h2
        exact h2
      rw [g] at c1 c2 c3 c4
      exact ⟨c1, c2, c3, c4⟩
    · simp only [List.mem_map, List.mem_range] at hx
      obtain ⟨i, hi, rfl⟩ := hx
      exact (hfq i hi).1
end
end Go.Proofs.YtfneloplbkjbhaaDoor
