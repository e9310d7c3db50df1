/-
  Slices of records of two numbers and a flag (what tasks lock) as lists.
-/
import Derived.Test.YtcchmkpodfjhcaaVi
import Derived.Test.YtcchmkpodfjhcaaLw
import Derived.Deep.Slices
namespace Go.Proofs.Ytcchmkpodfjhcaa
open Go.ChangeShapes Go.WideShapes Go.RowKit
set_option linter.unusedVariables false

structure QL3 where
  a : Int
  b : Int
  c : Bool
instance : Inhabited QL3 := ⟨⟨0, 0, false⟩⟩
def QL3.wf (q : QL3) : Prop := (Lit.int .i64 q.a).wf = true ∧ (Lit.int .i64 q.b).wf = true

/-- The slice at A reads as xs, whose cells lie in a block below B. -/
def RL3 (w : World) (B : Nat) (A : Option Addr) (xs : List QL3) : Prop :=
  0 < xs.length → ∃ b off, A = some ⟨b, off, none⟩ ∧ b < B ∧ ∀ j x, xs[j]? = some x → w.cell? ⟨b, off + j * 3, none⟩ = some (.int .i64 x.a) ∧ w.cell? ⟨b, off + j * 3 + 1, none⟩ = some (.int .i64 x.b) ∧ w.cell? ⟨b, off + j * 3 + 2, none⟩ = some (.bool x.c)
theorem RL3.below {w w' : World} {B : Nat} {A : Option Addr} {xs : List QL3} (h : RL3 w B A xs) (hb : Below B w w') : RL3 w' B A xs := fun h0 => by
  obtain ⟨b, off, e, hlt, hc⟩ := h h0
  refine ⟨b, off, e, hlt, fun j x hj => ?_⟩
  obtain ⟨h1, h2, h3⟩ := hc j x hj
  exact ⟨(hb.cell (p := ⟨b, off + j * 3, none⟩) hlt).trans h1, (hb.cell (p := ⟨b, off + j * 3 + 1, none⟩) hlt).trans h2, (hb.cell (p := ⟨b, off + j * 3 + 2, none⟩) hlt).trans h3⟩
theorem RL3.mono {w : World} {B B' : Nat} {A : Option Addr} {xs : List QL3} (h : RL3 w B A xs) (hB : B ≤ B') : RL3 w B' A xs := fun h0 => by
  obtain ⟨b, off, e, hlt, hc⟩ := h h0
  exact ⟨b, off, e, by omega, hc⟩
theorem RL3.nil (w : World) (B : Nat) (A : Option Addr) : RL3 w B A [] := fun h => by simp at h

theorem someL3_at {xs : List QL3} {k : Nat} (h : k < xs.length) : ∃ x, xs[k]? = some x := ⟨xs[k], List.getElem?_eq_getElem h⟩

section
variable {H : Type} {enc : TypeId × Value → H} {P : Program} {w : World} {base : Nat} {spare : Nat → Bool} {held : Bool}
/-- A slice of records of three numbers, and a flag. -/
theorem open_rl3 {r : Reach} {b0 : Nat} {t e : TypeId} {v : Value} {d : DataW H} {p : List MemPlace} (n : Nat) (ht : P.underlying t = some (.slice e)) (hl : leaves P n e = some [some .i64, some .i64, none]) (hc : P.cellsOf e = 3)
    (hv : Value.okWide P w r b0 t v) (h : DataW.Trod enc P w base spare held t v d p) : ∃ (A : Option Addr) (xs : List QL3) (cap : Nat), v = .slice A xs.length cap ∧ RL3 w w.heap.size A xs ∧ xs.length ≤ 9223372036854775807 ∧ ∀ x ∈ xs, x.wf := by
  obtain ⟨a0, l0, c0, rfl⟩ := okWide_slice ht hv
  obtain ⟨fuel, hf⟩ := h
  have hf' : DataW.trod enc P w base spare held fuel t [.slice a0 l0 c0] = some (d, p) := hf
  rcases Go.Deep.open_slice ht hf' with ⟨h1, _⟩ | ⟨a, len, cap, m, n', D, Pl, h1, hb, hle, hmax, hm, _, hx⟩
  · simp only [List.cons.injEq, and_true] at h1
    rw [h1]
    exact ⟨none, [], 0, rfl, RL3.nil _ _ _, by simp, by simp⟩
  · simp only [List.cons.injEq, and_true] at h1
    rw [h1]
    have hlm : len ≤ m := by rw [hm]; split <;> omega
    have each : ∀ i, i < len → ∃ q : QL3, q.wf ∧ w.cell? (a.add (i * 3)) = some (.int .i64 q.a) ∧ w.cell? (a.add (i * 3 + 1)) = some (.int .i64 q.b) ∧ w.cell? (a.add (i * 3 + 2)) = some (.bool q.c) := by
      intro i hi
      obtain ⟨cs, hcs, ht'⟩ := hx i (by omega)
      rw [hc] at hcs
      obtain ⟨q1, _, rfl, w1, q2, _, rfl, w2, q3, _, rfl, rfl⟩ := leafy_of_trod n e _ n' cs _ hl ht'
      obtain ⟨_, _, hcell⟩ := World.cells?_some hcs
      refine ⟨⟨q1, q2, q3⟩, ⟨w1, w2⟩, ?_, ?_, ?_⟩
      · have := hcell 0 (by omega); rw [Go.Deep.add_add] at this; simpa using this
      · have := hcell 1 (by omega); rw [Go.Deep.add_add] at this; simpa using this
      · have := hcell 2 (by omega); rw [Go.Deep.add_add] at this; simpa using this
    obtain ⟨f, hfq⟩ := Go.Deep.choose_lt (α := QL3) (p := fun i q => q.wf ∧ w.cell? (a.add (i * 3)) = some (.int .i64 q.a) ∧ w.cell? (a.add (i * 3 + 1)) = some (.int .i64 q.b) ∧ w.cell? (a.add (i * 3 + 2)) = some (.bool q.c)) each
    refine ⟨some a, (List.range len).map f, cap, by simp, fun h0 => ?_, by simp; unfold maxLen at hmax; omega, fun x hx => ?_⟩
    · simp only [List.length_map, List.length_range] at h0
      obtain ⟨hlt, ha⟩ := cell_some_lt (hfq 0 h0).2.1
      have e0 : a.add (0 * 3) = a := by simp [Addr.add]
      rw [e0] at hlt ha
      refine ⟨a.block, a.off, by rw [← ha], hlt, fun j x hj => ?_⟩
      obtain ⟨hj', e⟩ := List.getElem?_eq_some_iff.1 hj
      simp only [List.length_map, List.length_range] at hj'
      simp only [List.getElem_map, List.getElem_range] at e
      subst e
      obtain ⟨_, c1, c2, c3⟩ := hfq j hj'
      have g : ∀ o, a.add o = ⟨a.block, a.off + o, none⟩ := fun o => by
        have h2 := add_at a.block a.off o
        rw [← ha] at h2
        exact h2
      rw [g] at c1 c2 c3
      exact ⟨c1, c2, c3⟩
    · simp only [List.mem_map, List.mem_range] at hx
      obtain ⟨i, hi, rfl⟩ := hx
      exact (hfq i hi).1
end
end Go.Proofs.Ytcchmkpodfjhcaa
