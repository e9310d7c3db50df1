/-
  The walks of the reference of package curve (vergeref22), part 4: Fits; and of vergeref13.Same.
-/
import Derived.Test.YtfneloplbkjbhaaDoorCur2
import Derived.Test.YtfneloplbkjbhaaDoorCur3
import Derived.Deep.RegionHeld3
import Derived.StillTailTactics
namespace Go.Proofs.YtfneloplbkjbhaaDoor
open Go.RowKit
set_option linter.unusedVariables false

/-- The arrival k is too near to one before it. -/
def badAt (p j a : Int) (xs : List Int) (k : Nat) : Prop := ∃ i, i < k ∧ xs[k]?.getD 0 - xs[i]?.getD 0 < gapV p j a ((k : Int) - i + 1)

/-- What the reference's search gives. -/
def FitRes (w : World) (p j a : Int) (xs : List Int) (e : Ending) (w' : World) : Prop :=
  Below w.heap.size w w' ∧ ∃ (r : Int) (E : Int), e = .returned (.tuple #[.int .i64 r, .int .i64 E]) ∧ E = fiE p j a xs ∧ (E ≠ 0 → r = 0) ∧
    (E = 0 → ∃ k : Nat, r = k ∧ k ≤ xs.length ∧ (∀ m, m < k → ¬ badAt p j a xs m) ∧ (k < xs.length → badAt p j a xs k))
theorem FitRes.dead {w w' : World} {p j a : Int} {xs : List Int} {E : Int} (hE : E = fiE p j a xs) (h0 : E ≠ 0) (hb : Below w.heap.size w w') : FitRes w p j a xs (.returned (.tuple #[.int .i64 0, .int .i64 E])) w' :=
  ⟨hb, 0, E, rfl, hE, fun _ => rfl, fun h => absurd h h0⟩
theorem FitRes.found {w w' : World} {p j a : Int} {xs : List Int} {k : Nat} (hE : fiE p j a xs = 0) (hb : Below w.heap.size w w') (hk : k ≤ xs.length) (h1 : ∀ m, m < k → ¬ badAt p j a xs m) (h2 : k < xs.length → badAt p j a xs k) :
    FitRes w p j a xs (.returned (.tuple #[.int .i64 (k : Int), .int .i64 0])) w' :=
  ⟨hb, k, 0, rfl, hE.symm, fun h => absurd rfl h, fun _ => ⟨k, rfl, hk, h1, h2⟩⟩

end Go.Proofs.YtfneloplbkjbhaaDoor
