/-
  The walks of the reference (vergeref05), part 2: First, Last, After, Around.
-/
import Derived.Test.YtakkfgkogomjbaaDoorB1
namespace Go.Proofs.YtakkfgkogomjbaaDoor
open Go.RowKit
set_option linter.unusedVariables false

def op2 (o : Option Int) : Ending := .returned (.tuple #[.int .i64 (o.getD 0), .bool o.isSome])
theorem find_drop {p : Int → Bool} {L : List Int} {k : Nat} {x : Int} (hx : L[k]? = some x) : (L.drop k).find? p = if p x = true then some x else (L.drop (k + 1)).find? p := by
  obtain ⟨h, e⟩ := List.getElem?_eq_some_iff.1 hx
  rw [List.drop_eq_getElem_cons h, e, List.find?_cons]
  split <;> simp_all
theorem lb_mem {k b : Nat} {x : Int} (h : x ∈ lb k b) : ∃ i : Nat, x = i ∧ i < k ∧ b.testBit i = true := by
  unfold lb at h
  obtain ⟨i, hi, rfl⟩ := List.mem_map.1 h
  have := List.mem_filter.1 hi
  exact ⟨i, rfl, by simpa using this.1, this.2⟩

def arO (n : Int) (L : List Int) : Option Int := (L.find? fun m => decide (n ≤ m)).or L.head?
end Go.Proofs.YtakkfgkogomjbaaDoor
