/-
  A slice's bytes are within the reach of the form.
-/
import Derived.Test.YtakkfgkogomjbaaDoorLw
import Derived.SizedLaws
import Derived.Deep.SlicePairs
namespace Go.Proofs.YtakkfgkogomjbaaDoor
open Go.ChangeShapes Go.WideShapes Go.ChangeAt Go.RowKit
set_option linter.unusedVariables false
variable {H : Type} {enc : TypeId × Value → H} {P : Program} {w : World} {base : Nat} {spare : Nat → Bool} {held : Bool}
/-- A slice's bytes are within the reach of the form. -/
theorem open_small {t e : TypeId} {A : Option Addr} {n c k : Nat} {d : DataW H} {p : List MemPlace} (ht : P.underlying t = some (.slice e)) (hb : P.bytesOf e = k)
    (h : DataW.Trod enc P w base spare held t (.slice A n c) d p) {ts : List TypeId} {ds : List (DataW H)} (hsz : (DataW.weightsEach P ts ds).all (· ≤ reachBytes) = true) (j : Nat) (htj : ts[j]? = some t) (hdj : ds[j]? = some d) : n * k ≤ 140737488351232 := by
  obtain ⟨fuel, hf⟩ := h
  have hf' : DataW.trod enc P w base spare held fuel t [.slice A n c] = some (d, p) := hf
  rcases Go.Deep.open_slice ht hf' with ⟨h1, _⟩ | ⟨a, len, cap, m, n', D, Pl, h1, _, _, _, _, hx, _⟩
  · simp only [List.cons.injEq, and_true, Value.slice.injEq] at h1
    rw [h1.2.1]; omega
  · simp only [List.cons.injEq, and_true, Value.slice.injEq] at h1
    simp only [Prod.mk.injEq] at hx
    rw [hx.1] at hdj
    have := sized_slice hsz htj hdj ht
    rw [hb] at this
    simp only [List.length_map, List.length_range, reachBytes, Nat.add_mul] at this
    rw [h1.2.1]
    omega
end Go.Proofs.YtakkfgkogomjbaaDoor
