/-
  An argument that is a histogram, opened.
-/
import Derived.Test.YtmaehcecilnglaaLw
import Derived.Test.YtmaehcecilnglaaHE
import Derived.OpenShut
namespace Go.Proofs.Ytmaehcecilnglaa
open Go.ChangeShapes Go.WideShapes Go.ChangeAt Go.RowKit
set_option linter.unusedVariables false

theorem cells_arr : Try.prog.cellsOf 22 = 54 := by kernel_rfl
def numOf : Value → Int
  | .int _ n => n
  | _ => 0
set_option maxRecDepth 100000 in
theorem open_hist {H : Type} {enc : TypeId × Value → H} {w : World} {base b0 : Nat} {spare : Nat → Bool} {held : Bool} {r : Reach} {v : Value} {d : DataW H} {p : List MemPlace}
    (hv : Value.okWide Try.prog w r b0 24 v) (h : DataW.Trod enc Try.prog w base spare held 24 v d p) : ∃ V : List Int, V.length = 54 ∧ v = .agg (hC V) := by
  obtain ⟨cs, rfl, hsz⟩ := okWide_struct Try.underlying24 hv
  obtain ⟨fuel, hf⟩ := h
  have hf' : DataW.trod enc Try.prog w base spare held fuel 24 cs.toList = some (d, p) := by simpa [Value.cells] using hf
  have hu : Try.prog.underlying 24 = some (.struct (Try.prog.fieldsOf 24)) := by kernel_rfl
  obtain ⟨xs, m, rfl, _, hlen, hxl, hel⟩ := DataW.trod_struct hu hf'
  have hF := fields_hist
  have hc : Try.prog.cellsOf 24 = 54 := by kernel_rfl
  generalize Try.prog.fieldsOf 24 = fs at hF hxl hel hu
  cases hfs : fs.toList with
  | nil => rw [hfs] at hF; simp at hF
  | cons f r =>
    rw [hfs] at hF
    simp only [List.map_cons, List.cons.injEq, Prod.mk.injEq, List.map_eq_nil_iff] at hF
    obtain ⟨⟨_, h2, h3⟩, h4⟩ := hF
    have h0 : fs[0]? = some f := by rw [← Array.getElem?_toList, hfs]; rfl
    have hl1 : fs.size = 1 := by rw [← Array.length_toList, hfs, h4]; rfl
    have e0 := hel 0 f h0
    rw [h2, h3, cells_arr] at e0
    have hx0 : xs[0]? = some xs[0] := List.getElem?_eq_getElem (by omega)
    rw [hx0, List.drop_zero, List.take_of_length_le (by rw [hlen, hc]; exact Nat.le_refl _)] at e0
    obtain ⟨ys, m2, rfl, _, hl2, hyl, hey⟩ := DataW.trod_array Try.underlying22 e0
    rw [cells_arr] at hl2
    refine ⟨cs.toList.map numOf, by simpa using hl2, ?_⟩
    have : cs = hC (cs.toList.map numOf) := by
      apply Array.ext (by simp [hC])
      intro i h1 h2'
      have hi : i < 54 := by simp at hl2; omega
      have hy := hey i hi
      have hy0 : ys[i]? = some ys[i] := List.getElem?_eq_getElem (by omega)
      rw [hy0, cells_int, Nat.mul_one] at hy
      obtain ⟨n, hn, _⟩ := DataW.trod_int Try.underlying2 hy
      have : cs.toList[i]? = some (.int .i64 n) := by
        have := congrArg (·[0]?) hn
        simpa using this
      have h5 : cs[i] = .int .i64 n := by
        rw [Array.getElem?_toList, Array.getElem?_eq_getElem h1] at this
        exact Option.some.inj this
      simp [hC, h5, numOf]
    rw [← this]
end Go.Proofs.Ytmaehcecilnglaa
