/-
  What the rows' list of variables gives the walk, and a world that holds it.
-/
import Derived.Test.YtfneloplbkjbhaaDoorTM12
import Derived.Test.YtfneloplbkjbhaaDoorCards
import Derived.Test.YtfneloplbkjbhaaDoorTie
import Derived.WalkKit
import Derived.Deep.DeepHandedRow
import Derived.Deep.DeepLaidRun
import Derived.Stop.LaidErr
import Derived.Lib.LaidTab
namespace Go.Proofs.YtfneloplbkjbhaaDoor
open Go.ChangeShapes Go.WideShapes Go.ChangeAt Go.RowKit Go.Shelf
set_option linter.unusedVariables false
/-- An array of strings that reads as the listed words holds them, cell for cell. -/
theorem cells_of_words {H : Type} {enc : TypeId × Value → H} {P : Program} {w : World} {base : Nat} {sp : Nat → Bool} {held : Bool} {fuel : Nat} {t e : TypeId} {n : Nat} {cs : List Value} {zs : List (List UInt8)} {p : List MemPlace}
    (ht : P.underlying t = some (.array n e)) (he : P.underlying e = some .string) (hce : P.cellsOf e = 1) (hct : P.cellsOf t = n)
    (h : DataW.trod enc P w base sp held fuel t cs = some (.agg (zs.map fun z => .lit (.string z)), p)) : ∀ (i : Nat) (z : List UInt8), zs[i]? = some z → cs[i]? = some (.string (BA z)) := by
  cases fuel with
  | zero => simp [DataW.trod] at h
  | succ fuel =>
    simp only [DataW.trod, ht, hce, hct, Nat.mul_one] at h
    split at h
    · rename_i hl
      obtain ⟨xs, hm, hx⟩ := Option.map_eq_some_iff.1 h
      have hxs : xs.map (·.1) = zs.map fun z => (DataW.lit (.string z) : DataW H) := by
        have := congrArg Prod.fst hx
        simpa using this
      have hxl : xs.length = n := by simpa using Lib.mapM_length hm
      have hzl : zs.length = n := by
        have := congrArg List.length hxs
        simp at this
        omega
      intro i z hz
      have hi : i < n := by
        have := (List.getElem?_eq_some_iff.1 hz).1
        omega
      obtain ⟨b, hb, hf⟩ := Lib.mapM_at hm i i (by simp [hi])
      obtain ⟨s, hc, rfl, _⟩ := DataW.trod_string he hf
      have h1 : cs[i]? = some (.string s) := by
        have := congrArg (·[0]?) hc
        simpa [List.getElem?_take, List.getElem?_drop] using this
      have h2 : (xs.map (·.1))[i]? = some (DataW.lit (.string s.data.toList) : DataW H) := by simp [hb]
      rw [hxs] at h2
      simp only [List.getElem?_map, Option.map_eq_some_iff, DataW.lit.injEq, Lit.string.injEq] at h2
      obtain ⟨z', hz', e'⟩ := h2
      rw [hz] at hz'
      obtain rfl := Option.some.inj hz'
      rw [h1]
      subst e'
      rfl
    · cases h
theorem gPow : Tryd.prog.globalNamed "internal/strconv.uint64pow10" = some 2 := by kernel_rfl
theorem gPowType : (Tryd.prog.globals[2]?).map (·.type) = some 152 := by kernel_rfl
theorem cellsPow : Tryd.prog.cellsOf 152 = 20 := by kernel_rfl
theorem cellsU64 : Tryd.prog.cellsOf 92 = 1 := by kernel_rfl
theorem gWrd : Tryd.prog.globalNamed "verge/trace.words" = some 0 := by kernel_rfl
theorem gWrdType : (Tryd.prog.globals[0]?).map (·.type) = some 94 := by kernel_rfl
theorem cellsWrd : Tryd.prog.cellsOf 94 = 12 := by kernel_rfl
theorem cellsStr : Tryd.prog.cellsOf 9 = 1 := by kernel_rfl
theorem laid_plain {W : World} (h : laidMetH Tryd.prog Rows.topMarkedRow.laid W) : laidMet Tryd.prog Rows.topMarkedRow.laid W := h
theorem pow_of_laid {W : World} (h : laidMetH Tryd.prog Rows.topMarkedRow.laid W) : PowB W.heap.size W := by
  have h1 := (laid_plain h).tail.tail
  exact Lib.tabBelow_of_tabIs (Lib.tabIs_of_head gPow gPowType Tryd.underlying152 Tryd.underlying92 cellsU64 cellsPow h1)
theorem wrd_of_laid {W : World} (h : laidMetH Tryd.prog Rows.topMarkedRow.laid W) : Wrd W := by
  have h1 := (laid_plain h).tail.tail.tail.tail.tail.tail
  obtain ⟨ps, ⟨g', t', cs, fuel, p, q, hg', ht', hvar, hd, _, _⟩, _⟩ := h1
  obtain rfl := Option.some.inj (gWrd.symm.trans hg')
  obtain rfl := Option.some.inj (gWrdType.symm.trans ht')
  have hc := cells_of_words (zs := words) Tryd.underlying94 Tryd.underlying9 cellsStr cellsWrd hd
  intro k hk
  have h2 := World.var?_cell gWrd hvar k
  rw [h2]
  have h3 : words[k]? = some (wordL k) := by
    unfold wordL
    rw [List.getD_eq_getElem?_getD, List.getElem?_eq_getElem (show k < words.length from hk)]
    rfl
  have h4 := hc k _ h3
  simpa using h4
end Go.Proofs.YtfneloplbkjbhaaDoor
