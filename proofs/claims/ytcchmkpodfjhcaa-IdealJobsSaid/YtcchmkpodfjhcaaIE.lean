/-
  Right pieces' schedule at its end.
-/
import Derived.Test.YtcchmkpodfjhcaaID
import Derived.Test.YtcchmkpodfjhcaaM1
namespace Go.Proofs.Ytcchmkpodfjhcaa
open Go.RowKit
set_option linter.unusedVariables false
/-- Pieces that are right. -/
structure Rt (xs : List Q3) : Prop where
  ok : ∀ q ∈ xs, okP q
  len : xs.length ≤ 4096
theorem Rt.of {xs : List Q3} (h : chk xs = 0) : Rt xs := ⟨(chk_ok.1 h).2, (chk_ok.1 h).1⟩
theorem Rt.at {xs : List Q3} (h : Rt xs) {i : Nat} (hi : i < xs.length) : ∃ q, xs[i]? = some q ∧ okP q ∧ q.a = ((pcs xs).P i : Int) ∧ q.b = ((pcs xs).A i : Int) ∧ q.c = ((pcs xs).C i : Int) := by
  refine ⟨xs[i], List.getElem?_eq_getElem hi, h.ok _ (List.getElem_mem hi), ?_, ?_, ?_⟩ <;>
  · have h := h.ok _ (List.getElem_mem hi)
    have := h.a0
    have := h.b0
    have := h.c0
    unfold pcs
    simp only [List.getElem?_eq_getElem hi, Option.getD_some]
    omega
theorem Rt.P {xs : List Q3} (h : Rt xs) : ∀ i, i < (pcs xs).n → (pcs xs).P i < 64 := fun i hi => by
  obtain ⟨q, _, g1, g2, _, _⟩ := h.at hi
  have := g1.a1; omega
theorem Rt.A {xs : List Q3} (h : Rt xs) : ∀ i, i < (pcs xs).n → (pcs xs).A i ≤ 4503599627370496 := fun i hi => by
  obtain ⟨q, _, g1, _, g2, _⟩ := h.at hi
  have := g1.b1; omega
theorem Rt.C0 {xs : List Q3} (h : Rt xs) : ∀ i, i < (pcs xs).n → 0 < (pcs xs).C i := fun i hi => by
  obtain ⟨q, _, g1, _, _, g2⟩ := h.at hi
  have := g1.c0; omega
theorem Rt.C1 {xs : List Q3} (h : Rt xs) : ∀ i, i < (pcs xs).n → (pcs xs).C i ≤ 1099511627776 := fun i hi => by
  obtain ⟨q, _, g1, _, _, g2⟩ := h.at hi
  have := g1.c1; omega
theorem smE_mul {f : Nat → Nat} {c : Nat} : ∀ {n : Nat}, (∀ i, i < n → f i ≤ c) → sm f n ≤ n * c
  | 0, _ => Nat.zero_le _
  | n + 1, h => by
    have a := smE_mul (n := n) fun i hi => h i (by omega)
    have b := h n (by omega)
    rw [sm, Nat.succ_mul]; omega
theorem Rt.sum {xs : List Q3} (h : Rt xs) : sm (pcs xs).C (pcs xs).n ≤ 4503599627370496 := by
  have a := smE_mul h.C1
  have b := h.len
  have c : (pcs xs).n = xs.length := rfl
  have d : (pcs xs).n * 1099511627776 ≤ 4096 * 1099511627776 := Nat.mul_le_mul_right _ (by omega)
  omega
theorem Rt.now {xs : List Q3} (h : Rt xs) {st : Sch} (hs : SI (pcs xs) 4503599627370496 st) : st.now ≤ 9007199254740992 := by
  have := hs.bound
  have := h.sum
  omega
theorem Rt.ex {xs : List Q3} (h : Rt xs) : ∃ st, Goes (pcs xs) (sch0 (pcs xs)) st ∧ rstep (pcs xs) st = none :=
  ends_from h.A _ _ (SI.first h.C0 4503599627370496) (Nat.le_refl _)
open Classical in
/-- The schedule at its end. -/
noncomputable def sE (xs : List Q3) : Sch := if h : ∃ st, Goes (pcs xs) (sch0 (pcs xs)) st ∧ rstep (pcs xs) st = none then h.choose else sch0 (pcs xs)
theorem Rt.goes {xs : List Q3} (h : Rt xs) : Goes (pcs xs) (sch0 (pcs xs)) (sE xs) ∧ rstep (pcs xs) (sE xs) = none := by
  unfold sE
  rw [dif_pos h.ex]
  exact h.ex.choose_spec
theorem sE_eq {xs : List Q3} (h : Rt xs) {st : Sch} (h1 : Goes (pcs xs) (sch0 (pcs xs)) st) (h2 : rstep (pcs xs) st = none) : st = sE xs := h1.end h.goes.1 h2 h.goes.2
theorem Rt.si {xs : List Q3} (h : Rt xs) : SI (pcs xs) 4503599627370496 (sE xs) := h.goes.1.si h.A (SI.first h.C0 _)
theorem Rt.fr {xs : List Q3} (h : Rt xs) : Fr (pcs xs) (sE xs) := h.goes.1.fr (Fr.first _)
theorem Rt.ended {xs : List Q3} (h : Rt xs) : Ended (pcs xs) (sE xs) := h.si.ended h.C0 h.goes.2
/-- When pieces are done, as numbers. -/
noncomputable def dE (xs : List Q3) : List Int := (List.range xs.length).map fun i => ((sE xs).done i : Int)
theorem dE_len (xs : List Q3) : (dE xs).length = xs.length := by simp [dE]
theorem dE_at (xs : List Q3) {i : Nat} (hi : i < xs.length) : (dE xs)[i]? = some ((sE xs).done i : Int) := by simp [dE, hi]
/-- What run tells. -/
noncomputable def whyE (xs : List Q3) : Int := if chk xs ≠ 0 then 2 else if (dE xs).all timeP = true then 0 else 10
/-- What Finish tells. -/
noncomputable def finE (xs : List Q3) : List Int := if whyE xs = 0 then dE xs else []
theorem whyE_ok {xs : List Q3} : whyE xs = 0 ↔ chk xs = 0 ∧ (dE xs).all timeP = true := by
  unfold whyE
  split
  · exact ⟨fun h => (by cases h), fun h => absurd h.1 ‹_›⟩
  · rename_i h
    split
    · exact ⟨fun _ => ⟨by omega, ‹_›⟩, fun _ => rfl⟩
    · exact ⟨fun h => (by cases h), fun h => absurd h.2 ‹_›⟩
theorem whyE_chk {xs : List Q3} (h : chk xs ≠ 0) : whyE xs = 2 := by unfold whyE; rw [if_pos h]
theorem whyE_over {xs : List Q3} (h : chk xs = 0) (h2 : (dE xs).all timeP = false) : whyE xs = 10 := by unfold whyE; rw [if_neg (by omega), if_neg (by rw [h2]; decide)]
theorem whyE_fine {xs : List Q3} (h : chk xs = 0) (h2 : (dE xs).all timeP = true) : whyE xs = 0 := whyE_ok.2 ⟨h, h2⟩
/-- How long pieces wait. -/
def waitE (f : List Int) (xs : List Q3) : List Int := List.zipWith (fun (t : Int) (q : Q3) => t - q.b - q.c) f xs
theorem waitE_at {f : List Int} {xs : List Q3} {i : Nat} {t : Int} {q : Q3} (h1 : f[i]? = some t) (h2 : xs[i]? = some q) : (waitE f xs)[i]? = some (t - q.b - q.c) := by
  unfold waitE
  rw [List.getElem?_zipWith, h1, h2]
theorem waitE_len (f : List Int) (xs : List Q3) : (waitE f xs).length = min f.length xs.length := by simp [waitE]
/-- When a piece is done: between its time and what machines hold. -/
theorem Rt.done {xs : List Q3} (h : Rt xs) {i : Nat} (hi : i < xs.length) : (pcs xs).A i + (pcs xs).C i ≤ (sE xs).done i ∧ (sE xs).done i ≤ 9007199254740992 := by
  have he := h.ended
  refine ⟨(he.fin i hi).late.1, ?_⟩
  rcases he.ends with ⟨_, h0⟩ | ⟨b, f, t, hb, h1, _⟩
  · have : (pcs xs).n = xs.length := rfl
    omega
  · have h2 := h1 i hi
    rcases h.si.ends with ⟨e, _⟩ | ⟨b', f', t', e, ht, _⟩
    · rw [e] at hb; cases b <;> cases hb
    · rw [e] at hb
      have := (List.append_inj' hb rfl).2
      simp at this
      have := h.now h.si
      omega
/-- Runs a schedule for so many steps. -/
def runE (s : Pcs) : Nat → Sch → Sch
  | 0, st => st
  | m + 1, st => match rstep s st with
    | none => st
    | some st' => runE s m st'
theorem runE_goes (s : Pcs) : ∀ (m : Nat) (st : Sch), Goes s st (runE s m st)
  | 0, st => .refl _
  | m + 1, st => by
    unfold runE
    cases e : rstep s st with
    | none => exact .refl _
    | some st' => exact goes_trans (.step (.refl _) e) (runE_goes s m st')
end Go.Proofs.Ytcchmkpodfjhcaa
