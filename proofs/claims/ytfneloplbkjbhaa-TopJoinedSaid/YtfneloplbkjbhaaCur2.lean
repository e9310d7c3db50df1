/-
  The walks of package curve and of its reference (vergeref22), part 2: sorted, Fits, Dense.
-/
import Derived.Test.YtfneloplbkjbhaaCur
import Derived.Test.YtfneloplbkjbhaaVi
namespace Go.Proofs.Ytfneloplbkjbhaa
open Go.RowKit
set_option linter.unusedVariables false

/-- Times, none ahead of the one before. -/
def srt : Int → List Int → Bool
  | _, [] => true
  | a, x :: r => decide (a ≤ x) && timeB x && srt x r

theorem srt_at : ∀ (a : Int) (xs : List Int), srt a xs = true → ∀ j, j < xs.length → a ≤ xs[j]?.getD 0 ∧ 0 ≤ xs[j]?.getD 0 ∧ xs[j]?.getD 0 ≤ 4503599627370496
  | a, [], _, j, hj => by simp at hj
  | a, x :: r, h, j, hj => by
    simp only [srt, timeB, Bool.and_eq_true, decide_eq_true_eq] at h
    obtain ⟨⟨h1, h2⟩, h3⟩ := h
    cases j with
    | zero => simpa using ⟨h1, h2⟩
    | succ j =>
      have := srt_at x r h3 j (by simpa using hj)
      simp only [List.getElem?_cons_succ]
      omega

def fitsL (p j a : Int) : Nat → Int → Int → List Int → Nat
  | i, _, _, [] => i
  | i, la, pr, t :: r =>
    if 0 < i ∧ (t - i * p < la - j ∨ t - pr < a) then i
    else fitsL p j a (i + 1) (if i = 0 ∨ la < t - i * p then t - i * p else la) t r

def fiE (p j a : Int) (xs : List Int) : Int := if curE p j a ≠ 0 then 2 else if 1048576 < xs.length ∨ srt 0 xs = false then 1 else 0
def fiV (p j a : Int) (xs : List Int) : Int := if fiE p j a xs ≠ 0 then 0 else fitsL p j a 0 0 0 xs

end Go.Proofs.Ytfneloplbkjbhaa
