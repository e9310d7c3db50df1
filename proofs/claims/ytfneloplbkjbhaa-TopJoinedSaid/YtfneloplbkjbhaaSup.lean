/-
  The walks of package supply and of its reference (vergeref24): cost, Share, Thread, Line.
-/
import Derived.Test.YtfneloplbkjbhaaVk
namespace Go.Proofs.Ytfneloplbkjbhaa
open Go.RowKit
set_option linter.unusedVariables false

theorem cost_any (n : Int) (w : World) :
    Calls Try.prog 23 #[.int .i64 n] w fun e w' => e = .returned (.bool (costB n)) ∧ w = w' := by
  go_enter Try.func23, Try.ntmps23
  go_wp2
  all_goals go_ret
  all_goals exact ⟨ret_dec (by simp <;> omega), rfl⟩

/-- Share: the reason and the number. -/
def shareE (b p w : Int) : Int :=
  if b < 0 ∨ 1099511627776 < b ∨ p < 1 ∨ 1099511627776 < p then 2
  else if w < 0 ∨ 4503599627370496 < w then 1
  else if 0 < b ∧ 4503599627370496 / b < (w + p - 1) / p then 10 else 0
def shareV (b p w : Int) : Int := if shareE b p w = 0 then (w + p - 1) / p * b else 0

end Go.Proofs.Ytfneloplbkjbhaa
