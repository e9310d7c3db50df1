/-
  The walks of package supply and of its reference (vergeref24), part 2: served, masked, Thread, Line.
-/
import Derived.Test.YtfneloplbkjbhaaSup
namespace Go.Proofs.Ytfneloplbkjbhaa
open Go.RowKit
set_option linter.unusedVariables false

def threadB (b p : Int) : Bool := decide (1 ≤ b ∧ b ≤ p ∧ 1 ≤ p ∧ p ≤ 1099511627776)
def lineB (m x : Int) : Bool := decide (1 ≤ m ∧ m ≤ 64 ∧ 1 ≤ x ∧ x ≤ 1099511627776)

set_option maxHeartbeats 400000 in
theorem served_any (a b p d : Int) (w : World) :
    Calls Try.prog 36 #[.agg #[.int .i64 a, .int .i64 b, .int .i64 p, .int .i64 d]] w fun e w' => e = .returned (.bool (threadB b p)) ∧ Below w.heap.size w w' := by
  by_cases hc : 1 ≤ p ∧ p ≤ 1099511627776
  · have hcb : costB p = true := by simp [costB]; omega
    go_enter Try.func36, Try.ntmps36
    go_wp2_with (first | (go_at_call 23; refine (cost_any _ _).mono ?_; rintro e w' ⟨rfl, rfl⟩))
    all_goals go_ret
    all_goals exact ⟨ret_dec (by simp <;> omega), below_box _ _⟩
  · have hcb : costB p = false := by simp [costB]; omega
    go_enter Try.func36, Try.ntmps36
    go_wp2_with (first | (go_at_call 23; refine (cost_any _ _).mono ?_; rintro e w' ⟨rfl, rfl⟩))
    all_goals go_ret
    all_goals exact ⟨ret_dec (by simp <;> omega), below_box _ _⟩

set_option maxHeartbeats 400000 in
theorem masked_any (a t m x : Int) (w : World) :
    Calls Try.prog 37 #[.agg #[.int .i64 a, .int .i64 t, .int .i64 m, .int .i64 x]] w fun e w' => e = .returned (.bool (lineB m x)) ∧ Below w.heap.size w w' := by
  by_cases hc : 1 ≤ x ∧ x ≤ 1099511627776
  · have hcb : costB x = true := by simp [costB]; omega
    go_enter Try.func37, Try.ntmps37
    go_wp2_with (first | (go_at_call 23; refine (cost_any _ _).mono ?_; rintro e w' ⟨rfl, rfl⟩))
    all_goals go_ret
    all_goals exact ⟨ret_dec (by simp <;> omega), below_box _ _⟩
  · have hcb : costB x = false := by simp [costB]; omega
    go_enter Try.func37, Try.ntmps37
    go_wp2_with (first | (go_at_call 23; refine (cost_any _ _).mono ?_; rintro e w' ⟨rfl, rfl⟩))
    all_goals go_ret
    all_goals exact ⟨ret_dec (by simp <;> omega), below_box _ _⟩

def thE (b p x : Int) : Int := if ¬ (1 ≤ b ∧ b ≤ p ∧ 1 ≤ p ∧ p ≤ 1099511627776) then 2 else if shareE b p x = 10 then 0 else shareE b p x
def thV (b p x : Int) : Int := if ¬ (1 ≤ b ∧ b ≤ p ∧ 1 ≤ p ∧ p ≤ 1099511627776) then 0 else if shareE b p x = 0 then min (shareV b p x) x else if shareE b p x = 10 then x else 0
def liE (m x y : Int) : Int := if ¬ (1 ≤ m ∧ m ≤ 64 ∧ 1 ≤ x ∧ x ≤ 1099511627776) then 2 else shareE m x y
def liV (m x y : Int) : Int := if ¬ (1 ≤ m ∧ m ≤ 64 ∧ 1 ≤ x ∧ x ≤ 1099511627776) then 0 else shareV m x y

end Go.Proofs.Ytfneloplbkjbhaa
