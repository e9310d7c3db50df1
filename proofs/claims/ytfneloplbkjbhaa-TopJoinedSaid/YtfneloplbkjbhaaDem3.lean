/-
  The walks of package demand and of its reference (vergeref23), part 3: times, Check, Use, the reference's All.
-/
import Derived.Test.YtfneloplbkjbhaaDemS
namespace Go.Proofs.Ytfneloplbkjbhaa
open Go.RowKit
set_option linter.unusedVariables false

theorem lds_two {xs : List Q4} (h : ¬ ldsE xs = 0) : ldsE xs = 2 := by
  unfold ldsE at *
  split
  · rfl
  · rename_i hc; rw [if_neg hc] at h; exact absurd rfl h

/-- One number so many times, up to a limit. -/
theorem times_over (n c L : Int) (hc : 0 < c) (hc1 : c ≤ 1099511627776) (hL : 0 ≤ L) (hL1 : L ≤ 4503599627370496) (h : L / c < n) (w : World) :
    Calls Try.prog 53 #[.int .i64 n, .int .i64 c, .int .i64 L] w fun e w' => e = .returned (.tuple #[.int .i64 0, .bool false]) ∧ w = w' := by
  have q0 : 0 ≤ L / c := Int.ediv_nonneg hL (by omega)
  have q1 : L / c ≤ L := Int.ediv_le_self c hL
  go_enter Try.func53, Try.ntmps53
  go_wp2
  go_ret2
  exact ⟨rfl, rfl⟩
theorem times_fits (n c L : Int) (hc : 0 ≤ c) (hc1 : c ≤ 1099511627776) (hL : 0 ≤ L) (hL1 : L ≤ 4503599627370496) (h : ¬ (0 < c ∧ L / c < n)) (h1 : 0 ≤ n * c) (h2 : n * c ≤ L) (w : World) :
    Calls Try.prog 53 #[.int .i64 n, .int .i64 c, .int .i64 L] w fun e w' => e = .returned (.tuple #[.int .i64 (n * c), .bool true]) ∧ w = w' := by
  by_cases c0 : 0 < c
  · have q0 : 0 ≤ L / c := Int.ediv_nonneg hL (by omega)
    have q1 : L / c ≤ L := Int.ediv_le_self c hL
    have q2 : n ≤ L / c := by omega
    clear h
    go_enter Try.func53, Try.ntmps53
    go_wp2
    go_ret2
    exact ⟨rfl, rfl⟩
  · have c1 : c ≤ 0 := by omega
    clear h c0
    go_enter Try.func53, Try.ntmps53
    go_wp2
    go_ret2
    exact ⟨rfl, rfl⟩

end Go.Proofs.Ytfneloplbkjbhaa
