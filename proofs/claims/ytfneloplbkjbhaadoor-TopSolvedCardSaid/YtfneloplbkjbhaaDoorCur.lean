/-
  The walks of package curve and of its reference (vergeref22): Check, Most, Gap and what they call.
-/
import Derived.Test.YtfneloplbkjbhaaDoorVk
namespace Go.Proofs.YtfneloplbkjbhaaDoor
open Go.RowKit
set_option linter.unusedVariables false

/-- Why a curve is not right. -/
def curE (p j a : Int) : Int := if 1 ≤ p ∧ p ≤ 1099511627776 ∧ 0 ≤ j ∧ j ≤ 1099511627776 ∧ 1 ≤ a ∧ a ≤ p then 0 else 2

set_option maxHeartbeats 400000 in
theorem ccheck_any (p j a : Int) (w : World) :
    Calls Tryd.prog 23 #[.agg #[.int .i64 p, .int .i64 j, .int .i64 a]] w fun e w' => e = .returned (.int .i64 (curE p j a)) ∧ Below w.heap.size w w' := by
  go_enter Tryd.func23, Tryd.ntmps23
  go_wp2
  all_goals go_ret
  all_goals exact ⟨ret_i (by unfold curE; omega), below_box _ _⟩
theorem ctime_any (n : Int) (w : World) :
    Calls Tryd.prog 25 #[.int .i64 n] w fun e w' => e = .returned (.bool (timeB n)) ∧ w = w' := by
  go_enter Tryd.func25, Tryd.ntmps25
  go_wp2
  all_goals go_ret
  all_goals exact ⟨ret_dec (by simp <;> omega), rfl⟩
/-- A length in parts, the last one begun. -/
def upD (x p : Int) : Int := (x + p - 1) / p

theorem parts_any (x p : Int) (h0 : 0 ≤ x) (h1 : x ≤ 9007199254740992) (h2 : 1 ≤ p) (h3 : p ≤ 1099511627776) (w : World) :
    Calls Tryd.prog 26 #[.int .i64 x, .int .i64 p] w fun e w' => e = .returned (.int .i64 (upD x p)) ∧ w = w' := by
  go_enter Tryd.func26, Tryd.ntmps26
  go_wp2
  all_goals go_ret
  exact ⟨ret_i (by unfold upD; rfl), rfl⟩

def moE (p j a x : Int) : Int := if curE p j a ≠ 0 then 2 else if 0 ≤ x ∧ x ≤ 4503599627370496 then 0 else 1
def moV (p j a x : Int) : Int := if curE p j a ≠ 0 then 0 else if 1 ≤ x ∧ x ≤ 4503599627370496 then min (upD (x + j) p) (upD x a) else 0

set_option maxHeartbeats 400000 in
theorem most_any (p j a x : Int) (w : World) :
    Calls Tryd.prog 10 #[.agg #[.int .i64 p, .int .i64 j, .int .i64 a], .int .i64 x] w fun e w' => e = .returned (.tuple #[.int .i64 (moV p j a x), .int .i64 (moE p j a x)]) ∧ Below w.heap.size w w' := by
  by_cases hcu : 1 ≤ p ∧ p ≤ 1099511627776 ∧ 0 ≤ j ∧ j ≤ 1099511627776 ∧ 1 ≤ a ∧ a ≤ p
  · have hE : curE p j a = 0 := by unfold curE; rw [if_pos hcu]
    by_cases hx : 0 ≤ x ∧ x ≤ 4503599627370496
    · have ht : timeB x = true := by simp [timeB, hx]
      by_cases hx0 : x = 0
      · subst hx0
        go_enter Tryd.func10, Tryd.ntmps10
        go_wp2_with (first | (go_at_call 23; refine (ccheck_any _ _ _ _).mono ?_; rintro e w' ⟨rfl, hb⟩; obtain ⟨hc1, hf1⟩ := bcell hb) | (go_at_call 25; refine (ctime_any _ _).mono ?_; rintro e w' ⟨rfl, rfl⟩))
        all_goals go_ret2
        all_goals exact ⟨ret_ii (by unfold moV; omega) (by unfold moE; omega), hb.box (Nat.le_refl _)⟩
      · have hx0' : (x == 0) = false := by simp [hx0]
        have hW : IntKind.i64.wrap (x + j) = x + j := IntWalk.i64_in _ (by omega)
        obtain ⟨x1, x2⟩ := hx
        go_enter Tryd.func10, Tryd.ntmps10
        go_wp2_with (first | (go_at_call 23; refine (ccheck_any _ _ _ _).mono ?_; rintro e w' ⟨rfl, hb⟩; obtain ⟨hc1, hf1⟩ := bcell hb) | (go_at_call 25; refine (ctime_any _ _).mono ?_; rintro e w' ⟨rfl, rfl⟩))
        go_quiet ((go_at_call 26; exact quiet_left (parts_any _ _ (by omega) (by omega) (by omega) (by omega) _)))
        go_wp2
        all_goals go_ret2
        all_goals exact ⟨ret_ii (by unfold moV; omega) (by unfold moE; omega), (hb.box (Nat.le_refl _)).drewN _⟩
    · have ht : timeB x = false := by simpa [timeB] using hx
      go_enter Tryd.func10, Tryd.ntmps10
      go_wp2_with (first | (go_at_call 23; refine (ccheck_any _ _ _ _).mono ?_; rintro e w' ⟨rfl, hb⟩; obtain ⟨hc1, hf1⟩ := bcell hb) | (go_at_call 25; refine (ctime_any _ _).mono ?_; rintro e w' ⟨rfl, rfl⟩))
      all_goals go_ret2
      all_goals exact ⟨ret_ii (by unfold moV; omega) (by unfold moE; omega), hb.box (Nat.le_refl _)⟩
  · have hE : curE p j a = 2 := by unfold curE; rw [if_neg hcu]
    go_enter Tryd.func10, Tryd.ntmps10
    go_wp2_with (first | (go_at_call 23; refine (ccheck_any _ _ _ _).mono ?_; rintro e w' ⟨rfl, hb⟩; obtain ⟨hc1, hf1⟩ := bcell hb) | (go_at_call 25; refine (ctime_any _ _).mono ?_; rintro e w' ⟨rfl, rfl⟩))
    all_goals go_ret2
    all_goals exact ⟨ret_ii (by unfold moV; omega) (by unfold moE; omega), hb.box (Nat.le_refl _)⟩
def gapV (p j a n : Int) : Int := max ((n - 1) * p - j) ((n - 1) * a)

theorem gap_bd {p j a n : Int} (h1 : 1 ≤ p) (h2 : p ≤ 1099511627776) (h3 : 0 ≤ j) (h4 : j ≤ 1099511627776) (h5 : 1 ≤ a) (h6 : a ≤ p) (n1 : 1 ≤ n) (n2 : n ≤ 1048576) :
    0 ≤ (n - 1) * p ∧ (n - 1) * p ≤ 1152921504606846976 ∧ 0 ≤ (n - 1) * a ∧ (n - 1) * a ≤ 1152921504606846976 := by
  have k1 : (n - 1) * p ≤ 1048576 * 1099511627776 := Int.mul_le_mul (by omega) h2 (by omega) (by omega)
  have k2 : (n - 1) * a ≤ 1048576 * 1099511627776 := Int.mul_le_mul (by omega) (by omega) (by omega) (by omega)
  have k3 : 0 ≤ (n - 1) * p := Int.mul_nonneg (by omega) (by omega)
  have k4 : 0 ≤ (n - 1) * a := Int.mul_nonneg (by omega) (by omega)
  omega

def gaE (p j a n : Int) : Int := if curE p j a ≠ 0 then 2 else if 1 ≤ n ∧ n ≤ 1048576 then 0 else 1
def gaV (p j a n : Int) : Int := if gaE p j a n ≠ 0 then 0 else gapV p j a n

end Go.Proofs.YtfneloplbkjbhaaDoor
