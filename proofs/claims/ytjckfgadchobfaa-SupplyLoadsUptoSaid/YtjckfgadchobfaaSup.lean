/-
  The walks of package supply and of its reference (vergeref24): cost, Share, Thread, Line.
-/
import Derived.Test.YtjckfgadchobfaaVk
namespace Go.Proofs.Ytjckfgadchobfaa
open Go.RowKit
set_option linter.unusedVariables false

theorem cost_any (n : Int) (w : World) :
    Calls Try.prog 59 #[.int .i64 n] w fun e w' => e = .returned (.bool (costB n)) ∧ w = w' := by
  go_enter Try.func59, Try.ntmps59
  go_wp2
  all_goals go_ret
  all_goals exact ⟨ret_dec (by simp <;> omega), rfl⟩

theorem rcost_any (n : Int) (w : World) :
    Calls Try.prog 60 #[.int .i64 n] w fun e w' => e = .returned (.bool (costB n)) ∧ w = w' := by
  go_enter Try.func60, Try.ntmps60
  go_wp2
  all_goals go_ret
  all_goals exact ⟨ret_dec (by simp <;> omega), rfl⟩

theorem rtime_any (n : Int) (w : World) :
    Calls Try.prog 61 #[.int .i64 n] w fun e w' => e = .returned (.bool (timeB n)) ∧ w = w' := by
  go_enter Try.func61, Try.ntmps61
  go_wp2
  all_goals go_ret
  all_goals exact ⟨ret_dec (by simp <;> omega), rfl⟩

/-- Share: the reason and the number. -/
def shareE (b p w : Int) : Int :=
  if b < 0 ∨ 1099511627776 < b ∨ p < 1 ∨ 1099511627776 < p then 2
  else if w < 0 ∨ 4503599627370496 < w then 1
  else if 0 < b ∧ 4503599627370496 / b < (w + p - 1) / p then 10 else 0
def shareV (b p w : Int) : Int := if shareE b p w = 0 then (w + p - 1) / p * b else 0

set_option maxHeartbeats 400000 in
theorem share_any (b p x : Int) (w : World) :
    Calls Try.prog 21 #[.int .i64 b, .int .i64 p, .int .i64 x] w fun e w' => e = .returned (.tuple #[.int .i64 (shareV b p x), .int .i64 (shareE b p x)]) ∧ w = w' := by
  by_cases hp : 1 ≤ p ∧ p ≤ 1099511627776
  · have hc : costB p = true := by simp [costB, hp]
    obtain ⟨p1, p2⟩ := hp
    by_cases hx : 0 ≤ x ∧ x ≤ 4503599627370496
    · obtain ⟨x1, x2⟩ := hx
      obtain ⟨u1, u2⟩ := up_le x p x1 p1
      have m1 : 0 ≤ b → (b ≤ 0 ∨ (x + p - 1) / p ≤ 4503599627370496 / b) → 0 ≤ (x + p - 1) / p * b ∧ (x + p - 1) / p * b ≤ 4503599627370496 := fun h1 h2 => ⟨Int.mul_nonneg u1 h1, by
        rcases h2 with h2 | h2
        · obtain rfl : b = 0 := by omega
          omega
        · by_cases hb : b = 0
          · subst hb; omega
          · exact mul_le_of_le_ediv (by omega) h2⟩
      go_enter Try.func21, Try.ntmps21
      go_wp2_with (first | (go_at_call 59; refine (cost_any _ _).mono ?_; rintro e w' ⟨rfl, rfl⟩))
      all_goals go_ret2
      all_goals first
        | exact ⟨ret_ii (by unfold shareV shareE; omega) (by unfold shareE; omega), rfl⟩
        | exact ⟨ret_ii (by simp only [Act.tmps, go_sem]; rw [IntWalk.wrap64_in _ (m1 (by omega) (by omega))]; unfold shareV shareE; omega) (by unfold shareE; omega), rfl⟩
    · go_enter Try.func21, Try.ntmps21
      go_wp2_with (first | (go_at_call 59; refine (cost_any _ _).mono ?_; rintro e w' ⟨rfl, rfl⟩))
      all_goals go_ret2
      all_goals exact ⟨ret_ii (by unfold shareV shareE; omega) (by unfold shareE; omega), rfl⟩
  · have hc : costB p = false := by simpa [costB] using hp
    go_enter Try.func21, Try.ntmps21
    go_wp2_with (first | (go_at_call 59; refine (cost_any _ _).mono ?_; rintro e w' ⟨rfl, rfl⟩))
    all_goals go_ret2
    all_goals exact ⟨ret_ii (by unfold shareV shareE; omega) (by unfold shareE; omega), rfl⟩

set_option maxHeartbeats 1000000 in
theorem rshare_any (b p x : Int) (w : World) :
    Calls Try.prog 22 #[.int .i64 b, .int .i64 p, .int .i64 x] w fun e w' => e = .returned (.tuple #[.int .i64 (shareV b p x), .int .i64 (shareE b p x)]) ∧ w = w' := by
  by_cases hp : 1 ≤ p ∧ p ≤ 1099511627776
  · have hc : costB p = true := by simp [costB, hp]
    obtain ⟨p1, p2⟩ := hp
    by_cases hx : 0 ≤ x ∧ x ≤ 4503599627370496
    · have ht : timeB x = true := by simp [timeB, hx]
      obtain ⟨x1, x2⟩ := hx
      obtain ⟨u1, u2⟩ := up_le x p x1 p1
      have ur := up_ref x p x1 p1
      have d1 : 0 ≤ x / p := Int.ediv_nonneg x1 (by omega)
      have d2 : x / p ≤ x := Int.ediv_le_self p x1
      by_cases hr : x % p = 0
      · have hr' : (x % p != 0) = false := by simp [hr]
        rw [if_pos hr] at ur
        have Ur := Lib.hid ur
        clear ur hr
        by_cases hb : b < 0 ∨ 1099511627776 < b
        · have hcb : costB b = false := by simp [costB]; omega
          have hb0 : (b != 0) = true := by simp; omega
          go_enter Try.func22, Try.ntmps22
          go_wp2_with (first | (go_at_call 60; refine (rcost_any _ _).mono ?_; rintro e w' ⟨rfl, rfl⟩) | (go_at_call 61; refine (rtime_any _ _).mono ?_; rintro e w' ⟨rfl, rfl⟩))
          all_goals go_ret2
          all_goals exact ⟨ret_ii (by unfold shareV shareE; omega) (by unfold shareE; omega), rfl⟩
        by_cases hb2 : b = 0
        · subst hb2
          go_enter Try.func22, Try.ntmps22
          go_wp2_with (first | (go_at_call 60; refine (rcost_any _ _).mono ?_; rintro e w' ⟨rfl, rfl⟩) | (go_at_call 61; refine (rtime_any _ _).mono ?_; rintro e w' ⟨rfl, rfl⟩))
          all_goals go_ret2
          all_goals exact ⟨ret_ii (by unfold shareV shareE; omega) (by unfold shareE; omega), rfl⟩
        have hcb : costB b = true := by simp [costB]; omega
        have hb0 : (b != 0) = true := by simp; omega
        have b1 : 1 ≤ b := by omega
        have b2 : b ≤ 1099511627776 := by omega
        have q1 : 0 ≤ 4503599627370496 / b := Int.ediv_nonneg (by omega) (by omega)
        clear hb hb2
        have m1 : (x + p - 1) / p ≤ 4503599627370496 / b → 0 ≤ (x + p - 1) / p * b ∧ (x + p - 1) / p * b ≤ 4503599627370496 := fun h2 => ⟨Int.mul_nonneg u1 (by omega), mul_le_of_le_ediv (by omega) h2⟩
        by_cases ho : 4503599627370496 / b < (x + p - 1) / p
        · rw [Ur.out] at ho
          go_enter Try.func22, Try.ntmps22
          go_wp2_with (first | (go_at_call 60; refine (rcost_any _ _).mono ?_; rintro e w' ⟨rfl, rfl⟩) | (go_at_call 61; refine (rtime_any _ _).mono ?_; rintro e w' ⟨rfl, rfl⟩))
          all_goals go_ret2
          all_goals exact ⟨ret_ii (by have := Ur.out; unfold shareV shareE; omega) (by have := Ur.out; unfold shareE; omega), rfl⟩
        · have m2 := m1 (by omega)
          rw [Ur.out] at ho m2
          obtain ⟨m3, m4⟩ := m2
          clear m1
          have ho' := Int.not_lt.1 ho
          clear ho
          go_enter Try.func22, Try.ntmps22
          go_wp2_with (first | (go_at_call 60; refine (rcost_any _ _).mono ?_; rintro e w' ⟨rfl, rfl⟩) | (go_at_call 61; refine (rtime_any _ _).mono ?_; rintro e w' ⟨rfl, rfl⟩))
          all_goals go_ret2
          all_goals exact ⟨ret_ii (by have := Ur.out; unfold shareV shareE; rw [this]; omega) (by have := Ur.out; unfold shareE; omega), rfl⟩
      · have hr' : (x % p != 0) = true := by simp [hr]
        rw [if_neg hr] at ur
        have Ur := Lib.hid ur
        clear ur hr
        by_cases hb : b < 0 ∨ 1099511627776 < b
        · have hcb : costB b = false := by simp [costB]; omega
          have hb0 : (b != 0) = true := by simp; omega
          go_enter Try.func22, Try.ntmps22
          go_wp2_with (first | (go_at_call 60; refine (rcost_any _ _).mono ?_; rintro e w' ⟨rfl, rfl⟩) | (go_at_call 61; refine (rtime_any _ _).mono ?_; rintro e w' ⟨rfl, rfl⟩))
          all_goals go_ret2
          all_goals exact ⟨ret_ii (by unfold shareV shareE; omega) (by unfold shareE; omega), rfl⟩
        by_cases hb2 : b = 0
        · subst hb2
          go_enter Try.func22, Try.ntmps22
          go_wp2_with (first | (go_at_call 60; refine (rcost_any _ _).mono ?_; rintro e w' ⟨rfl, rfl⟩) | (go_at_call 61; refine (rtime_any _ _).mono ?_; rintro e w' ⟨rfl, rfl⟩))
          all_goals go_ret2
          all_goals exact ⟨ret_ii (by unfold shareV shareE; omega) (by unfold shareE; omega), rfl⟩
        have hcb : costB b = true := by simp [costB]; omega
        have hb0 : (b != 0) = true := by simp; omega
        have b1 : 1 ≤ b := by omega
        have b2 : b ≤ 1099511627776 := by omega
        have q1 : 0 ≤ 4503599627370496 / b := Int.ediv_nonneg (by omega) (by omega)
        clear hb hb2
        have m1 : (x + p - 1) / p ≤ 4503599627370496 / b → 0 ≤ (x + p - 1) / p * b ∧ (x + p - 1) / p * b ≤ 4503599627370496 := fun h2 => ⟨Int.mul_nonneg u1 (by omega), mul_le_of_le_ediv (by omega) h2⟩
        by_cases ho : 4503599627370496 / b < (x + p - 1) / p
        · rw [Ur.out] at ho
          go_enter Try.func22, Try.ntmps22
          go_wp2_with (first | (go_at_call 60; refine (rcost_any _ _).mono ?_; rintro e w' ⟨rfl, rfl⟩) | (go_at_call 61; refine (rtime_any _ _).mono ?_; rintro e w' ⟨rfl, rfl⟩))
          all_goals go_ret2
          all_goals exact ⟨ret_ii (by have := Ur.out; unfold shareV shareE; omega) (by have := Ur.out; unfold shareE; omega), rfl⟩
        · have m2 := m1 (by omega)
          rw [Ur.out] at ho m2
          obtain ⟨m3, m4⟩ := m2
          clear m1
          have ho' := Int.not_lt.1 ho
          clear ho
          go_enter Try.func22, Try.ntmps22
          go_wp2_with (first | (go_at_call 60; refine (rcost_any _ _).mono ?_; rintro e w' ⟨rfl, rfl⟩) | (go_at_call 61; refine (rtime_any _ _).mono ?_; rintro e w' ⟨rfl, rfl⟩))
          all_goals go_ret2
          all_goals exact ⟨ret_ii (by have := Ur.out; unfold shareV shareE; rw [this]; omega) (by have := Ur.out; unfold shareE; omega), rfl⟩
    · have ht : timeB x = false := by simpa [timeB] using hx
      by_cases hb : b = 0
      · subst hb
        go_enter Try.func22, Try.ntmps22
        go_wp2_with (first | (go_at_call 60; refine (rcost_any _ _).mono ?_; rintro e w' ⟨rfl, rfl⟩) | (go_at_call 61; refine (rtime_any _ _).mono ?_; rintro e w' ⟨rfl, rfl⟩))
        all_goals go_ret2
        all_goals exact ⟨ret_ii (by unfold shareV shareE; omega) (by unfold shareE; omega), rfl⟩
      · have hb0 : (b != 0) = true := by simp; omega
        by_cases hb2 : 1 ≤ b ∧ b ≤ 1099511627776
        · have hcb : costB b = true := by simp [costB]; omega
          go_enter Try.func22, Try.ntmps22
          go_wp2_with (first | (go_at_call 60; refine (rcost_any _ _).mono ?_; rintro e w' ⟨rfl, rfl⟩) | (go_at_call 61; refine (rtime_any _ _).mono ?_; rintro e w' ⟨rfl, rfl⟩))
          all_goals go_ret2
          all_goals exact ⟨ret_ii (by unfold shareV shareE; omega) (by unfold shareE; omega), rfl⟩
        · have hcb : costB b = false := by simp [costB]; omega
          go_enter Try.func22, Try.ntmps22
          go_wp2_with (first | (go_at_call 60; refine (rcost_any _ _).mono ?_; rintro e w' ⟨rfl, rfl⟩) | (go_at_call 61; refine (rtime_any _ _).mono ?_; rintro e w' ⟨rfl, rfl⟩))
          all_goals go_ret2
          all_goals exact ⟨ret_ii (by unfold shareV shareE; omega) (by unfold shareE; omega), rfl⟩
  · have hc : costB p = false := by simpa [costB] using hp
    by_cases hb : b = 0
    · subst hb
      go_enter Try.func22, Try.ntmps22
      go_wp2_with (first | (go_at_call 60; refine (rcost_any _ _).mono ?_; rintro e w' ⟨rfl, rfl⟩) | (go_at_call 61; refine (rtime_any _ _).mono ?_; rintro e w' ⟨rfl, rfl⟩))
      all_goals go_ret2
      all_goals exact ⟨ret_ii (by unfold shareV shareE; omega) (by unfold shareE; omega), rfl⟩
    · have hb0 : (b != 0) = true := by simp; omega
      go_enter Try.func22, Try.ntmps22
      go_wp2_with (first | (go_at_call 60; refine (rcost_any _ _).mono ?_; rintro e w' ⟨rfl, rfl⟩) | (go_at_call 61; refine (rtime_any _ _).mono ?_; rintro e w' ⟨rfl, rfl⟩))
      all_goals go_ret2
      all_goals exact ⟨ret_ii (by unfold shareV shareE; omega) (by unfold shareE; omega), rfl⟩

end Go.Proofs.Ytjckfgadchobfaa
