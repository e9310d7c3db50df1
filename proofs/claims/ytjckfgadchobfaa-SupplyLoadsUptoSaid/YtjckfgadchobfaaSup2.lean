/-
  The walks of package supply and of its reference (vergeref24), part 2: served, masked, Thread, Line.
-/
import Derived.Test.YtjckfgadchobfaaSup
namespace Go.Proofs.Ytjckfgadchobfaa
open Go.RowKit
set_option linter.unusedVariables false

def threadB (b p : Int) : Bool := decide (1 ≤ b ∧ b ≤ p ∧ 1 ≤ p ∧ p ≤ 1099511627776)
def lineB (m x : Int) : Bool := decide (1 ≤ m ∧ m ≤ 64 ∧ 1 ≤ x ∧ x ≤ 1099511627776)

set_option maxHeartbeats 400000 in
theorem served_any (a b p d : Int) (w : World) :
    Calls Try.prog 55 #[.agg #[.int .i64 a, .int .i64 b, .int .i64 p, .int .i64 d]] w fun e w' => e = .returned (.bool (threadB b p)) ∧ Below w.heap.size w w' := by
  by_cases hc : 1 ≤ p ∧ p ≤ 1099511627776
  · have hcb : costB p = true := by simp [costB]; omega
    go_enter Try.func55, Try.ntmps55
    go_wp2_with (first | (go_at_call 59; refine (cost_any _ _).mono ?_; rintro e w' ⟨rfl, rfl⟩))
    all_goals go_ret
    all_goals exact ⟨ret_dec (by simp <;> omega), below_box _ _⟩
  · have hcb : costB p = false := by simp [costB]; omega
    go_enter Try.func55, Try.ntmps55
    go_wp2_with (first | (go_at_call 59; refine (cost_any _ _).mono ?_; rintro e w' ⟨rfl, rfl⟩))
    all_goals go_ret
    all_goals exact ⟨ret_dec (by simp <;> omega), below_box _ _⟩

set_option maxHeartbeats 400000 in
theorem rthread_any (a b p d : Int) (w : World) :
    Calls Try.prog 56 #[.agg #[.int .i64 a, .int .i64 b, .int .i64 p, .int .i64 d]] w fun e w' => e = .returned (.bool (threadB b p)) ∧ Below w.heap.size w w' := by
  by_cases hc : 1 ≤ p ∧ p ≤ 1099511627776
  · have hcb : costB p = true := by simp [costB]; omega
    go_enter Try.func56, Try.ntmps56
    go_wp2_with (first | (go_at_call 60; refine (rcost_any _ _).mono ?_; rintro e w' ⟨rfl, rfl⟩))
    all_goals go_ret
    all_goals exact ⟨ret_dec (by simp <;> omega), below_box _ _⟩
  · have hcb : costB p = false := by simp [costB]; omega
    go_enter Try.func56, Try.ntmps56
    go_wp2_with (first | (go_at_call 60; refine (rcost_any _ _).mono ?_; rintro e w' ⟨rfl, rfl⟩))
    all_goals go_ret
    all_goals exact ⟨ret_dec (by simp <;> omega), below_box _ _⟩

set_option maxHeartbeats 400000 in
theorem masked_any (a t m x : Int) (w : World) :
    Calls Try.prog 57 #[.agg #[.int .i64 a, .int .i64 t, .int .i64 m, .int .i64 x]] w fun e w' => e = .returned (.bool (lineB m x)) ∧ Below w.heap.size w w' := by
  by_cases hc : 1 ≤ x ∧ x ≤ 1099511627776
  · have hcb : costB x = true := by simp [costB]; omega
    go_enter Try.func57, Try.ntmps57
    go_wp2_with (first | (go_at_call 59; refine (cost_any _ _).mono ?_; rintro e w' ⟨rfl, rfl⟩))
    all_goals go_ret
    all_goals exact ⟨ret_dec (by simp <;> omega), below_box _ _⟩
  · have hcb : costB x = false := by simp [costB]; omega
    go_enter Try.func57, Try.ntmps57
    go_wp2_with (first | (go_at_call 59; refine (cost_any _ _).mono ?_; rintro e w' ⟨rfl, rfl⟩))
    all_goals go_ret
    all_goals exact ⟨ret_dec (by simp <;> omega), below_box _ _⟩

set_option maxHeartbeats 400000 in
theorem rline_any (a t m x : Int) (w : World) :
    Calls Try.prog 58 #[.agg #[.int .i64 a, .int .i64 t, .int .i64 m, .int .i64 x]] w fun e w' => e = .returned (.bool (lineB m x)) ∧ Below w.heap.size w w' := by
  by_cases hc : 1 ≤ x ∧ x ≤ 1099511627776
  · have hcb : costB x = true := by simp [costB]; omega
    go_enter Try.func58, Try.ntmps58
    go_wp2_with (first | (go_at_call 60; refine (rcost_any _ _).mono ?_; rintro e w' ⟨rfl, rfl⟩))
    all_goals go_ret
    all_goals exact ⟨ret_dec (by simp <;> omega), below_box _ _⟩
  · have hcb : costB x = false := by simp [costB]; omega
    go_enter Try.func58, Try.ntmps58
    go_wp2_with (first | (go_at_call 60; refine (rcost_any _ _).mono ?_; rintro e w' ⟨rfl, rfl⟩))
    all_goals go_ret
    all_goals exact ⟨ret_dec (by simp <;> omega), below_box _ _⟩

def thE (b p x : Int) : Int := if ¬ (1 ≤ b ∧ b ≤ p ∧ 1 ≤ p ∧ p ≤ 1099511627776) then 2 else if shareE b p x = 10 then 0 else shareE b p x
def thV (b p x : Int) : Int := if ¬ (1 ≤ b ∧ b ≤ p ∧ 1 ≤ p ∧ p ≤ 1099511627776) then 0 else if shareE b p x = 0 then min (shareV b p x) x else if shareE b p x = 10 then x else 0
def liE (m x y : Int) : Int := if ¬ (1 ≤ m ∧ m ≤ 64 ∧ 1 ≤ x ∧ x ≤ 1099511627776) then 2 else shareE m x y
def liV (m x y : Int) : Int := if ¬ (1 ≤ m ∧ m ≤ 64 ∧ 1 ≤ x ∧ x ≤ 1099511627776) then 0 else shareV m x y

set_option maxHeartbeats 400000 in
theorem thread_any (a b p d x : Int) (w : World) :
    Calls Try.prog 17 #[.agg #[.int .i64 a, .int .i64 b, .int .i64 p, .int .i64 d], .int .i64 x] w fun e w' => e = .returned (.tuple #[.int .i64 (thV b p x), .int .i64 (thE b p x)]) ∧ Below w.heap.size w w' := by
  by_cases hp : 1 ≤ b ∧ b ≤ p ∧ 1 ≤ p ∧ p ≤ 1099511627776
  · have hc : threadB b p = true := by simp [threadB]; omega
    by_cases h0 : shareE b p x = 0
    · have h0' : (shareE b p x == 0) = true := by simp [h0]
      have h0n : (shareE b p x != 0) = false := by simp [h0]
      have h10' : (shareE b p x == 10) = false := by simp [h0]
      have H0 := Lib.hid h0
      have H10 := H0
      clear h0
      go_enter Try.func17, Try.ntmps17
      go_wp2_with (first | (go_at_call 55; refine (served_any _ _ _ _ _).mono ?_; rintro e w' ⟨rfl, hb⟩; obtain ⟨hc1, hf1⟩ := bcell hb) | (go_at_call 21; refine (share_any _ _ _ _).mono ?_; rintro e w' ⟨rfl, rfl⟩))
      all_goals go_ret2
      all_goals exact ⟨ret_ii (by first | (unfold thV; omega) | (have := H0.out; have := H10.out; unfold thV; omega)) (by first | (unfold thE; omega) | (have := H0.out; have := H10.out; unfold thE; omega)), hb.box (Nat.le_refl _)⟩
    · have h0' : (shareE b p x == 0) = false := by simp [h0]
      have h0n : (shareE b p x != 0) = true := by simp [h0]
      by_cases h10 : shareE b p x = 10
      · have h10' : (shareE b p x == 10) = true := by simp [h10]
        have H0 := Lib.hid h0
        have H10 := Lib.hid h10
        clear h0 h10
        go_enter Try.func17, Try.ntmps17
        go_wp2_with (first | (go_at_call 55; refine (served_any _ _ _ _ _).mono ?_; rintro e w' ⟨rfl, hb⟩; obtain ⟨hc1, hf1⟩ := bcell hb) | (go_at_call 21; refine (share_any _ _ _ _).mono ?_; rintro e w' ⟨rfl, rfl⟩))
        all_goals go_ret2
        all_goals exact ⟨ret_ii (by first | (unfold thV; omega) | (have := H0.out; have := H10.out; unfold thV; omega)) (by first | (unfold thE; omega) | (have := H0.out; have := H10.out; unfold thE; omega)), hb.box (Nat.le_refl _)⟩
      · have h10' : (shareE b p x == 10) = false := by simp [h10]
        have H0 := Lib.hid h0
        have H10 := Lib.hid h10
        clear h0 h10
        go_enter Try.func17, Try.ntmps17
        go_wp2_with (first | (go_at_call 55; refine (served_any _ _ _ _ _).mono ?_; rintro e w' ⟨rfl, hb⟩; obtain ⟨hc1, hf1⟩ := bcell hb) | (go_at_call 21; refine (share_any _ _ _ _).mono ?_; rintro e w' ⟨rfl, rfl⟩))
        all_goals go_ret2
        all_goals exact ⟨ret_ii (by first | (unfold thV; omega) | (have := H0.out; have := H10.out; unfold thV; omega)) (by first | (unfold thE; omega) | (have := H0.out; have := H10.out; unfold thE; omega)), hb.box (Nat.le_refl _)⟩
  · have hc : threadB b p = false := by simpa [threadB] using hp
    go_enter Try.func17, Try.ntmps17
    go_wp2_with (first | (go_at_call 55; refine (served_any _ _ _ _ _).mono ?_; rintro e w' ⟨rfl, hb⟩; obtain ⟨hc1, hf1⟩ := bcell hb) | (go_at_call 21; refine (share_any _ _ _ _).mono ?_; rintro e w' ⟨rfl, rfl⟩))
    all_goals go_ret2
    all_goals exact ⟨ret_ii (by first | (unfold thV; omega) | (have := H0.out; have := H10.out; unfold thV; omega)) (by first | (unfold thE; omega) | (have := H0.out; have := H10.out; unfold thE; omega)), hb.box (Nat.le_refl _)⟩

set_option maxHeartbeats 400000 in
theorem rThread_any (a b p d x : Int) (w : World) :
    Calls Try.prog 18 #[.agg #[.int .i64 a, .int .i64 b, .int .i64 p, .int .i64 d], .int .i64 x] w fun e w' => e = .returned (.tuple #[.int .i64 (thV b p x), .int .i64 (thE b p x)]) ∧ Below w.heap.size w w' := by
  by_cases hp : 1 ≤ b ∧ b ≤ p ∧ 1 ≤ p ∧ p ≤ 1099511627776
  · have hc : threadB b p = true := by simp [threadB]; omega
    by_cases h0 : shareE b p x = 0
    · have h0' : (shareE b p x == 0) = true := by simp [h0]
      have h0n : (shareE b p x != 0) = false := by simp [h0]
      have h10' : (shareE b p x == 10) = false := by simp [h0]
      have H0 := Lib.hid h0
      have H10 := H0
      clear h0
      go_enter Try.func18, Try.ntmps18
      go_wp2_with (first | (go_at_call 56; refine (rthread_any _ _ _ _ _).mono ?_; rintro e w' ⟨rfl, hb⟩; obtain ⟨hc1, hf1⟩ := bcell hb) | (go_at_call 22; refine (rshare_any _ _ _ _).mono ?_; rintro e w' ⟨rfl, rfl⟩))
      all_goals go_ret2
      all_goals exact ⟨ret_ii (by first | (unfold thV; omega) | (have := H0.out; have := H10.out; unfold thV; omega)) (by first | (unfold thE; omega) | (have := H0.out; have := H10.out; unfold thE; omega)), hb.box (Nat.le_refl _)⟩
    · have h0' : (shareE b p x == 0) = false := by simp [h0]
      have h0n : (shareE b p x != 0) = true := by simp [h0]
      by_cases h10 : shareE b p x = 10
      · have h10' : (shareE b p x == 10) = true := by simp [h10]
        have H0 := Lib.hid h0
        have H10 := Lib.hid h10
        clear h0 h10
        go_enter Try.func18, Try.ntmps18
        go_wp2_with (first | (go_at_call 56; refine (rthread_any _ _ _ _ _).mono ?_; rintro e w' ⟨rfl, hb⟩; obtain ⟨hc1, hf1⟩ := bcell hb) | (go_at_call 22; refine (rshare_any _ _ _ _).mono ?_; rintro e w' ⟨rfl, rfl⟩))
        all_goals go_ret2
        all_goals exact ⟨ret_ii (by first | (unfold thV; omega) | (have := H0.out; have := H10.out; unfold thV; omega)) (by first | (unfold thE; omega) | (have := H0.out; have := H10.out; unfold thE; omega)), hb.box (Nat.le_refl _)⟩
      · have h10' : (shareE b p x == 10) = false := by simp [h10]
        have H0 := Lib.hid h0
        have H10 := Lib.hid h10
        clear h0 h10
        go_enter Try.func18, Try.ntmps18
        go_wp2_with (first | (go_at_call 56; refine (rthread_any _ _ _ _ _).mono ?_; rintro e w' ⟨rfl, hb⟩; obtain ⟨hc1, hf1⟩ := bcell hb) | (go_at_call 22; refine (rshare_any _ _ _ _).mono ?_; rintro e w' ⟨rfl, rfl⟩))
        all_goals go_ret2
        all_goals exact ⟨ret_ii (by first | (unfold thV; omega) | (have := H0.out; have := H10.out; unfold thV; omega)) (by first | (unfold thE; omega) | (have := H0.out; have := H10.out; unfold thE; omega)), hb.box (Nat.le_refl _)⟩
  · have hc : threadB b p = false := by simpa [threadB] using hp
    go_enter Try.func18, Try.ntmps18
    go_wp2_with (first | (go_at_call 56; refine (rthread_any _ _ _ _ _).mono ?_; rintro e w' ⟨rfl, hb⟩; obtain ⟨hc1, hf1⟩ := bcell hb) | (go_at_call 22; refine (rshare_any _ _ _ _).mono ?_; rintro e w' ⟨rfl, rfl⟩))
    all_goals go_ret2
    all_goals exact ⟨ret_ii (by first | (unfold thV; omega) | (have := H0.out; have := H10.out; unfold thV; omega)) (by first | (unfold thE; omega) | (have := H0.out; have := H10.out; unfold thE; omega)), hb.box (Nat.le_refl _)⟩

set_option maxHeartbeats 400000 in
theorem line_any (a t m x y : Int) (w : World) :
    Calls Try.prog 19 #[.agg #[.int .i64 a, .int .i64 t, .int .i64 m, .int .i64 x], .int .i64 y] w fun e w' => e = .returned (.tuple #[.int .i64 (liV m x y), .int .i64 (liE m x y)]) ∧ Below w.heap.size w w' := by
  by_cases hp : 1 ≤ m ∧ m ≤ 64 ∧ 1 ≤ x ∧ x ≤ 1099511627776
  · have hc : lineB m x = true := by simp [lineB]; omega
    go_enter Try.func19, Try.ntmps19
    go_wp2_with (first | (go_at_call 57; refine (masked_any _ _ _ _ _).mono ?_; rintro e w' ⟨rfl, hb⟩; obtain ⟨hc1, hf1⟩ := bcell hb) | (go_at_call 21; refine (share_any _ _ _ _).mono ?_; rintro e w' ⟨rfl, rfl⟩))
    all_goals go_ret2
    all_goals exact ⟨ret_ii (by unfold liV; omega) (by unfold liE; omega), hb.box (Nat.le_refl _)⟩
  · have hc : lineB m x = false := by simpa [lineB] using hp
    go_enter Try.func19, Try.ntmps19
    go_wp2_with (first | (go_at_call 57; refine (masked_any _ _ _ _ _).mono ?_; rintro e w' ⟨rfl, hb⟩; obtain ⟨hc1, hf1⟩ := bcell hb) | (go_at_call 21; refine (share_any _ _ _ _).mono ?_; rintro e w' ⟨rfl, rfl⟩))
    all_goals go_ret2
    all_goals exact ⟨ret_ii (by unfold liV; omega) (by unfold liE; omega), hb.box (Nat.le_refl _)⟩

set_option maxHeartbeats 400000 in
theorem rLine_any (a t m x y : Int) (w : World) :
    Calls Try.prog 20 #[.agg #[.int .i64 a, .int .i64 t, .int .i64 m, .int .i64 x], .int .i64 y] w fun e w' => e = .returned (.tuple #[.int .i64 (liV m x y), .int .i64 (liE m x y)]) ∧ Below w.heap.size w w' := by
  by_cases hp : 1 ≤ m ∧ m ≤ 64 ∧ 1 ≤ x ∧ x ≤ 1099511627776
  · have hc : lineB m x = true := by simp [lineB]; omega
    go_enter Try.func20, Try.ntmps20
    go_wp2_with (first | (go_at_call 58; refine (rline_any _ _ _ _ _).mono ?_; rintro e w' ⟨rfl, hb⟩; obtain ⟨hc1, hf1⟩ := bcell hb) | (go_at_call 22; refine (rshare_any _ _ _ _).mono ?_; rintro e w' ⟨rfl, rfl⟩))
    all_goals go_ret2
    all_goals exact ⟨ret_ii (by unfold liV; omega) (by unfold liE; omega), hb.box (Nat.le_refl _)⟩
  · have hc : lineB m x = false := by simpa [lineB] using hp
    go_enter Try.func20, Try.ntmps20
    go_wp2_with (first | (go_at_call 58; refine (rline_any _ _ _ _ _).mono ?_; rintro e w' ⟨rfl, hb⟩; obtain ⟨hc1, hf1⟩ := bcell hb) | (go_at_call 22; refine (rshare_any _ _ _ _).mono ?_; rintro e w' ⟨rfl, rfl⟩))
    all_goals go_ret2
    all_goals exact ⟨ret_ii (by unfold liV; omega) (by unfold liE; omega), hb.box (Nat.le_refl _)⟩
end Go.Proofs.Ytjckfgadchobfaa
