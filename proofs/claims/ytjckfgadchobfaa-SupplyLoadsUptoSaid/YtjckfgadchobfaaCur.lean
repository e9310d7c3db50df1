/-
  The walks of package curve and of its reference (vergeref22): Check, Most, Gap and what they call.
-/
import Derived.Test.YtjckfgadchobfaaVk
namespace Go.Proofs.Ytjckfgadchobfaa
open Go.RowKit
set_option linter.unusedVariables false

/-- Why a curve is not right. -/
def curE (p j a : Int) : Int := if 1 ≤ p ∧ p ≤ 1099511627776 ∧ 0 ≤ j ∧ j ≤ 1099511627776 ∧ 1 ≤ a ∧ a ≤ p then 0 else 2

set_option maxHeartbeats 400000 in
theorem ccheck_any (p j a : Int) (w : World) :
    Calls Try.prog 29 #[.agg #[.int .i64 p, .int .i64 j, .int .i64 a]] w fun e w' => e = .returned (.int .i64 (curE p j a)) ∧ Below w.heap.size w w' := by
  go_enter Try.func29, Try.ntmps29
  go_wp2
  all_goals go_ret
  all_goals exact ⟨ret_i (by unfold curE; omega), below_box _ _⟩
set_option maxHeartbeats 400000 in
theorem rccheck_any (p j a : Int) (w : World) :
    Calls Try.prog 30 #[.agg #[.int .i64 p, .int .i64 j, .int .i64 a]] w fun e w' => e = .returned (.int .i64 (curE p j a)) ∧ Below w.heap.size w w' := by
  go_enter Try.func30, Try.ntmps30
  go_wp2
  all_goals go_ret
  all_goals exact ⟨ret_i (by unfold curE; omega), below_box _ _⟩

theorem ctime_any (n : Int) (w : World) :
    Calls Try.prog 62 #[.int .i64 n] w fun e w' => e = .returned (.bool (timeB n)) ∧ w = w' := by
  go_enter Try.func62, Try.ntmps62
  go_wp2
  all_goals go_ret
  all_goals exact ⟨ret_dec (by simp <;> omega), rfl⟩
theorem crtime_any (n : Int) (w : World) :
    Calls Try.prog 61 #[.int .i64 n] w fun e w' => e = .returned (.bool (timeB n)) ∧ w = w' := by
  go_enter Try.func61, Try.ntmps61
  go_wp2
  all_goals go_ret
  all_goals exact ⟨ret_dec (by simp <;> omega), rfl⟩

/-- A length in parts, the last one begun. -/
def upD (x p : Int) : Int := (x + p - 1) / p

theorem parts_any (x p : Int) (h0 : 0 ≤ x) (h1 : x ≤ 9007199254740992) (h2 : 1 ≤ p) (h3 : p ≤ 1099511627776) (w : World) :
    Calls Try.prog 63 #[.int .i64 x, .int .i64 p] w fun e w' => e = .returned (.int .i64 (upD x p)) ∧ w = w' := by
  go_enter Try.func63, Try.ntmps63
  go_wp2
  all_goals go_ret
  exact ⟨ret_i (by unfold upD; rfl), rfl⟩

theorem rup_any (x p : Int) (h0 : 0 ≤ x) (h1 : x ≤ 9007199254740992) (h2 : 1 ≤ p) (h3 : p ≤ 1099511627776) (w : World) :
    Calls Try.prog 64 #[.int .i64 x, .int .i64 p] w fun e w' => e = .returned (.int .i64 (upD x p)) ∧ w = w' := by
  have ur := up_ref x p h0 h2
  have d1 : 0 ≤ x / p := Int.ediv_nonneg h0 (by omega)
  have d2 : x / p ≤ x := Int.ediv_le_self p h0
  by_cases hr : x % p = 0
  · have hr' : (x % p == 0) = true := by simp [hr]
    rw [if_pos hr] at ur
    have Ur := Lib.hid ur
    clear ur hr
    go_enter Try.func64, Try.ntmps64
    go_wp2
    all_goals go_ret
    all_goals exact ⟨ret_i (by unfold upD; rw [Ur.out]), rfl⟩
  · have hr' : (x % p == 0) = false := by simp [hr]
    rw [if_neg hr] at ur
    have Ur := Lib.hid ur
    clear ur hr
    go_enter Try.func64, Try.ntmps64
    go_wp2
    all_goals go_ret
    all_goals exact ⟨ret_i (by unfold upD; rw [Ur.out]), rfl⟩

def moE (p j a x : Int) : Int := if curE p j a ≠ 0 then 2 else if 0 ≤ x ∧ x ≤ 4503599627370496 then 0 else 1
def moV (p j a x : Int) : Int := if curE p j a ≠ 0 then 0 else if 1 ≤ x ∧ x ≤ 4503599627370496 then min (upD (x + j) p) (upD x a) else 0

set_option maxHeartbeats 400000 in
theorem most_any (p j a x : Int) (w : World) :
    Calls Try.prog 24 #[.agg #[.int .i64 p, .int .i64 j, .int .i64 a], .int .i64 x] w fun e w' => e = .returned (.tuple #[.int .i64 (moV p j a x), .int .i64 (moE p j a x)]) ∧ Below w.heap.size w w' := by
  by_cases hcu : 1 ≤ p ∧ p ≤ 1099511627776 ∧ 0 ≤ j ∧ j ≤ 1099511627776 ∧ 1 ≤ a ∧ a ≤ p
  · have hE : curE p j a = 0 := by unfold curE; rw [if_pos hcu]
    by_cases hx : 0 ≤ x ∧ x ≤ 4503599627370496
    · have ht : timeB x = true := by simp [timeB, hx]
      by_cases hx0 : x = 0
      · subst hx0
        go_enter Try.func24, Try.ntmps24
        go_wp2_with (first | (go_at_call 29; refine (ccheck_any _ _ _ _).mono ?_; rintro e w' ⟨rfl, hb⟩; obtain ⟨hc1, hf1⟩ := bcell hb) | (go_at_call 62; refine (ctime_any _ _).mono ?_; rintro e w' ⟨rfl, rfl⟩))
        all_goals go_ret2
        all_goals exact ⟨ret_ii (by unfold moV; omega) (by unfold moE; omega), hb.box (Nat.le_refl _)⟩
      · have hx0' : (x == 0) = false := by simp [hx0]
        have hW : IntKind.i64.wrap (x + j) = x + j := IntWalk.i64_in _ (by omega)
        obtain ⟨x1, x2⟩ := hx
        go_enter Try.func24, Try.ntmps24
        go_wp2_with (first | (go_at_call 29; refine (ccheck_any _ _ _ _).mono ?_; rintro e w' ⟨rfl, hb⟩; obtain ⟨hc1, hf1⟩ := bcell hb) | (go_at_call 62; refine (ctime_any _ _).mono ?_; rintro e w' ⟨rfl, rfl⟩))
        go_quiet ((go_at_call 63; exact quiet_left (parts_any _ _ (by omega) (by omega) (by omega) (by omega) _)))
        go_wp2
        all_goals go_ret2
        all_goals exact ⟨ret_ii (by unfold moV; omega) (by unfold moE; omega), (hb.box (Nat.le_refl _)).drewN _⟩
    · have ht : timeB x = false := by simpa [timeB] using hx
      go_enter Try.func24, Try.ntmps24
      go_wp2_with (first | (go_at_call 29; refine (ccheck_any _ _ _ _).mono ?_; rintro e w' ⟨rfl, hb⟩; obtain ⟨hc1, hf1⟩ := bcell hb) | (go_at_call 62; refine (ctime_any _ _).mono ?_; rintro e w' ⟨rfl, rfl⟩))
      all_goals go_ret2
      all_goals exact ⟨ret_ii (by unfold moV; omega) (by unfold moE; omega), hb.box (Nat.le_refl _)⟩
  · have hE : curE p j a = 2 := by unfold curE; rw [if_neg hcu]
    go_enter Try.func24, Try.ntmps24
    go_wp2_with (first | (go_at_call 29; refine (ccheck_any _ _ _ _).mono ?_; rintro e w' ⟨rfl, hb⟩; obtain ⟨hc1, hf1⟩ := bcell hb) | (go_at_call 62; refine (ctime_any _ _).mono ?_; rintro e w' ⟨rfl, rfl⟩))
    all_goals go_ret2
    all_goals exact ⟨ret_ii (by unfold moV; omega) (by unfold moE; omega), hb.box (Nat.le_refl _)⟩
set_option maxHeartbeats 400000 in
theorem rmost_any (p j a x : Int) (w : World) :
    Calls Try.prog 25 #[.agg #[.int .i64 p, .int .i64 j, .int .i64 a], .int .i64 x] w fun e w' => e = .returned (.tuple #[.int .i64 (moV p j a x), .int .i64 (moE p j a x)]) ∧ Below w.heap.size w w' := by
  by_cases hcu : 1 ≤ p ∧ p ≤ 1099511627776 ∧ 0 ≤ j ∧ j ≤ 1099511627776 ∧ 1 ≤ a ∧ a ≤ p
  · have hE : curE p j a = 0 := by unfold curE; rw [if_pos hcu]
    by_cases hx : 0 ≤ x ∧ x ≤ 4503599627370496
    · have ht : timeB x = true := by simp [timeB, hx]
      by_cases hx0 : x = 0
      · subst hx0
        go_enter Try.func25, Try.ntmps25
        go_wp2_with (first | (go_at_call 30; refine (rccheck_any _ _ _ _).mono ?_; rintro e w' ⟨rfl, hb⟩; obtain ⟨hc1, hf1⟩ := bcell hb) | (go_at_call 61; refine (crtime_any _ _).mono ?_; rintro e w' ⟨rfl, rfl⟩))
        all_goals go_ret2
        all_goals exact ⟨ret_ii (by unfold moV; omega) (by unfold moE; omega), hb.box (Nat.le_refl _)⟩
      · have hx0' : (x == 0) = false := by simp [hx0]
        have hW : IntKind.i64.wrap (x + j) = x + j := IntWalk.i64_in _ (by omega)
        obtain ⟨x1, x2⟩ := hx
        go_enter Try.func25, Try.ntmps25
        go_wp2_with (first | (go_at_call 30; refine (rccheck_any _ _ _ _).mono ?_; rintro e w' ⟨rfl, hb⟩; obtain ⟨hc1, hf1⟩ := bcell hb) | (go_at_call 61; refine (crtime_any _ _).mono ?_; rintro e w' ⟨rfl, rfl⟩))
        go_quiet ((go_at_call 64; exact quiet_left (rup_any _ _ (by omega) (by omega) (by omega) (by omega) _)))
        go_wp2
        all_goals go_ret2
        all_goals exact ⟨ret_ii (by unfold moV; omega) (by unfold moE; omega), (hb.box (Nat.le_refl _)).drewN _⟩
    · have ht : timeB x = false := by simpa [timeB] using hx
      go_enter Try.func25, Try.ntmps25
      go_wp2_with (first | (go_at_call 30; refine (rccheck_any _ _ _ _).mono ?_; rintro e w' ⟨rfl, hb⟩; obtain ⟨hc1, hf1⟩ := bcell hb) | (go_at_call 61; refine (crtime_any _ _).mono ?_; rintro e w' ⟨rfl, rfl⟩))
      all_goals go_ret2
      all_goals exact ⟨ret_ii (by unfold moV; omega) (by unfold moE; omega), hb.box (Nat.le_refl _)⟩
  · have hE : curE p j a = 2 := by unfold curE; rw [if_neg hcu]
    go_enter Try.func25, Try.ntmps25
    go_wp2_with (first | (go_at_call 30; refine (rccheck_any _ _ _ _).mono ?_; rintro e w' ⟨rfl, hb⟩; obtain ⟨hc1, hf1⟩ := bcell hb) | (go_at_call 61; refine (crtime_any _ _).mono ?_; rintro e w' ⟨rfl, rfl⟩))
    all_goals go_ret2
    all_goals exact ⟨ret_ii (by unfold moV; omega) (by unfold moE; omega), hb.box (Nat.le_refl _)⟩

def gapV (p j a n : Int) : Int := max ((n - 1) * p - j) ((n - 1) * a)

theorem gap_bd {p j a n : Int} (h1 : 1 ≤ p) (h2 : p ≤ 1099511627776) (h3 : 0 ≤ j) (h4 : j ≤ 1099511627776) (h5 : 1 ≤ a) (h6 : a ≤ p) (n1 : 1 ≤ n) (n2 : n ≤ 1048576) :
    0 ≤ (n - 1) * p ∧ (n - 1) * p ≤ 1152921504606846976 ∧ 0 ≤ (n - 1) * a ∧ (n - 1) * a ≤ 1152921504606846976 := by
  have k1 : (n - 1) * p ≤ 1048576 * 1099511627776 := Int.mul_le_mul (by omega) h2 (by omega) (by omega)
  have k2 : (n - 1) * a ≤ 1048576 * 1099511627776 := Int.mul_le_mul (by omega) (by omega) (by omega) (by omega)
  have k3 : 0 ≤ (n - 1) * p := Int.mul_nonneg (by omega) (by omega)
  have k4 : 0 ≤ (n - 1) * a := Int.mul_nonneg (by omega) (by omega)
  omega

set_option maxHeartbeats 400000 in
theorem gap_any (p j a n : Int) (h1 : 1 ≤ p) (h2 : p ≤ 1099511627776) (h3 : 0 ≤ j) (h4 : j ≤ 1099511627776) (h5 : 1 ≤ a) (h6 : a ≤ p) (n1 : 1 ≤ n) (n2 : n ≤ 1048576) (w : World) :
    Calls Try.prog 65 #[.agg #[.int .i64 p, .int .i64 j, .int .i64 a], .int .i64 n] w fun e w' => e = .returned (.int .i64 (gapV p j a n)) ∧ Below w.heap.size w w' := by
  obtain ⟨b1, b2, b3, b4⟩ := gap_bd h1 h2 h3 h4 h5 h6 n1 n2
  go_enter Try.func65, Try.ntmps65
  go_wp2
  all_goals go_ret
  all_goals exact ⟨ret_i (by unfold gapV; omega), below_box _ _⟩
set_option maxHeartbeats 400000 in
theorem rgap_any (p j a n : Int) (h1 : 1 ≤ p) (h2 : p ≤ 1099511627776) (h3 : 0 ≤ j) (h4 : j ≤ 1099511627776) (h5 : 1 ≤ a) (h6 : a ≤ p) (n1 : 1 ≤ n) (n2 : n ≤ 1048576) (w : World) :
    Calls Try.prog 66 #[.agg #[.int .i64 p, .int .i64 j, .int .i64 a], .int .i64 n] w fun e w' => e = .returned (.int .i64 (gapV p j a n)) ∧ Below w.heap.size w w' := by
  obtain ⟨b1, b2, b3, b4⟩ := gap_bd h1 h2 h3 h4 h5 h6 n1 n2
  go_enter Try.func66, Try.ntmps66
  go_wp2
  all_goals go_ret
  all_goals exact ⟨ret_i (by unfold gapV; omega), below_box _ _⟩

def gaE (p j a n : Int) : Int := if curE p j a ≠ 0 then 2 else if 1 ≤ n ∧ n ≤ 1048576 then 0 else 1
def gaV (p j a n : Int) : Int := if gaE p j a n ≠ 0 then 0 else gapV p j a n

set_option maxHeartbeats 400000 in
theorem gapE_any (p j a n : Int) (w : World) :
    Calls Try.prog 26 #[.agg #[.int .i64 p, .int .i64 j, .int .i64 a], .int .i64 n] w fun e w' => e = .returned (.tuple #[.int .i64 (gaV p j a n), .int .i64 (gaE p j a n)]) ∧ Below w.heap.size w w' := by
  by_cases hcu : 1 ≤ p ∧ p ≤ 1099511627776 ∧ 0 ≤ j ∧ j ≤ 1099511627776 ∧ 1 ≤ a ∧ a ≤ p
  · have hE : curE p j a = 0 := by unfold curE; rw [if_pos hcu]
    by_cases hn : 1 ≤ n ∧ n ≤ 1048576
    · go_enter Try.func26, Try.ntmps26
      go_wp2_with (first | (go_at_call 29; refine (ccheck_any _ _ _ _).mono ?_; rintro e w' ⟨rfl, hb⟩; obtain ⟨hc1, hf1⟩ := bcell hb) | (go_at_call 65; refine (gap_any _ _ _ _ (by omega) (by omega) (by omega) (by omega) (by omega) (by omega) (by omega) (by omega) _).mono ?_; rintro e w' ⟨rfl, hb2⟩))
      all_goals go_ret2
      all_goals exact ⟨ret_ii (by unfold gaV gaE; rw [if_neg (by omega)]) (by unfold gaE; omega), (hb.trans (hb2.mono hb.size)).box (Nat.le_refl _)⟩
    · go_enter Try.func26, Try.ntmps26
      go_wp2_with (first | (go_at_call 29; refine (ccheck_any _ _ _ _).mono ?_; rintro e w' ⟨rfl, hb⟩; obtain ⟨hc1, hf1⟩ := bcell hb))
      all_goals go_ret2
      all_goals exact ⟨ret_ii (by unfold gaV gaE; omega) (by unfold gaE; omega), hb.box (Nat.le_refl _)⟩
  · have hE : curE p j a = 2 := by unfold curE; rw [if_neg hcu]
    go_enter Try.func26, Try.ntmps26
    go_wp2_with (first | (go_at_call 29; refine (ccheck_any _ _ _ _).mono ?_; rintro e w' ⟨rfl, hb⟩; obtain ⟨hc1, hf1⟩ := bcell hb))
    all_goals go_ret2
    all_goals exact ⟨ret_ii (by unfold gaV gaE; omega) (by unfold gaE; omega), hb.box (Nat.le_refl _)⟩
set_option maxHeartbeats 400000 in
theorem rgapE_any (p j a n : Int) (w : World) :
    Calls Try.prog 27 #[.agg #[.int .i64 p, .int .i64 j, .int .i64 a], .int .i64 n] w fun e w' => e = .returned (.tuple #[.int .i64 (gaV p j a n), .int .i64 (gaE p j a n)]) ∧ Below w.heap.size w w' := by
  by_cases hcu : 1 ≤ p ∧ p ≤ 1099511627776 ∧ 0 ≤ j ∧ j ≤ 1099511627776 ∧ 1 ≤ a ∧ a ≤ p
  · have hE : curE p j a = 0 := by unfold curE; rw [if_pos hcu]
    by_cases hn : 1 ≤ n ∧ n ≤ 1048576
    · go_enter Try.func27, Try.ntmps27
      go_wp2_with (first | (go_at_call 30; refine (rccheck_any _ _ _ _).mono ?_; rintro e w' ⟨rfl, hb⟩; obtain ⟨hc1, hf1⟩ := bcell hb) | (go_at_call 66; refine (rgap_any _ _ _ _ (by omega) (by omega) (by omega) (by omega) (by omega) (by omega) (by omega) (by omega) _).mono ?_; rintro e w' ⟨rfl, hb2⟩))
      all_goals go_ret2
      all_goals exact ⟨ret_ii (by unfold gaV gaE; rw [if_neg (by omega)]) (by unfold gaE; omega), (hb.trans (hb2.mono hb.size)).box (Nat.le_refl _)⟩
    · go_enter Try.func27, Try.ntmps27
      go_wp2_with (first | (go_at_call 30; refine (rccheck_any _ _ _ _).mono ?_; rintro e w' ⟨rfl, hb⟩; obtain ⟨hc1, hf1⟩ := bcell hb))
      all_goals go_ret2
      all_goals exact ⟨ret_ii (by unfold gaV gaE; omega) (by unfold gaE; omega), hb.box (Nat.le_refl _)⟩
  · have hE : curE p j a = 2 := by unfold curE; rw [if_neg hcu]
    go_enter Try.func27, Try.ntmps27
    go_wp2_with (first | (go_at_call 30; refine (rccheck_any _ _ _ _).mono ?_; rintro e w' ⟨rfl, hb⟩; obtain ⟨hc1, hf1⟩ := bcell hb))
    all_goals go_ret2
    all_goals exact ⟨ret_ii (by unfold gaV gaE; omega) (by unfold gaE; omega), hb.box (Nat.le_refl _)⟩
end Go.Proofs.Ytjckfgadchobfaa
