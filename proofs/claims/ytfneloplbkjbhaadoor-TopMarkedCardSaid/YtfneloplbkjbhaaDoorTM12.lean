/-
  TopMarked: what the walk wants besides.
-/
import Derived.Test.YtfneloplbkjbhaaDoorTM11
import Derived.Test.YtfneloplbkjbhaaDoorCur4
import Derived.Test.YtfneloplbkjbhaaDoorCurP
import Derived.Test.YtfneloplbkjbhaaDoorCurQ
namespace Go.Proofs.YtfneloplbkjbhaaDoor
open Go.RowKit Go.Shelf
set_option linter.unusedVariables false
theorem low_any (t : Int) (h0 : 0 ≤ t) (h1 : t < 9223372036854775808) (w : World) : Calls Tryd.prog 14 #[.int .i64 t] w fun e w' => e = .returned (.int .u32 (t % 4294967296)) ∧ w = w' := by
  go_enter Tryd.func14, Tryd.ntmps14
  go_wp2
  go_ret
  exact ⟨by first | rfl | (simp [IntKind.wrap]; omega), rfl⟩
theorem diff35 (w : World) : Calls Tryd.prog 15 #[.int .u32 3, .int .u32 5] w fun e w' => e = .returned (.int .i64 (-2)) ∧ w = w' := by
  go_enter Tryd.func15, Tryd.ntmps15
  go_wp2
  go_ret
  exact ⟨by first | rfl | exact ret_i (by decide +kernel) | exact ret_i (by unfold wrap64 wrap32; decide +kernel), rfl⟩
theorem begins_any (w : World) : Calls Tryd.prog 5 #[] w fun e w' => e = .returned (.bool true) ∧ w = w' := by
  go_enter Tryd.func5, Tryd.ntmps5
  go_wp2_with (first | (go_at_call 14; refine (low_any _ (by decide) (by decide) _).mono ?_; rintro e w' ⟨rfl, rfl⟩) | (go_at_call 15; refine (diff35 _).mono ?_; rintro e w' ⟨rfl, rfl⟩))
  go_ret
  exact ⟨by first | rfl | decide, rfl⟩
theorem text_long (A : Option Addr) (n cap : Nat) (w : World) (hl : 65536 < n) :
    Calls Tryd.prog 6 #[.slice A n cap] w fun e w' => e = .returned (.tuple #[.string ⟨#[]⟩, .int .i64 9]) ∧ w = w' := by
  have hz : (65536 : Int) < (n : Int) := by omega
  go_enter Tryd.func6, Tryd.ntmps6
  go_wp2
  go_ret2
  exact ⟨rfl, rfl⟩
/-- The times of a kind and of somebody. -/
def timesL (kd wh : Int) (ms : List QM) : List Int := (keptL kd wh ms).map QM.a
theorem times_snoc (kd wh : Int) {ms : List QM} {k : Nat} {q : QM} (h : ms[k]? = some q) : timesL kd wh (ms.take (k + 1)) = timesL kd wh (ms.take k) ++ (if dropB kd wh q then [] else [q.a]) := by
  unfold timesL
  rw [keptL_snoc kd wh h, List.map_append]
  cases dropB kd wh q <;> simp
theorem times_len (kd wh : Int) (ms : List QM) : (timesL kd wh ms).length ≤ ms.length := by
  unfold timesL keptL
  rw [List.length_map]
  exact List.length_filter_le _ _
theorem srt_first {xs : List Int} (h : srt 0 xs = true) {j : Nat} (hj : j < xs.length) : (xs[0]?.getD 0 : Int) ≤ xs[j]?.getD 0 ∧ (0 : Int) ≤ xs[0]?.getD 0 ∧ (xs[j]?.getD 0 : Int) ≤ 4503599627370496 := by
  have h0 := srt_at 0 xs h
  cases xs with
  | nil => simp at hj
  | cons x r =>
    have h1 : srt x r = true := by
      simp only [srt, Bool.and_eq_true] at h
      exact h.2
    have h2 := h0 0 (by simp)
    have h3 := h0 j hj
    refine ⟨?_, h2.2.1, h3.2.2⟩
    cases j with
    | zero => exact Int.le_refl _
    | succ j =>
      have := srt_at x r h1 j (by simpa using hj)
      simpa using this.1
theorem fi_parts {p j a : Int} {xs : List Int} (h : fiE p j a xs = 0) : curE p j a = 0 ∧ xs.length ≤ 1048576 ∧ srt 0 xs = true ∧ fiV p j a xs = (fitsL p j a 0 0 0 xs : Nat) := by
  have hv : fiV p j a xs = (fitsL p j a 0 0 0 xs : Nat) := by unfold fiV; rw [if_neg (by omega)]
  unfold fiE at h
  by_cases hc : curE p j a = 0
  · rw [if_neg (by omega)] at h
    by_cases h2 : 1048576 < xs.length ∨ srt 0 xs = false
    · rw [if_pos h2] at h; omega
    · refine ⟨hc, by omega, ?_, hv⟩
      cases hs : srt 0 xs
      · exact absurd (.inr hs) h2
      · rfl
  · rw [if_pos hc] at h; omega
/-- None fit only where there are none. -/
theorem fits_none {p j a : Int} {xs : List Int} (h : fiE p j a xs = 0) (h0 : fiV p j a xs = 0) : xs.length = 0 := by
  obtain ⟨_, _, _, hv⟩ := fi_parts h
  obtain ⟨_, _, h3⟩ := fits_found p j a xs
  have hn : fitsL p j a 0 0 0 xs = 0 := by omega
  rw [hn] at h3
  rcases Nat.eq_zero_or_pos xs.length with h4 | h4
  · exact h4
  · obtain ⟨i, hi, _⟩ := h3 h4
    omega
/-- As many as fit are no more than may be. -/
theorem fits_most {p j a : Int} {xs : List Int} {n : Nat} (h : fiE p j a xs = 0) (hn : fiV p j a xs = ((n + 1 : Nat) : Int)) :
    n < xs.length ∧ 0 ≤ xs[n]?.getD 0 - xs[0]?.getD 0 ∧ xs[n]?.getD 0 - xs[0]?.getD 0 ≤ 4503599627370496 ∧
    (xs[n]?.getD 0 - xs[0]?.getD 0 < 4503599627370496 → ((n + 1 : Nat) : Int) ≤ moV p j a (xs[n]?.getD 0 - xs[0]?.getD 0 + 1)) ∧
    moE p j a (min (xs[n]?.getD 0 - xs[0]?.getD 0 + 1) 4503599627370496) = 0 := by
  obtain ⟨hc, hl, hs, hv⟩ := fi_parts h
  obtain ⟨h1, h2, _⟩ := fits_found p j a xs
  have hf : fitsL p j a 0 0 0 xs = n + 1 := by omega
  rw [hf] at h1 h2
  have hlt : n < xs.length := by omega
  obtain ⟨s1, s2, s3⟩ := srt_first hs hlt
  have hcu : 1 ≤ p ∧ p ≤ 1099511627776 ∧ 0 ≤ j ∧ j ≤ 1099511627776 ∧ 1 ≤ a ∧ a ≤ p := by
    unfold curE at hc
    by_cases hq : 1 ≤ p ∧ p ≤ 1099511627776 ∧ 0 ≤ j ∧ j ≤ 1099511627776 ∧ 1 ≤ a ∧ a ≤ p
    · exact hq
    · rw [if_neg hq] at hc; omega
  refine ⟨hlt, by omega, by omega, fun hd => ?_, ?_⟩
  · have hg : gapV p j a ((n + 1 : Nat) : Int) ≤ xs[n]?.getD 0 - xs[0]?.getD 0 := by
      rcases Nat.eq_zero_or_pos n with rfl | hn0
      · unfold gapV
        rw [show (((0 + 1 : Nat) : Int) - 1) = 0 from rfl, Int.zero_mul, Int.zero_mul]
        omega
      · have hb := h2 n (by omega)
        have h3 : ¬ (xs[n]?.getD 0 - xs[0]?.getD 0 < gapV p j a ((n : Int) - (0 : Nat) + 1)) := fun hx => hb ⟨0, hn0, hx⟩
        rw [show ((n : Int) - (0 : Nat) + 1) = ((n + 1 : Nat) : Int) from by omega] at h3
        omega
    have h4 := most_lt_iff (p := p) (j := j) (a := a) (d := xs[n]?.getD 0 - xs[0]?.getD 0) (m := ((n + 1 : Nat) : Int)) hc (by omega) (by omega) (by omega) hd
    omega
  · unfold moE
    rw [if_neg (by omega), if_pos (by omega)]
end Go.Proofs.YtfneloplbkjbhaaDoor
