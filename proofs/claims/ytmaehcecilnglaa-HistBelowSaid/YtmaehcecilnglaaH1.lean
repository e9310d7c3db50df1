/-
  The walks of hist.Total and of its reference (vergeref38).
-/
import Derived.Test.YtmaehcecilnglaaHW
namespace Go.Proofs.Ytmaehcecilnglaa
open Go.RowKit
set_option linter.unusedVariables false

theorem htime_any (n : Int) (w : World) : Calls Try.prog 22 #[.int .i64 n] w fun e w' => e = .returned (.bool (timeB n)) ∧ w = w' := by
  go_enter Try.func22, Try.ntmps22
  go_wp2
  all_goals go_ret
  all_goals exact ⟨ret_dec (by simp <;> omega), rfl⟩
theorem hrtime_any (n : Int) (w : World) : Calls Try.prog 25 #[.int .i64 n] w fun e w' => e = .returned (.bool (timeB n)) ∧ w = w' := by
  go_enter Try.func25, Try.ntmps25
  go_wp2
  all_goals go_ret
  all_goals exact ⟨ret_dec (by simp <;> omega), rfl⟩

/-! ### the total -/
def addT (o : Option Int) (n : Int) : Option Int := o.bind fun s => if 0 ≤ n ∧ n ≤ 4503599627370496 ∧ s + n ≤ 4503599627370496 then some (s + n) else none
def totO (V : List Int) : Option Int := V.foldl addT (some 0)
def totV (V : List Int) : Int := (totO V).getD 0
def totE (V : List Int) : Int := if (totO V).isSome then 0 else 2
theorem totO_snoc (V : List Int) (x : Int) : totO (V ++ [x]) = addT (totO V) x := by unfold totO; rw [List.foldl_append]; rfl
theorem totO_step {V : List Int} {k : Nat} {x : Int} (h : V[k]? = some x) : totO (V.take (k + 1)) = addT (totO (V.take k)) x := by
  rw [List.take_add_one, h, ← totO_snoc]; rfl
theorem foldl_none (V : List Int) : V.foldl addT none = none := by
  induction V with
  | nil => rfl
  | cons x r ih => exact ih
theorem totO_none {V : List Int} {k : Nat} (h : totO (V.take k) = none) : totO V = none := by
  have e : V = V.take k ++ V.drop k := (List.take_append_drop k V).symm
  rw [e]
  unfold totO at h ⊢
  rw [List.foldl_append, h, foldl_none]

theorem addT_ok {s x : Int} (h1 : 0 ≤ x) (h2 : x ≤ 4503599627370496) (h3 : s + x ≤ 4503599627370496) : addT (some s) x = some (s + x) := by
  unfold addT; simp only [Option.bind_some]; rw [if_pos ⟨h1, h2, h3⟩]
theorem addT_bad {s x : Int} (h : ¬ (0 ≤ x ∧ x ≤ 4503599627370496 ∧ s + x ≤ 4503599627370496)) : addT (some s) x = none := by
  unfold addT; simp only [Option.bind_some]; rw [if_neg h]
theorem tot_bad {V : List Int} {k : Nat} {x s : Int} (hx : V[k]? = some x) (hs : totO (V.take k) = some s) (h : ¬ (0 ≤ x ∧ x ≤ 4503599627370496 ∧ s + x ≤ 4503599627370496)) : totO V = none :=
  totO_none (k := k + 1) (by rw [totO_step hx, hs, addT_bad h])
theorem tot_pair (V : List Int) : Ending.returned (.tuple #[.int .i64 (totV V), .int .i64 (totE V)]) = .returned (.tuple #[.int .i64 ((totO V).getD 0), .int .i64 (if (totO V).isSome then 0 else 2)]) := rfl
theorem tot_pairB (V : List Int) : Ending.returned (.tuple #[.int .i64 (totV V), .bool (totO V).isSome]) = .returned (.tuple #[.int .i64 ((totO V).getD 0), .bool (totO V).isSome]) := rfl
set_option maxHeartbeats 400000 in
theorem total_any (V : List Int) (hV : V.length = 54) (w : World) :
    Calls Try.prog 9 #[.agg (hC V)] w fun e w' => e = .returned (.tuple #[.int .i64 (totV V), .int .i64 (totE V)]) ∧ Below w.heap.size w w' := by
  go_enter Try.func9, Try.ntmps9
  go_wp2_with (refine wpList_load_row rfl 22 _ rfl _ rfl 24 (hC V) (0, 0) _ (heap_alloc_new _ _) Try.underlying22 rfl (arr_size hV) ?_)
  go_loop [4, 9] (fun t i => ∃ (k : Nat) (s : Int), k ≤ 54 ∧ t = .int .i64 s ∧ i = .int .i64 k ∧ 0 ≤ s ∧ s ≤ 4503599627370496 ∧ Hid (totO (V.take k) = some s)) (fun _ i => 54 - (intOf i).toNat)
  case atStart => exact ⟨0, 0, by omega, rfl, rfl, by omega, by omega, rfl⟩
  case round =>
    obtain ⟨k, s, hk, rfl, rfl, s0, s1, hs⟩ := hrel
    by_cases hlt : k < 54
    · obtain ⟨x, hx⟩ : ∃ x, V[k]? = some x := ⟨V[k], List.getElem?_eq_getElem (by omega)⟩
      have hidx := run_idx hV hlt hx
      have hst := totO_step hx
      rw [hs.out] at hst
      by_cases h1 : 0 ≤ x ∧ x ≤ 4503599627370496
      · have ht1 : timeB x = true := by simp only [timeB]; exact decide_eq_true h1
        obtain ⟨x0, x1⟩ := h1
        by_cases h2 : s + x ≤ 4503599627370496
        · have ht2 : timeB (s + x) = true := by simp only [timeB]; exact decide_eq_true (by omega)
          rw [addT_ok x0 x1 h2] at hst
          have HST := Lib.hid hst
          clear hst hx hs
          go_wp2_with (first | (go_at_call 22; refine (htime_any _ _).mono ?_; rintro e w' ⟨rfl, rfl⟩))
          go_round
          case rel => exact ⟨k + 1, s + x, by omega, rfl, by go_num, by omega, by omega, HST⟩
          case measure => simp [intOf]; omega
        · have ht2 : timeB (s + x) = false := by simp only [timeB]; exact decide_eq_false (by omega)
          have HB := Lib.hid (tot_bad hx hs.out (by omega))
          have h2' : 4503599627370496 < s + x := by omega
          clear hst hx hs h2
          go_wp2_with (first | (go_at_call 22; refine (htime_any _ _).mono ?_; rintro e w' ⟨rfl, rfl⟩))
          go_ret2
          exact ⟨by rw [tot_pair, HB.out]; rfl, below_box _ _⟩
      · have ht1 : timeB x = false := by simp only [timeB]; exact decide_eq_false h1
        have HB := Lib.hid (tot_bad hx hs.out (by omega))
        clear hst hx hs h1
        go_wp2_with (first | (go_at_call 22; refine (htime_any _ _).mono ?_; rintro e w' ⟨rfl, rfl⟩))
        go_ret2
        exact ⟨by rw [tot_pair, HB.out]; rfl, below_box _ _⟩
    · have e : V.take k = V := List.take_of_length_le (by omega)
      have hs2 := hs.out
      rw [e] at hs2
      have HS := Lib.hid hs2
      clear hs hs2 e
      go_wp2
      go_ret2
      exact ⟨by rw [tot_pair, HS.out]; rfl, below_box _ _⟩
set_option maxHeartbeats 400000 in
theorem rtotalB_any (V : List Int) (hV : V.length = 54) (w : World) :
    Calls Try.prog 24 #[.agg (hC V)] w fun e w' => e = .returned (.tuple #[.int .i64 (totV V), .bool (totO V).isSome]) ∧ Below w.heap.size w w' := by
  go_enter Try.func24, Try.ntmps24
  go_wp2_with (refine wpList_load_row rfl 22 _ rfl _ rfl 24 (hC V) (0, 0) _ (heap_alloc_new _ _) Try.underlying22 rfl (arr_size hV) ?_)
  go_loop [4, 9] (fun t i => ∃ (k : Nat) (s : Int), k ≤ 54 ∧ t = .int .i64 s ∧ i = .int .i64 k ∧ 0 ≤ s ∧ s ≤ 4503599627370496 ∧ Hid (totO (V.take k) = some s)) (fun _ i => 54 - (intOf i).toNat)
  case atStart => exact ⟨0, 0, by omega, rfl, rfl, by omega, by omega, rfl⟩
  case round =>
    obtain ⟨k, s, hk, rfl, rfl, s0, s1, hs⟩ := hrel
    by_cases hlt : k < 54
    · obtain ⟨x, hx⟩ : ∃ x, V[k]? = some x := ⟨V[k], List.getElem?_eq_getElem (by omega)⟩
      have hidx := run_idx hV hlt hx
      have hst := totO_step hx
      rw [hs.out] at hst
      by_cases h1 : 0 ≤ x ∧ x ≤ 4503599627370496
      · have ht1 : timeB x = true := by simp only [timeB]; exact decide_eq_true h1
        obtain ⟨x0, x1⟩ := h1
        by_cases h2 : s + x ≤ 4503599627370496
        · have ht2 : timeB (s + x) = true := by simp only [timeB]; exact decide_eq_true (by omega)
          rw [addT_ok x0 x1 h2] at hst
          have HST := Lib.hid hst
          clear hst hx hs
          go_wp2_with (first | (go_at_call 25; refine (hrtime_any _ _).mono ?_; rintro e w' ⟨rfl, rfl⟩))
          go_round
          case rel => exact ⟨k + 1, s + x, by omega, rfl, by go_num, by omega, by omega, HST⟩
          case measure => simp [intOf]; omega
        · have ht2 : timeB (s + x) = false := by simp only [timeB]; exact decide_eq_false (by omega)
          have HB := Lib.hid (tot_bad hx hs.out (by omega))
          have h2' : 4503599627370496 < s + x := by omega
          clear hst hx hs h2
          go_wp2_with (first | (go_at_call 25; refine (hrtime_any _ _).mono ?_; rintro e w' ⟨rfl, rfl⟩))
          go_ret2
          exact ⟨by rw [tot_pairB, HB.out]; rfl, below_box _ _⟩
      · have ht1 : timeB x = false := by simp only [timeB]; exact decide_eq_false h1
        have HB := Lib.hid (tot_bad hx hs.out (by omega))
        clear hst hx hs h1
        go_wp2_with (first | (go_at_call 25; refine (hrtime_any _ _).mono ?_; rintro e w' ⟨rfl, rfl⟩))
        go_ret2
        exact ⟨by rw [tot_pairB, HB.out]; rfl, below_box _ _⟩
    · have e : V.take k = V := List.take_of_length_le (by omega)
      have hs2 := hs.out
      rw [e] at hs2
      have HS := Lib.hid hs2
      clear hs hs2 e
      go_wp2
      go_ret2
      exact ⟨by rw [tot_pairB, HS.out]; rfl, below_box _ _⟩
end Go.Proofs.Ytmaehcecilnglaa
