/-
  slices.IndexFunc and ContainsFunc, with ceiling.New's function; the counter's two functions, and begins.
-/
import Derived.Test.YtcchmkpodfjhcaaCT2
namespace Go.Proofs.Ytcchmkpodfjhcaa
open Go.RowKit
set_option linter.unusedVariables false
theorem low_any (t : Int) (h0 : 0 ≤ t) (h1 : t < 9223372036854775808) (w : World) : Calls Try.prog 75 #[.int .i64 t] w fun e w' => e = .returned (.int .u32 (t % 4294967296)) ∧ w = w' := by
  go_enter Try.func75, Try.ntmps75
  go_wp2
  go_ret
  exact ⟨by first | rfl | (simp [IntKind.wrap]; omega), rfl⟩
theorem diff35 (w : World) : Calls Try.prog 76 #[.int .u32 3, .int .u32 5] w fun e w' => e = .returned (.int .i64 (-2)) ∧ w = w' := by
  go_enter Try.func76, Try.ntmps76
  go_wp2
  go_ret
  exact ⟨by first | rfl | exact ret_i (by decide +kernel) | exact ret_i (by unfold wrap64 wrap32; decide +kernel), rfl⟩
theorem begins_any (w : World) : Calls Try.prog 32 #[] w fun e w' => e = .returned (.bool true) ∧ w = w' := by
  go_enter Try.func32, Try.ntmps32
  go_wp2_with (first | (go_at_call 75; refine (low_any _ (by decide) (by decide) _).mono ?_; rintro e w' ⟨rfl, rfl⟩) | (go_at_call 76; refine (diff35 _).mono ?_; rintro e w' ⟨rfl, rfl⟩))
  go_ret
  exact ⟨by first | rfl | decide, rfl⟩
def oddP (p : Int) : Bool := decide (p < 0) || decide (63 < p)
theorem odd_any (p : Int) (w : World) : Calls Try.prog 77 #[.int .i64 p] w fun e w' => e = .returned (.bool (oddP p)) ∧ w = w' := by
  by_cases h1 : p < 0
  · go_enter Try.func77, Try.ntmps77
    go_wp2
    go_ret
    exact ⟨by simp [oddP, h1], rfl⟩
  · go_enter Try.func77, Try.ntmps77
    go_wp2
    go_ret
    exact ⟨by simp [oddP] <;> omega, rfl⟩
set_option maxHeartbeats 1000000 in
theorem index_any (A : Option Addr) (xs : List Int) (cap : Nat) (w : World) (h : Ints w w.heap.size A xs) (hl : xs.length ≤ 17592186044416) :
    Calls Try.prog 96 #[.slice A xs.length cap, .func (.func 77) #[] #[]] w fun e w' => (∃ i : Int, e = .returned (.int .i64 i) ∧ (0 ≤ i ↔ xs.any oddP = true)) ∧ w = w' := by
  have li : (xs.length : Int) ≤ 17592186044416 := by omega
  go_enter Try.func96, Try.ntmps96
  go_wp2
  go_loop [8] (fun i => ∃ (k : Nat), k ≤ xs.length ∧ i = .int .i64 k ∧ Hid ((xs.take k).any oddP = false)) (fun i => xs.length - (intOf i).toNat)
  case atStart => exact ⟨0, by omega, rfl, rfl⟩
  case round =>
    obtain ⟨k, hk, rfl, hp⟩ := hrel
    by_cases hlt : k < xs.length
    · obtain ⟨b, off, rfl, hb, hc⟩ := h (by omega)
      obtain ⟨x, hx⟩ : ∃ x, xs[k]? = some x := ⟨xs[k], List.getElem?_eq_getElem hlt⟩
      have hcx := hc k hlt
      rw [hx, Option.getD_some] at hcx
      have ik : (k : Int) < (xs.length : Int) := by omega
      cases hod : oddP x with
      | true =>
        have hany : xs.any oddP = true := List.any_eq_true.2 ⟨x, List.mem_of_getElem? hx, hod⟩
        have HA := Kept.mk hany
        clear hany hx hp hc
        go_wp2_with ((go_at_call 77; refine (odd_any _ _).mono ?_; rintro e w' ⟨rfl, rfl⟩))
        go_ret
        exact ⟨⟨k, rfl, fun _ => HA.out, fun _ => by omega⟩, rfl⟩
      | false =>
        have hst : (xs.take (k + 1)).any oddP = false := by
          rw [List.take_add_one, hx, List.any_append, hp.out]
          simp [hod]
        have HS := Kept.mk hst
        clear hst hx hp hc
        go_wp2_with ((go_at_call 77; refine (odd_any _ _).mono ?_; rintro e w' ⟨rfl, rfl⟩))
        go_round
        case rel => exact ⟨k + 1, by omega, by go_num, HS.out⟩
        case measure => simp [intOf]; omega
    · have hall : xs.any oddP = false := by
        have := hp.out
        rwa [List.take_of_length_le (by omega)] at this
      have HA := Kept.mk hall
      clear hall hp
      go_wp2
      go_ret
      exact ⟨⟨-1, rfl, fun h => absurd h (by decide), fun h => by have := List.any_eq_true.2 h; rw [HA.out] at this; cases this⟩, rfl⟩
theorem contains_any (A : Option Addr) (xs : List Int) (cap : Nat) (w : World) (h : Ints w w.heap.size A xs) (hl : xs.length ≤ 17592186044416) :
    Calls Try.prog 78 #[.slice A xs.length cap, .func (.func 77) #[] #[]] w fun e w' => e = .returned (.bool (xs.any oddP)) ∧ w = w' := by
  have c := index_any A xs cap w h hl
  obtain ⟨a, ha⟩ : ∃ a, a = xs.any oddP := ⟨_, rfl⟩
  rw [← ha] at c ⊢
  go_enter Try.func78, Try.ntmps78
  go_wp2_with fail
  refine c.mono ?_
  rintro e w1 ⟨⟨i, rfl, hi⟩, rfl⟩
  clear c
  cases a with
  | true =>
    have h0 : 0 ≤ i := hi.2 rfl
    clear hi ha
    go_wp2
    go_ret
    refine ⟨?_, rfl⟩
    first | rfl | exact ret_bool (by simp <;> omega)
  | false =>
    have h0 : i < 0 := by
      rcases Int.lt_or_le i 0 with h | h
      · exact h
      · have := hi.1 h; cases this
    clear hi ha
    go_wp2
    go_ret
    refine ⟨?_, rfl⟩
    first | rfl | exact ret_bool (by simp <;> omega)
end Go.Proofs.Ytcchmkpodfjhcaa
