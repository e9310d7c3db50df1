/-
  The walks of package demand and of its reference (vergeref23): right, Check, times.
-/
import Derived.Test.YtfneloplbkjbhaaCur
import Derived.Test.YtfneloplbkjbhaaVr
namespace Go.Proofs.Ytfneloplbkjbhaa
open Go.RowKit
set_option linter.unusedVariables false

/-- A load: period, jitter, apart, cost. -/
def ldB (x : Q4) : Bool := decide (curE x.a x.b x.c = 0 ∧ 0 ≤ x.d ∧ x.d ≤ 1099511627776)

set_option maxHeartbeats 400000 in
theorem right_any (p j a c : Int) (w : World) :
    Calls Try.prog 38 #[.agg #[.int .i64 p, .int .i64 j, .int .i64 a, .int .i64 c]] w fun e w' => e = .returned (.bool (ldB ⟨p, j, a, c⟩)) ∧ Below w.heap.size w w' := by
  by_cases hE : curE p j a = 0
  · have hE1 : (curE p j a == 0) = true := by simpa using hE
    have HE := Lib.hid hE
    clear hE
    go_enter Try.func38, Try.ntmps38
    go_wp2_with (first | (go_at_call 45; refine (ccheck_any _ _ _ _).mono ?_; rintro e w1 ⟨rfl, hb⟩; have q3 := box_cell hb 3 _ rfl))
    all_goals go_ret
    all_goals exact ⟨ret_dec (by have := HE.out; simp [this] <;> omega), hb.box (Nat.le_refl _)⟩
  · have hE1 : (curE p j a == 0) = false := by simpa using hE
    have HE := Lib.hid hE
    clear hE
    go_enter Try.func38, Try.ntmps38
    go_wp2_with (first | (go_at_call 45; refine (ccheck_any _ _ _ _).mono ?_; rintro e w1 ⟨rfl, hb⟩; have q3 := box_cell hb 3 _ rfl))
    all_goals go_ret
    all_goals exact ⟨ret_dec (by have := HE.out; simp [this]), hb.box (Nat.le_refl _)⟩
def ldsE (xs : List Q4) : Int := if 256 < xs.length ∨ xs.all ldB = false then 2 else 0

set_option maxHeartbeats 400000 in
theorem dcheck_any (A : Option Addr) (xs : List Q4) (cap : Nat) (w : World) (h : R4 w w.heap.size A xs) (hl : xs.length ≤ 9223372036854775807) :
    Calls Try.prog 24 #[.slice A xs.length cap] w fun e w' => e = .returned (.int .i64 (ldsE xs)) ∧ Below w.heap.size w w' := by
  by_cases hn : 256 < xs.length
  · go_enter Try.func24, Try.ntmps24
    go_wp2
    go_ret
    exact ⟨ret_i (by unfold ldsE; rw [if_pos (.inl hn)]), Below.refl _ _⟩
  have hn' : xs.length ≤ 256 := by omega
  have HN := Lib.hid hn
  clear hn
  go_enter Try.func24, Try.ntmps24
  go_wp2
  go_loopw [10] (fun i wr => ∃ (k : Nat), k ≤ xs.length ∧ i = .int .i64 k ∧ Below w.heap.size w wr ∧ Hid (xs.all ldB = (xs.drop k).all ldB)) (fun i _ => xs.length - (intOf i).toNat)
  case atStart => exact ⟨0, by omega, rfl, Below.refl _ _, rfl⟩
  case round =>
    obtain ⟨k, hk, rfl, hbl, hs⟩ := hrel
    by_cases hlt : k < xs.length
    · obtain ⟨b, off, rfl, hbB, hc⟩ := h (by omega)
      obtain ⟨x, hx⟩ := some_at hlt
      obtain ⟨c1, c2, c3, c4⟩ := hc k x hx
      replace c1 := (hbl.cell (p := ⟨b, off + k * 4, none⟩) hbB).trans c1
      replace c2 := (hbl.cell (p := ⟨b, off + k * 4 + 1, none⟩) hbB).trans c2
      replace c3 := (hbl.cell (p := ⟨b, off + k * 4 + 2, none⟩) hbB).trans c3
      replace c4 := (hbl.cell (p := ⟨b, off + k * 4 + 3, none⟩) hbB).trans c4
      have hs' := hs.out
      rw [dropR_cons hx, List.all_cons] at hs'
      have HS := Lib.hid hs'
      clear hs' hs hc hx
      obtain ⟨xa, xb, xc, xd⟩ := x
      simp only at c1 c2 c3 c4
      cases hr : ldB ⟨xa, xb, xc, xd⟩
      · go_wp2_with (first | (go_at_call 38; refine (right_any _ _ _ _ _).mono ?_; rintro e w1 ⟨rfl, hb⟩))
        go_ret
        exact ⟨ret_i (by have := HS.out; unfold ldsE; rw [this, hr]; simp), hbl.next1 hbl.size hb⟩
      · go_wp2_with (first | (go_at_call 38; refine (right_any _ _ _ _ _).mono ?_; rintro e w1 ⟨rfl, hb⟩))
        go_roundw
        case rel => exact ⟨k + 1, by omega, by go_num, hbl.next1 hbl.size hb, by have := HS.out; unfold Hid; rw [this, hr]; simp⟩
        case measure => simp [intOf]; omega
    · go_wp2
      go_ret
      exact ⟨ret_i (by have := hs.out; rw [List.drop_eq_nil_of_le (by omega)] at this; unfold ldsE; rw [this]; simp; omega), hbl⟩
end Go.Proofs.Ytfneloplbkjbhaa
