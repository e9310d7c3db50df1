/-
  The walks of the pool's small functions.
-/
import Derived.Test.YtakkfgkogomjbaaDoorP0
namespace Go.Proofs.YtakkfgkogomjbaaDoor
open Go.RowKit
set_option linter.unusedVariables false
def whV (n : Nat) (F : Nat → Int) (i : Int) : Int × Int := if i < 0 ∨ (n : Int) ≤ i then (0, 1) else if F (i.toNat * 3) = -1 then (0, 3) else (F (i.toNat * 3), 0)
theorem where_any (w : World) (p L K n m : Nat) (F G : Nat → Int) (top free : Int) (h : PB w p L K n m F G top free) (hn : n ≤ 4096) (i : Int) :
    Calls Tryd.prog 71 #[.pointer (some ⟨p, 0, none⟩), .int .i64 i] w fun e w' => e = .returned (.tuple #[.int .i64 (whV n F i).1, .int .i64 (whV n F i).2]) ∧ w = w' := by
  obtain ⟨c0, c1, c2, c3, pf, hl, hk⟩ := h
  by_cases h0 : i < 0
  · have e : whV n F i = (0, 1) := by unfold whV; rw [if_pos (.inl h0)]
    rw [e]
    clear e
    go_enter Tryd.func71, Tryd.ntmps71
    go_wp2
    go_ret2
    exact ⟨rfl, rfl⟩
  · obtain ⟨j, rfl⟩ : ∃ j : Nat, i = j := ⟨i.toNat, by omega⟩
    by_cases h1 : j < n
    · have l0 := hl.c (j * 3) (by omega)
      obtain ⟨x, hx⟩ : ∃ x, x = F (j * 3) := ⟨_, rfl⟩
      by_cases hx1 : x = -1
      · have e : whV n F j = (0, 3) := by unfold whV; rw [if_neg (by omega)]; simp [← hx, hx1]
        rw [e]
        rw [← hx] at l0
        clear e
        have q : (x == -1) = true := by simp [hx1]
        go_enter Tryd.func71, Tryd.ntmps71
        go_wp2
        go_ret2
        exact ⟨rfl, rfl⟩
      · have e : whV n F j = (x, 0) := by unfold whV; rw [if_neg (by omega)]; simp [← hx, hx1]
        rw [e]
        rw [← hx] at l0
        clear e
        have q : (x == -1) = false := by simp [hx1]
        go_enter Tryd.func71, Tryd.ntmps71
        go_wp2
        go_ret2
        exact ⟨rfl, rfl⟩
    · have e : whV n F j = (0, 1) := by unfold whV; rw [if_pos (.inr (by omega))]
      rw [e]
      clear e
      go_enter Tryd.func71, Tryd.ntmps71
      go_wp2
      go_ret2
      exact ⟨rfl, rfl⟩
theorem has_any (w : World) (p L K n m : Nat) (F G : Nat → Int) (top free : Int) (h : PB w p L K n m F G top free) (hm : m ≤ 4096) (k : Int) :
    Calls Tryd.prog 49 #[.pointer (some ⟨p, 0, none⟩), .int .i64 k] w fun e w' => e = .returned (.bool (decide (0 ≤ k ∧ k < m))) ∧ w = w' := by
  obtain ⟨c0, c1, c2, c3, pf, hl, hk⟩ := h
  by_cases h0 : 0 ≤ k
  · by_cases h1 : k < m
    · rw [decide_eq_true (⟨h0, h1⟩ : 0 ≤ k ∧ k < m)]
      go_enter Tryd.func49, Tryd.ntmps49
      go_wp2
      go_ret
      exact ⟨rfl, rfl⟩
    · rw [decide_eq_false (fun h : 0 ≤ k ∧ k < m => h1 h.2)]
      go_enter Tryd.func49, Tryd.ntmps49
      go_wp2
      go_ret
      exact ⟨rfl, rfl⟩
  · rw [decide_eq_false (fun h : 0 ≤ k ∧ k < m => h0 h.1)]
    go_enter Tryd.func49, Tryd.ntmps49
    go_wp2
    go_ret
    exact ⟨rfl, rfl⟩
theorem free_any (w : World) (p L K n m : Nat) (F G : Nat → Int) (top free : Int) (h : PB w p L K n m F G top free) :
    Calls Tryd.prog 15 #[.pointer (some ⟨p, 0, none⟩)] w fun e w' => e = .returned (.int .i64 free) ∧ w = w' := by
  obtain ⟨c0, c1, c2, c3, pf, hl, hk⟩ := h
  go_enter Tryd.func15, Tryd.ntmps15
  go_wp2
  go_ret
  exact ⟨rfl, rfl⟩
theorem first_any (w : World) (p L K n m : Nat) (F G : Nat → Int) (top free : Int) (h : PB w p L K n m F G top free) (hm : m ≤ 4096) (k : Int) :
    Calls Tryd.prog 44 #[.pointer (some ⟨p, 0, none⟩), .int .i64 k] w fun e w' => e = .returned (if 0 ≤ k ∧ k < m ∧ G (k.toNat * 2) ≠ -1 then .tuple #[.int .i64 (G (k.toNat * 2)), .bool true] else .tuple #[.int .i64 0, .bool false]) ∧ w = w' := by
  have hh := fun W h => has_any W p L K n m F G top free h hm k
  obtain ⟨hd, hhd⟩ : ∃ b, b = decide (0 ≤ k ∧ k < m) := ⟨_, rfl⟩
  rw [← hhd] at hh
  have HH := Kept.mk hh
  have HP := h
  obtain ⟨c0, c1, c2, c3, pf, hl, hk⟩ := h
  clear hh
  cases hd with
  | false =>
    have hn := of_decide_eq_false hhd.symm
    rw [if_neg (fun h => hn ⟨h.1, h.2.1⟩)]
    clear hn hhd
    go_enter Tryd.func44, Tryd.ntmps44
    go_wp2_with ((go_at_call 49; refine (HH.out _ HP).mono ?_; rintro e w' ⟨rfl, rfl⟩))
    go_ret2
    exact ⟨rfl, rfl⟩
  | true =>
    obtain ⟨h0, h1⟩ := of_decide_eq_true hhd.symm
    obtain ⟨j, rfl⟩ : ∃ j : Nat, k = j := ⟨k.toNat, by omega⟩
    simp only [Int.toNat_natCast]
    have l0 := hk.c (j * 2) (by omega)
    obtain ⟨x, hx⟩ : ∃ x, x = G (j * 2) := ⟨_, rfl⟩
    rw [← hx] at l0 ⊢
    clear hhd
    by_cases hx1 : x = -1
    · rw [if_neg (fun h => h.2.2 hx1)]
      have q : (x == -1) = true := by simp [hx1]
      go_enter Tryd.func44, Tryd.ntmps44
      go_wp2_with ((go_at_call 49; refine (HH.out _ HP).mono ?_; rintro e w' ⟨rfl, rfl⟩))
      go_ret2
      exact ⟨rfl, rfl⟩
    · rw [if_pos ⟨h0, h1, hx1⟩]
      have q : (x == -1) = false := by simp [hx1]
      clear hx
      go_enter Tryd.func44, Tryd.ntmps44
      go_wp2_with ((go_at_call 49; refine (HH.out _ HP).mono ?_; rintro e w' ⟨rfl, rfl⟩))
      go_ret2
      exact ⟨rfl, rfl⟩
def nxV (n : Nat) (F : Nat → Int) (i : Int) : Value := if 0 ≤ i ∧ i < (n : Int) ∧ F (i.toNat * 3) ≠ -1 ∧ F (i.toNat * 3 + 2) ≠ -1 then .tuple #[.int .i64 (F (i.toNat * 3 + 2)), .bool true] else .tuple #[.int .i64 0, .bool false]
theorem next_any (w : World) (p L K n m : Nat) (F G : Nat → Int) (top free : Int) (h : PB w p L K n m F G top free) (hn : n ≤ 4096) (i : Int) :
    Calls Tryd.prog 67 #[.pointer (some ⟨p, 0, none⟩), .int .i64 i] w fun e w' => e = .returned (nxV n F i) ∧ w = w' := by
  have hh := fun W h => where_any W p L K n m F G top free h hn i
  obtain ⟨x, hx⟩ : ∃ x, x = (whV n F i).1 := ⟨_, rfl⟩
  obtain ⟨y, hy⟩ : ∃ x, x = (whV n F i).2 := ⟨_, rfl⟩
  rw [← hx, ← hy] at hh
  have HH := Kept.mk hh
  have HP := h
  obtain ⟨c0, c1, c2, c3, pf, hl, hk⟩ := h
  clear hh
  by_cases hy0 : y = 0
  · have h0 : 0 ≤ i ∧ i < (n : Int) ∧ F (i.toNat * 3) ≠ -1 := by
      rw [hy] at hy0
      unfold whV at hy0
      split at hy0
      · cases hy0
      · split at hy0
        · cases hy0
        · rename_i h1 h2
          exact ⟨by omega, by omega, h2⟩
    obtain ⟨h0, h1, h2⟩ := h0
    obtain ⟨j, rfl⟩ : ∃ j : Nat, i = j := ⟨i.toNat, by omega⟩
    unfold nxV
    simp only [Int.toNat_natCast] at h2 ⊢
    have l0 := hl.c (j * 3 + 2) (by omega)
    obtain ⟨z, hz⟩ : ∃ x, x = F (j * 3 + 2) := ⟨_, rfl⟩
    rw [← hz] at l0 ⊢
    have q0 : (y != 0) = false := by simp [hy0]
    by_cases hz1 : z = -1
    · rw [if_neg (fun h => h.2.2.2 hz1)]
      have q : (z == -1) = true := by simp [hz1]
      clear hx hy h2 hy0
      go_enter Tryd.func67, Tryd.ntmps67
      go_wp2_with ((go_at_call 71; refine (HH.out _ HP).mono ?_; rintro e w' ⟨rfl, rfl⟩))
      go_ret2
      exact ⟨rfl, rfl⟩
    · rw [if_pos ⟨h0, h1, h2, hz1⟩]
      have q : (z == -1) = false := by simp [hz1]
      clear hx hy h2 hy0 hz
      go_enter Tryd.func67, Tryd.ntmps67
      go_wp2_with ((go_at_call 71; refine (HH.out _ HP).mono ?_; rintro e w' ⟨rfl, rfl⟩))
      go_ret2
      exact ⟨rfl, rfl⟩
  · have q0 : (y != 0) = true := by simp [hy0]
    have e : nxV n F i = .tuple #[.int .i64 0, .bool false] := by
      unfold nxV
      rw [if_neg]
      rintro ⟨h1, h2, h3, _⟩
      rw [hy] at hy0
      apply hy0
      unfold whV
      rw [if_neg (by omega), if_neg h3]
    rw [e]
    clear hx hy e
    go_enter Tryd.func67, Tryd.ntmps67
    go_wp2_with ((go_at_call 71; refine (HH.out _ HP).mono ?_; rintro e w' ⟨rfl, rfl⟩))
    go_ret2
    exact ⟨rfl, rfl⟩
end Go.Proofs.YtakkfgkogomjbaaDoor
