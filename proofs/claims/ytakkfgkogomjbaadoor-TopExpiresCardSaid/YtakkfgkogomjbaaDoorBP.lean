/-
  Plain facts of sets of bits: their list's head, last, and what is from a number on.
-/
import Derived.Test.YtakkfgkogomjbaaDoorB2
import Derived.Lib.TrailingZeros
import Derived.Lib.BitFns
import Derived.Lib.ItoaNum
namespace Go.Proofs.YtakkfgkogomjbaaDoor
open Go.RowKit
set_option linter.unusedVariables false

theorem lb_filter {k b b' : Nat} {p : Int → Bool} (h : ∀ i, i < k → b'.testBit i = (b.testBit i && p (i : Int))) : lb k b' = (lb k b).filter p := by
  induction k with
  | zero => simp [lb]
  | succ k ih =>
    rw [lb_succ, lb_succ, List.filter_append, ih fun i hi => h i (by omega), h k (by omega)]
    congr 1
    by_cases h1 : b.testBit k <;> by_cases h2 : p (k : Int) <;> simp [h1, h2]
theorem lb_none {k b : Nat} (h : ∀ i, i < k → b.testBit i = false) : lb k b = [] := by
  induction k with
  | zero => simp [lb]
  | succ k ih => rw [lb_succ, ih fun i hi => h i (by omega), h k (by omega)]; simp
theorem lb_head {k b z : Nat} (hz : z < k) (h1 : b.testBit z = true) (h0 : ∀ j, j < z → b.testBit j = false) : (lb k b).head? = some (z : Int) := by
  induction k with
  | zero => omega
  | succ k ih =>
    rw [lb_succ]
    by_cases hk : z = k
    · subst hk
      rw [lb_none h0]
      simp [h1]
    · rw [List.head?_append, ih (by omega)]; rfl
theorem lb_last {k b z : Nat} (hz : z < k) (h1 : b.testBit z = true) (h0 : ∀ j, z < j → j < k → b.testBit j = false) : (lb k b).getLast? = some (z : Int) := by
  induction k with
  | zero => omega
  | succ k ih =>
    rw [lb_succ]
    by_cases hk : z = k
    · subst hk; simp [h1]
    · rw [h0 k (by omega) (by omega)]
      simp only [Bool.false_eq_true, if_false, List.append_nil]
      exact ih (by omega) fun j hj hjk => h0 j hj (by omega)
theorem ctz_bits {b : Nat} (h0 : b ≠ 0) (h : b < 2 ^ 64) : Lib.ctz 64 b < 64 ∧ b.testBit (Lib.ctz 64 b) = true ∧ ∀ j, j < Lib.ctz 64 b → b.testBit j = false := by
  obtain ⟨m, hm, hk⟩ := Lib.ctzFrom_spec 64 b (by omega) h
  have e : Lib.ctz 64 b = Lib.ctzFrom 64 b := by simp [Lib.ctz, h0]
  rw [e]
  obtain ⟨c, hc⟩ : ∃ c, c = Lib.ctzFrom 64 b := ⟨_, rfl⟩
  rw [← hc] at hm hk ⊢
  refine ⟨hk, ?_, fun j hj => ?_⟩
  · rw [hm, Nat.testBit_two_pow_mul]; simp
  · rw [hm, Nat.testBit_two_pow_mul]; simp; omega
theorem first_eq {b : Nat} (h : b < 2 ^ 64) : (lb 64 b).head? = if b = 0 then none else some ((Lib.ctz 64 b : Nat) : Int) := by
  by_cases h0 : b = 0
  · subst h0
    rw [if_pos rfl, lb_none (fun i _ => by simp)]; rfl
  · rw [if_neg h0]
    obtain ⟨h1, h2, h3⟩ := ctz_bits h0 h
    exact lb_head h1 h2 h3
theorem len_bits {b : Nat} (h0 : b ≠ 0) (h : b < 2 ^ 64) : 1 ≤ Lib.bitLen b ∧ Lib.bitLen b ≤ 64 ∧ b.testBit (Lib.bitLen b - 1) = true ∧ ∀ j, Lib.bitLen b - 1 < j → b.testBit j = false := by
  obtain ⟨h1, h2, h3⟩ := Lib.bitLenAux_bounds 64 b h h0
  have hle := Lib.bitLen_le b 64 (by omega) h
  have e : Lib.bitLen b = Lib.bitLenAux 64 b := rfl
  rw [← e] at h1 h2 h3
  obtain ⟨l, hl⟩ : ∃ l, Lib.bitLen b = l + 1 := ⟨Lib.bitLen b - 1, by omega⟩
  rw [hl] at h1 h2 h3 hle ⊢
  simp only [Nat.add_sub_cancel] at h2 ⊢
  refine ⟨h1, hle, ?_, fun j hj => ?_⟩
  · rw [bit_div]
    have hp : 0 < 2 ^ l := Nat.two_pow_pos l
    have : b / 2 ^ l = 1 := by
      have a1 : 1 ≤ b / 2 ^ l := (Nat.le_div_iff_mul_le hp).2 (by omega)
      have a2 : b / 2 ^ l < 2 := (Nat.div_lt_iff_lt_mul hp).2 (by rw [Nat.pow_succ] at h3; omega)
      omega
    simp [this]
  · exact Nat.testBit_lt_two_pow (Nat.lt_of_lt_of_le h3 (Nat.pow_le_pow_right (by omega) (by omega)))
theorem last_eq {b : Nat} (h : b < 2 ^ 64) : (lb 64 b).getLast? = if b = 0 then none else some ((Lib.bitLen b : Int) - 1) := by
  by_cases h0 : b = 0
  · subst h0
    rw [if_pos rfl, lb_none (fun i _ => by simp)]; rfl
  · rw [if_neg h0]
    obtain ⟨h1, h2, h3, h4⟩ := len_bits h0 h
    rw [lb_last (z := Lib.bitLen b - 1) (by omega) h3 fun j hj _ => h4 j hj]
    congr 1
    omega

/-! ### what is from a number on -/
def frN (b : Nat) (n : Int) : Nat := if n ≤ 0 then b else if 63 < n then 0 else b / 2 ^ n.toNat * 2 ^ n.toNat
theorem frN_le (b : Nat) (n : Int) : frN b n ≤ b := by
  unfold frN
  split
  · omega
  · split
    · omega
    · exact Nat.div_mul_le_self _ _
theorem frN_bit (b : Nat) (n : Int) (i : Nat) (hi : i < 64) : (frN b n).testBit i = (b.testBit i && decide (n ≤ (i : Int))) := by
  unfold frN
  split
  · have : n ≤ (i : Int) := by omega
    simp [this]
  · split
    · have : ¬ n ≤ (i : Int) := by omega
      simp [this]
    · rename_i h1 h2
      obtain ⟨m, rfl⟩ := Int.eq_ofNat_of_zero_le (show 0 ≤ n by omega)
      simp only [Int.toNat_natCast]
      rw [Nat.mul_comm, Nat.testBit_two_pow_mul, Nat.testBit_div_two_pow]
      by_cases h : m ≤ i
      · have h' : (m : Int) ≤ (i : Int) := by omega
        simp [h, h', Nat.sub_add_cancel h]
      · have h' : ¬ (m : Int) ≤ (i : Int) := by omega
        simp [h, h']
theorem fr_list (b : Nat) (n : Int) : lb 64 (frN b n) = (lb 64 b).filter fun m => decide (n ≤ m) := lb_filter fun i hi => frN_bit b n i hi
theorem fr_head (b : Nat) (n : Int) : (lb 64 (frN b n)).head? = (lb 64 b).find? fun m => decide (n ≤ m) := by rw [fr_list, List.head?_filter]
theorem lb_nil {b : Nat} (h : b < 2 ^ 64) : lb 64 b = [] ↔ b = 0 := by
  constructor
  · intro e
    have := first_eq h
    rw [e] at this
    by_cases h0 : b = 0
    · exact h0
    · rw [if_neg h0] at this; cases this
  · rintro rfl; exact lb_none fun i _ => by simp
end Go.Proofs.YtakkfgkogomjbaaDoor
