/-
  Plain: numbers of given bits; a word without its lowest bit.
-/
import Derived.Test.YtakkfgkogomjbaaDoorBP
namespace Go.Proofs.YtakkfgkogomjbaaDoor
set_option linter.unusedVariables false
theorem add_bit {b n : Nat} (h : b.testBit n = false) : b + 2 ^ n = b ||| 2 ^ n := by
  have hp : 0 < 2 ^ n := Nat.two_pow_pos n
  have hr : b % 2 ^ n < 2 ^ n := Nat.mod_lt _ hp
  have hb : 2 ^ n * (b / 2 ^ n) + b % 2 ^ n = b := Nat.div_add_mod _ _
  have hq : b / 2 ^ n % 2 = 0 := by
    rw [Nat.testBit_eq_decide_div_mod_eq] at h
    have := of_decide_eq_false h
    omega
  generalize b / 2 ^ n = q at hb hq
  generalize b % 2 ^ n = r at hb hr
  subst hb
  have e1 : 2 ^ n * q + r + 2 ^ n = 2 ^ n * (q + 1) + r := by rw [Nat.mul_add]; omega
  have hq1 : q + 1 = q ||| 1 := by
    obtain ⟨m, rfl⟩ : ∃ m, q = 2 * m := ⟨q / 2, by omega⟩
    have := Nat.two_pow_add_eq_or_of_lt (b := 1) (i := 1) (by decide) m
    simpa using this
  have e2 : (2 : Nat) ^ n * (q + 1) = (2 ^ n * q) ||| 2 ^ n := by
    rw [hq1, Nat.mul_comm, Nat.mul_comm (2 ^ n) q, ← Nat.shiftLeft_eq, ← Nat.shiftLeft_eq, Nat.shiftLeft_or_distrib]
    congr 1
    rw [Nat.shiftLeft_eq]; simp
  rw [e1, Nat.two_pow_add_eq_or_of_lt hr, Nat.two_pow_add_eq_or_of_lt hr, e2, Nat.or_assoc, Nat.or_comm (2 ^ n) r, ← Nat.or_assoc]
/-- a number of given bits -/
def ob (p : Nat → Bool) : Nat → Nat
  | 0 => 0
  | k + 1 => ob p k + if p k then 2 ^ k else 0
theorem ob_lt (p : Nat → Bool) : ∀ k, ob p k < 2 ^ k
  | 0 => by simp [ob]
  | k + 1 => by
    have := ob_lt p k
    rw [ob, Nat.pow_succ]
    split <;> omega
theorem ob_bit (p : Nat → Bool) : ∀ k i, (ob p k).testBit i = (decide (i < k) && p i)
  | 0, i => by simp [ob]
  | k + 1, i => by
    have h := ob_bit p k
    have hk : (ob p k).testBit k = false := by rw [h]; simp
    rw [ob]
    by_cases hp : p k
    · rw [if_pos hp, add_bit hk, Nat.testBit_or, h, Nat.testBit_two_pow]
      by_cases hi : i = k
      · subst hi; simp [hp]
      · have e1 : ¬ k = i := fun h => hi h.symm
        have e2 : decide (i < k + 1) = decide (i < k) := by rw [decide_eq_decide]; omega
        rw [e2]; simp [e1]
    · rw [if_neg hp, Nat.add_zero, h]
      by_cases hi : i = k
      · subst hi; simp [hp]
      · have e2 : decide (i < k + 1) = decide (i < k) := by rw [decide_eq_decide]; omega
        rw [e2]
theorem bits_eq {a b : Nat} (k : Nat) (ha : a < 2 ^ k) (hb : b < 2 ^ k) (h : ∀ i, i < k → a.testBit i = b.testBit i) : a = b := by
  apply Nat.eq_of_testBit_eq
  intro i
  by_cases hi : i < k
  · exact h i hi
  · rw [Nat.testBit_lt_two_pow (Nat.lt_of_lt_of_le ha (Nat.pow_le_pow_right (by omega) (by omega))), Nat.testBit_lt_two_pow (Nat.lt_of_lt_of_le hb (Nat.pow_le_pow_right (by omega) (by omega)))]
/-- a word without its lowest bit -/
theorem low_off {b z m : Nat} (hb : b = (2 * m + 1) * 2 ^ z) : b &&& (b - 1) = 2 * m * 2 ^ z := by
  have hp : 0 < 2 ^ z := Nat.two_pow_pos z
  have e1 : b = 2 ^ z * (2 * m + 1) + 0 := by rw [hb, Nat.mul_comm]; rfl
  have e2 : b - 1 = 2 ^ z * (2 * m) + (2 ^ z - 1) := by
    rw [hb, Nat.add_mul, Nat.mul_comm (2 ^ z)]; omega
  have hlt : 2 ^ z - 1 < 2 ^ z := by omega
  apply Nat.eq_of_testBit_eq
  intro i
  rw [Nat.testBit_and, e2, Nat.two_pow_add_eq_or_of_lt hlt, hb, Nat.testBit_or, Nat.mul_comm (2 * m + 1), Nat.mul_comm (2 * m), Nat.testBit_two_pow_mul, Nat.testBit_two_pow_mul, Nat.testBit_two_pow_sub_one]
  by_cases hi : z ≤ i
  · have h2 : ¬ i < z := by omega
    simp only [hi, h2, decide_true, decide_false, Bool.true_and, Bool.or_false]
    cases hj : i - z with
    | zero => simp
    | succ j =>
      rw [Nat.testBit_succ, Nat.testBit_succ]
      have a1 : (2 * m + 1) / 2 = m := by omega
      have a2 : (2 * m) / 2 = m := by omega
      rw [a1, a2]; simp
  · have h2 : i < z := by omega
    simp [hi]
theorem low_bits {b z m : Nat} (hb : b = (2 * m + 1) * 2 ^ z) (i : Nat) : (b &&& (b - 1)).testBit i = (b.testBit i && decide (i ≠ z)) := by
  rw [low_off hb, hb, Nat.mul_comm (2 * m + 1), Nat.mul_comm (2 * m), Nat.testBit_two_pow_mul, Nat.testBit_two_pow_mul]
  by_cases hi : z ≤ i
  · simp only [hi, decide_true, Bool.true_and]
    cases hj : i - z with
    | zero =>
      have : i = z := by omega
      simp [this]
    | succ j =>
      have : i ≠ z := by omega
      rw [Nat.testBit_succ, Nat.testBit_succ]
      have a1 : (2 * m + 1) / 2 = m := by omega
      have a2 : (2 * m) / 2 = m := by omega
      rw [a1, a2]; simp [this]
  · simp [hi]
theorem lb_cons {b z : Nat} (k : Nat) (hz : z < k) (h1 : b.testBit z = true) (h0 : ∀ j, j < z → b.testBit j = false) (c : Nat) (hc : ∀ i, c.testBit i = (b.testBit i && decide (i ≠ z))) : lb k b = (z : Int) :: lb k c := by
  induction k with
  | zero => omega
  | succ k ih =>
    rw [lb_succ, lb_succ, hc k]
    by_cases hk : z = k
    · subst hk
      have e1 : ∀ k, k ≤ z → lb k b = [] := by
        intro k hk
        induction k with
        | zero => rfl
        | succ k ih => rw [lb_succ, ih (by omega), h0 k (by omega)]; rfl
      have e2 : ∀ k, k ≤ z → lb k c = [] := by
        intro k hk
        induction k with
        | zero => rfl
        | succ k ih => rw [lb_succ, ih (by omega), hc, h0 k (by omega)]; rfl
      rw [e1 _ (Nat.le_refl _), e2 _ (Nat.le_refl _), h1]; simp
    · rw [ih (by omega)]
      have : k ≠ z := fun h => hk h.symm
      simp [this]
end Go.Proofs.YtakkfgkogomjbaaDoor
