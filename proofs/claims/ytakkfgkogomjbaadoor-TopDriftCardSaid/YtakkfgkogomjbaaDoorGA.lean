/-
  Sets of bits: what they are as lists, and the walks of the reference (vergeref05): List, one, Has.
-/
import Derived.Test.YtakkfgkogomjbaaDoorVi
import Derived.Test.YtakkfgkogomjbaaDoorIR
import Derived.Lib.TrailingZeros
import Derived.Lib.BitFns
import Derived.Lib.ItoaNum
import Derived.Shelf.Strconv.Itoa0
import Derived.Shelf.Spec.TrailingZeros
import Derived.Ground.Names7Prog
import Derived.Test.YtakkfgkogomjbaaDoorProg
namespace Go.Proofs.YtakkfgkogomjbaaDoor
open Go.RowKit
set_option linter.unusedVariables false

/-- The bits of a number below k, rising. -/
def lb (k b : Nat) : List Int := ((List.range k).filter fun i => b.testBit i).map fun i : Nat => (i : Int)
theorem lb_succ (k b : Nat) : lb (k + 1) b = lb k b ++ if b.testBit k then [(k : Int)] else [] := by
  unfold lb
  rw [List.range_succ, List.filter_append, List.map_append]
  by_cases h : b.testBit k
  · simp [h]
  · simp [h]
theorem lb_len (k b : Nat) : (lb k b).length ≤ k := by
  unfold lb
  have := List.length_filter_le (fun i => b.testBit i) (List.range k)
  simpa using this
theorem bit_div (b k : Nat) : b.testBit k = decide (b / 2 ^ k % 2 = 1) := Nat.testBit_eq_decide_div_mod_eq
theorem div_step (b k : Nat) : b / 2 ^ (k + 1) = b / 2 ^ k / 2 := by rw [Nat.pow_succ, Nat.div_div_eq_div_mul]

end Go.Proofs.YtakkfgkogomjbaaDoor
namespace Go.Proofs.YtakkfgkogomjbaaDoor
open Go.RowKit
set_option linter.unusedVariables false

def op2 (o : Option Int) : Ending := .returned (.tuple #[.int .i64 (o.getD 0), .bool o.isSome])
theorem find_drop {p : Int → Bool} {L : List Int} {k : Nat} {x : Int} (hx : L[k]? = some x) : (L.drop k).find? p = if p x = true then some x else (L.drop (k + 1)).find? p := by
  obtain ⟨h, e⟩ := List.getElem?_eq_some_iff.1 hx
  rw [List.drop_eq_getElem_cons h, e, List.find?_cons]
  split <;> simp_all
theorem lb_mem {k b : Nat} {x : Int} (h : x ∈ lb k b) : ∃ i : Nat, x = i ∧ i < k ∧ b.testBit i = true := by
  unfold lb at h
  obtain ⟨i, hi, rfl⟩ := List.mem_map.1 h
  have := List.mem_filter.1 hi
  exact ⟨i, rfl, by simpa using this.1, this.2⟩

def arO (n : Int) (L : List Int) : Option Int := (L.find? fun m => decide (n ≤ m)).or L.head?
end Go.Proofs.YtakkfgkogomjbaaDoor
namespace Go.Proofs.YtakkfgkogomjbaaDoor
open Go.RowKit
set_option linter.unusedVariables false

theorem lb_filter {k b b' : Nat} {p : Int → Bool} (h : ∀ i, i < k → b'.testBit i = (b.testBit i && p (i : Int))) : lb k b' = (lb k b).filter p := by
  induction k with
  | zero => simp [lb]
  | succ k ih =>
    rw [lb_succ, lb_succ, List.filter_append, ih fun i hi => h i (by omega), h k (by omega)]
    congr 1
    by_cases h1 : b.testBit k <;> by_cases h2 : p (k : Int) <;> simp [h1, h2]
theorem lb_none {k b : Nat} (h : ∀ i, i < k → b.testBit i = false) : lb k b = [] := by
  induction k with
  | zero => simp [lb]
  | succ k ih => rw [lb_succ, ih fun i hi => h i (by omega), h k (by omega)]; simp
theorem lb_head {k b z : Nat} (hz : z < k) (h1 : b.testBit z = true) (h0 : ∀ j, j < z → b.testBit j = false) : (lb k b).head? = some (z : Int) := by
  induction k with
  | zero => omega
  | succ k ih =>
    rw [lb_succ]
    by_cases hk : z = k
    · subst hk
      rw [lb_none h0]
      simp [h1]
    · rw [List.head?_append, ih (by omega)]; rfl
theorem lb_last {k b z : Nat} (hz : z < k) (h1 : b.testBit z = true) (h0 : ∀ j, z < j → j < k → b.testBit j = false) : (lb k b).getLast? = some (z : Int) := by
  induction k with
  | zero => omega
  | succ k ih =>
    rw [lb_succ]
    by_cases hk : z = k
    · subst hk; simp [h1]
    · rw [h0 k (by omega) (by omega)]
      simp only [Bool.false_eq_true, if_false, List.append_nil]
      exact ih (by omega) fun j hj hjk => h0 j hj (by omega)
theorem ctz_bits {b : Nat} (h0 : b ≠ 0) (h : b < 2 ^ 64) : Lib.ctz 64 b < 64 ∧ b.testBit (Lib.ctz 64 b) = true ∧ ∀ j, j < Lib.ctz 64 b → b.testBit j = false := by
  obtain ⟨m, hm, hk⟩ := Lib.ctzFrom_spec 64 b (by omega) h
  have e : Lib.ctz 64 b = Lib.ctzFrom 64 b := by simp [Lib.ctz, h0]
  rw [e]
  obtain ⟨c, hc⟩ : ∃ c, c = Lib.ctzFrom 64 b := ⟨_, rfl⟩
  rw [← hc] at hm hk ⊢
  refine ⟨hk, ?_, fun j hj => ?_⟩
  · rw [hm, Nat.testBit_two_pow_mul]; simp
  · rw [hm, Nat.testBit_two_pow_mul]; simp; omega
theorem first_eq {b : Nat} (h : b < 2 ^ 64) : (lb 64 b).head? = if b = 0 then none else some ((Lib.ctz 64 b : Nat) : Int) := by
  by_cases h0 : b = 0
  · subst h0
    rw [if_pos rfl, lb_none (fun i _ => by simp)]; rfl
  · rw [if_neg h0]
    obtain ⟨h1, h2, h3⟩ := ctz_bits h0 h
    exact lb_head h1 h2 h3
theorem len_bits {b : Nat} (h0 : b ≠ 0) (h : b < 2 ^ 64) : 1 ≤ Lib.bitLen b ∧ Lib.bitLen b ≤ 64 ∧ b.testBit (Lib.bitLen b - 1) = true ∧ ∀ j, Lib.bitLen b - 1 < j → b.testBit j = false := by
  obtain ⟨h1, h2, h3⟩ := Lib.bitLenAux_bounds 64 b h h0
  have hle := Lib.bitLen_le b 64 (by omega) h
  have e : Lib.bitLen b = Lib.bitLenAux 64 b := rfl
  rw [← e] at h1 h2 h3
  obtain ⟨l, hl⟩ : ∃ l, Lib.bitLen b = l + 1 := ⟨Lib.bitLen b - 1, by omega⟩
  rw [hl] at h1 h2 h3 hle ⊢
  simp only [Nat.add_sub_cancel] at h2 ⊢
  refine ⟨h1, hle, ?_, fun j hj => ?_⟩
  · rw [bit_div]
    have hp : 0 < 2 ^ l := Nat.two_pow_pos l
    have : b / 2 ^ l = 1 := by
      have a1 : 1 ≤ b / 2 ^ l := (Nat.le_div_iff_mul_le hp).2 (by omega)
      have a2 : b / 2 ^ l < 2 := (Nat.div_lt_iff_lt_mul hp).2 (by rw [Nat.pow_succ] at h3; omega)
      omega
    simp [this]
  · exact Nat.testBit_lt_two_pow (Nat.lt_of_lt_of_le h3 (Nat.pow_le_pow_right (by omega) (by omega)))
theorem last_eq {b : Nat} (h : b < 2 ^ 64) : (lb 64 b).getLast? = if b = 0 then none else some ((Lib.bitLen b : Int) - 1) := by
  by_cases h0 : b = 0
  · subst h0
    rw [if_pos rfl, lb_none (fun i _ => by simp)]; rfl
  · rw [if_neg h0]
    obtain ⟨h1, h2, h3, h4⟩ := len_bits h0 h
    rw [lb_last (z := Lib.bitLen b - 1) (by omega) h3 fun j hj _ => h4 j hj]
    congr 1
    omega

/-! ### what is from a number on -/
def frN (b : Nat) (n : Int) : Nat := if n ≤ 0 then b else if 63 < n then 0 else b / 2 ^ n.toNat * 2 ^ n.toNat
theorem frN_le (b : Nat) (n : Int) : frN b n ≤ b := by
  unfold frN
  split
  · omega
  · split
    · omega
    · exact Nat.div_mul_le_self _ _
theorem frN_bit (b : Nat) (n : Int) (i : Nat) (hi : i < 64) : (frN b n).testBit i = (b.testBit i && decide (n ≤ (i : Int))) := by
  unfold frN
  split
  · have : n ≤ (i : Int) := by omega
    simp [this]
  · split
    · have : ¬ n ≤ (i : Int) := by omega
      simp [this]
    · rename_i h1 h2
      obtain ⟨m, rfl⟩ := Int.eq_ofNat_of_zero_le (show 0 ≤ n by omega)
      simp only [Int.toNat_natCast]
      rw [Nat.mul_comm, Nat.testBit_two_pow_mul, Nat.testBit_div_two_pow]
      by_cases h : m ≤ i
      · have h' : (m : Int) ≤ (i : Int) := by omega
        simp [h, h', Nat.sub_add_cancel h]
      · have h' : ¬ (m : Int) ≤ (i : Int) := by omega
        simp [h, h']
theorem fr_list (b : Nat) (n : Int) : lb 64 (frN b n) = (lb 64 b).filter fun m => decide (n ≤ m) := lb_filter fun i hi => frN_bit b n i hi
theorem fr_head (b : Nat) (n : Int) : (lb 64 (frN b n)).head? = (lb 64 b).find? fun m => decide (n ≤ m) := by rw [fr_list, List.head?_filter]
theorem lb_nil {b : Nat} (h : b < 2 ^ 64) : lb 64 b = [] ↔ b = 0 := by
  constructor
  · intro e
    have := first_eq h
    rw [e] at this
    by_cases h0 : b = 0
    · exact h0
    · rw [if_neg h0] at this; cases this
  · rintro rfl; exact lb_none fun i _ => by simp
end Go.Proofs.YtakkfgkogomjbaaDoor
namespace Go.Proofs.YtakkfgkogomjbaaDoor
set_option linter.unusedVariables false
theorem add_bit {b n : Nat} (h : b.testBit n = false) : b + 2 ^ n = b ||| 2 ^ n := by
  have hp : 0 < 2 ^ n := Nat.two_pow_pos n
  have hr : b % 2 ^ n < 2 ^ n := Nat.mod_lt _ hp
  have hb : 2 ^ n * (b / 2 ^ n) + b % 2 ^ n = b := Nat.div_add_mod _ _
  have hq : b / 2 ^ n % 2 = 0 := by
    rw [Nat.testBit_eq_decide_div_mod_eq] at h
    have := of_decide_eq_false h
    omega
  generalize b / 2 ^ n = q at hb hq
  generalize b % 2 ^ n = r at hb hr
  subst hb
  have e1 : 2 ^ n * q + r + 2 ^ n = 2 ^ n * (q + 1) + r := by rw [Nat.mul_add]; omega
  have hq1 : q + 1 = q ||| 1 := by
    obtain ⟨m, rfl⟩ : ∃ m, q = 2 * m := ⟨q / 2, by omega⟩
    have := Nat.two_pow_add_eq_or_of_lt (b := 1) (i := 1) (by decide) m
    simpa using this
  have e2 : (2 : Nat) ^ n * (q + 1) = (2 ^ n * q) ||| 2 ^ n := by
    rw [hq1, Nat.mul_comm, Nat.mul_comm (2 ^ n) q, ← Nat.shiftLeft_eq, ← Nat.shiftLeft_eq, Nat.shiftLeft_or_distrib]
    congr 1
    rw [Nat.shiftLeft_eq]; simp
  rw [e1, Nat.two_pow_add_eq_or_of_lt hr, Nat.two_pow_add_eq_or_of_lt hr, e2, Nat.or_assoc, Nat.or_comm (2 ^ n) r, ← Nat.or_assoc]
/-- a number of given bits -/
def ob (p : Nat → Bool) : Nat → Nat
  | 0 => 0
  | k + 1 => ob p k + if p k then 2 ^ k else 0
theorem ob_lt (p : Nat → Bool) : ∀ k, ob p k < 2 ^ k
  | 0 => by simp [ob]
  | k + 1 => by
    have := ob_lt p k
    rw [ob, Nat.pow_succ]
    split <;> omega
theorem ob_bit (p : Nat → Bool) : ∀ k i, (ob p k).testBit i = (decide (i < k) && p i)
  | 0, i => by simp [ob]
  | k + 1, i => by
    have h := ob_bit p k
    have hk : (ob p k).testBit k = false := by rw [h]; simp
    rw [ob]
    by_cases hp : p k
    · rw [if_pos hp, add_bit hk, Nat.testBit_or, h, Nat.testBit_two_pow]
      by_cases hi : i = k
      · subst hi; simp [hp]
      · have e1 : ¬ k = i := fun h => hi h.symm
        have e2 : decide (i < k + 1) = decide (i < k) := by rw [decide_eq_decide]; omega
        rw [e2]; simp [e1]
    · rw [if_neg hp, Nat.add_zero, h]
      by_cases hi : i = k
      · subst hi; simp [hp]
      · have e2 : decide (i < k + 1) = decide (i < k) := by rw [decide_eq_decide]; omega
        rw [e2]
theorem bits_eq {a b : Nat} (k : Nat) (ha : a < 2 ^ k) (hb : b < 2 ^ k) (h : ∀ i, i < k → a.testBit i = b.testBit i) : a = b := by
  apply Nat.eq_of_testBit_eq
  intro i
  by_cases hi : i < k
  · exact h i hi
  · rw [Nat.testBit_lt_two_pow (Nat.lt_of_lt_of_le ha (Nat.pow_le_pow_right (by omega) (by omega))), Nat.testBit_lt_two_pow (Nat.lt_of_lt_of_le hb (Nat.pow_le_pow_right (by omega) (by omega)))]
/-- a word without its lowest bit -/
theorem low_off {b z m : Nat} (hb : b = (2 * m + 1) * 2 ^ z) : b &&& (b - 1) = 2 * m * 2 ^ z := by
  have hp : 0 < 2 ^ z := Nat.two_pow_pos z
  have e1 : b = 2 ^ z * (2 * m + 1) + 0 := by rw [hb, Nat.mul_comm]; rfl
  have e2 : b - 1 = 2 ^ z * (2 * m) + (2 ^ z - 1) := by
    rw [hb, Nat.add_mul, Nat.mul_comm (2 ^ z)]; omega
  have hlt : 2 ^ z - 1 < 2 ^ z := by omega
  apply Nat.eq_of_testBit_eq
  intro i
  rw [Nat.testBit_and, e2, Nat.two_pow_add_eq_or_of_lt hlt, hb, Nat.testBit_or, Nat.mul_comm (2 * m + 1), Nat.mul_comm (2 * m), Nat.testBit_two_pow_mul, Nat.testBit_two_pow_mul, Nat.testBit_two_pow_sub_one]
  by_cases hi : z ≤ i
  · have h2 : ¬ i < z := by omega
    simp only [hi, h2, decide_true, decide_false, Bool.true_and, Bool.or_false]
    cases hj : i - z with
    | zero => simp
    | succ j =>
      rw [Nat.testBit_succ, Nat.testBit_succ]
      have a1 : (2 * m + 1) / 2 = m := by omega
      have a2 : (2 * m) / 2 = m := by omega
      rw [a1, a2]; simp
  · have h2 : i < z := by omega
    simp [hi]
theorem low_bits {b z m : Nat} (hb : b = (2 * m + 1) * 2 ^ z) (i : Nat) : (b &&& (b - 1)).testBit i = (b.testBit i && decide (i ≠ z)) := by
  rw [low_off hb, hb, Nat.mul_comm (2 * m + 1), Nat.mul_comm (2 * m), Nat.testBit_two_pow_mul, Nat.testBit_two_pow_mul]
  by_cases hi : z ≤ i
  · simp only [hi, decide_true, Bool.true_and]
    cases hj : i - z with
    | zero =>
      have : i = z := by omega
      simp [this]
    | succ j =>
      have : i ≠ z := by omega
      rw [Nat.testBit_succ, Nat.testBit_succ]
      have a1 : (2 * m + 1) / 2 = m := by omega
      have a2 : (2 * m) / 2 = m := by omega
      rw [a1, a2]; simp [this]
  · simp [hi]
theorem lb_cons {b z : Nat} (k : Nat) (hz : z < k) (h1 : b.testBit z = true) (h0 : ∀ j, j < z → b.testBit j = false) (c : Nat) (hc : ∀ i, c.testBit i = (b.testBit i && decide (i ≠ z))) : lb k b = (z : Int) :: lb k c := by
  induction k with
  | zero => omega
  | succ k ih =>
    rw [lb_succ, lb_succ, hc k]
    by_cases hk : z = k
    · subst hk
      have e1 : ∀ k, k ≤ z → lb k b = [] := by
        intro k hk
        induction k with
        | zero => rfl
        | succ k ih => rw [lb_succ, ih (by omega), h0 k (by omega)]; rfl
      have e2 : ∀ k, k ≤ z → lb k c = [] := by
        intro k hk
        induction k with
        | zero => rfl
        | succ k ih => rw [lb_succ, ih (by omega), hc, h0 k (by omega)]; rfl
      rw [e1 _ (Nat.le_refl _), e2 _ (Nat.le_refl _), h1]; simp
    · rw [ih (by omega)]
      have : k ≠ z := fun h => hk h.symm
      simp [this]
end Go.Proofs.YtakkfgkogomjbaaDoor
namespace Go.Proofs.YtakkfgkogomjbaaDoor
set_option linter.unusedVariables false
/-- digits of a number in base B, each taken over -/
def dm (B : Nat) (f : Nat → Nat) : Nat → Nat → Nat
  | 0, _ => 0
  | n + 1, x => f (x % B) + B * dm B f n (x / B)
theorem and_split (k a b : Nat) : a &&& b = (a % 2 ^ k &&& b % 2 ^ k) + 2 ^ k * (a / 2 ^ k &&& b / 2 ^ k) := by
  have h1 : (a &&& b) % 2 ^ k = a % 2 ^ k &&& b % 2 ^ k := Nat.and_mod_two_pow
  have h2 : (a &&& b) / 2 ^ k = a / 2 ^ k &&& b / 2 ^ k := Nat.and_div_two_pow
  rw [← h1, ← h2, Nat.add_comm]
  exact (Nat.div_add_mod _ _).symm
/-- the mask: m in each digit -/
def msk (k m : Nat) : Nat → Nat
  | 0 => 0
  | n + 1 => m + 2 ^ k * msk k m n
theorem msk_mod {k m : Nat} (h : m < 2 ^ k) (n : Nat) : msk k m (n + 1) % 2 ^ k = m ∧ msk k m (n + 1) / 2 ^ k = msk k m n := by
  have hp : 0 < 2 ^ k := Nat.two_pow_pos k
  constructor
  · rw [msk, Nat.add_mul_mod_self_left, Nat.mod_eq_of_lt h]
  · rw [msk, Nat.add_mul_div_left _ _ hp, Nat.div_eq_of_lt h, Nat.zero_add]
theorem low_and {k s m x : Nat} (h : m < 2 ^ (k - s)) : x / 2 ^ s % 2 ^ k &&& m = x % 2 ^ k / 2 ^ s &&& m := by
  apply Nat.eq_of_testBit_eq
  intro i
  simp only [Nat.testBit_and, Nat.testBit_mod_two_pow, Nat.testBit_div_two_pow]
  by_cases hi : i < k - s
  · have h1 : i < k := by omega
    have h2 : s + i < k := by omega
    have h3 : i + s < k := by omega
    simp [h1, h3]
  · have : m.testBit i = false := Nat.testBit_lt_two_pow (Nat.lt_of_lt_of_le h (Nat.pow_le_pow_right (by omega) (by omega)))
    simp [this]
theorem shr_msk {k m s : Nat} (hm : m < 2 ^ (k - s)) : ∀ n x, (x / 2 ^ s) &&& msk k m n = dm (2 ^ k) (fun d => d / 2 ^ s &&& m) n x
  | 0, x => by simp [msk, dm]
  | n + 1, x => by
    have hlt : m < 2 ^ k := Nat.lt_of_lt_of_le hm (Nat.pow_le_pow_right (by omega) (by omega))
    rw [and_split k, (msk_mod hlt n).1, (msk_mod hlt n).2, low_and hm, Nat.div_div_eq_div_mul, Nat.mul_comm (2 ^ s), ← Nat.div_div_eq_div_mul, shr_msk hm n, dm]
theorem dm_congr {B n : Nat} {f g : Nat → Nat} (hB : 0 < B) (h : ∀ d, d < B → f d = g d) : ∀ x, dm B f n x = dm B g n x := by
  induction n with
  | zero => intro x; rfl
  | succ n ih => intro x; rw [dm, dm, h _ (Nat.mod_lt _ hB), ih]
theorem dm_add {B n : Nat} {f g : Nat → Nat} : ∀ x, dm B f n x + dm B g n x = dm B (fun d => f d + g d) n x := by
  induction n with
  | zero => intro x; rfl
  | succ n ih => intro x; rw [dm, dm, dm, ← ih]; simp only [Nat.mul_add]; omega
theorem dm_mod {B n : Nat} {f : Nat → Nat} (hB : 0 < B) (h : ∀ d, d < B → f d < B) (x : Nat) : dm B f (n + 1) x % B = f (x % B) ∧ dm B f (n + 1) x / B = dm B f n (x / B) := by
  have := h _ (Nat.mod_lt x hB)
  constructor
  · rw [dm, Nat.add_mul_mod_self_left, Nat.mod_eq_of_lt this]
  · rw [dm, Nat.add_mul_div_left _ _ hB, Nat.div_eq_of_lt this, Nat.zero_add]
theorem dm_dm {B n : Nat} {f g : Nat → Nat} (hB : 0 < B) (h : ∀ d, d < B → f d < B) : ∀ x, dm B g n (dm B f n x) = dm B (fun d => g (f d)) n x := by
  induction n with
  | zero => intro x; rfl
  | succ n ih => intro x; rw [dm, (dm_mod hB h x).1, (dm_mod hB h x).2, ih, dm]
/-- two digits as one -/
theorem dm_pair {B n : Nat} {f : Nat → Nat} (hB : 0 < B) : ∀ x, dm B f (2 * n) x = dm (B * B) (fun d => f (d % B) + B * f (d / B % B)) n x := by
  induction n with
  | zero => intro x; rfl
  | succ n ih =>
    intro x
    rw [show 2 * (n + 1) = (2 * n + 1) + 1 from by omega, dm, dm, dm, ih]
    rw [Nat.mod_mul_right_mod, Nat.div_div_eq_div_mul]
    have : x % (B * B) / B = x / B % B := by rw [Nat.mod_mul_right_div_self]
    rw [this, Nat.mod_mod]
    rw [Nat.mul_add, ← Nat.mul_assoc]; omega
def nib (e : Nat) : Prop := e % 16 ≤ 4 ∧ e / 16 ≤ 4
theorem fold16 {n : Nat} : ∀ {f : Nat → Nat} (_ : ∀ d, d < 256 → f d < 256 ∧ nib (f d)) (x : Nat), (dm 256 f n x / 16 + dm 256 f n x) &&& msk 8 15 n = dm 256 (fun d => f d % 16 + f d / 16) n x ∧ dm 256 f n x % 16 ≤ 4 := by
  induction n with
  | zero => intro f hf x; simp [dm, msk]
  | succ n ih =>
    intro f hf x
    have h256 : (2 : Nat) ^ 8 = 256 := rfl
    have hx := hf (x % 256) (Nat.mod_lt _ (by omega))
    obtain ⟨h1, h2, h3⟩ := hx
    obtain ⟨i1, i2⟩ := ih hf (x / 256)
    have hy1 : (dm 256 f (n + 1) x / 16 + dm 256 f (n + 1) x) % 256 % 16 = f (x % 256) % 16 + f (x % 256) / 16 := by
      rw [dm]; omega
    have hy2 : (dm 256 f (n + 1) x / 16 + dm 256 f (n + 1) x) / 256 = dm 256 f n (x / 256) / 16 + dm 256 f n (x / 256) := by
      rw [dm]; omega
    refine ⟨?_, by rw [dm]; omega⟩
    rw [and_split 8, (msk_mod (by omega) n).1, (msk_mod (by omega) n).2, h256, hy2, i1]
    have : (15 : Nat) = 2 ^ 4 - 1 := rfl
    rw [this, Nat.and_two_pow_sub_one_eq_mod, show (2 : Nat) ^ 4 = 16 from rfl, hy1]
    rfl
/-- how many bits a byte has -/
def pop8 (e : Nat) : Nat := ((List.range 8).filter fun i => e.testBit i).length
def st1 (d : Nat) : Nat := (d / 2 &&& 1) + (d &&& 1)
def st2 (d : Nat) : Nat := (d / 4 &&& 3) + (d &&& 3)
def byt (e : Nat) : Nat :=
  let g := fun d => st1 (d % 4) + 4 * st1 (d / 4 % 4)
  let h := fun d => st2 (g (d % 16)) + 16 * st2 (g (d / 16 % 16))
  h e % 16 + h e / 16
theorem byt_pop : ∀ e, e < 256 → byt e = pop8 e := by decide +kernel
theorem byt_nib : ∀ e, e < 256 → (st2 (st1 (e % 16 % 4) + 4 * st1 (e % 16 / 4 % 4)) + 16 * st2 (st1 (e / 16 % 16 % 4) + 4 * st1 (e / 16 % 16 / 4 % 4))) < 256 ∧ (st2 (st1 (e % 16 % 4) + 4 * st1 (e % 16 / 4 % 4)) + 16 * st2 (st1 (e / 16 % 16 % 4) + 4 * st1 (e / 16 % 16 / 4 % 4))) % 16 ≤ 4 ∧ (st2 (st1 (e % 16 % 4) + 4 * st1 (e % 16 / 4 % 4)) + 16 * st2 (st1 (e / 16 % 16 % 4) + 4 * st1 (e / 16 % 16 / 4 % 4))) / 16 ≤ 4 := by decide +kernel
theorem st1_lt : ∀ e, e < 4 → st1 e < 4 := by decide
theorem st1_pair : ∀ e, e < 16 → st1 (e % 4) + 4 * st1 (e / 4 % 4) < 16 := by decide
/-- the first three steps -/
def s1 (x : Nat) : Nat := (x / 2 &&& 6148914691236517205) + (x &&& 6148914691236517205)
def s2 (x : Nat) : Nat := (x / 4 &&& 3689348814741910323) + (x &&& 3689348814741910323)
def s3 (x : Nat) : Nat := (x / 16 + x) &&& 1085102592571150095
theorem s1_eq (x : Nat) : s1 x = dm 4 st1 32 x := by
  have h := shr_msk (k := 2) (m := 1) (s := 1) (by decide) 32 x
  have h' := shr_msk (k := 2) (m := 1) (s := 0) (by decide) 32 x
  have hm : msk 2 1 32 = 6148914691236517205 := by decide
  rw [hm] at h h'
  simp only [Nat.pow_zero, Nat.div_one, show (2 : Nat) ^ 2 = 4 from rfl, show (2 : Nat) ^ 1 = 2 from rfl] at h h'
  rw [s1, h, h', dm_add]; rfl
theorem s2_eq (x : Nat) : s2 x = dm 16 st2 16 x := by
  have h := shr_msk (k := 4) (m := 3) (s := 2) (by decide) 16 x
  have h' := shr_msk (k := 4) (m := 3) (s := 0) (by decide) 16 x
  have hm : msk 4 3 16 = 3689348814741910323 := by decide
  rw [hm] at h h'
  simp only [Nat.pow_zero, Nat.div_one, show (2 : Nat) ^ 4 = 16 from rfl, show (2 : Nat) ^ 2 = 4 from rfl] at h h'
  rw [s2, h, h', dm_add]; rfl
theorem s3_eq (x : Nat) : s3 (s2 (s1 x)) = dm 256 pop8 8 x := by
  rw [s1_eq, s2_eq, dm_pair (B := 4) (n := 16) (by omega), dm_dm (by omega) st1_pair, dm_pair (B := 16) (n := 8) (by omega)]
  have hm : msk 8 15 8 = 1085102592571150095 := by decide
  rw [s3, ← hm]
  refine (fold16 (n := 8) (fun d hd => ?_) x).1.trans ?_
  · exact byt_nib d hd
  · exact dm_congr (by omega) (fun d hd => byt_pop d hd) x
def s4 (z : Nat) : Nat := let a := z + z / 256; let b := a + a / 65536; (b + b / 4294967296) % 128
def cnt (k b : Nat) : Nat := ((List.range k).filter fun i => b.testBit i).length
theorem cnt_byte (k x : Nat) : cnt (8 + k) x = pop8 (x % 256) + cnt k (x / 256) := by
  unfold cnt pop8
  rw [List.range_add, List.filter_append, List.length_append]
  congr 1
  · congr 1
    apply List.filter_congr
    intro i hi
    have : i < 8 := by simpa using hi
    rw [show (256 : Nat) = 2 ^ 8 from rfl, Nat.testBit_mod_two_pow]; simp [this]
  · rw [List.filter_map, List.length_map]
    congr 1
    apply List.filter_congr
    intro i _
    simp only [Function.comp_apply]
    rw [show (256 : Nat) = 2 ^ 8 from rfl, Nat.testBit_div_two_pow, Nat.add_comm]
theorem pop8_le : ∀ e, pop8 e ≤ 8 := fun e => by unfold pop8; exact Nat.le_trans (List.length_filter_le _ _) (by simp)
theorem a1_eq (p0 p1 p2 p3 p4 p5 p6 p7 : Nat) (l0 : p0 ≤ 8) : (p0 + 256 * p1 + 65536 * p2 + 16777216 * p3 + 4294967296 * p4 + 1099511627776 * p5 + 281474976710656 * p6 + 72057594037927936 * p7) / 256 = p1 + 256 * p2 + 65536 * p3 + 16777216 * p4 + 4294967296 * p5 + 1099511627776 * p6 + 281474976710656 * p7 := by omega
theorem a2_eq (q0 q1 q2 q3 q4 q5 q6 q7 : Nat) (l0 : q0 ≤ 16) (l1 : q1 ≤ 16) : (q0 + 256 * q1 + 65536 * q2 + 16777216 * q3 + 4294967296 * q4 + 1099511627776 * q5 + 281474976710656 * q6 + 72057594037927936 * q7) / 65536 = q2 + 256 * q3 + 65536 * q4 + 16777216 * q5 + 4294967296 * q6 + 1099511627776 * q7 := by omega
theorem a3_eq (q0 q1 q2 q3 q4 q5 q6 q7 : Nat) (l0 : q0 ≤ 32) (l1 : q1 ≤ 32) (l2 : q2 ≤ 32) (l3 : q3 ≤ 32) : (q0 + 256 * q1 + 65536 * q2 + 16777216 * q3 + 4294967296 * q4 + 1099511627776 * q5 + 281474976710656 * q6 + 72057594037927936 * q7) / 4294967296 = q4 + 256 * q5 + 65536 * q6 + 16777216 * q7 := by omega
theorem a4_eq (q0 q1 q2 q3 q4 q5 q6 q7 : Nat) (l0 : q0 < 128) : (q0 + 256 * q1 + 65536 * q2 + 16777216 * q3 + 4294967296 * q4 + 1099511627776 * q5 + 281474976710656 * q6 + 72057594037927936 * q7) % 128 = q0 := by omega
theorem s4_key (p0 p1 p2 p3 p4 p5 p6 p7 : Nat) (l0 : p0 ≤ 8) (l1 : p1 ≤ 8) (l2 : p2 ≤ 8) (l3 : p3 ≤ 8) (l4 : p4 ≤ 8) (l5 : p5 ≤ 8) (l6 : p6 ≤ 8) (l7 : p7 ≤ 8) :
    s4 (p0 + 256 * p1 + 65536 * p2 + 16777216 * p3 + 4294967296 * p4 + 1099511627776 * p5 + 281474976710656 * p6 + 72057594037927936 * p7) = p0 + p1 + p2 + p3 + p4 + p5 + p6 + p7 := by
  unfold s4
  simp only [a1_eq _ _ _ _ _ _ _ _ l0]
  have e1 : p0 + 256 * p1 + 65536 * p2 + 16777216 * p3 + 4294967296 * p4 + 1099511627776 * p5 + 281474976710656 * p6 + 72057594037927936 * p7 + (p1 + 256 * p2 + 65536 * p3 + 16777216 * p4 + 4294967296 * p5 + 1099511627776 * p6 + 281474976710656 * p7) = (p0 + p1) + 256 * (p1 + p2) + 65536 * (p2 + p3) + 16777216 * (p3 + p4) + 4294967296 * (p4 + p5) + 1099511627776 * (p5 + p6) + 281474976710656 * (p6 + p7) + 72057594037927936 * p7 := by omega
  simp only [e1, a2_eq (p0 + p1) (p1 + p2) (p2 + p3) (p3 + p4) (p4 + p5) (p5 + p6) (p6 + p7) p7 (by omega) (by omega)]
  have e2 : p0 + p1 + 256 * (p1 + p2) + 65536 * (p2 + p3) + 16777216 * (p3 + p4) + 4294967296 * (p4 + p5) + 1099511627776 * (p5 + p6) + 281474976710656 * (p6 + p7) + 72057594037927936 * p7 + (p2 + p3 + 256 * (p3 + p4) + 65536 * (p4 + p5) + 16777216 * (p5 + p6) + 4294967296 * (p6 + p7) + 1099511627776 * p7) = (p0 + p1 + p2 + p3) + 256 * (p1 + p2 + p3 + p4) + 65536 * (p2 + p3 + p4 + p5) + 16777216 * (p3 + p4 + p5 + p6) + 4294967296 * (p4 + p5 + p6 + p7) + 1099511627776 * (p5 + p6 + p7) + 281474976710656 * (p6 + p7) + 72057594037927936 * p7 := by omega
  simp only [e2, a3_eq (p0 + p1 + p2 + p3) (p1 + p2 + p3 + p4) (p2 + p3 + p4 + p5) (p3 + p4 + p5 + p6) (p4 + p5 + p6 + p7) (p5 + p6 + p7) (p6 + p7) p7 (by omega) (by omega) (by omega) (by omega)]
  have e3 : p0 + p1 + p2 + p3 + 256 * (p1 + p2 + p3 + p4) + 65536 * (p2 + p3 + p4 + p5) + 16777216 * (p3 + p4 + p5 + p6) + 4294967296 * (p4 + p5 + p6 + p7) + 1099511627776 * (p5 + p6 + p7) + 281474976710656 * (p6 + p7) + 72057594037927936 * p7 + (p4 + p5 + p6 + p7 + 256 * (p5 + p6 + p7) + 65536 * (p6 + p7) + 16777216 * p7) = (p0 + p1 + p2 + p3 + p4 + p5 + p6 + p7) + 256 * (p1 + p2 + p3 + p4 + p5 + p6 + p7) + 65536 * (p2 + p3 + p4 + p5 + p6 + p7) + 16777216 * (p3 + p4 + p5 + p6 + p7) + 4294967296 * (p4 + p5 + p6 + p7) + 1099511627776 * (p5 + p6 + p7) + 281474976710656 * (p6 + p7) + 72057594037927936 * p7 := by omega
  rw [e3, a4_eq _ _ _ _ _ _ _ _ (by omega)]
theorem s4_eq (x : Nat) : s4 (dm 256 pop8 8 x) = cnt 64 x := by
  have e : cnt 64 x = cnt (8 + (8 + (8 + (8 + (8 + (8 + (8 + (8 + 0)))))))) x := rfl
  rw [e]
  simp only [cnt_byte, dm]
  simp only [show ∀ y, cnt 0 y = 0 from fun _ => rfl]
  have l0 := pop8_le (x % 256)
  have l1 := pop8_le (x / 256 % 256)
  have l2 := pop8_le (x / 256 / 256 % 256)
  have l3 := pop8_le (x / 256 / 256 / 256 % 256)
  have l4 := pop8_le (x / 256 / 256 / 256 / 256 % 256)
  have l5 := pop8_le (x / 256 / 256 / 256 / 256 / 256 % 256)
  have l6 := pop8_le (x / 256 / 256 / 256 / 256 / 256 / 256 % 256)
  have l7 := pop8_le (x / 256 / 256 / 256 / 256 / 256 / 256 / 256 % 256)
  revert l0 l1 l2 l3 l4 l5 l6 l7
  generalize pop8 (x % 256) = p0
  generalize pop8 (x / 256 % 256) = p1
  generalize pop8 (x / 256 / 256 % 256) = p2
  generalize pop8 (x / 256 / 256 / 256 % 256) = p3
  generalize pop8 (x / 256 / 256 / 256 / 256 % 256) = p4
  generalize pop8 (x / 256 / 256 / 256 / 256 / 256 % 256) = p5
  generalize pop8 (x / 256 / 256 / 256 / 256 / 256 / 256 % 256) = p6
  generalize pop8 (x / 256 / 256 / 256 / 256 / 256 / 256 / 256 % 256) = p7
  intro l0 l1 l2 l3 l4 l5 l6 l7
  have e2 : p0 + 256 * (p1 + 256 * (p2 + 256 * (p3 + 256 * (p4 + 256 * (p5 + 256 * (p6 + 256 * (p7 + 256 * 0))))))) = p0 + 256 * p1 + 65536 * p2 + 16777216 * p3 + 4294967296 * p4 + 1099511627776 * p5 + 281474976710656 * p6 + 72057594037927936 * p7 := by omega
  rw [e2, s4_key _ _ _ _ _ _ _ _ l0 l1 l2 l3 l4 l5 l6 l7]
  omega
/-- how many bits a word has -/
theorem ones_eq (x : Nat) : s4 (s3 (s2 (s1 x))) = cnt 64 x := by rw [s3_eq, s4_eq]
theorem s_bounds (x : Nat) (h : x < 18446744073709551616) : s1 x < 18446744073709551616 ∧ s2 (s1 x) < 18446744073709551616 ∧ s3 (s2 (s1 x)) < 578721382704613385 ∧ s2 (s1 x) / 16 + s2 (s1 x) < 18446744073709551616 := by
  have a1 : x / 2 &&& 6148914691236517205 ≤ 6148914691236517205 := Nat.and_le_right
  have a2 : x &&& 6148914691236517205 ≤ 6148914691236517205 := Nat.and_le_right
  have b1 : s1 x / 4 &&& 3689348814741910323 ≤ 3689348814741910323 := Nat.and_le_right
  have b2 : s1 x &&& 3689348814741910323 ≤ 3689348814741910323 := Nat.and_le_right
  refine ⟨by unfold s1; omega, by unfold s2; omega, ?_, by unfold s2; omega⟩
  rw [s3_eq]
  simp only [dm]
  have l0 := pop8_le (x % 256)
  have l1 := pop8_le (x / 256 % 256)
  have l2 := pop8_le (x / 256 / 256 % 256)
  have l3 := pop8_le (x / 256 / 256 / 256 % 256)
  have l4 := pop8_le (x / 256 / 256 / 256 / 256 % 256)
  have l5 := pop8_le (x / 256 / 256 / 256 / 256 / 256 % 256)
  have l6 := pop8_le (x / 256 / 256 / 256 / 256 / 256 / 256 % 256)
  have l7 := pop8_le (x / 256 / 256 / 256 / 256 / 256 / 256 / 256 % 256)
  omega
theorem cnt_lb (b : Nat) : (cnt 64 b : Int) = ((lb 64 b).length : Nat) := by unfold cnt lb; rw [List.length_map]
end Go.Proofs.YtakkfgkogomjbaaDoor
namespace Go.Proofs.YtakkfgkogomjbaaDoor
open Go.Shelf
def lays129_ren : Go.Shelf.Ren := ⟨fun | 129 => 91 | n => n, fun | 53 => 91 | 3 => 3 | 4 => 4 | 46 => 150 | 5 => 5 | 9 => 9 | n => n, fun | n => n⟩
theorem lays129 : Go.Proofs.Lays.n129 Tryd.prog lays129_ren := {
  mixed := by kernel_rfl
  f129 := Tryd.func91.trans (congrArg some (by kernel_rfl))
  t3 := Tryd.underlying3
  a3 := Tryd.isAgg3
  z3 := Tryd.sizeOf3
  v3 := Tryd.zeroValue3
  t4 := Tryd.underlying4
  a4 := Tryd.isAgg4
  z4 := Tryd.sizeOf4
  v4 := Tryd.zeroValue4
  t5 := Tryd.underlying5
  a5 := Tryd.isAgg5
  z5 := Tryd.sizeOf5
  v5 := Tryd.zeroValue5
  t9 := Tryd.underlying9
  a9 := Tryd.isAgg9
  z9 := Tryd.sizeOf9
  v9 := Tryd.zeroValue9
  t46 := Tryd.underlying150
  a46 := Tryd.isAgg150
  z46 := Tryd.sizeOf150
  v46 := Tryd.zeroValue150
  t53 := Tryd.underlying91
  a53 := Tryd.isAgg91
  z53 := Tryd.sizeOf91
  v53 := Tryd.zeroValue91 }
/-- bits.Len64: "Len64 returns the minimum number of bits required to represent x; the result is 0 for x == 0.": IT RETURNS 'Lib.bitLen x'; the world is as it was. ('h0', 'h1': x is a uint64.) (LAID: no walk: one application.) -/
theorem bits_Len64 (x : Int) (w : World) (h0 : 0 ≤ x) (h1 : x ≤ 18446744073709551615) :
    Calls Tryd.prog 91 #[.int .u64 x] w fun e w' => e = .returned (.int .i64 (Lib.bitLen x.toNat)) ∧ w' = w := Any.bits_Len64 lays129 x w h0 h1
def lays29_ren : Go.Shelf.Ren := ⟨fun | 29 => 94 | n => n, fun | 22 => 91 | 3 => 3 | 4 => 4 | 25 => 150 | 54 => 173 | 0 => 0 | 5 => 5 | n => n, fun | 1 => 0 | n => n⟩
theorem lays29 : Go.Proofs.Lays7.n29 Tryd.prog lays29_ren := {
  mixed := by kernel_rfl
  f29 := Tryd.func94.trans (congrArg some (by kernel_rfl))
  t0 := Tryd.underlying0
  a0 := Tryd.isAgg0
  z0 := Tryd.sizeOf0
  v0 := Tryd.zeroValue0
  i0 := by kernel_rfl
  t3 := Tryd.underlying3
  a3 := Tryd.isAgg3
  z3 := Tryd.sizeOf3
  v3 := Tryd.zeroValue3
  i3 := by kernel_rfl
  t4 := Tryd.underlying4
  a4 := Tryd.isAgg4
  z4 := Tryd.sizeOf4
  v4 := Tryd.zeroValue4
  i4 := by kernel_rfl
  t5 := Tryd.underlying5
  a5 := Tryd.isAgg5
  z5 := Tryd.sizeOf5
  v5 := Tryd.zeroValue5
  i5 := by kernel_rfl
  t22 := Tryd.underlying91
  a22 := Tryd.isAgg91
  z22 := Tryd.sizeOf91
  v22 := Tryd.zeroValue91
  i22 := by kernel_rfl
  t25 := Tryd.underlying150
  a25 := Tryd.isAgg150
  z25 := Tryd.sizeOf150
  v25 := Tryd.zeroValue150
  i25 := by kernel_rfl
  t54 := Tryd.underlying173
  a54 := Tryd.isAgg173
  z54 := Tryd.sizeOf173
  g1 := by kernel_rfl }
/-- math/bits.TrailingZeros64. -/
theorem bits_tz (x : Nat) (hx : x < 18446744073709551616) (w : World) (hT : x ≠ 0 → TabAt 0 Lib.deBruijn64tab w) :
    Calls Tryd.prog 94 #[.int .u64 x] w fun e w' => e = .returned (.int .i64 (Lib.ctz 64 x)) ∧ w' = w := Any7.bits_TrailingZeros64 lays29 x hx w hT
end Go.Proofs.YtakkfgkogomjbaaDoor
namespace Go.Proofs.YtakkfgkogomjbaaDoor
open Go.RowKit Go.Shelf
set_option linter.unusedVariables false

abbrev Tab (w : World) : Prop := TabAt 0 Lib.deBruijn64tab w
theorem Tab.below {w w' : World} {B : Nat} (h : Tab w) (hb : Below B w w') (hB : 0 < B) : Tab w' := fun j hj => (hb.cell (p := ⟨0, j, none⟩) hB).trans (h j hj)
theorem wf_bounds {n : Int} (h : (Lit.int .i64 n).wf = true) : -9223372036854775808 ≤ n ∧ n ≤ 9223372036854775807 := by
  simp [Lit.wf, IntKind.min, IntKind.max, IntKind.signed, IntKind.bits] at h
  omega
theorem ret_u {a b : Int} (h : a = b) : Ending.returned (.int .u64 a) = .returned (.int .u64 b) := by rw [h]
theorem u64_in (a : Nat) (h : a < 18446744073709551616) : IntKind.u64.wrap (a : Int) = a := by rw [IntKind.wrap_u64]; omega
theorem from_any (b : Nat) (hb : b < 18446744073709551616) (n : Int) (w : World) :
    Calls Tryd.prog 78 #[.int .u64 (b : Int), .int .i64 n] w fun e w' => e = .returned (.int .u64 ((frN b n : Nat) : Int)) ∧ w = w' := by
  by_cases h1 : n ≤ 0
  · have e : frN b n = b := by unfold frN; rw [if_pos h1]
    rw [e]
    go_enter Tryd.func78, Tryd.ntmps78
    go_wp2
    go_ret
    exact ⟨rfl, rfl⟩
  · by_cases h2 : 63 < n
    · have e : frN b n = 0 := by unfold frN; rw [if_neg h1, if_pos h2]
      rw [e]
      go_enter Tryd.func78, Tryd.ntmps78
      go_wp2
      go_ret
      exact ⟨rfl, rfl⟩
    · obtain ⟨m, rfl⟩ := Int.eq_ofNat_of_zero_le (show 0 ≤ n by omega)
      have e : frN b m = b / 2 ^ m * 2 ^ m := by unfold frN; rw [if_neg h1, if_neg h2]; rfl
      rw [e]
      have h3 : 1 ≤ m := by omega
      have h4 : m ≤ 63 := by omega
      have hle : b / 2 ^ m * 2 ^ m ≤ b := Nat.div_mul_le_self _ _
      have hw := u64_in (b / 2 ^ m * 2 ^ m) (by omega)
      have HW := Lib.hid hw
      clear hw hle e
      go_enter Tryd.func78, Tryd.ntmps78
      go_wp2
      go_ret
      exact ⟨ret_u (by have := HW.out; simpa using this), rfl⟩
theorem bfirst_any (b : Nat) (hb : b < 18446744073709551616) (w : World) (hT : Tab w) :
    Calls Tryd.prog 77 #[.int .u64 (b : Int)] w fun e w' => e = op2 (lb 64 b).head? ∧ w = w' := by
  rw [first_eq hb]
  by_cases h0 : b = 0
  · subst h0
    rw [if_pos rfl]
    go_enter Tryd.func77, Tryd.ntmps77
    go_wp2
    go_ret2
    exact ⟨rfl, rfl⟩
  · rw [if_neg h0]
    have hz : ((b : Int) == 0) = false := by simp [h0]
    clear h0
    go_enter Tryd.func77, Tryd.ntmps77
    go_wp2_with (go_at_call 94; refine (bits_tz b hb _ fun _ => hT).mono ?_; rintro e w' ⟨rfl, rfl⟩)
    go_ret2
    exact ⟨rfl, rfl⟩
theorem after_any (b : Nat) (hb : b < 18446744073709551616) (n : Int) (w : World) (hT : Tab w) (hn : (Lit.int .i64 n).wf = true) :
    Calls Tryd.prog 62 #[.int .u64 (b : Int), .int .i64 n] w fun e w' => e = op2 ((lb 64 b).find? fun m => decide (n < m)) ∧ w = w' := by
  have hwf := wf_bounds hn
  by_cases h1 : 63 ≤ n
  · have e : (lb 64 b).find? (fun m => decide (n < m)) = none := by
      rw [List.find?_eq_none]
      intro x hx
      obtain ⟨i, rfl, hi, _⟩ := lb_mem hx
      simp; omega
    rw [e]
    go_enter Tryd.func62, Tryd.ntmps62
    go_wp2
    go_ret2
    exact ⟨rfl, rfl⟩
  · have hf := frN_le b (n + 1)
    have e : (lb 64 (frN b (n + 1))).head? = (lb 64 b).find? fun m => decide (n < m) := by
      rw [fr_head]; congr 1
    rw [← e]
    clear e
    go_enter Tryd.func62, Tryd.ntmps62
    go_wp2_with (first | (go_at_call 78; refine (from_any b hb _ _).mono ?_; rintro e w' ⟨rfl, rfl⟩) | (go_at_call 77; refine (bfirst_any _ (by omega) _ hT).mono ?_; rintro e w' ⟨rfl, rfl⟩; unfold op2))
    go_ret2
    exact ⟨rfl, rfl⟩
end Go.Proofs.YtakkfgkogomjbaaDoor
