/-
  Sets of bits: what they are as lists, and the walks of the reference (vergeref05): List, one, Has.
-/
import Derived.Test.YtfneloplbkjbhaaVi
import Derived.Lib.TrailingZeros
import Derived.Lib.BitFns
import Derived.Lib.ItoaNum
import Derived.Shelf.Strconv.Itoa0
import Derived.Shelf.Spec.TrailingZeros
import Derived.Ground.Names7Prog
import Derived.Test.YtfneloplbkjbhaaProg
import Derived.Test.YtfneloplbkjbhaaLw
import Derived.WalkKit
import Derived.Deep.DeepHandedRow
import Derived.Lib.LaidTab
import Derived.Deep.RegionHeld3
import Derived.StillTailTactics
import Derived.Deep.DeepCutAuto
import Derived.RangeFuncNested
import Derived.RangeFuncBound
import Derived.RangeFuncCalls
import Derived.RangeFuncLeaves
import Derived.RangeFuncBox
import Derived.Shelf.Abstract
import Derived.Shelf.RegionOpen
import Derived.OwnWalkIn
import Derived.TacticsInMore
import Derived.LoopNIn
import Derived.LoopIn
import Derived.Maps.AppendAt
namespace Go.Proofs.Ytfneloplbkjbhaa
open Go.RowKit
set_option linter.unusedVariables false

/-- The bits of a number below k, rising. -/
def lb (k b : Nat) : List Int := ((List.range k).filter fun i => b.testBit i).map fun i : Nat => (i : Int)
theorem lb_succ (k b : Nat) : lb (k + 1) b = lb k b ++ if b.testBit k then [(k : Int)] else [] := by
  unfold lb
  rw [List.range_succ, List.filter_append, List.map_append]
  by_cases h : b.testBit k
  · simp [h]
  · simp [h]
theorem lb_len (k b : Nat) : (lb k b).length ≤ k := by
  unfold lb
  have := List.length_filter_le (fun i => b.testBit i) (List.range k)
  simpa using this
theorem bit_div (b k : Nat) : b.testBit k = decide (b / 2 ^ k % 2 = 1) := Nat.testBit_eq_decide_div_mod_eq
theorem div_step (b k : Nat) : b / 2 ^ (k + 1) = b / 2 ^ k / 2 := by rw [Nat.pow_succ, Nat.div_div_eq_div_mul]

def IntRes (w : World) (L : List Int) (e : Ending) (w' : World) : Prop :=
  ∃ A c, e = .returned (.slice A L.length c) ∧ Ints w' w'.heap.size A L ∧ Below w.heap.size w w'
theorem IntRes.own {w w' : World} {L : List Int} {v : Value} {base : Nat} {t : TypeId} {n : Nat} (hn : n = L.length) (h : w'.ownsRow base t 1 v n (L.map (Value.int .i64))) (hb : Below w.heap.size w w') : IntRes w L (.returned v) w' := by
  subst hn
  obtain ⟨A, c, rfl⟩ := own_slice h
  exact ⟨A, c, rfl, (Ints.of_own h).2, hb⟩
theorem info_int : (Try.prog.info? 3).map (fun i => (i.zero, i.size, i.bytes)) = some (some (.int .i64 0), 1, 8) := by kernel_rfl

end Go.Proofs.Ytfneloplbkjbhaa
namespace Go.Proofs.Ytfneloplbkjbhaa
open Go.RowKit
set_option linter.unusedVariables false

def op2 (o : Option Int) : Ending := .returned (.tuple #[.int .i64 (o.getD 0), .bool o.isSome])
theorem find_drop {p : Int → Bool} {L : List Int} {k : Nat} {x : Int} (hx : L[k]? = some x) : (L.drop k).find? p = if p x = true then some x else (L.drop (k + 1)).find? p := by
  obtain ⟨h, e⟩ := List.getElem?_eq_some_iff.1 hx
  rw [List.drop_eq_getElem_cons h, e, List.find?_cons]
  split <;> simp_all
theorem lb_mem {k b : Nat} {x : Int} (h : x ∈ lb k b) : ∃ i : Nat, x = i ∧ i < k ∧ b.testBit i = true := by
  unfold lb at h
  obtain ⟨i, hi, rfl⟩ := List.mem_map.1 h
  have := List.mem_filter.1 hi
  exact ⟨i, rfl, by simpa using this.1, this.2⟩

def arO (n : Int) (L : List Int) : Option Int := (L.find? fun m => decide (n ≤ m)).or L.head?
end Go.Proofs.Ytfneloplbkjbhaa
namespace Go.Proofs.Ytfneloplbkjbhaa
open Go.RowKit
set_option linter.unusedVariables false

theorem lb_filter {k b b' : Nat} {p : Int → Bool} (h : ∀ i, i < k → b'.testBit i = (b.testBit i && p (i : Int))) : lb k b' = (lb k b).filter p := by
  induction k with
  | zero => simp [lb]
  | succ k ih =>
    rw [lb_succ, lb_succ, List.filter_append, ih fun i hi => h i (by omega), h k (by omega)]
    congr 1
    by_cases h1 : b.testBit k <;> by_cases h2 : p (k : Int) <;> simp [h1, h2]
theorem lb_none {k b : Nat} (h : ∀ i, i < k → b.testBit i = false) : lb k b = [] := by
  induction k with
  | zero => simp [lb]
  | succ k ih => rw [lb_succ, ih fun i hi => h i (by omega), h k (by omega)]; simp
theorem lb_head {k b z : Nat} (hz : z < k) (h1 : b.testBit z = true) (h0 : ∀ j, j < z → b.testBit j = false) : (lb k b).head? = some (z : Int) := by
  induction k with
  | zero => omega
  | succ k ih =>
    rw [lb_succ]
    by_cases hk : z = k
    · subst hk
      rw [lb_none h0]
      simp [h1]
    · rw [List.head?_append, ih (by omega)]; rfl
theorem lb_last {k b z : Nat} (hz : z < k) (h1 : b.testBit z = true) (h0 : ∀ j, z < j → j < k → b.testBit j = false) : (lb k b).getLast? = some (z : Int) := by
  induction k with
  | zero => omega
  | succ k ih =>
    rw [lb_succ]
    by_cases hk : z = k
    · subst hk; simp [h1]
    · rw [h0 k (by omega) (by omega)]
      simp only [Bool.false_eq_true, if_false, List.append_nil]
      exact ih (by omega) fun j hj hjk => h0 j hj (by omega)
theorem ctz_bits {b : Nat} (h0 : b ≠ 0) (h : b < 2 ^ 64) : Lib.ctz 64 b < 64 ∧ b.testBit (Lib.ctz 64 b) = true ∧ ∀ j, j < Lib.ctz 64 b → b.testBit j = false := by
  obtain ⟨m, hm, hk⟩ := Lib.ctzFrom_spec 64 b (by omega) h
  have e : Lib.ctz 64 b = Lib.ctzFrom 64 b := by simp [Lib.ctz, h0]
  rw [e]
  obtain ⟨c, hc⟩ : ∃ c, c = Lib.ctzFrom 64 b := ⟨_, rfl⟩
  rw [← hc] at hm hk ⊢
  refine ⟨hk, ?_, fun j hj => ?_⟩
  · rw [hm, Nat.testBit_two_pow_mul]; simp
  · rw [hm, Nat.testBit_two_pow_mul]; simp; omega
theorem first_eq {b : Nat} (h : b < 2 ^ 64) : (lb 64 b).head? = if b = 0 then none else some ((Lib.ctz 64 b : Nat) : Int) := by
  by_cases h0 : b = 0
  · subst h0
    rw [if_pos rfl, lb_none (fun i _ => by simp)]; rfl
  · rw [if_neg h0]
    obtain ⟨h1, h2, h3⟩ := ctz_bits h0 h
    exact lb_head h1 h2 h3
theorem len_bits {b : Nat} (h0 : b ≠ 0) (h : b < 2 ^ 64) : 1 ≤ Lib.bitLen b ∧ Lib.bitLen b ≤ 64 ∧ b.testBit (Lib.bitLen b - 1) = true ∧ ∀ j, Lib.bitLen b - 1 < j → b.testBit j = false := by
  obtain ⟨h1, h2, h3⟩ := Lib.bitLenAux_bounds 64 b h h0
  have hle := Lib.bitLen_le b 64 (by omega) h
  have e : Lib.bitLen b = Lib.bitLenAux 64 b := rfl
  rw [← e] at h1 h2 h3
  obtain ⟨l, hl⟩ : ∃ l, Lib.bitLen b = l + 1 := ⟨Lib.bitLen b - 1, by omega⟩
  rw [hl] at h1 h2 h3 hle ⊢
  simp only [Nat.add_sub_cancel] at h2 ⊢
  refine ⟨h1, hle, ?_, fun j hj => ?_⟩
  · rw [bit_div]
    have hp : 0 < 2 ^ l := Nat.two_pow_pos l
    have : b / 2 ^ l = 1 := by
      have a1 : 1 ≤ b / 2 ^ l := (Nat.le_div_iff_mul_le hp).2 (by omega)
      have a2 : b / 2 ^ l < 2 := (Nat.div_lt_iff_lt_mul hp).2 (by rw [Nat.pow_succ] at h3; omega)
      omega
    simp [this]
  · exact Nat.testBit_lt_two_pow (Nat.lt_of_lt_of_le h3 (Nat.pow_le_pow_right (by omega) (by omega)))
theorem last_eq {b : Nat} (h : b < 2 ^ 64) : (lb 64 b).getLast? = if b = 0 then none else some ((Lib.bitLen b : Int) - 1) := by
  by_cases h0 : b = 0
  · subst h0
    rw [if_pos rfl, lb_none (fun i _ => by simp)]; rfl
  · rw [if_neg h0]
    obtain ⟨h1, h2, h3, h4⟩ := len_bits h0 h
    rw [lb_last (z := Lib.bitLen b - 1) (by omega) h3 fun j hj _ => h4 j hj]
    congr 1
    omega

/-! ### what is from a number on -/
def frN (b : Nat) (n : Int) : Nat := if n ≤ 0 then b else if 63 < n then 0 else b / 2 ^ n.toNat * 2 ^ n.toNat
theorem frN_le (b : Nat) (n : Int) : frN b n ≤ b := by
  unfold frN
  split
  · omega
  · split
    · omega
    · exact Nat.div_mul_le_self _ _
theorem frN_bit (b : Nat) (n : Int) (i : Nat) (hi : i < 64) : (frN b n).testBit i = (b.testBit i && decide (n ≤ (i : Int))) := by
  unfold frN
  split
  · have : n ≤ (i : Int) := by omega
    simp [this]
  · split
    · have : ¬ n ≤ (i : Int) := by omega
      simp [this]
    · rename_i h1 h2
      obtain ⟨m, rfl⟩ := Int.eq_ofNat_of_zero_le (show 0 ≤ n by omega)
      simp only [Int.toNat_natCast]
      rw [Nat.mul_comm, Nat.testBit_two_pow_mul, Nat.testBit_div_two_pow]
      by_cases h : m ≤ i
      · have h' : (m : Int) ≤ (i : Int) := by omega
        simp [h, h', Nat.sub_add_cancel h]
      · have h' : ¬ (m : Int) ≤ (i : Int) := by omega
        simp [h, h']
theorem fr_list (b : Nat) (n : Int) : lb 64 (frN b n) = (lb 64 b).filter fun m => decide (n ≤ m) := lb_filter fun i hi => frN_bit b n i hi
theorem fr_head (b : Nat) (n : Int) : (lb 64 (frN b n)).head? = (lb 64 b).find? fun m => decide (n ≤ m) := by rw [fr_list, List.head?_filter]
theorem lb_nil {b : Nat} (h : b < 2 ^ 64) : lb 64 b = [] ↔ b = 0 := by
  constructor
  · intro e
    have := first_eq h
    rw [e] at this
    by_cases h0 : b = 0
    · exact h0
    · rw [if_neg h0] at this; cases this
  · rintro rfl; exact lb_none fun i _ => by simp
end Go.Proofs.Ytfneloplbkjbhaa
namespace Go.Proofs.Ytfneloplbkjbhaa
set_option linter.unusedVariables false
theorem add_bit {b n : Nat} (h : b.testBit n = false) : b + 2 ^ n = b ||| 2 ^ n := by
  have hp : 0 < 2 ^ n := Nat.two_pow_pos n
  have hr : b % 2 ^ n < 2 ^ n := Nat.mod_lt _ hp
  have hb : 2 ^ n * (b / 2 ^ n) + b % 2 ^ n = b := Nat.div_add_mod _ _
  have hq : b / 2 ^ n % 2 = 0 := by
    rw [Nat.testBit_eq_decide_div_mod_eq] at h
    have := of_decide_eq_false h
    omega
  generalize b / 2 ^ n = q at hb hq
  generalize b % 2 ^ n = r at hb hr
  subst hb
  have e1 : 2 ^ n * q + r + 2 ^ n = 2 ^ n * (q + 1) + r := by rw [Nat.mul_add]; omega
  have hq1 : q + 1 = q ||| 1 := by
    obtain ⟨m, rfl⟩ : ∃ m, q = 2 * m := ⟨q / 2, by omega⟩
    have := Nat.two_pow_add_eq_or_of_lt (b := 1) (i := 1) (by decide) m
    simpa using this
  have e2 : (2 : Nat) ^ n * (q + 1) = (2 ^ n * q) ||| 2 ^ n := by
    rw [hq1, Nat.mul_comm, Nat.mul_comm (2 ^ n) q, ← Nat.shiftLeft_eq, ← Nat.shiftLeft_eq, Nat.shiftLeft_or_distrib]
    congr 1
    rw [Nat.shiftLeft_eq]; simp
  rw [e1, Nat.two_pow_add_eq_or_of_lt hr, Nat.two_pow_add_eq_or_of_lt hr, e2, Nat.or_assoc, Nat.or_comm (2 ^ n) r, ← Nat.or_assoc]
/-- a number of given bits -/
def ob (p : Nat → Bool) : Nat → Nat
  | 0 => 0
  | k + 1 => ob p k + if p k then 2 ^ k else 0
theorem ob_lt (p : Nat → Bool) : ∀ k, ob p k < 2 ^ k
  | 0 => by simp [ob]
  | k + 1 => by
    have := ob_lt p k
    rw [ob, Nat.pow_succ]
    split <;> omega
theorem ob_bit (p : Nat → Bool) : ∀ k i, (ob p k).testBit i = (decide (i < k) && p i)
  | 0, i => by simp [ob]
  | k + 1, i => by
    have h := ob_bit p k
    have hk : (ob p k).testBit k = false := by rw [h]; simp
    rw [ob]
    by_cases hp : p k
    · rw [if_pos hp, add_bit hk, Nat.testBit_or, h, Nat.testBit_two_pow]
      by_cases hi : i = k
      · subst hi; simp [hp]
      · have e1 : ¬ k = i := fun h => hi h.symm
        have e2 : decide (i < k + 1) = decide (i < k) := by rw [decide_eq_decide]; omega
        rw [e2]; simp [e1]
    · rw [if_neg hp, Nat.add_zero, h]
      by_cases hi : i = k
      · subst hi; simp [hp]
      · have e2 : decide (i < k + 1) = decide (i < k) := by rw [decide_eq_decide]; omega
        rw [e2]
theorem bits_eq {a b : Nat} (k : Nat) (ha : a < 2 ^ k) (hb : b < 2 ^ k) (h : ∀ i, i < k → a.testBit i = b.testBit i) : a = b := by
  apply Nat.eq_of_testBit_eq
  intro i
  by_cases hi : i < k
  · exact h i hi
  · rw [Nat.testBit_lt_two_pow (Nat.lt_of_lt_of_le ha (Nat.pow_le_pow_right (by omega) (by omega))), Nat.testBit_lt_two_pow (Nat.lt_of_lt_of_le hb (Nat.pow_le_pow_right (by omega) (by omega)))]
/-- a word without its lowest bit -/
theorem low_off {b z m : Nat} (hb : b = (2 * m + 1) * 2 ^ z) : b &&& (b - 1) = 2 * m * 2 ^ z := by
  have hp : 0 < 2 ^ z := Nat.two_pow_pos z
  have e1 : b = 2 ^ z * (2 * m + 1) + 0 := by rw [hb, Nat.mul_comm]; rfl
  have e2 : b - 1 = 2 ^ z * (2 * m) + (2 ^ z - 1) := by
    rw [hb, Nat.add_mul, Nat.mul_comm (2 ^ z)]; omega
  have hlt : 2 ^ z - 1 < 2 ^ z := by omega
  apply Nat.eq_of_testBit_eq
  intro i
  rw [Nat.testBit_and, e2, Nat.two_pow_add_eq_or_of_lt hlt, hb, Nat.testBit_or, Nat.mul_comm (2 * m + 1), Nat.mul_comm (2 * m), Nat.testBit_two_pow_mul, Nat.testBit_two_pow_mul, Nat.testBit_two_pow_sub_one]
  by_cases hi : z ≤ i
  · have h2 : ¬ i < z := by omega
    simp only [hi, h2, decide_true, decide_false, Bool.true_and, Bool.or_false]
    cases hj : i - z with
    | zero => simp
    | succ j =>
      rw [Nat.testBit_succ, Nat.testBit_succ]
      have a1 : (2 * m + 1) / 2 = m := by omega
      have a2 : (2 * m) / 2 = m := by omega
      rw [a1, a2]; simp
  · have h2 : i < z := by omega
    simp [hi]
theorem low_bits {b z m : Nat} (hb : b = (2 * m + 1) * 2 ^ z) (i : Nat) : (b &&& (b - 1)).testBit i = (b.testBit i && decide (i ≠ z)) := by
  rw [low_off hb, hb, Nat.mul_comm (2 * m + 1), Nat.mul_comm (2 * m), Nat.testBit_two_pow_mul, Nat.testBit_two_pow_mul]
  by_cases hi : z ≤ i
  · simp only [hi, decide_true, Bool.true_and]
    cases hj : i - z with
    | zero =>
      have : i = z := by omega
      simp [this]
    | succ j =>
      have : i ≠ z := by omega
      rw [Nat.testBit_succ, Nat.testBit_succ]
      have a1 : (2 * m + 1) / 2 = m := by omega
      have a2 : (2 * m) / 2 = m := by omega
      rw [a1, a2]; simp [this]
  · simp [hi]
theorem lb_cons {b z : Nat} (k : Nat) (hz : z < k) (h1 : b.testBit z = true) (h0 : ∀ j, j < z → b.testBit j = false) (c : Nat) (hc : ∀ i, c.testBit i = (b.testBit i && decide (i ≠ z))) : lb k b = (z : Int) :: lb k c := by
  induction k with
  | zero => omega
  | succ k ih =>
    rw [lb_succ, lb_succ, hc k]
    by_cases hk : z = k
    · subst hk
      have e1 : ∀ k, k ≤ z → lb k b = [] := by
        intro k hk
        induction k with
        | zero => rfl
        | succ k ih => rw [lb_succ, ih (by omega), h0 k (by omega)]; rfl
      have e2 : ∀ k, k ≤ z → lb k c = [] := by
        intro k hk
        induction k with
        | zero => rfl
        | succ k ih => rw [lb_succ, ih (by omega), hc, h0 k (by omega)]; rfl
      rw [e1 _ (Nat.le_refl _), e2 _ (Nat.le_refl _), h1]; simp
    · rw [ih (by omega)]
      have : k ≠ z := fun h => hk h.symm
      simp [this]
end Go.Proofs.Ytfneloplbkjbhaa
namespace Go.Proofs.Ytfneloplbkjbhaa
set_option linter.unusedVariables false
/-- digits of a number in base B, each taken over -/
def dm (B : Nat) (f : Nat → Nat) : Nat → Nat → Nat
  | 0, _ => 0
  | n + 1, x => f (x % B) + B * dm B f n (x / B)
theorem and_split (k a b : Nat) : a &&& b = (a % 2 ^ k &&& b % 2 ^ k) + 2 ^ k * (a / 2 ^ k &&& b / 2 ^ k) := by
  have h1 : (a &&& b) % 2 ^ k = a % 2 ^ k &&& b % 2 ^ k := Nat.and_mod_two_pow
  have h2 : (a &&& b) / 2 ^ k = a / 2 ^ k &&& b / 2 ^ k := Nat.and_div_two_pow
  rw [← h1, ← h2, Nat.add_comm]
  exact (Nat.div_add_mod _ _).symm
/-- the mask: m in each digit -/
def msk (k m : Nat) : Nat → Nat
  | 0 => 0
  | n + 1 => m + 2 ^ k * msk k m n
theorem msk_mod {k m : Nat} (h : m < 2 ^ k) (n : Nat) : msk k m (n + 1) % 2 ^ k = m ∧ msk k m (n + 1) / 2 ^ k = msk k m n := by
  have hp : 0 < 2 ^ k := Nat.two_pow_pos k
  constructor
  · rw [msk, Nat.add_mul_mod_self_left, Nat.mod_eq_of_lt h]
  · rw [msk, Nat.add_mul_div_left _ _ hp, Nat.div_eq_of_lt h, Nat.zero_add]
theorem low_and {k s m x : Nat} (h : m < 2 ^ (k - s)) : x / 2 ^ s % 2 ^ k &&& m = x % 2 ^ k / 2 ^ s &&& m := by
  apply Nat.eq_of_testBit_eq
  intro i
  simp only [Nat.testBit_and, Nat.testBit_mod_two_pow, Nat.testBit_div_two_pow]
  by_cases hi : i < k - s
  · have h1 : i < k := by omega
    have h2 : s + i < k := by omega
    have h3 : i + s < k := by omega
    simp [h1, h3]
  · have : m.testBit i = false := Nat.testBit_lt_two_pow (Nat.lt_of_lt_of_le h (Nat.pow_le_pow_right (by omega) (by omega)))
    simp [this]
theorem shr_msk {k m s : Nat} (hm : m < 2 ^ (k - s)) : ∀ n x, (x / 2 ^ s) &&& msk k m n = dm (2 ^ k) (fun d => d / 2 ^ s &&& m) n x
  | 0, x => by simp [msk, dm]
  | n + 1, x => by
    have hlt : m < 2 ^ k := Nat.lt_of_lt_of_le hm (Nat.pow_le_pow_right (by omega) (by omega))
    rw [and_split k, (msk_mod hlt n).1, (msk_mod hlt n).2, low_and hm, Nat.div_div_eq_div_mul, Nat.mul_comm (2 ^ s), ← Nat.div_div_eq_div_mul, shr_msk hm n, dm]
theorem dm_congr {B n : Nat} {f g : Nat → Nat} (hB : 0 < B) (h : ∀ d, d < B → f d = g d) : ∀ x, dm B f n x = dm B g n x := by
  induction n with
  | zero => intro x; rfl
  | succ n ih => intro x; rw [dm, dm, h _ (Nat.mod_lt _ hB), ih]
theorem dm_add {B n : Nat} {f g : Nat → Nat} : ∀ x, dm B f n x + dm B g n x = dm B (fun d => f d + g d) n x := by
  induction n with
  | zero => intro x; rfl
  | succ n ih => intro x; rw [dm, dm, dm, ← ih]; simp only [Nat.mul_add]; omega
theorem dm_mod {B n : Nat} {f : Nat → Nat} (hB : 0 < B) (h : ∀ d, d < B → f d < B) (x : Nat) : dm B f (n + 1) x % B = f (x % B) ∧ dm B f (n + 1) x / B = dm B f n (x / B) := by
  have := h _ (Nat.mod_lt x hB)
  constructor
  · rw [dm, Nat.add_mul_mod_self_left, Nat.mod_eq_of_lt this]
  · rw [dm, Nat.add_mul_div_left _ _ hB, Nat.div_eq_of_lt this, Nat.zero_add]
theorem dm_dm {B n : Nat} {f g : Nat → Nat} (hB : 0 < B) (h : ∀ d, d < B → f d < B) : ∀ x, dm B g n (dm B f n x) = dm B (fun d => g (f d)) n x := by
  induction n with
  | zero => intro x; rfl
  | succ n ih => intro x; rw [dm, (dm_mod hB h x).1, (dm_mod hB h x).2, ih, dm]
/-- two digits as one -/
theorem dm_pair {B n : Nat} {f : Nat → Nat} (hB : 0 < B) : ∀ x, dm B f (2 * n) x = dm (B * B) (fun d => f (d % B) + B * f (d / B % B)) n x := by
  induction n with
  | zero => intro x; rfl
  | succ n ih =>
    intro x
    rw [show 2 * (n + 1) = (2 * n + 1) + 1 from by omega, dm, dm, dm, ih]
    rw [Nat.mod_mul_right_mod, Nat.div_div_eq_div_mul]
    have : x % (B * B) / B = x / B % B := by rw [Nat.mod_mul_right_div_self]
    rw [this, Nat.mod_mod]
    rw [Nat.mul_add, ← Nat.mul_assoc]; omega
def nib (e : Nat) : Prop := e % 16 ≤ 4 ∧ e / 16 ≤ 4
theorem fold16 {n : Nat} : ∀ {f : Nat → Nat} (_ : ∀ d, d < 256 → f d < 256 ∧ nib (f d)) (x : Nat), (dm 256 f n x / 16 + dm 256 f n x) &&& msk 8 15 n = dm 256 (fun d => f d % 16 + f d / 16) n x ∧ dm 256 f n x % 16 ≤ 4 := by
  induction n with
  | zero => intro f hf x; simp [dm, msk]
  | succ n ih =>
    intro f hf x
    have h256 : (2 : Nat) ^ 8 = 256 := rfl
    have hx := hf (x % 256) (Nat.mod_lt _ (by omega))
    obtain ⟨h1, h2, h3⟩ := hx
    obtain ⟨i1, i2⟩ := ih hf (x / 256)
    have hy1 : (dm 256 f (n + 1) x / 16 + dm 256 f (n + 1) x) % 256 % 16 = f (x % 256) % 16 + f (x % 256) / 16 := by
      rw [dm]; omega
    have hy2 : (dm 256 f (n + 1) x / 16 + dm 256 f (n + 1) x) / 256 = dm 256 f n (x / 256) / 16 + dm 256 f n (x / 256) := by
      rw [dm]; omega
    refine ⟨?_, by rw [dm]; omega⟩
    rw [and_split 8, (msk_mod (by omega) n).1, (msk_mod (by omega) n).2, h256, hy2, i1]
    have : (15 : Nat) = 2 ^ 4 - 1 := rfl
    rw [this, Nat.and_two_pow_sub_one_eq_mod, show (2 : Nat) ^ 4 = 16 from rfl, hy1]
    rfl
/-- how many bits a byte has -/
def pop8 (e : Nat) : Nat := ((List.range 8).filter fun i => e.testBit i).length
def st1 (d : Nat) : Nat := (d / 2 &&& 1) + (d &&& 1)
def st2 (d : Nat) : Nat := (d / 4 &&& 3) + (d &&& 3)
def byt (e : Nat) : Nat :=
  let g := fun d => st1 (d % 4) + 4 * st1 (d / 4 % 4)
  let h := fun d => st2 (g (d % 16)) + 16 * st2 (g (d / 16 % 16))
  h e % 16 + h e / 16
theorem byt_pop : ∀ e, e < 256 → byt e = pop8 e := by decide +kernel
theorem byt_nib : ∀ e, e < 256 → (st2 (st1 (e % 16 % 4) + 4 * st1 (e % 16 / 4 % 4)) + 16 * st2 (st1 (e / 16 % 16 % 4) + 4 * st1 (e / 16 % 16 / 4 % 4))) < 256 ∧ (st2 (st1 (e % 16 % 4) + 4 * st1 (e % 16 / 4 % 4)) + 16 * st2 (st1 (e / 16 % 16 % 4) + 4 * st1 (e / 16 % 16 / 4 % 4))) % 16 ≤ 4 ∧ (st2 (st1 (e % 16 % 4) + 4 * st1 (e % 16 / 4 % 4)) + 16 * st2 (st1 (e / 16 % 16 % 4) + 4 * st1 (e / 16 % 16 / 4 % 4))) / 16 ≤ 4 := by decide +kernel
theorem st1_lt : ∀ e, e < 4 → st1 e < 4 := by decide
theorem st1_pair : ∀ e, e < 16 → st1 (e % 4) + 4 * st1 (e / 4 % 4) < 16 := by decide
/-- the first three steps -/
def s1 (x : Nat) : Nat := (x / 2 &&& 6148914691236517205) + (x &&& 6148914691236517205)
def s2 (x : Nat) : Nat := (x / 4 &&& 3689348814741910323) + (x &&& 3689348814741910323)
def s3 (x : Nat) : Nat := (x / 16 + x) &&& 1085102592571150095
theorem s1_eq (x : Nat) : s1 x = dm 4 st1 32 x := by
  have h := shr_msk (k := 2) (m := 1) (s := 1) (by decide) 32 x
  have h' := shr_msk (k := 2) (m := 1) (s := 0) (by decide) 32 x
  have hm : msk 2 1 32 = 6148914691236517205 := by decide
  rw [hm] at h h'
  simp only [Nat.pow_zero, Nat.div_one, show (2 : Nat) ^ 2 = 4 from rfl, show (2 : Nat) ^ 1 = 2 from rfl] at h h'
  rw [s1, h, h', dm_add]; rfl
theorem s2_eq (x : Nat) : s2 x = dm 16 st2 16 x := by
  have h := shr_msk (k := 4) (m := 3) (s := 2) (by decide) 16 x
  have h' := shr_msk (k := 4) (m := 3) (s := 0) (by decide) 16 x
  have hm : msk 4 3 16 = 3689348814741910323 := by decide
  rw [hm] at h h'
  simp only [Nat.pow_zero, Nat.div_one, show (2 : Nat) ^ 4 = 16 from rfl, show (2 : Nat) ^ 2 = 4 from rfl] at h h'
  rw [s2, h, h', dm_add]; rfl
theorem s3_eq (x : Nat) : s3 (s2 (s1 x)) = dm 256 pop8 8 x := by
  rw [s1_eq, s2_eq, dm_pair (B := 4) (n := 16) (by omega), dm_dm (by omega) st1_pair, dm_pair (B := 16) (n := 8) (by omega)]
  have hm : msk 8 15 8 = 1085102592571150095 := by decide
  rw [s3, ← hm]
  refine (fold16 (n := 8) (fun d hd => ?_) x).1.trans ?_
  · exact byt_nib d hd
  · exact dm_congr (by omega) (fun d hd => byt_pop d hd) x
def s4 (z : Nat) : Nat := let a := z + z / 256; let b := a + a / 65536; (b + b / 4294967296) % 128
def cnt (k b : Nat) : Nat := ((List.range k).filter fun i => b.testBit i).length
theorem cnt_byte (k x : Nat) : cnt (8 + k) x = pop8 (x % 256) + cnt k (x / 256) := by
  unfold cnt pop8
  rw [List.range_add, List.filter_append, List.length_append]
  congr 1
  · congr 1
    apply List.filter_congr
    intro i hi
    have : i < 8 := by simpa using hi
    rw [show (256 : Nat) = 2 ^ 8 from rfl, Nat.testBit_mod_two_pow]; simp [this]
  · rw [List.filter_map, List.length_map]
    congr 1
    apply List.filter_congr
    intro i _
    simp only [Function.comp_apply]
    rw [show (256 : Nat) = 2 ^ 8 from rfl, Nat.testBit_div_two_pow, Nat.add_comm]
theorem pop8_le : ∀ e, pop8 e ≤ 8 := fun e => by unfold pop8; exact Nat.le_trans (List.length_filter_le _ _) (by simp)
theorem a1_eq (p0 p1 p2 p3 p4 p5 p6 p7 : Nat) (l0 : p0 ≤ 8) : (p0 + 256 * p1 + 65536 * p2 + 16777216 * p3 + 4294967296 * p4 + 1099511627776 * p5 + 281474976710656 * p6 + 72057594037927936 * p7) / 256 = p1 + 256 * p2 + 65536 * p3 + 16777216 * p4 + 4294967296 * p5 + 1099511627776 * p6 + 281474976710656 * p7 := by omega
theorem a2_eq (q0 q1 q2 q3 q4 q5 q6 q7 : Nat) (l0 : q0 ≤ 16) (l1 : q1 ≤ 16) : (q0 + 256 * q1 + 65536 * q2 + 16777216 * q3 + 4294967296 * q4 + 1099511627776 * q5 + 281474976710656 * q6 + 72057594037927936 * q7) / 65536 = q2 + 256 * q3 + 65536 * q4 + 16777216 * q5 + 4294967296 * q6 + 1099511627776 * q7 := by omega
theorem a3_eq (q0 q1 q2 q3 q4 q5 q6 q7 : Nat) (l0 : q0 ≤ 32) (l1 : q1 ≤ 32) (l2 : q2 ≤ 32) (l3 : q3 ≤ 32) : (q0 + 256 * q1 + 65536 * q2 + 16777216 * q3 + 4294967296 * q4 + 1099511627776 * q5 + 281474976710656 * q6 + 72057594037927936 * q7) / 4294967296 = q4 + 256 * q5 + 65536 * q6 + 16777216 * q7 := by omega
theorem a4_eq (q0 q1 q2 q3 q4 q5 q6 q7 : Nat) (l0 : q0 < 128) : (q0 + 256 * q1 + 65536 * q2 + 16777216 * q3 + 4294967296 * q4 + 1099511627776 * q5 + 281474976710656 * q6 + 72057594037927936 * q7) % 128 = q0 := by omega
theorem s4_key (p0 p1 p2 p3 p4 p5 p6 p7 : Nat) (l0 : p0 ≤ 8) (l1 : p1 ≤ 8) (l2 : p2 ≤ 8) (l3 : p3 ≤ 8) (l4 : p4 ≤ 8) (l5 : p5 ≤ 8) (l6 : p6 ≤ 8) (l7 : p7 ≤ 8) :
    s4 (p0 + 256 * p1 + 65536 * p2 + 16777216 * p3 + 4294967296 * p4 + 1099511627776 * p5 + 281474976710656 * p6 + 72057594037927936 * p7) = p0 + p1 + p2 + p3 + p4 + p5 + p6 + p7 := by
  unfold s4
  simp only [a1_eq _ _ _ _ _ _ _ _ l0]
  have e1 : p0 + 256 * p1 + 65536 * p2 + 16777216 * p3 + 4294967296 * p4 + 1099511627776 * p5 + 281474976710656 * p6 + 72057594037927936 * p7 + (p1 + 256 * p2 + 65536 * p3 + 16777216 * p4 + 4294967296 * p5 + 1099511627776 * p6 + 281474976710656 * p7) = (p0 + p1) + 256 * (p1 + p2) + 65536 * (p2 + p3) + 16777216 * (p3 + p4) + 4294967296 * (p4 + p5) + 1099511627776 * (p5 + p6) + 281474976710656 * (p6 + p7) + 72057594037927936 * p7 := by omega
  simp only [e1, a2_eq (p0 + p1) (p1 + p2) (p2 + p3) (p3 + p4) (p4 + p5) (p5 + p6) (p6 + p7) p7 (by omega) (by omega)]
  have e2 : p0 + p1 + 256 * (p1 + p2) + 65536 * (p2 + p3) + 16777216 * (p3 + p4) + 4294967296 * (p4 + p5) + 1099511627776 * (p5 + p6) + 281474976710656 * (p6 + p7) + 72057594037927936 * p7 + (p2 + p3 + 256 * (p3 + p4) + 65536 * (p4 + p5) + 16777216 * (p5 + p6) + 4294967296 * (p6 + p7) + 1099511627776 * p7) = (p0 + p1 + p2 + p3) + 256 * (p1 + p2 + p3 + p4) + 65536 * (p2 + p3 + p4 + p5) + 16777216 * (p3 + p4 + p5 + p6) + 4294967296 * (p4 + p5 + p6 + p7) + 1099511627776 * (p5 + p6 + p7) + 281474976710656 * (p6 + p7) + 72057594037927936 * p7 := by omega
  simp only [e2, a3_eq (p0 + p1 + p2 + p3) (p1 + p2 + p3 + p4) (p2 + p3 + p4 + p5) (p3 + p4 + p5 + p6) (p4 + p5 + p6 + p7) (p5 + p6 + p7) (p6 + p7) p7 (by omega) (by omega) (by omega) (by omega)]
  have e3 : p0 + p1 + p2 + p3 + 256 * (p1 + p2 + p3 + p4) + 65536 * (p2 + p3 + p4 + p5) + 16777216 * (p3 + p4 + p5 + p6) + 4294967296 * (p4 + p5 + p6 + p7) + 1099511627776 * (p5 + p6 + p7) + 281474976710656 * (p6 + p7) + 72057594037927936 * p7 + (p4 + p5 + p6 + p7 + 256 * (p5 + p6 + p7) + 65536 * (p6 + p7) + 16777216 * p7) = (p0 + p1 + p2 + p3 + p4 + p5 + p6 + p7) + 256 * (p1 + p2 + p3 + p4 + p5 + p6 + p7) + 65536 * (p2 + p3 + p4 + p5 + p6 + p7) + 16777216 * (p3 + p4 + p5 + p6 + p7) + 4294967296 * (p4 + p5 + p6 + p7) + 1099511627776 * (p5 + p6 + p7) + 281474976710656 * (p6 + p7) + 72057594037927936 * p7 := by omega
  rw [e3, a4_eq _ _ _ _ _ _ _ _ (by omega)]
theorem s4_eq (x : Nat) : s4 (dm 256 pop8 8 x) = cnt 64 x := by
  have e : cnt 64 x = cnt (8 + (8 + (8 + (8 + (8 + (8 + (8 + (8 + 0)))))))) x := rfl
  rw [e]
  simp only [cnt_byte, dm]
  simp only [show ∀ y, cnt 0 y = 0 from fun _ => rfl]
  have l0 := pop8_le (x % 256)
  have l1 := pop8_le (x / 256 % 256)
  have l2 := pop8_le (x / 256 / 256 % 256)
  have l3 := pop8_le (x / 256 / 256 / 256 % 256)
  have l4 := pop8_le (x / 256 / 256 / 256 / 256 % 256)
  have l5 := pop8_le (x / 256 / 256 / 256 / 256 / 256 % 256)
  have l6 := pop8_le (x / 256 / 256 / 256 / 256 / 256 / 256 % 256)
  have l7 := pop8_le (x / 256 / 256 / 256 / 256 / 256 / 256 / 256 % 256)
  revert l0 l1 l2 l3 l4 l5 l6 l7
  generalize pop8 (x % 256) = p0
  generalize pop8 (x / 256 % 256) = p1
  generalize pop8 (x / 256 / 256 % 256) = p2
  generalize pop8 (x / 256 / 256 / 256 % 256) = p3
  generalize pop8 (x / 256 / 256 / 256 / 256 % 256) = p4
  generalize pop8 (x / 256 / 256 / 256 / 256 / 256 % 256) = p5
  generalize pop8 (x / 256 / 256 / 256 / 256 / 256 / 256 % 256) = p6
  generalize pop8 (x / 256 / 256 / 256 / 256 / 256 / 256 / 256 % 256) = p7
  intro l0 l1 l2 l3 l4 l5 l6 l7
  have e2 : p0 + 256 * (p1 + 256 * (p2 + 256 * (p3 + 256 * (p4 + 256 * (p5 + 256 * (p6 + 256 * (p7 + 256 * 0))))))) = p0 + 256 * p1 + 65536 * p2 + 16777216 * p3 + 4294967296 * p4 + 1099511627776 * p5 + 281474976710656 * p6 + 72057594037927936 * p7 := by omega
  rw [e2, s4_key _ _ _ _ _ _ _ _ l0 l1 l2 l3 l4 l5 l6 l7]
  omega
/-- how many bits a word has -/
theorem ones_eq (x : Nat) : s4 (s3 (s2 (s1 x))) = cnt 64 x := by rw [s3_eq, s4_eq]
theorem s_bounds (x : Nat) (h : x < 18446744073709551616) : s1 x < 18446744073709551616 ∧ s2 (s1 x) < 18446744073709551616 ∧ s3 (s2 (s1 x)) < 578721382704613385 ∧ s2 (s1 x) / 16 + s2 (s1 x) < 18446744073709551616 := by
  have a1 : x / 2 &&& 6148914691236517205 ≤ 6148914691236517205 := Nat.and_le_right
  have a2 : x &&& 6148914691236517205 ≤ 6148914691236517205 := Nat.and_le_right
  have b1 : s1 x / 4 &&& 3689348814741910323 ≤ 3689348814741910323 := Nat.and_le_right
  have b2 : s1 x &&& 3689348814741910323 ≤ 3689348814741910323 := Nat.and_le_right
  refine ⟨by unfold s1; omega, by unfold s2; omega, ?_, by unfold s2; omega⟩
  rw [s3_eq]
  simp only [dm]
  have l0 := pop8_le (x % 256)
  have l1 := pop8_le (x / 256 % 256)
  have l2 := pop8_le (x / 256 / 256 % 256)
  have l3 := pop8_le (x / 256 / 256 / 256 % 256)
  have l4 := pop8_le (x / 256 / 256 / 256 / 256 % 256)
  have l5 := pop8_le (x / 256 / 256 / 256 / 256 / 256 % 256)
  have l6 := pop8_le (x / 256 / 256 / 256 / 256 / 256 / 256 % 256)
  have l7 := pop8_le (x / 256 / 256 / 256 / 256 / 256 / 256 / 256 % 256)
  omega
theorem cnt_lb (b : Nat) : (cnt 64 b : Int) = ((lb 64 b).length : Nat) := by unfold cnt lb; rw [List.length_map]
end Go.Proofs.Ytfneloplbkjbhaa
namespace Go.Proofs.Ytfneloplbkjbhaa
open Go.Shelf
def lays129_ren : Go.Shelf.Ren := ⟨fun | 129 => 43 | n => n, fun | 53 => 23 | 3 => 3 | 4 => 4 | 46 => 66 | 5 => 5 | 9 => 9 | n => n, fun | n => n⟩
def lays29_ren : Go.Shelf.Ren := ⟨fun | 29 => 42 | n => n, fun | 22 => 23 | 3 => 3 | 4 => 4 | 25 => 66 | 54 => 68 | 0 => 0 | 5 => 5 | n => n, fun | 1 => 0 | n => n⟩
end Go.Proofs.Ytfneloplbkjbhaa
namespace Go.Proofs.Ytfneloplbkjbhaa
open Go.RowKit Go.Shelf
set_option linter.unusedVariables false

abbrev Tab (w : World) : Prop := TabAt 0 Lib.deBruijn64tab w
theorem Tab.below {w w' : World} {B : Nat} (h : Tab w) (hb : Below B w w') (hB : 0 < B) : Tab w' := fun j hj => (hb.cell (p := ⟨0, j, none⟩) hB).trans (h j hj)
theorem wf_bounds {n : Int} (h : (Lit.int .i64 n).wf = true) : -9223372036854775808 ≤ n ∧ n ≤ 9223372036854775807 := by
  simp [Lit.wf, IntKind.min, IntKind.max, IntKind.signed, IntKind.bits] at h
  omega
theorem ret_u {a b : Int} (h : a = b) : Ending.returned (.int .u64 a) = .returned (.int .u64 b) := by rw [h]
theorem u64_in (a : Nat) (h : a < 18446744073709551616) : IntKind.u64.wrap (a : Int) = a := by rw [IntKind.wrap_u64]; omega
theorem from_any (b : Nat) (hb : b < 18446744073709551616) (n : Int) (w : World) :
    Calls Try.prog 57 #[.int .u64 (b : Int), .int .i64 n] w fun e w' => e = .returned (.int .u64 ((frN b n : Nat) : Int)) ∧ w = w' := by
  by_cases h1 : n ≤ 0
  · have e : frN b n = b := by unfold frN; rw [if_pos h1]
    rw [e]
    go_enter Try.func57, Try.ntmps57
    go_wp2
    go_ret
    exact ⟨rfl, rfl⟩
  · by_cases h2 : 63 < n
    · have e : frN b n = 0 := by unfold frN; rw [if_neg h1, if_pos h2]
      rw [e]
      go_enter Try.func57, Try.ntmps57
      go_wp2
      go_ret
      exact ⟨rfl, rfl⟩
    · obtain ⟨m, rfl⟩ := Int.eq_ofNat_of_zero_le (show 0 ≤ n by omega)
      have e : frN b m = b / 2 ^ m * 2 ^ m := by unfold frN; rw [if_neg h1, if_neg h2]; rfl
      rw [e]
      have h3 : 1 ≤ m := by omega
      have h4 : m ≤ 63 := by omega
      have hle : b / 2 ^ m * 2 ^ m ≤ b := Nat.div_mul_le_self _ _
      have hw := u64_in (b / 2 ^ m * 2 ^ m) (by omega)
      have HW := Lib.hid hw
      clear hw hle e
      go_enter Try.func57, Try.ntmps57
      go_wp2
      go_ret
      exact ⟨ret_u (by have := HW.out; simpa using this), rfl⟩
end Go.Proofs.Ytfneloplbkjbhaa
namespace Go.Proofs.Ytfneloplbkjbhaa
open Go.ChangeShapes Go.WideShapes Go.ChangeAt Go.RowKit Go.Shelf
set_option linter.unusedVariables false

theorem cellsByte : Try.prog.cellsOf 5 = 1 := by kernel_rfl
def tabI : List Int := Lib.deBruijn64tab.map fun n : Nat => (n : Int)
theorem u64_bounds {n : Int} (h : (Lit.int .u64 n).wf = true) : 0 ≤ n ∧ n ≤ 18446744073709551615 := by
  simp [Lit.wf, IntKind.min, IntKind.max, IntKind.signed, IntKind.bits] at h
  omega
theorem tab_size {W : World} (h : Tab W) : 0 < W.heap.size := (cell_some_lt (h 0 (by decide))).1
/-- A world for the witness: the settled one, the table holding what its initialiser lays. -/
noncomputable def laidWorld (os : Os) : World :=
  { World.holding Try.prog os ⟨#[], #[], []⟩ with heap := (World.holding Try.prog os ⟨#[], #[], []⟩).heap.modify 0 fun
      | .cells _ t frozen => .cells (Lib.deBruijn64tab.map fun n : Nat => Value.int .u8 (n : Int)).toArray t frozen
      | o => o }
end Go.Proofs.Ytfneloplbkjbhaa
namespace Go.Proofs.Ytfneloplbkjbhaa
open Go.RowKit Go.Shelf
set_option linter.unusedVariables false

/-! ### a set of numbers -/
def ofF (xs : List Int) : Nat := xs.foldl (fun b n => b ||| 2 ^ n.toNat) 0
theorem ofF_snoc (xs : List Int) (x : Int) : ofF (xs ++ [x]) = ofF xs ||| 2 ^ x.toNat := by unfold ofF; rw [List.foldl_append]; rfl
def okB (n : Int) : Bool := decide (0 ≤ n ∧ n ≤ 63)
def ofV (xs : List Int) : Nat := if xs.all okB then ofF xs else 0
def ofE (xs : List Int) : Int := if xs.all okB then 0 else 1
theorem of_bad {xs : List Int} {k : Nat} {x : Int} (hx : xs[k]? = some x) (h : okB x = false) : ofV xs = 0 ∧ ofE xs = 1 := by
  have : xs.all okB = false := by
    rw [List.all_eq_false]
    exact ⟨x, List.mem_of_getElem? hx, by simp [h]⟩
  unfold ofV ofE
  rw [this]; simp
theorem of_good {xs : List Int} (h : xs.all okB = true) : ofV xs = ofF xs ∧ ofE xs = 0 := by
  unfold ofV ofE
  rw [h]; simp
theorem all_snoc {xs : List Int} {k : Nat} {x : Int} (hx : xs[k]? = some x) (h : okB x = true) (ha : (xs.take k).all okB = true) : (xs.take (k + 1)).all okB = true := by
  rw [List.take_add_one, hx, List.all_append, ha]; simp [h]
theorem of_step {xs : List Int} {k : Nat} {x : Int} (hx : xs[k]? = some x) : ofF (xs.take (k + 1)) = ofF (xs.take k) ||| 2 ^ x.toNat := by
  rw [List.take_add_one, hx, ← ofF_snoc]; rfl

theorem or_num (d m : Nat) (hd : d < 18446744073709551616) (hm : m < 64) : Value.int .u64 (bits .or .u64 (d : Int) (IntKind.u64.wrap ((2 : Int) ^ m))) = .int .u64 ((d ||| 2 ^ m : Nat) : Int) := by
  have hp : 2 ^ m < 18446744073709551616 := Nat.pow_lt_pow_right (n := 64) (by omega) hm
  have e : (2 : Int) ^ m = ((2 ^ m : Nat) : Int) := by simp
  rw [e, u64_in _ hp, u64_or_nat _ _ hd hp]
theorem sum_num {d p q : Nat} (h : d + p = q) (hq : q < 18446744073709551616) : Value.int .u64 (IntKind.u64.wrap ((d : Int) + (p : Int))) = .int .u64 (q : Int) := by
  subst h
  rw [← Int.natCast_add, u64_in _ hq]
def ofR (xs : List Int) : Ending := .returned (.tuple #[.int .u64 (ofV xs : Int), .int .i64 (ofE xs)])
end Go.Proofs.Ytfneloplbkjbhaa
namespace Go.Proofs.Ytfneloplbkjbhaa
open Go.RowKit Go.Shelf
set_option linter.unusedVariables false

def btP (lo up : Int) (i : Nat) : Bool := decide (lo ≤ (i : Int) ∧ (i : Int) ≤ up)
def btN (lo up : Int) : Nat := ob (btP lo up) 64
theorem btN_lt (lo up : Int) : btN lo up < 18446744073709551616 := ob_lt _ 64
theorem btN_bit (lo up : Int) (i : Nat) : (btN lo up).testBit i = (decide (i < 64) && btP lo up i) := ob_bit _ _ _
theorem ob_hi (p : Nat → Bool) (k : Nat) (hk : k < 64) : ob p k + 2 ^ k < 18446744073709551616 := by
  have h1 := ob_lt p k
  have h2 : 2 ^ (k + 1) ≤ 2 ^ 64 := Nat.pow_le_pow_right (by omega) (by omega)
  rw [Nat.pow_succ] at h2
  omega
theorem from_all (n : Int) (w : World) : Calls Try.prog 57 #[.int .u64 18446744073709551615, .int .i64 n] w fun e w' => e = .returned (.int .u64 ((frN 18446744073709551615 n : Nat) : Int)) ∧ w = w' :=
  from_any 18446744073709551615 (by omega) n w
theorem all_bit (i : Nat) (h : i < 64) : (18446744073709551615 : Nat).testBit i = true := by
  have := Nat.testBit_two_pow_sub_one 64 i
  simpa [h] using this
theorem fr_all_lt (n : Int) : frN 18446744073709551615 n < 18446744073709551616 := by have := frN_le 18446744073709551615 n; omega
theorem bt_high {lo up : Int} (h : 63 ≤ up) : frN 18446744073709551615 lo = btN lo up := by
  apply bits_eq 64 (fr_all_lt lo) (btN_lt lo up)
  intro i hi
  rw [frN_bit _ _ _ hi, all_bit i hi, btN_bit]
  unfold btP
  have : (i : Int) ≤ up := by omega
  simp [hi, this]
theorem bt_low {lo up : Int} (h : ¬ 63 ≤ up) : frN 18446744073709551615 lo &&& (18446744073709551615 - frN 18446744073709551615 (up + 1)) = btN lo up := by
  have hlt := fr_all_lt (up + 1)
  apply bits_eq 64 (Nat.lt_of_le_of_lt Nat.and_le_left (fr_all_lt lo)) (btN_lt lo up)
  intro i hi
  have e : 18446744073709551615 - frN 18446744073709551615 (up + 1) = 2 ^ 64 - (frN 18446744073709551615 (up + 1) + 1) := by omega
  rw [Nat.testBit_and, e, Nat.testBit_two_pow_sub_succ hlt, frN_bit _ _ _ hi, frN_bit _ _ _ hi, all_bit i hi, btN_bit]
  unfold btP
  rw [Bool.eq_iff_iff]
  simp [hi]
  omega
theorem between_any (lo up : Int) (w : World) (hw : (Lit.int .i64 up).wf = true) :
    Calls Try.prog 49 #[.int .i64 lo, .int .i64 up] w fun e w' => e = .returned (.int .u64 (btN lo up : Int)) ∧ w = w' := by
  obtain ⟨w1, w2⟩ := wf_bounds hw
  by_cases h : 63 ≤ up
  · have HE := Lib.hid (bt_high (lo := lo) h)
    go_enter Try.func49, Try.ntmps49
    go_wp2_with (first | (go_at_call 57; refine (from_all _ _).mono ?_; rintro e w' ⟨rfl, rfl⟩))
    go_ret
    exact ⟨ret_u (by rw [← HE.out]), rfl⟩
  · have HE := Lib.hid (bt_low (lo := lo) h)
    have h' : up < 63 := by omega
    have HA := Lib.hid (u64_andNot_nat (frN 18446744073709551615 lo) (frN 18446744073709551615 (up + 1)) (fr_all_lt _) (fr_all_lt _))
    clear h
    go_enter Try.func49, Try.ntmps49
    go_wp2_with (first | (go_at_call 57; refine (from_all _ _).mono ?_; rintro e w' ⟨rfl, rfl⟩))
    go_ret
    exact ⟨ret_u (by rw [← HE.out, ← HA.out]), rfl⟩

theorem and_num (a b : Nat) (ha : a < 18446744073709551616) (hb : b < 18446744073709551616) : bits .and .u64 (a : Int) (b : Int) = ((a &&& b : Nat) : Int) := u64_and_nat a b ha hb
theorem num_1 (x : Nat) (hx : x < 18446744073709551616) : IntKind.u64.wrap (bits .and .u64 ((x : Int) / 2) 6148914691236517205 + bits .and .u64 (x : Int) 6148914691236517205) = ((s1 x : Nat) : Int) := by
  have h1 := and_num (x / 2) 6148914691236517205 (by omega) (by omega)
  have h2 := and_num x 6148914691236517205 hx (by omega)
  have e : ((x / 2 : Nat) : Int) = (x : Int) / 2 := by omega
  rw [e] at h1
  have hb := (s_bounds x hx).1
  have h3 : bits .and .u64 ((x : Int) / 2) 6148914691236517205 + bits .and .u64 (x : Int) 6148914691236517205 = ((s1 x : Nat) : Int) := by
    rw [show (6148914691236517205 : Int) = ((6148914691236517205 : Nat) : Int) from rfl, h1, h2]; unfold s1; omega
  rw [h3, u64_in _ hb]
theorem num_2 (x : Nat) (hx : x < 18446744073709551616) : IntKind.u64.wrap (bits .and .u64 (((s1 x : Nat) : Int) / 4) 3689348814741910323 + bits .and .u64 ((s1 x : Nat) : Int) 3689348814741910323) = ((s2 (s1 x) : Nat) : Int) := by
  obtain ⟨b1, b2, _⟩ := s_bounds x hx
  generalize hy : s1 x = y at b1 b2 ⊢
  have h1 := and_num (y / 4) 3689348814741910323 (by omega) (by omega)
  have h2 := and_num y 3689348814741910323 b1 (by omega)
  have e : ((y / 4 : Nat) : Int) = (y : Int) / 4 := by omega
  rw [e] at h1
  have h3 : bits .and .u64 ((y : Int) / 4) 3689348814741910323 + bits .and .u64 (y : Int) 3689348814741910323 = ((s2 y : Nat) : Int) := by
    rw [show (3689348814741910323 : Int) = ((3689348814741910323 : Nat) : Int) from rfl, h1, h2]; unfold s2; omega
  rw [h3, u64_in _ b2]
theorem num_3 (x : Nat) (hx : x < 18446744073709551616) : bits .and .u64 (IntKind.u64.wrap (((s2 (s1 x) : Nat) : Int) / 16 + ((s2 (s1 x) : Nat) : Int))) 1085102592571150095 = ((s3 (s2 (s1 x)) : Nat) : Int) := by
  obtain ⟨_, b2, b3, b4⟩ := s_bounds x hx
  generalize hy : s2 (s1 x) = y at b2 b3 b4 ⊢
  have e : (y : Int) / 16 + (y : Int) = ((y / 16 + y : Nat) : Int) := by omega
  rw [e, u64_in _ b4, show (1085102592571150095 : Int) = ((1085102592571150095 : Nat) : Int) from rfl, and_num _ _ b4 (by omega)]
  rfl
def f4 (z : Nat) : Nat := z + z / 256
def f5 (z : Nat) : Nat := z + z / 65536
def f6 (z : Nat) : Nat := z + z / 4294967296
theorem num_4 (z : Nat) (hz : z < 578721382704613385) : IntKind.u64.wrap ((z : Int) + (z : Int) / 256) = ((f4 z : Nat) : Int) := by
  have e : (z : Int) + (z : Int) / 256 = ((f4 z : Nat) : Int) := by unfold f4; omega
  rw [e, u64_in _ (by unfold f4; omega)]
theorem num_5 (z : Nat) (hz : z < 1157442765409226770) : IntKind.u64.wrap ((z : Int) + (z : Int) / 65536) = ((f5 z : Nat) : Int) := by
  have e : (z : Int) + (z : Int) / 65536 = ((f5 z : Nat) : Int) := by unfold f5; omega
  rw [e, u64_in _ (by unfold f5; omega)]
theorem num_6 (z : Nat) (hz : z < 2314885530818453540) : IntKind.u64.wrap ((z : Int) + (z : Int) / 4294967296) = ((f6 z : Nat) : Int) := by
  have e : (z : Int) + (z : Int) / 4294967296 = ((f6 z : Nat) : Int) := by unfold f6; omega
  rw [e, u64_in _ (by unfold f6; omega)]
theorem num_7 (x : Nat) : f6 (f5 (f4 (s3 (s2 (s1 x))))) % 128 = cnt 64 x := by
  rw [← ones_eq]; rfl
end Go.Proofs.Ytfneloplbkjbhaa
namespace Go.Proofs.Ytfneloplbkjbhaa
open Go.RowKit Go.Shelf
set_option linter.unusedVariables false

/-- Two boxes of one cell each, and what lies behind. -/
theorem two_box {w w1 : World} {v0 v1 : Value} {t0 t1 : TypeId} (hb : Below ((w.alloc (.cells #[v0] t0)).alloc (.cells #[v1] t1)).heap.size ((w.alloc (.cells #[v0] t0)).alloc (.cells #[v1] t1)) w1) :
    w1.cell? ⟨w.heap.size, 0, none⟩ = some v0 ∧ w1.frozen? ⟨w.heap.size, 0, none⟩ = false ∧ w1.cell? ⟨w.heap.size + 1, 0, none⟩ = some v1 ∧ w1.frozen? ⟨w.heap.size + 1, 0, none⟩ = false ∧ w.heap.size + 2 ≤ w1.heap.size ∧ Below w.heap.size w w1 := by
  have h0 : Below (w.alloc (.cells #[v0] t0)).heap.size (w.alloc (.cells #[v0] t0)) w1 := hb.box (Nat.le_refl _)
  have c0 := box_cell h0 0 v0 rfl
  have f0 := box_free h0 0
  have c1 := box_cell hb 0 v1 rfl
  have f1 := box_free hb 0
  have e : (w.alloc (.cells #[v0] t0)).heap.size = w.heap.size + 1 := by simp
  rw [e] at c1 f1
  exact ⟨c0, f0, c1, f1, by have := hb.size; simp at this; omega, h0.box (Nat.le_refl _)⟩

theorem set2_first {W : World} {b b' : Nat} {u : Value} (hb : b ≠ b') (h : W.cell? ⟨b, 0, none⟩ = some u) (v v' : Value) : ((W.setCell ⟨b, 0, none⟩ v).setCell ⟨b', 0, none⟩ v').cell? ⟨b, 0, none⟩ = some v := by
  rw [World.cell?_setCell_other _ _ _ _ (by simp <;> omega)]
  exact World.cell?_setCell_same' _ _ _ (by rw [h]; rfl)
theorem set2_second {W : World} {b b' : Nat} {u : Value} (hb : b ≠ b') (h : W.cell? ⟨b', 0, none⟩ = some u) (v v' : Value) : ((W.setCell ⟨b, 0, none⟩ v).setCell ⟨b', 0, none⟩ v').cell? ⟨b', 0, none⟩ = some v' :=
  World.cell?_setCell_same' _ _ _ (by rw [World.cell?_setCell_other _ _ _ _ (by simp <;> omega), h]; rfl)

/-! ### worlds -/
theorem own_cells {W : World} {base : Nat} {e : TypeId} {sz k : Nat} {v : Value} {xs : List Value} (h : W.ownsRow base e sz v k xs) : ∀ (j : Nat) (o : Obj), v.ownBlock = some j → W.heap[j]? = some o → o.isCells = true := by
  intro j o hj ho
  rcases h.2 with ⟨rfl, _⟩ | ⟨g, cap, cur, rfl, _, hg, _⟩
  · simp [Value.ownBlock] at hj
  · simp only [Value.ownBlock, Option.some.injEq] at hj
    subst hj
    rw [hg] at ho
    cases ho
    rfl
theorem own_book {W W' : World} {base : Nat} {e : TypeId} {sz k : Nat} {v : Value} {xs : List Value} {row : Option Nat} (h : W.ownsRow base e sz v k xs) (hg : W.grownBy W' row) (hr : ∀ r, row = some r → ∃ o : Obj, W.heap[r]? = some o ∧ o.isCells = false) : W'.ownsRow base e sz v k xs := by
  refine h.kept hg ?_
  cases hv : v.ownBlock with
  | none => exact .inl rfl
  | some j =>
    right
    intro e
    obtain ⟨o, ho, hc⟩ := hr j e.symm
    rw [own_cells h j o hv ho] at hc
    cases hc
theorem set_own {W : World} {base b : Nat} {e : TypeId} {sz k : Nat} {v : Value} {xs : List Value} (h : W.ownsRow base e sz v k xs) (hb : b < base) (u : Value) : (W.setCell ⟨b, 0, none⟩ u).ownsRow base e sz v k xs := by
  refine h.kept (grownBy_setCell' W b u) ?_
  cases hv : v.ownBlock with
  | none => exact .inl rfl
  | some j => right; intro e; cases e; have := (h.lt _ hv).1; omega
theorem app_far {W W4 : World} {o : Obj} {base : Nat} {e : TypeId} {k : Nat} {xs : List Value} {v : Value} (hown : W.ownsRow base e 1 v k xs) (hg : (W.alloc o).grownBy W4 v.ownBlock) (hb : base ≤ W.heap.size) (p : Addr) (hp : p.block < base) : W4.cell? p = W.cell? p ∧ W4.frozen? p = W.frozen? p := by
  have hne : some p.block ≠ v.ownBlock := fun h => by have := (hown.lt p.block h.symm).1; omega
  have hg' : W.grownBy W4 v.ownBlock := (World.grownBy_alloc W o _).trans hg
  exact ⟨hg'.cell_far p (by omega) hne, hg'.frozen_far p (by omega) hne⟩
theorem app_step {W W4 : World} {o : Obj} {base N1 B : Nat} {e : TypeId} {k k' : Nat} {xs xs' : List Value} {v v' : Value} (hown : W.ownsRow base e 1 v k xs) (hown4 : W4.ownsRow base e 1 v' k' xs') (hg : (W.alloc o).grownBy W4 v.ownBlock) (hN : N1 < base) (hb : base ≤ W.heap.size) (hB : B ≤ N1) {u0 : Value} (hq : W.cell? ⟨N1, 0, none⟩ = some u0) :
    KeepsOthers W (W4.setCell ⟨N1, 0, none⟩ v') ∧ Below B W (W4.setCell ⟨N1, 0, none⟩ v') ∧ (W4.setCell ⟨N1, 0, none⟩ v').ownsRow base e 1 v' k' xs' ∧ (∀ (p : Addr) u, p.block < base → p ≠ ⟨N1, 0, none⟩ → W.cell? p = some u → (W4.setCell ⟨N1, 0, none⟩ v').cell? p = some u) ∧
      (∀ p : Addr, p.block < base → (W4.setCell ⟨N1, 0, none⟩ v').frozen? p = W.frozen? p) ∧ (W4.setCell ⟨N1, 0, none⟩ v').cell? ⟨N1, 0, none⟩ = some v' ∧ base ≤ (W4.setCell ⟨N1, 0, none⟩ v').heap.size := by
  have hne : ∀ p : Addr, p.block < base → some p.block ≠ v.ownBlock := fun p hp h => by have := (hown.lt p.block h.symm).1; omega
  have hg' : W.grownBy W4 v.ownBlock := (World.grownBy_alloc W o _).trans hg
  have hc4 : ∀ p : Addr, p.block < base → W4.cell? p = W.cell? p := fun p hp => hg'.cell_far p (by omega) (hne p hp)
  have hf4 : ∀ p : Addr, p.block < base → W4.frozen? p = W.frozen? p := fun p hp => hg'.frozen_far p (by omega) (hne p hp)
  refine ⟨(KeepsOthers.of_grownBy hg' (own_cells hown)).trans (KeepsOthers.setCell _ _ _), ?_, ?_, ?_, ?_, ?_, ?_⟩
  · exact (below_grown (Below.refl B W) hg' hown (by omega) (by omega)).setCell (p := ⟨N1, 0, none⟩) hB _
  · refine hown4.kept (grownBy_setCell' W4 N1 v') ?_
    cases hv : v'.ownBlock with
    | none => exact .inl rfl
    | some j => right; intro e; cases e; have := (hown4.lt _ hv).1; omega
  · intro p u hp hpq hu
    rw [World.cell?_setCell_other _ _ _ _ (by first | exact hpq | exact fun h => hpq h.symm), hc4 p hp]
    exact hu
  · intro p hp
    rw [World.frozen?_setCell]
    exact hf4 p hp
  · exact World.cell?_setCell_same' _ _ _ (by rw [hc4 ⟨N1, 0, none⟩ hN, hq]; rfl)
  · have := hg'.size
    simp
    omega

end Go.Proofs.Ytfneloplbkjbhaa
namespace Go.Proofs.Ytfneloplbkjbhaa
open Go.RowKit Go.Shelf
set_option linter.unusedVariables false
attribute [local go_sem] Oper.semAt_some

/-- What a round of such a loop keeps: what lies below n₀. -/
def KpB (n₀ : Nat) (W W' : World) : Prop := Below n₀ W W'
theorem KpB.trans {n₀ : Nat} {A B C : World} (h : KpB n₀ A B) (k : KpB n₀ B C) : KpB n₀ A C := Below.trans h k
theorem KpB.book {n₀ : Nat} {w : World} (hn : n₀ ≤ w.heap.size) (W : World) (l : Nat) (o o' : Obj) (hl : w.heap.size ≤ l) (h : W.heap[l]? = some o) (hc : o.isCells = false) (hw : o.isWalk = false) : KpB n₀ W (W.putObj l o') :=
  belowK_b hn W l o o' hl h hc hw

def lbn (b : Nat) : List Nat := (List.range 64).filter fun i => b.testBit i
theorem lbn_lb (b : Nat) : (lbn b).map (fun i : Nat => (i : Int)) = lb 64 b := rfl
theorem lbn_inj {x y : List Nat} (h : x.map (fun i : Nat => (i : Int)) = y.map (fun i : Nat => (i : Int))) : x = y :=
  by
  have h2 := congrArg (List.map Int.toNat) h
  rw [List.map_map, List.map_map] at h2
  have e : (Int.toNat ∘ fun i : Nat => (i : Int)) = id := by funext i; simp
  rw [e, List.map_id, List.map_id] at h2
  exact h2
theorem lbn_step {d : Nat} (h0 : d ≠ 0) (h : d < 18446744073709551616) : lbn d = Lib.ctz 64 d :: lbn (d &&& (d - 1)) := by
  obtain ⟨h1, h2, h3⟩ := ctz_bits h0 h
  obtain ⟨m, hm, hk⟩ := Lib.ctzFrom_spec 64 d (by omega) h
  have e : Lib.ctz 64 d = Lib.ctzFrom 64 d := by simp [Lib.ctz, h0]
  have hbits := low_bits (b := d) (z := Lib.ctz 64 d) (m := m) (by rw [e]; rw [Nat.mul_comm]; exact hm)
  have := lb_cons 64 h1 h2 h3 _ hbits
  exact lbn_inj this
theorem lbn_len (b : Nat) : (lbn b).length ≤ 64 := by
  unfold lbn
  exact Nat.le_trans (List.length_filter_le _ _) (by simp)
theorem lbn_zero : lbn 0 = [] := by simp [lbn]
abbrev encN (x : Nat) : Array Value := #[.int .i64 (x : Int)]
theorem and_dec (d : Nat) (hd : d < 18446744073709551616) (h0 : d ≠ 0) : Value.int .u64 (bits .and .u64 (d : Int) ((d : Int) - 1)) = .int .u64 ((d &&& (d - 1) : Nat) : Int) := by
  have e : (d : Int) - 1 = ((d - 1 : Nat) : Int) := by omega
  rw [e, and_num _ _ hd (by omega)]

end Go.Proofs.Ytfneloplbkjbhaa
