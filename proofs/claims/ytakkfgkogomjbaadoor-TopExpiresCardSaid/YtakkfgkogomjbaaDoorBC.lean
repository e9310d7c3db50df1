/-
  Plain: the steps of counting a word's bits come to their number.
-/
import Derived.Test.YtakkfgkogomjbaaDoorB1
namespace Go.Proofs.YtakkfgkogomjbaaDoor
set_option linter.unusedVariables false
/-- digits of a number in base B, each taken over -/
def dm (B : Nat) (f : Nat → Nat) : Nat → Nat → Nat
  | 0, _ => 0
  | n + 1, x => f (x % B) + B * dm B f n (x / B)
theorem and_split (k a b : Nat) : a &&& b = (a % 2 ^ k &&& b % 2 ^ k) + 2 ^ k * (a / 2 ^ k &&& b / 2 ^ k) := by
  have h1 : (a &&& b) % 2 ^ k = a % 2 ^ k &&& b % 2 ^ k := Nat.and_mod_two_pow
  have h2 : (a &&& b) / 2 ^ k = a / 2 ^ k &&& b / 2 ^ k := Nat.and_div_two_pow
  rw [← h1, ← h2, Nat.add_comm]
  exact (Nat.div_add_mod _ _).symm
/-- the mask: m in each digit -/
def msk (k m : Nat) : Nat → Nat
  | 0 => 0
  | n + 1 => m + 2 ^ k * msk k m n
theorem msk_mod {k m : Nat} (h : m < 2 ^ k) (n : Nat) : msk k m (n + 1) % 2 ^ k = m ∧ msk k m (n + 1) / 2 ^ k = msk k m n := by
  have hp : 0 < 2 ^ k := Nat.two_pow_pos k
  constructor
  · rw [msk, Nat.add_mul_mod_self_left, Nat.mod_eq_of_lt h]
  · rw [msk, Nat.add_mul_div_left _ _ hp, Nat.div_eq_of_lt h, Nat.zero_add]
theorem low_and {k s m x : Nat} (h : m < 2 ^ (k - s)) : x / 2 ^ s % 2 ^ k &&& m = x % 2 ^ k / 2 ^ s &&& m := by
  apply Nat.eq_of_testBit_eq
  intro i
  simp only [Nat.testBit_and, Nat.testBit_mod_two_pow, Nat.testBit_div_two_pow]
  by_cases hi : i < k - s
  · have h1 : i < k := by omega
    have h2 : s + i < k := by omega
    have h3 : i + s < k := by omega
    simp [h1, h3]
  · have : m.testBit i = false := Nat.testBit_lt_two_pow (Nat.lt_of_lt_of_le h (Nat.pow_le_pow_right (by omega) (by omega)))
    simp [this]
theorem shr_msk {k m s : Nat} (hm : m < 2 ^ (k - s)) : ∀ n x, (x / 2 ^ s) &&& msk k m n = dm (2 ^ k) (fun d => d / 2 ^ s &&& m) n x
  | 0, x => by simp [msk, dm]
  | n + 1, x => by
    have hlt : m < 2 ^ k := Nat.lt_of_lt_of_le hm (Nat.pow_le_pow_right (by omega) (by omega))
    rw [and_split k, (msk_mod hlt n).1, (msk_mod hlt n).2, low_and hm, Nat.div_div_eq_div_mul, Nat.mul_comm (2 ^ s), ← Nat.div_div_eq_div_mul, shr_msk hm n, dm]
theorem dm_congr {B n : Nat} {f g : Nat → Nat} (hB : 0 < B) (h : ∀ d, d < B → f d = g d) : ∀ x, dm B f n x = dm B g n x := by
  induction n with
  | zero => intro x; rfl
  | succ n ih => intro x; rw [dm, dm, h _ (Nat.mod_lt _ hB), ih]
theorem dm_add {B n : Nat} {f g : Nat → Nat} : ∀ x, dm B f n x + dm B g n x = dm B (fun d => f d + g d) n x := by
  induction n with
  | zero => intro x; rfl
  | succ n ih => intro x; rw [dm, dm, dm, ← ih]; simp only [Nat.mul_add]; omega
theorem dm_mod {B n : Nat} {f : Nat → Nat} (hB : 0 < B) (h : ∀ d, d < B → f d < B) (x : Nat) : dm B f (n + 1) x % B = f (x % B) ∧ dm B f (n + 1) x / B = dm B f n (x / B) := by
  have := h _ (Nat.mod_lt x hB)
  constructor
  · rw [dm, Nat.add_mul_mod_self_left, Nat.mod_eq_of_lt this]
  · rw [dm, Nat.add_mul_div_left _ _ hB, Nat.div_eq_of_lt this, Nat.zero_add]
theorem dm_dm {B n : Nat} {f g : Nat → Nat} (hB : 0 < B) (h : ∀ d, d < B → f d < B) : ∀ x, dm B g n (dm B f n x) = dm B (fun d => g (f d)) n x := by
  induction n with
  | zero => intro x; rfl
  | succ n ih => intro x; rw [dm, (dm_mod hB h x).1, (dm_mod hB h x).2, ih, dm]
/-- two digits as one -/
theorem dm_pair {B n : Nat} {f : Nat → Nat} (hB : 0 < B) : ∀ x, dm B f (2 * n) x = dm (B * B) (fun d => f (d % B) + B * f (d / B % B)) n x := by
  induction n with
  | zero => intro x; rfl
  | succ n ih =>
    intro x
    rw [show 2 * (n + 1) = (2 * n + 1) + 1 from by omega, dm, dm, dm, ih]
    rw [Nat.mod_mul_right_mod, Nat.div_div_eq_div_mul]
    have : x % (B * B) / B = x / B % B := by rw [Nat.mod_mul_right_div_self]
    rw [this, Nat.mod_mod]
    rw [Nat.mul_add, ← Nat.mul_assoc]; omega
def nib (e : Nat) : Prop := e % 16 ≤ 4 ∧ e / 16 ≤ 4
theorem fold16 {n : Nat} : ∀ {f : Nat → Nat} (_ : ∀ d, d < 256 → f d < 256 ∧ nib (f d)) (x : Nat), (dm 256 f n x / 16 + dm 256 f n x) &&& msk 8 15 n = dm 256 (fun d => f d % 16 + f d / 16) n x ∧ dm 256 f n x % 16 ≤ 4 := by
  induction n with
  | zero => intro f hf x; simp [dm, msk]
  | succ n ih =>
    intro f hf x
    have h256 : (2 : Nat) ^ 8 = 256 := rfl
    have hx := hf (x % 256) (Nat.mod_lt _ (by omega))
    obtain ⟨h1, h2, h3⟩ := hx
    obtain ⟨i1, i2⟩ := ih hf (x / 256)
    have hy1 : (dm 256 f (n + 1) x / 16 + dm 256 f (n + 1) x) % 256 % 16 = f (x % 256) % 16 + f (x % 256) / 16 := by
      rw [dm]; omega
    have hy2 : (dm 256 f (n + 1) x / 16 + dm 256 f (n + 1) x) / 256 = dm 256 f n (x / 256) / 16 + dm 256 f n (x / 256) := by
      rw [dm]; omega
    refine ⟨?_, by rw [dm]; omega⟩
    rw [and_split 8, (msk_mod (by omega) n).1, (msk_mod (by omega) n).2, h256, hy2, i1]
    have : (15 : Nat) = 2 ^ 4 - 1 := rfl
    rw [this, Nat.and_two_pow_sub_one_eq_mod, show (2 : Nat) ^ 4 = 16 from rfl, hy1]
    rfl
/-- how many bits a byte has -/
def pop8 (e : Nat) : Nat := ((List.range 8).filter fun i => e.testBit i).length
def st1 (d : Nat) : Nat := (d / 2 &&& 1) + (d &&& 1)
def st2 (d : Nat) : Nat := (d / 4 &&& 3) + (d &&& 3)
def byt (e : Nat) : Nat :=
  let g := fun d => st1 (d % 4) + 4 * st1 (d / 4 % 4)
  let h := fun d => st2 (g (d % 16)) + 16 * st2 (g (d / 16 % 16))
  h e % 16 + h e / 16
theorem byt_pop : ∀ e, e < 256 → byt e = pop8 e := by decide +kernel
theorem byt_nib : ∀ e, e < 256 → (st2 (st1 (e % 16 % 4) + 4 * st1 (e % 16 / 4 % 4)) + 16 * st2 (st1 (e / 16 % 16 % 4) + 4 * st1 (e / 16 % 16 / 4 % 4))) < 256 ∧ (st2 (st1 (e % 16 % 4) + 4 * st1 (e % 16 / 4 % 4)) + 16 * st2 (st1 (e / 16 % 16 % 4) + 4 * st1 (e / 16 % 16 / 4 % 4))) % 16 ≤ 4 ∧ (st2 (st1 (e % 16 % 4) + 4 * st1 (e % 16 / 4 % 4)) + 16 * st2 (st1 (e / 16 % 16 % 4) + 4 * st1 (e / 16 % 16 / 4 % 4))) / 16 ≤ 4 := by decide +kernel
theorem st1_lt : ∀ e, e < 4 → st1 e < 4 := by decide
theorem st1_pair : ∀ e, e < 16 → st1 (e % 4) + 4 * st1 (e / 4 % 4) < 16 := by decide
/-- the first three steps -/
def s1 (x : Nat) : Nat := (x / 2 &&& 6148914691236517205) + (x &&& 6148914691236517205)
def s2 (x : Nat) : Nat := (x / 4 &&& 3689348814741910323) + (x &&& 3689348814741910323)
def s3 (x : Nat) : Nat := (x / 16 + x) &&& 1085102592571150095
theorem s1_eq (x : Nat) : s1 x = dm 4 st1 32 x := by
  have h := shr_msk (k := 2) (m := 1) (s := 1) (by decide) 32 x
  have h' := shr_msk (k := 2) (m := 1) (s := 0) (by decide) 32 x
  have hm : msk 2 1 32 = 6148914691236517205 := by decide
  rw [hm] at h h'
  simp only [Nat.pow_zero, Nat.div_one, show (2 : Nat) ^ 2 = 4 from rfl, show (2 : Nat) ^ 1 = 2 from rfl] at h h'
  rw [s1, h, h', dm_add]; rfl
theorem s2_eq (x : Nat) : s2 x = dm 16 st2 16 x := by
  have h := shr_msk (k := 4) (m := 3) (s := 2) (by decide) 16 x
  have h' := shr_msk (k := 4) (m := 3) (s := 0) (by decide) 16 x
  have hm : msk 4 3 16 = 3689348814741910323 := by decide
  rw [hm] at h h'
  simp only [Nat.pow_zero, Nat.div_one, show (2 : Nat) ^ 4 = 16 from rfl, show (2 : Nat) ^ 2 = 4 from rfl] at h h'
  rw [s2, h, h', dm_add]; rfl
theorem s3_eq (x : Nat) : s3 (s2 (s1 x)) = dm 256 pop8 8 x := by
  rw [s1_eq, s2_eq, dm_pair (B := 4) (n := 16) (by omega), dm_dm (by omega) st1_pair, dm_pair (B := 16) (n := 8) (by omega)]
  have hm : msk 8 15 8 = 1085102592571150095 := by decide
  rw [s3, ← hm]
  refine (fold16 (n := 8) (fun d hd => ?_) x).1.trans ?_
  · exact byt_nib d hd
  · exact dm_congr (by omega) (fun d hd => byt_pop d hd) x
def s4 (z : Nat) : Nat := let a := z + z / 256; let b := a + a / 65536; (b + b / 4294967296) % 128
def cnt (k b : Nat) : Nat := ((List.range k).filter fun i => b.testBit i).length
theorem cnt_byte (k x : Nat) : cnt (8 + k) x = pop8 (x % 256) + cnt k (x / 256) := by
  unfold cnt pop8
  rw [List.range_add, List.filter_append, List.length_append]
  congr 1
  · congr 1
    apply List.filter_congr
    intro i hi
    have : i < 8 := by simpa using hi
    rw [show (256 : Nat) = 2 ^ 8 from rfl, Nat.testBit_mod_two_pow]; simp [this]
  · rw [List.filter_map, List.length_map]
    congr 1
    apply List.filter_congr
    intro i _
    simp only [Function.comp_apply]
    rw [show (256 : Nat) = 2 ^ 8 from rfl, Nat.testBit_div_two_pow, Nat.add_comm]
theorem pop8_le : ∀ e, pop8 e ≤ 8 := fun e => by unfold pop8; exact Nat.le_trans (List.length_filter_le _ _) (by simp)
theorem a1_eq (p0 p1 p2 p3 p4 p5 p6 p7 : Nat) (l0 : p0 ≤ 8) : (p0 + 256 * p1 + 65536 * p2 + 16777216 * p3 + 4294967296 * p4 + 1099511627776 * p5 + 281474976710656 * p6 + 72057594037927936 * p7) / 256 = p1 + 256 * p2 + 65536 * p3 + 16777216 * p4 + 4294967296 * p5 + 1099511627776 * p6 + 281474976710656 * p7 := by omega
theorem a2_eq (q0 q1 q2 q3 q4 q5 q6 q7 : Nat) (l0 : q0 ≤ 16) (l1 : q1 ≤ 16) : (q0 + 256 * q1 + 65536 * q2 + 16777216 * q3 + 4294967296 * q4 + 1099511627776 * q5 + 281474976710656 * q6 + 72057594037927936 * q7) / 65536 = q2 + 256 * q3 + 65536 * q4 + 16777216 * q5 + 4294967296 * q6 + 1099511627776 * q7 := by omega
theorem a3_eq (q0 q1 q2 q3 q4 q5 q6 q7 : Nat) (l0 : q0 ≤ 32) (l1 : q1 ≤ 32) (l2 : q2 ≤ 32) (l3 : q3 ≤ 32) : (q0 + 256 * q1 + 65536 * q2 + 16777216 * q3 + 4294967296 * q4 + 1099511627776 * q5 + 281474976710656 * q6 + 72057594037927936 * q7) / 4294967296 = q4 + 256 * q5 + 65536 * q6 + 16777216 * q7 := by omega
theorem a4_eq (q0 q1 q2 q3 q4 q5 q6 q7 : Nat) (l0 : q0 < 128) : (q0 + 256 * q1 + 65536 * q2 + 16777216 * q3 + 4294967296 * q4 + 1099511627776 * q5 + 281474976710656 * q6 + 72057594037927936 * q7) % 128 = q0 := by omega
theorem s4_key (p0 p1 p2 p3 p4 p5 p6 p7 : Nat) (l0 : p0 ≤ 8) (l1 : p1 ≤ 8) (l2 : p2 ≤ 8) (l3 : p3 ≤ 8) (l4 : p4 ≤ 8) (l5 : p5 ≤ 8) (l6 : p6 ≤ 8) (l7 : p7 ≤ 8) :
    s4 (p0 + 256 * p1 + 65536 * p2 + 16777216 * p3 + 4294967296 * p4 + 1099511627776 * p5 + 281474976710656 * p6 + 72057594037927936 * p7) = p0 + p1 + p2 + p3 + p4 + p5 + p6 + p7 := by
  unfold s4
  simp only [a1_eq _ _ _ _ _ _ _ _ l0]
  have e1 : p0 + 256 * p1 + 65536 * p2 + 16777216 * p3 + 4294967296 * p4 + 1099511627776 * p5 + 281474976710656 * p6 + 72057594037927936 * p7 + (p1 + 256 * p2 + 65536 * p3 + 16777216 * p4 + 4294967296 * p5 + 1099511627776 * p6 + 281474976710656 * p7) = (p0 + p1) + 256 * (p1 + p2) + 65536 * (p2 + p3) + 16777216 * (p3 + p4) + 4294967296 * (p4 + p5) + 1099511627776 * (p5 + p6) + 281474976710656 * (p6 + p7) + 72057594037927936 * p7 := by omega
  simp only [e1, a2_eq (p0 + p1) (p1 + p2) (p2 + p3) (p3 + p4) (p4 + p5) (p5 + p6) (p6 + p7) p7 (by omega) (by omega)]
  have e2 : p0 + p1 + 256 * (p1 + p2) + 65536 * (p2 + p3) + 16777216 * (p3 + p4) + 4294967296 * (p4 + p5) + 1099511627776 * (p5 + p6) + 281474976710656 * (p6 + p7) + 72057594037927936 * p7 + (p2 + p3 + 256 * (p3 + p4) + 65536 * (p4 + p5) + 16777216 * (p5 + p6) + 4294967296 * (p6 + p7) + 1099511627776 * p7) = (p0 + p1 + p2 + p3) + 256 * (p1 + p2 + p3 + p4) + 65536 * (p2 + p3 + p4 + p5) + 16777216 * (p3 + p4 + p5 + p6) + 4294967296 * (p4 + p5 + p6 + p7) + 1099511627776 * (p5 + p6 + p7) + 281474976710656 * (p6 + p7) + 72057594037927936 * p7 := by omega
  simp only [e2, a3_eq (p0 + p1 + p2 + p3) (p1 + p2 + p3 + p4) (p2 + p3 + p4 + p5) (p3 + p4 + p5 + p6) (p4 + p5 + p6 + p7) (p5 + p6 + p7) (p6 + p7) p7 (by omega) (by omega) (by omega) (by omega)]
  have e3 : p0 + p1 + p2 + p3 + 256 * (p1 + p2 + p3 + p4) + 65536 * (p2 + p3 + p4 + p5) + 16777216 * (p3 + p4 + p5 + p6) + 4294967296 * (p4 + p5 + p6 + p7) + 1099511627776 * (p5 + p6 + p7) + 281474976710656 * (p6 + p7) + 72057594037927936 * p7 + (p4 + p5 + p6 + p7 + 256 * (p5 + p6 + p7) + 65536 * (p6 + p7) + 16777216 * p7) = (p0 + p1 + p2 + p3 + p4 + p5 + p6 + p7) + 256 * (p1 + p2 + p3 + p4 + p5 + p6 + p7) + 65536 * (p2 + p3 + p4 + p5 + p6 + p7) + 16777216 * (p3 + p4 + p5 + p6 + p7) + 4294967296 * (p4 + p5 + p6 + p7) + 1099511627776 * (p5 + p6 + p7) + 281474976710656 * (p6 + p7) + 72057594037927936 * p7 := by omega
  rw [e3, a4_eq _ _ _ _ _ _ _ _ (by omega)]
theorem s4_eq (x : Nat) : s4 (dm 256 pop8 8 x) = cnt 64 x := by
  have e : cnt 64 x = cnt (8 + (8 + (8 + (8 + (8 + (8 + (8 + (8 + 0)))))))) x := rfl
  rw [e]
  simp only [cnt_byte, dm]
  simp only [show ∀ y, cnt 0 y = 0 from fun _ => rfl]
  have l0 := pop8_le (x % 256)
  have l1 := pop8_le (x / 256 % 256)
  have l2 := pop8_le (x / 256 / 256 % 256)
  have l3 := pop8_le (x / 256 / 256 / 256 % 256)
  have l4 := pop8_le (x / 256 / 256 / 256 / 256 % 256)
  have l5 := pop8_le (x / 256 / 256 / 256 / 256 / 256 % 256)
  have l6 := pop8_le (x / 256 / 256 / 256 / 256 / 256 / 256 % 256)
  have l7 := pop8_le (x / 256 / 256 / 256 / 256 / 256 / 256 / 256 % 256)
  revert l0 l1 l2 l3 l4 l5 l6 l7
  generalize pop8 (x % 256) = p0
  generalize pop8 (x / 256 % 256) = p1
  generalize pop8 (x / 256 / 256 % 256) = p2
  generalize pop8 (x / 256 / 256 / 256 % 256) = p3
  generalize pop8 (x / 256 / 256 / 256 / 256 % 256) = p4
  generalize pop8 (x / 256 / 256 / 256 / 256 / 256 % 256) = p5
  generalize pop8 (x / 256 / 256 / 256 / 256 / 256 / 256 % 256) = p6
  generalize pop8 (x / 256 / 256 / 256 / 256 / 256 / 256 / 256 % 256) = p7
  intro l0 l1 l2 l3 l4 l5 l6 l7
  have e2 : p0 + 256 * (p1 + 256 * (p2 + 256 * (p3 + 256 * (p4 + 256 * (p5 + 256 * (p6 + 256 * (p7 + 256 * 0))))))) = p0 + 256 * p1 + 65536 * p2 + 16777216 * p3 + 4294967296 * p4 + 1099511627776 * p5 + 281474976710656 * p6 + 72057594037927936 * p7 := by omega
  rw [e2, s4_key _ _ _ _ _ _ _ _ l0 l1 l2 l3 l4 l5 l6 l7]
  omega
/-- how many bits a word has -/
theorem ones_eq (x : Nat) : s4 (s3 (s2 (s1 x))) = cnt 64 x := by rw [s3_eq, s4_eq]
theorem s_bounds (x : Nat) (h : x < 18446744073709551616) : s1 x < 18446744073709551616 ∧ s2 (s1 x) < 18446744073709551616 ∧ s3 (s2 (s1 x)) < 578721382704613385 ∧ s2 (s1 x) / 16 + s2 (s1 x) < 18446744073709551616 := by
  have a1 : x / 2 &&& 6148914691236517205 ≤ 6148914691236517205 := Nat.and_le_right
  have a2 : x &&& 6148914691236517205 ≤ 6148914691236517205 := Nat.and_le_right
  have b1 : s1 x / 4 &&& 3689348814741910323 ≤ 3689348814741910323 := Nat.and_le_right
  have b2 : s1 x &&& 3689348814741910323 ≤ 3689348814741910323 := Nat.and_le_right
  refine ⟨by unfold s1; omega, by unfold s2; omega, ?_, by unfold s2; omega⟩
  rw [s3_eq]
  simp only [dm]
  have l0 := pop8_le (x % 256)
  have l1 := pop8_le (x / 256 % 256)
  have l2 := pop8_le (x / 256 / 256 % 256)
  have l3 := pop8_le (x / 256 / 256 / 256 % 256)
  have l4 := pop8_le (x / 256 / 256 / 256 / 256 % 256)
  have l5 := pop8_le (x / 256 / 256 / 256 / 256 / 256 % 256)
  have l6 := pop8_le (x / 256 / 256 / 256 / 256 / 256 / 256 % 256)
  have l7 := pop8_le (x / 256 / 256 / 256 / 256 / 256 / 256 / 256 % 256)
  omega
theorem cnt_lb (b : Nat) : (cnt 64 b : Int) = ((lb 64 b).length : Nat) := by unfold cnt lb; rw [List.length_map]
end Go.Proofs.YtakkfgkogomjbaaDoor
