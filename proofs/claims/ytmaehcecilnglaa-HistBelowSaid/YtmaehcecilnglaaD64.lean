/-
  The walk of math/bits.Div64 at a divisor below 2^20.
-/
import Derived.Test.YtmaehcecilnglaaH2
import Derived.Deep.DeepCutAuto
import Derived.Deep.QuietTactic
import Derived.BigQuiet
import Derived.Laws.BitsAllLaws
namespace Go.Proofs.Ytmaehcecilnglaa
open Go.RowKit
set_option linter.unusedVariables false

theorem u64_in (a : Nat) (h : a < 18446744073709551616) : IntKind.u64.wrap (a : Int) = a := by rw [IntKind.wrap_u64]; omega
/-- A fact put by, which nothing opens. -/
structure Kept (p : Prop) : Prop where
  out : p
/-! ### plain -/
theorem div_uniq {N Q R y p : Nat} (hp : 0 < p) (hy : 0 < y) (key : N * p = Q * y * p + R) (hR : R < y * p) : N / y = Q ∧ R / p = N % y := by
  have hQ : Q * y ≤ N := by
    have : Q * y * p ≤ N * p := by omega
    exact Nat.le_of_mul_le_mul_right this hp
  have hR2 : R = (N - Q * y) * p := by rw [Nat.sub_mul]; omega
  have hQ2 : N - Q * y < y := by
    rw [hR2] at hR
    exact Nat.lt_of_mul_lt_mul_right hR
  have hdiv : N / y = Q := by
    have e : N = y * Q + (N - Q * y) := by rw [Nat.mul_comm]; omega
    rw [e, Nat.mul_add_div hy, Nat.div_eq_of_lt hQ2]; rfl
  have hmod : N % y = N - Q * y := by
    have := Nat.div_add_mod N y
    rw [hdiv, Nat.mul_comm] at this
    omega
  refine ⟨hdiv, ?_⟩
  rw [hmod, hR2, Nat.mul_div_cancel _ hp]
theorem sq_step (q y r B : Nat) : (q * y + r) * (B * B) = q * B * (y * B) + r * (B * B) := by
  rw [Nat.add_mul]
  congr 1
  simp only [Nat.mul_left_comm, Nat.mul_comm]
theorem mul_step (q p y B : Nat) : (q * B + p) * (y * B) = q * B * (y * B) + p * y * B := by
  rw [Nat.add_mul]
  congr 1
  simp only [Nat.mul_assoc]
theorem d64_plain {hi lo y s yn1 : Nat} (hlo : lo < 2 ^ 64) (hhy : hi < y) (hs : s ≤ 64) (hY : y * 2 ^ s = yn1 * 2 ^ 32) (hY2 : y * 2 ^ s < 2 ^ 64) (hyn : 0 < yn1)
    {un32 un10 un1 un0 q1 un21 q0 : Nat} (e1 : un32 = hi * 2 ^ s + lo / 2 ^ (64 - s)) (e2 : un10 = lo * 2 ^ s % 2 ^ 64) (e3 : un1 = un10 / 2 ^ 32) (e4 : un0 = un10 % 2 ^ 32)
    (e5 : q1 = un32 / yn1) (e6 : un21 = un32 % yn1 * 2 ^ 32 + un1) (e7 : q0 = un21 / yn1) :
    un32 < y * 2 ^ s ∧ q1 < 2 ^ 32 ∧ un21 < 2 ^ 64 ∧ q0 < 2 ^ 32 ∧ q1 * 2 ^ 32 + q0 = (hi * 2 ^ 64 + lo) / y ∧ (un21 % yn1 * 2 ^ 32 + un0) / 2 ^ s = (hi * 2 ^ 64 + lo) % y ∧ un21 % yn1 * 2 ^ 32 + un0 < 2 ^ 64 ∧ un1 < 2 ^ 32 ∧ yn1 < 2 ^ 32 := by
  have hp : 0 < 2 ^ s := Nat.two_pow_pos s
  have hq : 0 < 2 ^ (64 - s) := Nat.two_pow_pos _
  have hpq : 2 ^ s * 2 ^ (64 - s) = 2 ^ 64 := by rw [← Nat.pow_add]; congr 1; omega
  have hlt : lo / 2 ^ (64 - s) < 2 ^ s := by rw [Nat.div_lt_iff_lt_mul hq, hpq]; exact hlo
  have hlos : lo * 2 ^ s = lo / 2 ^ (64 - s) * 2 ^ 64 + un10 := by
    have e : lo * 2 ^ s / 2 ^ 64 = lo / 2 ^ (64 - s) := by
      rw [← hpq, Nat.mul_comm lo]
      exact Nat.mul_div_mul_left _ _ hp
    have := Nat.div_add_mod (lo * 2 ^ s) (2 ^ 64)
    rw [e, ← e2, Nat.mul_comm] at this
    exact this.symm
  have hun10 : un10 = un1 * 2 ^ 32 + un0 := by rw [e3, e4, Nat.mul_comm]; exact (Nat.div_add_mod _ _).symm
  have hun0 : un0 < 2 ^ 32 := by rw [e4]; exact Nat.mod_lt _ (by decide)
  have hun1 : un1 < 2 ^ 32 := by
    rw [e3, Nat.div_lt_iff_lt_mul (by decide), e2]
    exact Nat.mod_lt _ (by decide)
  have h1 : un32 < y * 2 ^ s := by
    have : (hi + 1) * 2 ^ s ≤ y * 2 ^ s := Nat.mul_le_mul_right _ hhy
    rw [Nat.add_mul] at this
    omega
  have hN : (hi * 2 ^ 64 + lo) * 2 ^ s = un32 * 2 ^ 64 + un10 := by
    rw [Nat.add_mul, hlos, e1, Nat.add_mul]
    have : hi * 2 ^ 64 * 2 ^ s = hi * 2 ^ s * 2 ^ 64 := by rw [Nat.mul_assoc, Nat.mul_comm (2 ^ 64), ← Nat.mul_assoc]
    rw [this]; omega
  have d1 : un32 = q1 * yn1 + un32 % yn1 := by rw [e5, Nat.mul_comm]; exact (Nat.div_add_mod _ _).symm
  have d2 : un21 = q0 * yn1 + un21 % yn1 := by rw [e7, Nat.mul_comm]; exact (Nat.div_add_mod _ _).symm
  have m1 : un32 % yn1 < yn1 := Nat.mod_lt _ hyn
  have m2 : un21 % yn1 < yn1 := Nat.mod_lt _ hyn
  generalize hr1 : un32 % yn1 = r1 at *
  generalize hr2 : un21 % yn1 = r2 at *
  have hyl : yn1 < 2 ^ 32 := by omega
  have l1 : un21 < yn1 * 2 ^ 32 := by
    have : (r1 + 1) * 2 ^ 32 ≤ yn1 * 2 ^ 32 := Nat.mul_le_mul_right _ m1
    omega
  have q1l : q1 < 2 ^ 32 := by rw [e5, Nat.div_lt_iff_lt_mul hyn, Nat.mul_comm]; omega
  have q0l : q0 < 2 ^ 32 := by rw [e7, Nat.div_lt_iff_lt_mul hyn, Nat.mul_comm]; omega
  have hR : r2 * 2 ^ 32 + un0 < y * 2 ^ s := by
    have : (r2 + 1) * 2 ^ 32 ≤ yn1 * 2 ^ 32 := Nat.mul_le_mul_right _ m2
    omega
  have key : (hi * 2 ^ 64 + lo) * 2 ^ s = (q1 * 2 ^ 32 + q0) * y * 2 ^ s + (r2 * 2 ^ 32 + un0) := by
    rw [hN, hun10, Nat.mul_assoc, hY, d1]
    have e8 : un21 = q0 * yn1 + r2 := d2
    have e9 : r1 * 2 ^ 32 + un1 = q0 * yn1 + r2 := by rw [← e6]; exact d2
    have e64 : (2 : Nat) ^ 64 = 2 ^ 32 * 2 ^ 32 := by decide
    have t1 := sq_step q1 yn1 r1 (2 ^ 32)
    have t2 := mul_step q1 q0 yn1 (2 ^ 32)
    rw [← e64] at t1
    rw [t1, t2]
    have t3 : (r1 * 2 ^ 32 + un1) * 2 ^ 32 = (q0 * yn1 + r2) * 2 ^ 32 := by rw [e9]
    rw [Nat.add_mul, Nat.add_mul] at t3
    omega
  have hy : 0 < y := by omega
  obtain ⟨k1, k2⟩ := div_uniq hp hy key hR
  exact ⟨h1, q1l, by omega, q0l, k1.symm, k2, by omega, hun1, hyl⟩

theorem lz_any (y : Nat) (hy : 1 < y) (hy2 : y < 1048576) (w : World) : ∃ s : Nat, 44 ≤ s ∧ s ≤ 62 ∧ (∃ t, y * 2 ^ s = t * 2 ^ 32 ∧ 0 < t) ∧ y * 2 ^ s < 2 ^ 64 ∧ ∀ w : World, Calls Try.prog 35 #[.int .u64 (y : Int)] w fun e w' => e = .returned (.int .i64 (s : Int)) ∧ w = w' := by
  obtain ⟨k1, k2, k3⟩ := len_bd (b := y) (by omega) (by omega)
  have hl2 : 2 ≤ Lib.bitLen y := by
    rcases Nat.lt_or_ge (Lib.bitLen y) 2 with h | h
    · have : Lib.bitLen y = 1 := by omega
      rw [this] at k3
      omega
    · exact h
  have hl20 : Lib.bitLen y ≤ 20 := by
    rcases Nat.lt_or_ge 20 (Lib.bitLen y) with h | h
    · have := Nat.pow_le_pow_right (n := 2) (by omega) (show 20 ≤ Lib.bitLen y - 1 by omega)
      omega
    · exact h
  refine ⟨64 - Lib.bitLen y, by omega, by omega, ⟨y * 2 ^ (32 - Lib.bitLen y), ?_, Nat.mul_pos (by omega) (Nat.two_pow_pos _)⟩, ?_, fun w => ?_⟩
  · rw [Nat.mul_assoc, ← Nat.pow_add]
    congr 2
    omega
  · have : y * 2 ^ (64 - Lib.bitLen y) < 2 ^ Lib.bitLen y * 2 ^ (64 - Lib.bitLen y) := (Nat.mul_lt_mul_right (Nat.two_pow_pos _)).2 k3
    rw [← Nat.pow_add, show Lib.bitLen y + (64 - Lib.bitLen y) = 64 by omega] at this
    exact this
  · refine (bits_LeadingZeros64 (y : Int) w (by omega) (by omega)).mono fun e w' ⟨h1, h2⟩ => ⟨?_, h2.symm⟩
    rw [h1]
    simp only [Int.toNat_natCast]
    congr 2
    omega
theorem shl_num {a s r : Nat} (h : r = a * 2 ^ s) (hr : r < 2 ^ 64) : IntKind.u64.wrap ((a : Int) * 2 ^ s) = (r : Int) := by
  have e : (a : Int) * 2 ^ s = (r : Int) := by rw [h]; simp
  rw [e, u64_in _ hr]
theorem low_num {Y t : Nat} (h : Y = t * 2 ^ 32) (hr : Y < 2 ^ 64) : bits .and .u64 (Y : Int) 4294967295 = 0 := by
  rw [show (4294967295 : Int) = ((4294967295 : Nat) : Int) from rfl, u64_and_nat _ _ hr (by omega)]
  have : Y &&& 4294967295 = Y % 2 ^ 32 := Nat.and_two_pow_sub_one_eq_mod Y 32
  rw [this]
  omega
theorem or_num' {hi l s u : Nat} (h : u = hi * 2 ^ s + l) (hl : l < 2 ^ s) (hu : u < 2 ^ 64) : bits .or .u64 (IntKind.u64.wrap ((hi : Int) * 2 ^ s)) (l : Int) = (u : Int) := by
  rw [shl_num (r := hi * 2 ^ s) rfl (by omega), u64_or_nat _ _ (by omega) (by omega), h, Nat.mul_comm hi, Nat.two_pow_add_eq_or_of_lt hl]
theorem cast_div (a k : Nat) : ((a / 2 ^ k : Nat) : Int) = (a : Int) / 2 ^ k := by simp
theorem wrap_num {a s r : Nat} (h : r = a * 2 ^ s % 2 ^ 64) : IntKind.u64.wrap ((a : Int) * 2 ^ s) = (r : Int) := by
  have e : (a : Int) * 2 ^ s = ((a * 2 ^ s : Nat) : Int) := by simp
  rw [e, IntKind.wrap_u64, h]
  omega
theorem low_num' {Y r : Nat} (h : r = Y % 2 ^ 32) (hr : Y < 2 ^ 64) : bits .and .u64 (Y : Int) 4294967295 = (r : Int) := by
  rw [show (4294967295 : Int) = ((4294967295 : Nat) : Int) from rfl, u64_and_nat _ _ hr (by omega)]
  have : Y &&& 4294967295 = Y % 2 ^ 32 := Nat.and_two_pow_sub_one_eq_mod Y 32
  rw [this, h]
theorem quo_num {a t q : Nat} (h : q = a / t) (ha : a < 2 ^ 64) : IntKind.u64.wrap ((a : Int) / (t : Int)) = (q : Int) := by
  have e : (a : Int) / (t : Int) = ((a / t : Nat) : Int) := by simp
  rw [e, h, u64_in _ (Nat.lt_of_le_of_lt (Nat.div_le_self _ _) ha)]
theorem rem_num {a t q r : Nat} (h : q = a / t) (hr : r = a % t) (ha : a < 2 ^ 64) : IntKind.u64.wrap ((a : Int) - IntKind.u64.wrap ((q : Int) * (t : Int))) = (r : Int) := by
  have e : (q : Int) * (t : Int) = ((q * t : Nat) : Int) := by simp
  have d : a = q * t + r := by rw [h, hr, Nat.mul_comm]; exact (Nat.div_add_mod _ _).symm
  rw [e, u64_in _ (by omega)]
  have e2 : (a : Int) - ((q * t : Nat) : Int) = (r : Int) := by omega
  rw [e2, u64_in _ (by omega)]
theorem un_num {u q Y v z : Nat} (h : u * 4294967296 + v = q * Y + z) (hz : z < 2 ^ 64) : IntKind.u64.wrap (IntKind.u64.wrap (IntKind.u64.wrap ((u : Int) * 4294967296) + (v : Int)) - IntKind.u64.wrap ((q : Int) * (Y : Int))) = (z : Int) := by
  have e : (q : Int) * (Y : Int) = ((q * Y : Nat) : Int) := by simp
  rw [e]
  generalize q * Y = B at h ⊢
  simp only [IntKind.wrap_u64]
  omega
theorem un_num' {u q Y v z : Nat} (h : u * 4294967296 + v = q * Y + z) (hz : z < 2 ^ 64) : IntKind.u64.wrap (IntKind.u64.wrap (IntKind.u64.wrap (4294967296 * (u : Int)) + (v : Int)) - IntKind.u64.wrap ((q : Int) * (Y : Int))) = (z : Int) := by
  rw [Int.mul_comm]; exact un_num h hz
theorem step_num {u q t r Y v z : Nat} (hq : q = u / t) (hr : r = u % t) (hY : Y = t * 2 ^ 32) (hz : z = r * 2 ^ 32 + v) : u * 4294967296 + v = q * Y + z := by
  have d : u = q * t + r := by rw [hq, hr, Nat.mul_comm]; exact (Nat.div_add_mod _ _).symm
  have e : q * Y = q * t * 4294967296 := by rw [hY, Nat.mul_assoc]
  rw [e, hz]
  generalize q * t = B at d ⊢
  omega
theorem fin_quo {q1 q0 hi lo y : Nat} (h1 : q1 < 2 ^ 32) (h0 : q0 < 2 ^ 32) (h : q1 * 2 ^ 32 + q0 = (hi * 2 ^ 64 + lo) / y) : IntKind.u64.wrap (IntKind.u64.wrap ((q1 : Int) * 4294967296) + (q0 : Int)) = ((hi : Int) * 18446744073709551616 + (lo : Int)) / (y : Int) := by
  have e : ((hi : Int) * 18446744073709551616 + (lo : Int)) / (y : Int) = (((hi * 18446744073709551616 + lo) / y : Nat) : Int) := by simp
  have h' : q1 * 4294967296 + q0 = (hi * 18446744073709551616 + lo) / y := h
  rw [e, ← h']
  simp only [IntKind.wrap_u64]
  omega
theorem fin_rem {z s hi lo y : Nat} (h : z / 2 ^ s = (hi * 2 ^ 64 + lo) % y) : (z : Int) / 2 ^ s = ((hi : Int) * 18446744073709551616 + (lo : Int)) % (y : Int) := by
  have e : ((hi : Int) * 18446744073709551616 + (lo : Int)) % (y : Int) = (((hi * 18446744073709551616 + lo) % y : Nat) : Int) := by simp
  have h' : z / 2 ^ s = (hi * 18446744073709551616 + lo) % y := h
  rw [e, ← h', cast_div]
theorem ret_uu {a b c d : Int} (h : a = b) (k : c = d) : Ending.returned (.tuple #[.int .u64 a, .int .u64 c]) = .returned (.tuple #[.int .u64 b, .int .u64 d]) := by rw [h, k]
set_option maxRecDepth 100000 in
set_option maxHeartbeats 2000000 in
theorem div64_any (hi lo y : Nat) (hlo : lo < 18446744073709551616) (hhy : hi < y) (hy2 : y < 1048576) (w : World) :
    Calls Try.prog 33 #[.int .u64 (hi : Int), .int .u64 (lo : Int), .int .u64 (y : Int)] w fun e w' => e = .returned (.tuple #[.int .u64 (((hi * 2 ^ 64 + lo) / y : Nat) : Int), .int .u64 (((hi * 2 ^ 64 + lo) % y : Nat) : Int)]) ∧ Below w.heap.size w w' := by
  have y0 : ((y : Int) == 0) = false := by simp; omega
  have yh : (hi : Int) < (y : Int) := by omega
  have HLO := Kept.mk hlo
  clear hlo
  by_cases h0 : hi = 0
  · subst h0
    have yp : 0 < y := by omega
    simp only [Nat.zero_mul, Nat.zero_add]
    go_enter Try.func33, Try.ntmps33
    go_wp2
    go_quiet (fail)
    go_wp2
    go_ret2
    exact ⟨ret_uu (u64_in _ (Nat.lt_of_le_of_lt (Nat.div_le_self _ _) HLO.out)) rfl, (Below.refl _ _).drewN _⟩
  · have h0' : ((hi : Int) == 0) = false := by simp [h0]
    obtain ⟨s, s1, s2, ⟨t, ht, tp⟩, hY, hc⟩ := lz_any y (by omega) hy2 w
    obtain ⟨Y, eY⟩ : ∃ Y, Y = y * 2 ^ s := ⟨_, rfl⟩
    obtain ⟨un32, e1⟩ : ∃ Y, Y = hi * 2 ^ s + lo / 2 ^ (64 - s) := ⟨_, rfl⟩
    obtain ⟨un10, e2⟩ : ∃ Y, Y = lo * 2 ^ s % 2 ^ 64 := ⟨_, rfl⟩
    obtain ⟨un1, e3⟩ : ∃ Y, Y = un10 / 2 ^ 32 := ⟨_, rfl⟩
    obtain ⟨un0, e4⟩ : ∃ Y, Y = un10 % 2 ^ 32 := ⟨_, rfl⟩
    obtain ⟨q1, e5⟩ : ∃ Y, Y = un32 / t := ⟨_, rfl⟩
    obtain ⟨r1, e8⟩ : ∃ Y, Y = un32 % t := ⟨_, rfl⟩
    obtain ⟨un21, e6⟩ : ∃ Y, Y = r1 * 2 ^ 32 + un1 := ⟨_, rfl⟩
    obtain ⟨q0, e7⟩ : ∃ Y, Y = un21 / t := ⟨_, rfl⟩
    obtain ⟨r2, e9⟩ : ∃ Y, Y = un21 % t := ⟨_, rfl⟩
    have hP := d64_plain HLO.out hhy (by omega) ht hY tp e1 e2 e3 e4 e5 (by rw [← e8]; exact e6) e7
    rw [← eY] at ht hY
    rw [← e9, ← eY] at hP
    have xHQ : lo / 2 ^ (64 - s) < 2 ^ s := by
      have hpq : 2 ^ s * 2 ^ (64 - s) = 2 ^ 64 := by rw [← Nat.pow_add]; congr 1; omega
      rw [Nat.div_lt_iff_lt_mul (Nat.two_pow_pos _), hpq]; exact HLO.out
    have HQ := Kept.mk xHQ
    clear xHQ
    have xHU : un10 < 2 ^ 64 := by rw [e2]; exact Nat.mod_lt _ (by decide)
    have HU := Kept.mk xHU
    clear xHU
    have xHU32 : un32 < 2 ^ 64 := Nat.lt_trans hP.1 hY
    have HU32 := Kept.mk xHU32
    clear xHU32
    have ht32 : t < 2 ^ 32 := by have := hP.2.2.2.2.2.2.2.2; exact this
    have hr1 : r1 < 2 ^ 32 := by rw [e8]; exact Nat.lt_trans (Nat.mod_lt _ tp) ht32
    have hr2 : r2 < 2 ^ 32 := by rw [e9]; exact Nat.lt_trans (Nat.mod_lt _ tp) ht32
    have hun0 : un0 < 2 ^ 32 := by rw [e4]; exact Nat.mod_lt _ (by decide)
    have l1 : q1 < 4294967296 := hP.2.1
    have l2 : un1 < 4294967296 := hP.2.2.2.2.2.2.2.1
    have l3 : q0 < 4294967296 := hP.2.2.2.1
    obtain ⟨Q1, f1⟩ : ∃ Q : Int, Q = (q1 : Int) := ⟨_, rfl⟩
    obtain ⟨R1, f2⟩ : ∃ Q : Int, Q = (r1 : Int) := ⟨_, rfl⟩
    obtain ⟨U1, f3⟩ : ∃ Q : Int, Q = (un1 : Int) := ⟨_, rfl⟩
    obtain ⟨Q0, f4⟩ : ∃ Q : Int, Q = (q0 : Int) := ⟨_, rfl⟩
    obtain ⟨R2, f5⟩ : ∃ Q : Int, Q = (r2 : Int) := ⟨_, rfl⟩
    obtain ⟨U0, f6⟩ : ∃ Q : Int, Q = (un0 : Int) := ⟨_, rfl⟩
    have xQ1 : 0 ≤ Q1 ∧ Q1 < 4294967296 := by omega
    have xR1 : 0 ≤ R1 ∧ R1 < 4294967296 := by omega
    have xU1 : 0 ≤ U1 ∧ U1 < 4294967296 := by omega
    have xQ0 : 0 ≤ Q0 ∧ Q0 < 4294967296 := by omega
    have xR2 : 0 ≤ R2 ∧ R2 < 4294967296 := by omega
    have xU0 : 0 ≤ U0 ∧ U0 < 4294967296 := by omega
    have HBQ1 := Kept.mk xQ1
    have HBR1 := Kept.mk xR1
    have HBU1 := Kept.mk xU1
    have HBQ0 := Kept.mk xQ0
    have HBR2 := Kept.mk xR2
    have HBU0 := Kept.mk xU0
    have F1 := Kept.mk f1
    have F2 := Kept.mk f2
    have F3 := Kept.mk f3
    have F4 := Kept.mk f4
    have F5 := Kept.mk f5
    have F6 := Kept.mk f6
    clear l1 l2 l3 f1 f2 f3 f4 f5 f6 xQ1 xR1 xU1 xQ0 xR2 xU0
    clear ht32 hr1 hr2 hun0
    have HC := Kept.mk hc
    have HT := Kept.mk ht
    have HY := Kept.mk hY
    have EY := Kept.mk eY
    have E1 := Kept.mk e1
    have E2 := Kept.mk e2
    have E3 := Kept.mk e3
    have E4 := Kept.mk e4
    have E5 := Kept.mk e5
    have E6 := Kept.mk e6
    have E7 := Kept.mk e7
    have E8 := Kept.mk e8
    have E9 := Kept.mk e9
    have HP := Kept.mk hP
    clear hc ht hY h0 eY e1 e2 e3 e4 e5 e6 e7 e8 e9 hP
    go_enter Try.func33, Try.ntmps33
    go_upto_region 7 with fail
    go_cut [8] (fun s0 wx => s0 = .int .u64 (s : Int) ∧ w = wx)
    case first =>
      go_wp2_with (go_at_call 35; refine (HC.out _).mono ?_; rintro e w' ⟨rfl, rfl⟩)
      go_meet
      exact ⟨rfl, rfl⟩
    obtain ⟨rfl, rfl⟩ := hcut
    go_upto_region 8 with fail
    go_cut [2] (fun s0 wx => s0 = .int .u64 ((Y : Nat) : Int) ∧ w = wx)
    case first =>
      go_wp2
      go_meet
      exact ⟨congrArg _ (shl_num EY.out HY.out), rfl⟩
    obtain ⟨rfl, rfl⟩ := hcut
    go_upto_region 9 with fail
    go_cut [9] (fun s0 wx => s0 = .int .u64 ((t : Nat) : Int) ∧ w = wx)
    case first =>
      go_wp2
      go_meet
      exact ⟨congrArg _ (by have := HT.out; omega), rfl⟩
    obtain ⟨rfl, rfl⟩ := hcut
    go_upto_region 10 with fail
    go_cut [10] (fun s0 wx => s0 = .int .u64 0 ∧ w = wx)
    case first =>
      go_wp2
      go_meet
      exact ⟨congrArg _ (low_num HT.out HY.out), rfl⟩
    obtain ⟨rfl, rfl⟩ := hcut
    go_upto_region 11 with fail
    go_cut [11] (fun s0 wx => s0 = .int .u64 ((un32 : Nat) : Int) ∧ w = wx)
    case first =>
      go_wp2
      go_meet
      exact ⟨congrArg _ (by rw [← cast_div]; exact or_num' E1.out HQ.out (Nat.lt_trans HP.out.1 HY.out)), rfl⟩
    obtain ⟨rfl, rfl⟩ := hcut
    go_upto_region 12 with fail
    go_cut [12] (fun s0 wx => s0 = .int .u64 ((un10 : Nat) : Int) ∧ w = wx)
    case first =>
      go_wp2
      go_meet
      exact ⟨congrArg _ (wrap_num E2.out), rfl⟩
    obtain ⟨rfl, rfl⟩ := hcut
    go_upto_region 13 with fail
    go_cut [13] (fun s0 wx => s0 = .int .u64 U1 ∧ w = wx)
    case first =>
      go_wp2
      go_meet
      exact ⟨congrArg _ (by have := E3.out; have := F3.out; omega), rfl⟩
    obtain ⟨rfl, rfl⟩ := hcut
    go_upto_region 14 with fail
    go_cut [14] (fun s0 wx => s0 = .int .u64 U0 ∧ w = wx)
    case first =>
      go_wp2
      go_meet
      exact ⟨congrArg _ ((low_num' E4.out HU.out).trans F6.out.symm), rfl⟩
    obtain ⟨rfl, rfl⟩ := hcut
    go_upto_region 15 with fail
    go_cut [15] (fun s0 wx => s0 = .int .u64 Q1 ∧ w = wx)
    case first =>
      go_wp2
      go_meet
      exact ⟨congrArg _ ((quo_num E5.out HU32.out).trans F1.out.symm), rfl⟩
    obtain ⟨rfl, rfl⟩ := hcut
    go_upto_region 16 with fail
    go_cut [16] (fun s0 wx => s0 = .int .u64 R1 ∧ w = wx)
    case first =>
      go_wp2
      go_meet
      exact ⟨congrArg _ (by rw [F1.out, F2.out]; exact rem_num E5.out E8.out HU32.out), rfl⟩
    obtain ⟨rfl, rfl⟩ := hcut
    have p1 : Q1 < 4294967296 := by have := HBQ1.out; omega
    have p2 : R1 < 4294967296 := by have := HBR1.out; omega
    have p3 : U1 < 4294967296 := by have := HBU1.out; omega
    have p0 : 0 ≤ Q1 := by have := HBQ1.out; omega
    have p9 : 0 ≤ R1 := by have := HBR1.out; omega
    have p8 : 0 ≤ U1 := by have := HBU1.out; omega
    have p4 : 0 ≤ 4294967296 * R1 + U1 := by omega
    go_wp2_with fail
    go_loop [15, 16] (fun a b => a = .int .u64 Q1 ∧ b = .int .u64 R1) (fun _ _ => 0)
    case atStart => exact ⟨rfl, rfl⟩
    case round =>
      obtain ⟨rfl, rfl⟩ := hrel
      go_upto_region 21 with fail
      go_cut [17] (fun s0 wx => s0 = .int .u64 ((un21 : Nat) : Int) ∧ w = wx)
      case first =>
        go_wp2
        go_meet
        exact ⟨congrArg _ (by rw [F3.out, F1.out]; exact un_num (step_num E5.out E8.out HT.out E6.out) HP.out.2.2.1), rfl⟩
      obtain ⟨rfl, rfl⟩ := hcut
      have HU21 := Kept.mk HP.out.2.2.1
      clear p0 p1 p2 p3 p4 p8 p9
      go_upto_region 22 with fail
      go_cut [18] (fun s0 wx => s0 = .int .u64 Q0 ∧ w = wx)
      case first =>
        go_wp2
        go_meet
        exact ⟨congrArg _ ((quo_num E7.out HU21.out).trans F4.out.symm), rfl⟩
      obtain ⟨rfl, rfl⟩ := hcut
      go_upto_region 23 with fail
      go_cut [16] (fun s0 wx => s0 = .int .u64 R2 ∧ w = wx)
      case first =>
        go_wp2
        go_meet
        exact ⟨congrArg _ (by rw [F4.out, F5.out]; exact rem_num E7.out E9.out HU21.out), rfl⟩
      obtain ⟨rfl, rfl⟩ := hcut
      have p1 : Q0 < 4294967296 := by have := HBQ0.out; omega
      have p2 : R2 < 4294967296 := by have := HBR2.out; omega
      have p3 : U0 < 4294967296 := by have := HBU0.out; omega
      have p0 : 0 ≤ Q0 := by have := HBQ0.out; omega
      have p9 : 0 ≤ R2 := by have := HBR2.out; omega
      have p8 : 0 ≤ U0 := by have := HBU0.out; omega
      have p4 : 0 ≤ 4294967296 * R2 + U0 := by omega
      go_wp2_with fail
      go_loop [18, 16] (fun a b => a = .int .u64 Q0 ∧ b = .int .u64 R2) (fun _ _ => 0)
      case atStart => exact ⟨rfl, rfl⟩
      case round =>
        obtain ⟨rfl, rfl⟩ := hrel
        go_wp2
        go_ret2
        refine ⟨ret_uu ?_ ?_, Below.refl _ _⟩
        · rw [F1.out, F4.out]
          exact fin_quo HP.out.2.1 HP.out.2.2.2.1 HP.out.2.2.2.2.1
        · rw [F4.out, F6.out, un_num (step_num E7.out E9.out HT.out rfl) HP.out.2.2.2.2.2.2.1]
          exact fin_rem HP.out.2.2.2.2.2.1
end Go.Proofs.Ytmaehcecilnglaa
