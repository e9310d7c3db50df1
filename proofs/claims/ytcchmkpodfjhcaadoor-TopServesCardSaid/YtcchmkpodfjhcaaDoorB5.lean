/-
  The walks of vergeref05.Between, bits.Between, math/bits.OnesCount64, bits.Count.
-/
import Derived.Test.YtcchmkpodfjhcaaDoorB4
import Derived.Deep.DeepCutAuto
namespace Go.Proofs.YtcchmkpodfjhcaaDoor
open Go.RowKit Go.Shelf
set_option linter.unusedVariables false

def btP (lo up : Int) (i : Nat) : Bool := decide (lo ≤ (i : Int) ∧ (i : Int) ≤ up)
def btN (lo up : Int) : Nat := ob (btP lo up) 64
theorem btN_lt (lo up : Int) : btN lo up < 18446744073709551616 := ob_lt _ 64
theorem btN_bit (lo up : Int) (i : Nat) : (btN lo up).testBit i = (decide (i < 64) && btP lo up i) := ob_bit _ _ _
theorem ob_hi (p : Nat → Bool) (k : Nat) (hk : k < 64) : ob p k + 2 ^ k < 18446744073709551616 := by
  have h1 := ob_lt p k
  have h2 : 2 ^ (k + 1) ≤ 2 ^ 64 := Nat.pow_le_pow_right (by omega) (by omega)
  rw [Nat.pow_succ] at h2
  omega
set_option maxHeartbeats 400000 in
theorem rbetween_any (lo up : Int) (w : World) :
    Calls Tryd.prog 29 #[.int .i64 lo, .int .i64 up] w fun e w' => e = .returned (.int .u64 (btN lo up : Int)) ∧ w = w' := by
  go_enter Tryd.func29, Tryd.ntmps29
  go_wp2
  go_loop [5, 6] (fun t i => ∃ (k d : Nat), k ≤ 64 ∧ t = .int .u64 (d : Int) ∧ i = .int .i64 k ∧ Hid (d = ob (btP lo up) k)) (fun _ i => 64 - (intOf i).toNat)
  case atStart => exact ⟨0, 0, by omega, rfl, rfl, rfl⟩
  case round =>
    obtain ⟨k, d, hk, rfl, rfl, hD⟩ := hrel
    by_cases hlt : k < 64
    · have hhi := ob_hi (btP lo up) k hlt
      have hst : ob (btP lo up) (k + 1) = ob (btP lo up) k + if btP lo up k then 2 ^ k else 0 := rfl
      rw [← hD.out] at hhi hst
      by_cases h1 : lo ≤ (k : Int)
      · by_cases h2 : (k : Int) ≤ up
        · have hb : btP lo up k = true := by unfold btP; exact decide_eq_true ⟨h1, h2⟩
          rw [hb, if_pos rfl] at hst
          obtain ⟨p, hp⟩ : ∃ p, p = 2 ^ k := ⟨_, rfl⟩
          have hone := one_any k hlt
          rw [← hp] at hone hhi hst
          have HONE := Lib.hid hone
          have HST := Lib.hid hst
          have HHI := Lib.hid hhi
          clear hone hst hb hp hD hhi
          go_wp2_with (first | (go_at_call 45; refine (HONE.out _).mono ?_; rintro e w' ⟨rfl, rfl⟩))
          go_round
          case rel => exact ⟨k + 1, d + p, by omega, sum_num rfl HHI.out, by go_num, HST.out.symm⟩
          case measure => simp [intOf]; omega
        · have hb : btP lo up k = false := by unfold btP; exact decide_eq_false (by omega)
          rw [hb] at hst
          have HST := Lib.hid hst
          have h2' : up < (k : Int) := by omega
          clear hst hhi hb hD h2
          go_wp2
          go_round
          case rel => exact ⟨k + 1, d, by omega, rfl, by go_num, by have := HST.out; simpa [Hid] using this.symm⟩
          case measure => simp [intOf]; omega
      · have hb : btP lo up k = false := by unfold btP; exact decide_eq_false (by omega)
        rw [hb] at hst
        have HST := Lib.hid hst
        have h1' : (k : Int) < lo := by omega
        clear hst hhi hb hD h1
        go_wp2
        go_round
        case rel => exact ⟨k + 1, d, by omega, rfl, by go_num, by have := HST.out; simpa [Hid] using this.symm⟩
        case measure => simp [intOf]; omega
    · have e : k = 64 := by omega
      subst e
      go_wp2
      go_ret
      exact ⟨ret_u (by rw [hD.out]; rfl), rfl⟩

theorem from_all (n : Int) (w : World) : Calls Tryd.prog 36 #[.int .u64 18446744073709551615, .int .i64 n] w fun e w' => e = .returned (.int .u64 ((frN 18446744073709551615 n : Nat) : Int)) ∧ w = w' :=
  from_any 18446744073709551615 (by omega) n w
theorem all_bit (i : Nat) (h : i < 64) : (18446744073709551615 : Nat).testBit i = true := by
  have := Nat.testBit_two_pow_sub_one 64 i
  simpa [h] using this
theorem fr_all_lt (n : Int) : frN 18446744073709551615 n < 18446744073709551616 := by have := frN_le 18446744073709551615 n; omega
theorem bt_high {lo up : Int} (h : 63 ≤ up) : frN 18446744073709551615 lo = btN lo up := by
  apply bits_eq 64 (fr_all_lt lo) (btN_lt lo up)
  intro i hi
  rw [frN_bit _ _ _ hi, all_bit i hi, btN_bit]
  unfold btP
  have : (i : Int) ≤ up := by omega
  simp [hi, this]
theorem bt_low {lo up : Int} (h : ¬ 63 ≤ up) : frN 18446744073709551615 lo &&& (18446744073709551615 - frN 18446744073709551615 (up + 1)) = btN lo up := by
  have hlt := fr_all_lt (up + 1)
  apply bits_eq 64 (Nat.lt_of_le_of_lt Nat.and_le_left (fr_all_lt lo)) (btN_lt lo up)
  intro i hi
  have e : 18446744073709551615 - frN 18446744073709551615 (up + 1) = 2 ^ 64 - (frN 18446744073709551615 (up + 1) + 1) := by omega
  rw [Nat.testBit_and, e, Nat.testBit_two_pow_sub_succ hlt, frN_bit _ _ _ hi, frN_bit _ _ _ hi, all_bit i hi, btN_bit]
  unfold btP
  rw [Bool.eq_iff_iff]
  simp [hi]
  omega
theorem between_any (lo up : Int) (w : World) (hw : (Lit.int .i64 up).wf = true) :
    Calls Tryd.prog 11 #[.int .i64 lo, .int .i64 up] w fun e w' => e = .returned (.int .u64 (btN lo up : Int)) ∧ w = w' := by
  obtain ⟨w1, w2⟩ := wf_bounds hw
  by_cases h : 63 ≤ up
  · have HE := Lib.hid (bt_high (lo := lo) h)
    go_enter Tryd.func11, Tryd.ntmps11
    go_wp2_with (first | (go_at_call 36; refine (from_all _ _).mono ?_; rintro e w' ⟨rfl, rfl⟩))
    go_ret
    exact ⟨ret_u (by rw [← HE.out]), rfl⟩
  · have HE := Lib.hid (bt_low (lo := lo) h)
    have h' : up < 63 := by omega
    have HA := Lib.hid (u64_andNot_nat (frN 18446744073709551615 lo) (frN 18446744073709551615 (up + 1)) (fr_all_lt _) (fr_all_lt _))
    clear h
    go_enter Tryd.func11, Tryd.ntmps11
    go_wp2_with (first | (go_at_call 36; refine (from_all _ _).mono ?_; rintro e w' ⟨rfl, rfl⟩))
    go_ret
    exact ⟨ret_u (by rw [← HE.out, ← HA.out]), rfl⟩

theorem and_num (a b : Nat) (ha : a < 18446744073709551616) (hb : b < 18446744073709551616) : bits .and .u64 (a : Int) (b : Int) = ((a &&& b : Nat) : Int) := u64_and_nat a b ha hb
theorem num_1 (x : Nat) (hx : x < 18446744073709551616) : IntKind.u64.wrap (bits .and .u64 ((x : Int) / 2) 6148914691236517205 + bits .and .u64 (x : Int) 6148914691236517205) = ((s1 x : Nat) : Int) := by
  have h1 := and_num (x / 2) 6148914691236517205 (by omega) (by omega)
  have h2 := and_num x 6148914691236517205 hx (by omega)
  have e : ((x / 2 : Nat) : Int) = (x : Int) / 2 := by omega
  rw [e] at h1
  have hb := (s_bounds x hx).1
  have h3 : bits .and .u64 ((x : Int) / 2) 6148914691236517205 + bits .and .u64 (x : Int) 6148914691236517205 = ((s1 x : Nat) : Int) := by
    rw [show (6148914691236517205 : Int) = ((6148914691236517205 : Nat) : Int) from rfl, h1, h2]; unfold s1; omega
  rw [h3, u64_in _ hb]
theorem num_2 (x : Nat) (hx : x < 18446744073709551616) : IntKind.u64.wrap (bits .and .u64 (((s1 x : Nat) : Int) / 4) 3689348814741910323 + bits .and .u64 ((s1 x : Nat) : Int) 3689348814741910323) = ((s2 (s1 x) : Nat) : Int) := by
  obtain ⟨b1, b2, _⟩ := s_bounds x hx
  generalize hy : s1 x = y at b1 b2 ⊢
  have h1 := and_num (y / 4) 3689348814741910323 (by omega) (by omega)
  have h2 := and_num y 3689348814741910323 b1 (by omega)
  have e : ((y / 4 : Nat) : Int) = (y : Int) / 4 := by omega
  rw [e] at h1
  have h3 : bits .and .u64 ((y : Int) / 4) 3689348814741910323 + bits .and .u64 (y : Int) 3689348814741910323 = ((s2 y : Nat) : Int) := by
    rw [show (3689348814741910323 : Int) = ((3689348814741910323 : Nat) : Int) from rfl, h1, h2]; unfold s2; omega
  rw [h3, u64_in _ b2]
theorem num_3 (x : Nat) (hx : x < 18446744073709551616) : bits .and .u64 (IntKind.u64.wrap (((s2 (s1 x) : Nat) : Int) / 16 + ((s2 (s1 x) : Nat) : Int))) 1085102592571150095 = ((s3 (s2 (s1 x)) : Nat) : Int) := by
  obtain ⟨_, b2, b3, b4⟩ := s_bounds x hx
  generalize hy : s2 (s1 x) = y at b2 b3 b4 ⊢
  have e : (y : Int) / 16 + (y : Int) = ((y / 16 + y : Nat) : Int) := by omega
  rw [e, u64_in _ b4, show (1085102592571150095 : Int) = ((1085102592571150095 : Nat) : Int) from rfl, and_num _ _ b4 (by omega)]
  rfl
def f4 (z : Nat) : Nat := z + z / 256
def f5 (z : Nat) : Nat := z + z / 65536
def f6 (z : Nat) : Nat := z + z / 4294967296
theorem num_4 (z : Nat) (hz : z < 578721382704613385) : IntKind.u64.wrap ((z : Int) + (z : Int) / 256) = ((f4 z : Nat) : Int) := by
  have e : (z : Int) + (z : Int) / 256 = ((f4 z : Nat) : Int) := by unfold f4; omega
  rw [e, u64_in _ (by unfold f4; omega)]
theorem num_5 (z : Nat) (hz : z < 1157442765409226770) : IntKind.u64.wrap ((z : Int) + (z : Int) / 65536) = ((f5 z : Nat) : Int) := by
  have e : (z : Int) + (z : Int) / 65536 = ((f5 z : Nat) : Int) := by unfold f5; omega
  rw [e, u64_in _ (by unfold f5; omega)]
theorem num_6 (z : Nat) (hz : z < 2314885530818453540) : IntKind.u64.wrap ((z : Int) + (z : Int) / 4294967296) = ((f6 z : Nat) : Int) := by
  have e : (z : Int) + (z : Int) / 4294967296 = ((f6 z : Nat) : Int) := by unfold f6; omega
  rw [e, u64_in _ (by unfold f6; omega)]
theorem num_7 (x : Nat) : f6 (f5 (f4 (s3 (s2 (s1 x))))) % 128 = cnt 64 x := by
  rw [← ones_eq]; rfl
set_option maxHeartbeats 1000000 in
theorem ones_any (x : Nat) (hx : x < 18446744073709551616) (w : World) :
    Calls Tryd.prog 40 #[.int .u64 (x : Int)] w fun e w' => e = .returned (.int .i64 (cnt 64 x : Int)) ∧ w = w' := by
  obtain ⟨b1, b2, b3, b4⟩ := s_bounds x hx
  have h4 : f4 (s3 (s2 (s1 x))) < 1157442765409226770 := by unfold f4; omega
  have h5 : f5 (f4 (s3 (s2 (s1 x)))) < 2314885530818453540 := by unfold f5; omega
  have h6 : f6 (f5 (f4 (s3 (s2 (s1 x))))) < 4629771061636907080 := by unfold f6; omega
  have H7 := Lib.hid (num_7 x)
  have B3 := Lib.hid b3
  have H4 := Lib.hid h4
  have H5 := Lib.hid h5
  have H6 := Lib.hid h6
  clear b1 b2 b3 b4 h4 h5 h6
  go_enter Tryd.func40, Tryd.ntmps40
  go_upto_region 1 with fail
  go_cut [0] (fun s0 wx => s0 = .int .u64 ((s1 x : Nat) : Int) ∧ w = wx)
  case first =>
    go_wp2
    go_meet
    exact ⟨congrArg (Value.int .u64) (num_1 x hx), rfl⟩
  obtain ⟨rfl, rfl⟩ := hcut
  go_upto_region 2 with fail
  go_cut [0] (fun s0 wx => s0 = .int .u64 ((s2 (s1 x) : Nat) : Int) ∧ w = wx)
  case first =>
    go_wp2
    go_meet
    exact ⟨congrArg (Value.int .u64) (num_2 x hx), rfl⟩
  obtain ⟨rfl, rfl⟩ := hcut
  go_upto_region 3 with fail
  go_cut [0] (fun s0 wx => s0 = .int .u64 ((s3 (s2 (s1 x)) : Nat) : Int) ∧ w = wx)
  case first =>
    go_wp2
    go_meet
    exact ⟨congrArg (Value.int .u64) (num_3 x hx), rfl⟩
  obtain ⟨rfl, rfl⟩ := hcut
  go_upto_region 4 with fail
  go_cut [0] (fun s0 wx => s0 = .int .u64 ((f4 (s3 (s2 (s1 x))) : Nat) : Int) ∧ w = wx)
  case first =>
    go_wp2
    go_meet
    exact ⟨congrArg (Value.int .u64) (num_4 _ B3.out), rfl⟩
  obtain ⟨rfl, rfl⟩ := hcut
  go_upto_region 5 with fail
  go_cut [0] (fun s0 wx => s0 = .int .u64 ((f5 (f4 (s3 (s2 (s1 x)))) : Nat) : Int) ∧ w = wx)
  case first =>
    go_wp2
    go_meet
    exact ⟨congrArg (Value.int .u64) (num_5 _ H4.out), rfl⟩
  obtain ⟨rfl, rfl⟩ := hcut
  go_upto_region 6 with fail
  go_cut [0] (fun s0 wx => s0 = .int .u64 ((f6 (f5 (f4 (s3 (s2 (s1 x))))) : Nat) : Int) ∧ w = wx)
  case first =>
    go_wp2
    go_meet
    exact ⟨congrArg (Value.int .u64) (num_6 _ H5.out), rfl⟩
  obtain ⟨rfl, rfl⟩ := hcut
  generalize f6 (f5 (f4 (s3 (s2 (s1 x))))) = z at H6 H7 ⊢
  have h6 := H6.out
  have hz : (z : Int) ≤ 9223372036854775807 := by omega
  have HA := Lib.hid (i64_and127 (z : Int))
  clear h6 H6
  go_wp2
  go_ret
  exact ⟨ret_i (by have := HA.out; have h7 := H7.out; refine Eq.trans ?_ (this.trans (by omega)); rfl), rfl⟩
theorem count_any (x : Nat) (hx : x < 18446744073709551616) (w : World) :
    Calls Tryd.prog 13 #[.int .u64 (x : Int)] w fun e w' => e = .returned (.int .i64 ((lb 64 x).length : Int)) ∧ w = w' := by
  have H := Lib.hid (cnt_lb x)
  go_enter Tryd.func13, Tryd.ntmps13
  go_wp2_with (go_at_call 40; refine (ones_any x hx _).mono ?_; rintro e w' ⟨rfl, rfl⟩)
  go_ret
  exact ⟨ret_i H.out, rfl⟩
end Go.Proofs.YtcchmkpodfjhcaaDoor
