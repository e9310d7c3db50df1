/-
  The walks of vergeref05.Has, one, Of, and of bits.Of.
-/
import Derived.Test.YtcchmkpodfjhcaaDoorB3
import Derived.Deep.RegionHeld3
import Derived.StillTailTactics
namespace Go.Proofs.YtcchmkpodfjhcaaDoor
open Go.RowKit Go.Shelf
set_option linter.unusedVariables false

theorem has_any (b m : Nat) (hb : b < 18446744073709551616) (hm : m < 64) (w : World) :
    Calls Tryd.prog 44 #[.int .u64 (b : Int), .int .i64 (m : Int)] w fun e w' => e = .returned (.bool (b.testBit m)) ∧ w = w' := by
  go_enter Tryd.func44, Tryd.ntmps44
  go_wp2
  go_loop [0, 5] (fun t i => ∃ (k d : Nat), k ≤ m ∧ t = .int .u64 (d : Int) ∧ i = .int .i64 k ∧ d < 18446744073709551616 ∧ Hid (d = b / 2 ^ k)) (fun _ i => 64 - (intOf i).toNat)
  case atStart => exact ⟨0, b, by omega, rfl, rfl, hb, by simp [Hid]⟩
  case round =>
    obtain ⟨k, d, hk, rfl, rfl, hd, hD⟩ := hrel
    by_cases hlt : k < m
    · have e1 : ((k : Int) == (m : Int)) = false := by simp; omega
      have e2 : ¬ k = m := by omega
      have hds := div_step b k
      rw [← hD.out] at hds
      have HDS := Lib.hid hds
      clear hds hD
      go_wp2
      go_round
      case rel => exact ⟨k + 1, d / 2, by omega, by go_num, by go_num, by omega, HDS.out.symm⟩
      case measure => simp [intOf]; omega
    · have e : k = m := by omega
      subst e
      have hbt := bit_div b k
      rw [← hD.out] at hbt
      have HB := Lib.hid hbt
      clear hbt hD
      go_wp2
      go_ret
      exact ⟨ret_bool (by rw [HB.out]; rw [Bool.eq_iff_iff]; simp; omega), rfl⟩
theorem one_any (m : Nat) (hm : m < 64) (w : World) :
    Calls Tryd.prog 45 #[.int .i64 (m : Int)] w fun e w' => e = .returned (.int .u64 ((2 ^ m : Nat) : Int)) ∧ w = w' := by
  go_enter Tryd.func45, Tryd.ntmps45
  go_wp2
  go_loop [3, 4] (fun t i => ∃ (k d : Nat), k ≤ m ∧ t = .int .u64 (d : Int) ∧ i = .int .i64 k ∧ Hid (d = 2 ^ k)) (fun _ i => 64 - (intOf i).toNat)
  case atStart => exact ⟨0, 1, by omega, rfl, rfl, by simp [Hid]⟩
  case round =>
    obtain ⟨k, d, hk, rfl, rfl, hD⟩ := hrel
    by_cases hlt : k < m
    · have hb : d * 2 < 18446744073709551616 := by
        have h1 : 2 ^ (k + 1) ≤ 2 ^ 63 := Nat.pow_le_pow_right (by omega) (by omega)
        rw [Nat.pow_succ, ← hD.out] at h1
        omega
      have HDS : Hid (d * 2 = 2 ^ (k + 1)) := by unfold Hid; rw [Nat.pow_succ, ← hD.out]
      clear hD
      go_wp2
      go_round
      case rel => exact ⟨k + 1, d * 2, by omega, by go_num, by go_num, HDS⟩
      case measure => simp [intOf]; omega
    · have e : k = m := by omega
      subst e
      go_wp2
      go_ret
      exact ⟨ret_u (by rw [hD.out]; simp), rfl⟩

/-! ### a set of numbers -/
def ofF (xs : List Int) : Nat := xs.foldl (fun b n => b ||| 2 ^ n.toNat) 0
theorem ofF_snoc (xs : List Int) (x : Int) : ofF (xs ++ [x]) = ofF xs ||| 2 ^ x.toNat := by unfold ofF; rw [List.foldl_append]; rfl
def okB (n : Int) : Bool := decide (0 ≤ n ∧ n ≤ 63)
def ofV (xs : List Int) : Nat := if xs.all okB then ofF xs else 0
def ofE (xs : List Int) : Int := if xs.all okB then 0 else 1
theorem of_bad {xs : List Int} {k : Nat} {x : Int} (hx : xs[k]? = some x) (h : okB x = false) : ofV xs = 0 ∧ ofE xs = 1 := by
  have : xs.all okB = false := by
    rw [List.all_eq_false]
    exact ⟨x, List.mem_of_getElem? hx, by simp [h]⟩
  unfold ofV ofE
  rw [this]; simp
theorem of_good {xs : List Int} (h : xs.all okB = true) : ofV xs = ofF xs ∧ ofE xs = 0 := by
  unfold ofV ofE
  rw [h]; simp
theorem all_snoc {xs : List Int} {k : Nat} {x : Int} (hx : xs[k]? = some x) (h : okB x = true) (ha : (xs.take k).all okB = true) : (xs.take (k + 1)).all okB = true := by
  rw [List.take_add_one, hx, List.all_append, ha]; simp [h]
theorem of_step {xs : List Int} {k : Nat} {x : Int} (hx : xs[k]? = some x) : ofF (xs.take (k + 1)) = ofF (xs.take k) ||| 2 ^ x.toNat := by
  rw [List.take_add_one, hx, ← ofF_snoc]; rfl

theorem or_num (d m : Nat) (hd : d < 18446744073709551616) (hm : m < 64) : Value.int .u64 (bits .or .u64 (d : Int) (IntKind.u64.wrap ((2 : Int) ^ m))) = .int .u64 ((d ||| 2 ^ m : Nat) : Int) := by
  have hp : 2 ^ m < 18446744073709551616 := Nat.pow_lt_pow_right (n := 64) (by omega) hm
  have e : (2 : Int) ^ m = ((2 ^ m : Nat) : Int) := by simp
  rw [e, u64_in _ hp, u64_or_nat _ _ hd hp]
theorem sum_num {d p q : Nat} (h : d + p = q) (hq : q < 18446744073709551616) : Value.int .u64 (IntKind.u64.wrap ((d : Int) + (p : Int))) = .int .u64 (q : Int) := by
  subst h
  rw [← Int.natCast_add, u64_in _ hq]
def ofR (xs : List Int) : Ending := .returned (.tuple #[.int .u64 (ofV xs : Int), .int .i64 (ofE xs)])
set_option maxHeartbeats 400000 in
theorem rof_any (A : Option Addr) (xs : List Int) (cap : Nat) (w : World) (h : Ints w w.heap.size A xs) (hl : xs.length ≤ 9223372036854775807) :
    Calls Tryd.prog 26 #[.slice A xs.length cap] w fun e w' => e = .returned (.tuple #[.int .u64 (ofV xs : Int), .int .i64 (ofE xs)]) ∧ w = w' := by
  go_enter Tryd.func26, Tryd.ntmps26
  go_wp2
  go_loop [4, 9] (fun t i => ∃ (k d : Nat), k ≤ xs.length ∧ t = .int .u64 (d : Int) ∧ i = .int .i64 k ∧ d < 18446744073709551616 ∧ Hid (d = ofF (xs.take k)) ∧ Hid ((xs.take k).all okB = true)) (fun _ i => xs.length - (intOf i).toNat)
  case atStart => exact ⟨0, 0, by omega, rfl, rfl, by omega, rfl, rfl⟩
  case round =>
    obtain ⟨k, d, hk, rfl, rfl, hd, hD, hA⟩ := hrel
    by_cases hlt : k < xs.length
    · obtain ⟨b, off, rfl, hbB, hc⟩ := h (by omega)
      have c0 := hc k hlt
      obtain ⟨x, hx⟩ : ∃ x, xs[k]? = some x := ⟨xs[k], List.getElem?_eq_getElem hlt⟩
      rw [hx] at c0
      simp only [Option.getD_some] at c0
      clear hc
      by_cases hok : 0 ≤ x ∧ x ≤ 63
      · obtain ⟨m, rfl⟩ := Int.eq_ofNat_of_zero_le hok.1
        have hm : m < 64 := by omega
        have hm2 : m ≤ 63 := by omega
        have hbk : okB (m : Int) = true := by simp only [okB]; exact decide_eq_true hok
        have HS := Lib.hid (of_step hx)
        have HA2 := Lib.hid (all_snoc hx hbk hA.out)
        have HD2 := hD
        have hlt2 : d ||| 2 ^ m < 18446744073709551616 := Nat.or_lt_two_pow (n := 64) hd (Nat.pow_lt_pow_right (by omega) (by omega))
        clear hx hok hbk hD hA
        obtain ⟨p, hp⟩ : ∃ p, p = 2 ^ m := ⟨_, rfl⟩
        have hone := one_any m hm
        rw [← hp] at hone hlt2
        have HP := Lib.hid hp
        have hps : d.testBit m = false → d + p = d ||| p := fun h => by rw [hp]; exact add_bit h
        have hpt : d.testBit m = true → d ||| p = d := fun h => by
          rw [hp]
          apply Nat.eq_of_testBit_eq
          intro i
          rw [Nat.testBit_or, Nat.testBit_two_pow]
          by_cases e : m = i
          · subst e; simp [h]
          · simp [e]
        have HPS := Lib.hid hps
        have HPT := Lib.hid hpt
        have HONE := Lib.hid hone
        clear hp hps hpt hone
        cases hbt : d.testBit m
        · have hsum := HPS.out hbt
          have HSUM := Lib.hid hsum
          clear hsum
          go_wp2_with (first | (go_at_call 44; refine (has_any d m hd hm _).mono ?_; rintro e w' ⟨rfl, rfl⟩) | (go_at_call 45; refine (HONE.out _).mono ?_; rintro e w' ⟨rfl, rfl⟩))
          go_round
          case rel => exact ⟨k + 1, d ||| p, by omega, sum_num HSUM.out hlt2, by go_num, hlt2, by unfold Hid; rw [HS.out, ← HD2.out, HP.out]; rfl, HA2⟩
          case measure => simp [intOf]; omega
        · have HE := Lib.hid (HPT.out hbt)
          go_wp2_with (first | (go_at_call 44; refine (has_any d m hd hm _).mono ?_; rintro e w' ⟨rfl, rfl⟩) | (go_at_call 45; refine (HONE.out _).mono ?_; rintro e w' ⟨rfl, rfl⟩))
          go_round
          case rel => exact ⟨k + 1, d, by omega, rfl, by go_num, hd, by unfold Hid; have e1 := HE.out; rw [HP.out] at e1; rw [HS.out, ← HD2.out]; exact e1.symm, HA2⟩
          case measure => simp [intOf]; omega
      · have hb := Lib.hid (of_bad hx (by simp only [okB]; exact decide_eq_false hok))
        clear hx
        by_cases hn : x < 0
        · go_wp2
          go_ret2
          exact ⟨by rw [hb.out.1, hb.out.2]; rfl, rfl⟩
        · have h63 : 63 < x := by omega
          clear hok
          go_wp2
          go_ret2
          exact ⟨by rw [hb.out.1, hb.out.2]; rfl, rfl⟩
    · have ha := hA.out
      have hd2 := hD.out
      rw [List.take_of_length_le (by omega)] at ha hd2
      have HG := Lib.hid (of_good ha)
      have HD3 := Lib.hid hd2
      clear hA hD ha hd2
      go_wp2
      go_ret2
      exact ⟨by rw [HG.out.1, HG.out.2, ← HD3.out]; rfl, rfl⟩
set_option maxHeartbeats 400000 in
theorem of_any (A : Option Addr) (xs : List Int) (cap : Nat) (w : World) (h : Ints w w.heap.size A xs) (hl : xs.length ≤ 9223372036854775807) :
    Calls Tryd.prog 25 #[.slice A xs.length cap] w fun e w' => e = .returned (.tuple #[.int .u64 (ofV xs : Int), .int .i64 (ofE xs)]) ∧ w = w' := by
  go_enter Tryd.func25, Tryd.ntmps25
  go_wp2
  go_loop [4, 9] (fun t i => ∃ (k d : Nat), k ≤ xs.length ∧ t = .int .u64 (d : Int) ∧ i = .int .i64 k ∧ d < 18446744073709551616 ∧ Hid (d = ofF (xs.take k)) ∧ Hid ((xs.take k).all okB = true)) (fun _ i => xs.length - (intOf i).toNat)
  case atStart => exact ⟨0, 0, by omega, rfl, rfl, by omega, rfl, rfl⟩
  case round =>
    obtain ⟨k, d, hk, rfl, rfl, hd, hD, hA⟩ := hrel
    by_cases hlt : k < xs.length
    · obtain ⟨b, off, rfl, hbB, hc⟩ := h (by omega)
      have c0 := hc k hlt
      obtain ⟨x, hx⟩ : ∃ x, xs[k]? = some x := ⟨xs[k], List.getElem?_eq_getElem hlt⟩
      rw [hx] at c0
      simp only [Option.getD_some] at c0
      clear hc
      by_cases hok : 0 ≤ x ∧ x ≤ 63
      · obtain ⟨m, rfl⟩ := Int.eq_ofNat_of_zero_le hok.1
        have hm : m < 64 := by omega
        have hm2 : m ≤ 63 := by omega
        have hbk : okB (m : Int) = true := by simp only [okB]; exact decide_eq_true hok
        have HS := Lib.hid (of_step hx)
        have HA2 := Lib.hid (all_snoc hx hbk hA.out)
        have HD2 := hD
        have hlt2 : d ||| 2 ^ m < 18446744073709551616 := Nat.or_lt_two_pow (n := 64) hd (Nat.pow_lt_pow_right (by omega) (by omega))
        clear hx hok hbk hD hA
        go_wp2
        go_round
        case rel => exact ⟨k + 1, d ||| 2 ^ m, by omega, or_num d m hd hm, by go_num, hlt2, by unfold Hid; rw [HS.out, ← HD2.out]; rfl, HA2⟩
        case measure => simp [intOf]; omega
      · have hb := Lib.hid (of_bad hx (by simp only [okB]; exact decide_eq_false hok))
        clear hx
        by_cases hn : x < 0
        · go_wp2
          go_ret2
          exact ⟨by rw [hb.out.1, hb.out.2]; rfl, rfl⟩
        · have h63 : 63 < x := by omega
          clear hok
          go_wp2
          go_ret2
          exact ⟨by rw [hb.out.1, hb.out.2]; rfl, rfl⟩
    · have ha := hA.out
      have hd2 := hD.out
      rw [List.take_of_length_le (by omega)] at ha hd2
      have HG := Lib.hid (of_good ha)
      have HD3 := Lib.hid hd2
      clear hA hD ha hd2
      go_wp2
      go_ret2
      exact ⟨by rw [HG.out.1, HG.out.2, ← HD3.out]; rfl, rfl⟩
end Go.Proofs.YtcchmkpodfjhcaaDoor
