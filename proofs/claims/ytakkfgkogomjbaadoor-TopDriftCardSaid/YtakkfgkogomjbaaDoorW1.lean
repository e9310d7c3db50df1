/-
  The wheel: the walks of slot, start and home.
-/
import Derived.Test.YtakkfgkogomjbaaDoorWA
import Derived.Laws.BitsLemmas
import Derived.IntWalk
namespace Go.Proofs.YtakkfgkogomjbaaDoor
open Go.RowKit
set_option linter.unusedVariables false
theorem and63 (x : Int) (h0 : 0 ≤ x) (h1 : x ≤ 4503599627370496) : bits BinOp.and IntKind.i64 x 63 = x % 64 := by
  obtain ⟨n, rfl⟩ := Int.eq_ofNat_of_zero_le h0
  have h := (bits_nat .i64 62 (by decide) (fun m a b => IntWalk.i64_in m (by omega)) n 63 (by omega) (by omega)).1
  rw [show (63 : Nat) = 2 ^ 6 - 1 from rfl, Nat.and_two_pow_sub_one_eq_mod] at h
  refine h.trans ?_
  omega
theorem orI (i : Nat) (x y : Int) (hx0 : 0 ≤ x) (hx : x % 2 ^ i = 0) (hx1 : x ≤ 4503599627370496) (hy0 : 0 ≤ y) (hy : y < 2 ^ i) (hi : (2 : Int) ^ i ≤ 4503599627370496) : bits BinOp.or IntKind.i64 x y = x + y :=
  bits_join .i64 62 (by decide) (fun m a b => IntWalk.i64_in m (by omega)) i x y hx0 hx (by omega) hy0 hy (by omega)
set_option maxHeartbeats 1000000 in
theorem slot_any (t : Int) (l : Nat) (w : World) (h0 : 0 ≤ t) (h1 : t ≤ 4503599627370496) (hl : l < 4) : Calls Tryd.prog 48 #[.int .i64 t, .int .i64 l] w fun e w' => e = .returned (.int .i64 (t / 64 ^ l % 64)) ∧ w = w' := by
  have e : l = 0 ∨ l = 1 ∨ l = 2 ∨ l = 3 := by omega
  rcases e with rfl | rfl | rfl | rfl
  · go_enter Tryd.func48, Tryd.ntmps48
    go_wp2
    go_ret
    exact ⟨ret_i (by show bits BinOp.and IntKind.i64 t 63 = _; rw [and63 _ h0 h1]; simp), rfl⟩
  · go_enter Tryd.func48, Tryd.ntmps48
    go_wp2
    go_ret
    exact ⟨ret_i (by show bits BinOp.and IntKind.i64 (t / 64) 63 = _; rw [and63 _ (by omega) (by omega)]; simp), rfl⟩
  · go_enter Tryd.func48, Tryd.ntmps48
    go_wp2
    go_ret
    exact ⟨ret_i (by show bits BinOp.and IntKind.i64 (t / 4096) 63 = _; rw [and63 _ (by omega) (by omega)]; simp), rfl⟩
  · go_enter Tryd.func48, Tryd.ntmps48
    go_wp2
    go_ret
    exact ⟨ret_i (by show bits BinOp.and IntKind.i64 (t / 262144) 63 = _; rw [and63 _ (by omega) (by omega)]; simp), rfl⟩
set_option maxHeartbeats 1000000 in
theorem start_any (t : Int) (l n : Nat) (w : World) (h0 : 0 ≤ t) (h1 : t ≤ 4503599627370496) (hl : l < 4) (hn : n < 64) : Calls Tryd.prog 63 #[.int .i64 t, .int .i64 l, .int .i64 n] w fun e w' => e = .returned (.int .i64 (t / 64 ^ (l + 1) * 64 ^ (l + 1) + n * 64 ^ l)) ∧ ∃ k, w' = w.drewN k := by
  have e : l = 0 ∨ l = 1 ∨ l = 2 ∨ l = 3 := by omega
  rcases e with rfl | rfl | rfl | rfl
  · go_enter Tryd.func63, Tryd.ntmps63
    go_wp2_with fail
    go_quiet (fail)
    go_wp2
    go_ret
    exact ⟨ret_i (by show bits BinOp.or IntKind.i64 (t / 64 * 64) n = _; rw [orI 6 _ _ (by omega) (by omega) (by omega) (by omega) (by omega) (by decide)]; simp), _, rfl⟩
  · go_enter Tryd.func63, Tryd.ntmps63
    go_wp2_with fail
    go_quiet (fail)
    go_wp2
    go_ret
    exact ⟨ret_i (by show bits BinOp.or IntKind.i64 (t / 4096 * 4096) (n * 64) = _; rw [orI 12 _ _ (by omega) (by omega) (by omega) (by omega) (by omega) (by decide)]; simp), _, rfl⟩
  · go_enter Tryd.func63, Tryd.ntmps63
    go_wp2_with fail
    go_quiet (fail)
    go_wp2
    go_ret
    exact ⟨ret_i (by show bits BinOp.or IntKind.i64 (t / 262144 * 262144) (n * 4096) = _; rw [orI 18 _ _ (by omega) (by omega) (by omega) (by omega) (by omega) (by decide)]; simp), _, rfl⟩
  · go_enter Tryd.func63, Tryd.ntmps63
    go_wp2_with fail
    go_quiet (fail)
    go_wp2
    go_ret
    exact ⟨ret_i (by show bits BinOp.or IntKind.i64 (t / 16777216 * 16777216) (n * 262144) = _; rw [orI 24 _ _ (by omega) (by omega) (by omega) (by omega) (by omega) (by decide)]; simp), _, rfl⟩
/-- A timer's list is told by the levels, one by one. -/
theorem hm_lv {now a : Int} (h0 : 0 ≤ now) (h : now < a) : ∀ l : Nat, l < 4 → (∀ j, j < l → a / 64 ^ (j + 1) ≠ now / 64 ^ (j + 1)) → a / 64 ^ (l + 1) = now / 64 ^ (l + 1) → (hm now a : Int) = l * 64 + a / 64 ^ l % 64 := by
  intro l hl hj he
  have e : l = 0 ∨ l = 1 ∨ l = 2 ∨ l = 3 := by omega
  have j0 : 0 < l → a / 64 ≠ now / 64 := fun h => by simpa using hj 0 h
  have j1 : 1 < l → a / 4096 ≠ now / 4096 := fun h => by simpa using hj 1 h
  have j2 : 2 < l → a / 262144 ≠ now / 262144 := fun h => by simpa using hj 2 h
  rcases way h with ⟨g1, g2, g3⟩ | ⟨g1, g2, g3, g4⟩ | ⟨g1, g2, g3, g4⟩ | ⟨g1, g2, g3, g4⟩ | ⟨g1, g2, g3⟩ <;>
  rcases e with rfl | rfl | rfl | rfl <;> simp only [Int.reducePow, Nat.zero_add, Nat.reduceAdd, Int.cast_ofNat_Int, Int.pow_zero, Int.ediv_one] at he ⊢ <;> omega
theorem hm_far {now a : Int} (h : now < a) (hj : ∀ j, j < 4 → a / 64 ^ (j + 1) ≠ now / 64 ^ (j + 1)) : hm now a = 256 := by
  have j0 : a / 64 ≠ now / 64 := by simpa using hj 0 (by omega)
  have j1 : a / 4096 ≠ now / 4096 := by simpa using hj 1 (by omega)
  have j2 : a / 262144 ≠ now / 262144 := by simpa using hj 2 (by omega)
  have j3 : a / 16777216 ≠ now / 16777216 := by simpa using hj 3 (by omega)
  rcases way h with ⟨g1, g2, g3⟩ | ⟨g1, g2, g3, g4⟩ | ⟨g1, g2, g3, g4⟩ | ⟨g1, g2, g3, g4⟩ | ⟨g1, g2, g3⟩ <;> omega
set_option maxHeartbeats 2000000 in
theorem home_any (wb : Nat) (now a : Int) (w : World) (hn : w.cell? ⟨wb, 0, none⟩ = some (.int .i64 now)) (h0 : 0 ≤ now) (h1 : now ≤ 4503599627370496) (a0 : 0 ≤ a) (a1 : a ≤ 4503599627370496) :
    Calls Tryd.prog 30 #[.pointer (some ⟨wb, 0, none⟩), .int .i64 a] w fun e w' => e = .returned (.int .i64 (hm now a)) ∧ ∃ k, w' = w.drewN k := by
  by_cases hle : a ≤ now
  · have he : hm now a = 257 := (hm_due now a).2 hle
    have t1 : decide (a ≤ now) = true := decide_eq_true hle
    rw [he]
    go_enter Tryd.func30, Tryd.ntmps30
    go_wp2
    go_ret
    exact ⟨rfl, 0, rfl⟩
  · have t1 : decide (a ≤ now) = false := decide_eq_false hle
    have HL := Lib.hid (show now < a by omega)
    clear hle
    go_enter Tryd.func30, Tryd.ntmps30
    go_wp2_with fail
    go_loopw [12] (fun l wr => ∃ k : Nat, k ≤ 4 ∧ l = .int .i64 k ∧ Hid (∀ j, j < k → a / 64 ^ (j + 1) ≠ now / 64 ^ (j + 1)) ∧ ∃ n, wr = w.drewN n) (fun l _ => 4 - (intOf l).toNat)
    case atStart => exact ⟨0, by omega, rfl, fun j hj => by omega, 0, rfl⟩
    case round =>
      obtain ⟨k, hk, rfl, hj, n, rfl⟩ := hrel
      by_cases hlt : k < 4
      · have e : k = 0 ∨ k = 1 ∨ k = 2 ∨ k = 3 := by omega
        clear hlt hk
        rcases e with rfl | rfl | rfl | rfl
        · by_cases he : a / 64 = now / 64
          · have t2 : (a / 64 == now / 64) = true := beq_iff_eq.2 he
            have HK := Lib.hid (show (hm now a : Int) = 0 + a % 64 from by
              have := hm_lv h0 HL.out 0 (by omega) hj.out (by simpa using he)
              simpa using this)
            clear he
            go_wp2_with fail
            go_quiet (fail)
            go_wp2_with (go_at_call 48; refine (slot_any a 0 _ a0 a1 (by omega)).mono ?_; rintro e w' ⟨rfl, rfl⟩)
            go_ret
            exact ⟨ret_i (by first | (rw [HK.out]; done) | (rw [HK.out]; simp)), _, rfl⟩
          · have t2 : (a / 64 == now / 64) = false := by simpa using he
            have HJ := Lib.hid (show ∀ j, j < 1 → a / 64 ^ (j + 1) ≠ now / 64 ^ (j + 1) from fun j hj' => by
              rcases Nat.lt_succ_iff_lt_or_eq.1 hj' with h | rfl
              · exact hj.out j h
              · simpa using he)
            clear he
            go_wp2_with fail
            go_quiet (fail)
            go_wp2
            go_roundw
            case rel => exact ⟨1, by omega, by first | rfl | go_num, HJ, _, rfl⟩
            case measure => simp [intOf]
        · by_cases he : a / 4096 = now / 4096
          · have t2 : (a / 4096 == now / 4096) = true := beq_iff_eq.2 he
            have HK := Lib.hid (show (hm now a : Int) = 64 + a / 64 % 64 from by
              have := hm_lv h0 HL.out 1 (by omega) hj.out (by simpa using he)
              simpa using this)
            clear he
            go_wp2_with fail
            go_quiet (fail)
            go_wp2_with (go_at_call 48; refine (slot_any a 1 _ a0 a1 (by omega)).mono ?_; rintro e w' ⟨rfl, rfl⟩)
            go_ret
            exact ⟨ret_i (by first | (rw [HK.out]; done) | (rw [HK.out]; simp)), _, rfl⟩
          · have t2 : (a / 4096 == now / 4096) = false := by simpa using he
            have HJ := Lib.hid (show ∀ j, j < 2 → a / 64 ^ (j + 1) ≠ now / 64 ^ (j + 1) from fun j hj' => by
              rcases Nat.lt_succ_iff_lt_or_eq.1 hj' with h | rfl
              · exact hj.out j h
              · simpa using he)
            clear he
            go_wp2_with fail
            go_quiet (fail)
            go_wp2
            go_roundw
            case rel => exact ⟨2, by omega, by first | rfl | go_num, HJ, _, rfl⟩
            case measure => simp [intOf]
        · by_cases he : a / 262144 = now / 262144
          · have t2 : (a / 262144 == now / 262144) = true := beq_iff_eq.2 he
            have HK := Lib.hid (show (hm now a : Int) = 128 + a / 4096 % 64 from by
              have := hm_lv h0 HL.out 2 (by omega) hj.out (by simpa using he)
              simpa using this)
            clear he
            go_wp2_with fail
            go_quiet (fail)
            go_wp2_with (go_at_call 48; refine (slot_any a 2 _ a0 a1 (by omega)).mono ?_; rintro e w' ⟨rfl, rfl⟩)
            go_ret
            exact ⟨ret_i (by first | (rw [HK.out]; done) | (rw [HK.out]; simp)), _, rfl⟩
          · have t2 : (a / 262144 == now / 262144) = false := by simpa using he
            have HJ := Lib.hid (show ∀ j, j < 3 → a / 64 ^ (j + 1) ≠ now / 64 ^ (j + 1) from fun j hj' => by
              rcases Nat.lt_succ_iff_lt_or_eq.1 hj' with h | rfl
              · exact hj.out j h
              · simpa using he)
            clear he
            go_wp2_with fail
            go_quiet (fail)
            go_wp2
            go_roundw
            case rel => exact ⟨3, by omega, by first | rfl | go_num, HJ, _, rfl⟩
            case measure => simp [intOf]
        · by_cases he : a / 16777216 = now / 16777216
          · have t2 : (a / 16777216 == now / 16777216) = true := beq_iff_eq.2 he
            have HK := Lib.hid (show (hm now a : Int) = 192 + a / 262144 % 64 from by
              have := hm_lv h0 HL.out 3 (by omega) hj.out (by simpa using he)
              simpa using this)
            clear he
            go_wp2_with fail
            go_quiet (fail)
            go_wp2_with (go_at_call 48; refine (slot_any a 3 _ a0 a1 (by omega)).mono ?_; rintro e w' ⟨rfl, rfl⟩)
            go_ret
            exact ⟨ret_i (by first | (rw [HK.out]; done) | (rw [HK.out]; simp)), _, rfl⟩
          · have t2 : (a / 16777216 == now / 16777216) = false := by simpa using he
            have HJ := Lib.hid (show ∀ j, j < 4 → a / 64 ^ (j + 1) ≠ now / 64 ^ (j + 1) from fun j hj' => by
              rcases Nat.lt_succ_iff_lt_or_eq.1 hj' with h | rfl
              · exact hj.out j h
              · simpa using he)
            clear he
            go_wp2_with fail
            go_quiet (fail)
            go_wp2
            go_roundw
            case rel => exact ⟨4, by omega, by first | rfl | go_num, HJ, _, rfl⟩
            case measure => simp [intOf]
      · obtain rfl : k = 4 := by omega
        have HF := Lib.hid (hm_far HL.out hj.out)
        clear hlt hk
        go_wp2
        go_ret
        exact ⟨ret_i (by rw [HF.out]; rfl), _, rfl⟩
end Go.Proofs.YtakkfgkogomjbaaDoor
