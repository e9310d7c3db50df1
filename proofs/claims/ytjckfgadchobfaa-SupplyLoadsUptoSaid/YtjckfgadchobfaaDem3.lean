/-
  The walks of package demand and of its reference (vergeref23), part 3: times, Check, Use, the reference's All.
-/
import Derived.Test.YtjckfgadchobfaaDemS
namespace Go.Proofs.Ytjckfgadchobfaa
open Go.RowKit
set_option linter.unusedVariables false

set_option maxHeartbeats 400000 in
theorem rdcheck_any (A : Option Addr) (xs : List Q4) (cap : Nat) (w : World) (h : R4 w w.heap.size A xs) (hl : xs.length ≤ 9223372036854775807) :
    Calls Try.prog 44 #[.slice A xs.length cap] w fun e w' => e = .returned (.int .i64 (ldsE xs)) ∧ Below w.heap.size w w' := by
  by_cases hn : 256 < xs.length
  · go_enter Try.func44, Try.ntmps44
    go_wp2
    go_ret
    exact ⟨ret_i (by unfold ldsE; rw [if_pos (.inl hn)]), Below.refl _ _⟩
  have hn' : xs.length ≤ 256 := by omega
  have HN := Lib.hid hn
  clear hn
  go_enter Try.func44, Try.ntmps44
  go_wp2
  go_loopw [10] (fun i wr => ∃ (k : Nat), k ≤ xs.length ∧ i = .int .i64 k ∧ Below w.heap.size w wr ∧ Hid (xs.all ldB = (xs.drop k).all ldB)) (fun i _ => xs.length - (intOf i).toNat)
  case atStart => exact ⟨0, by omega, rfl, Below.refl _ _, rfl⟩
  case round =>
    obtain ⟨k, hk, rfl, hbl, hs⟩ := hrel
    by_cases hlt : k < xs.length
    · obtain ⟨b, off, rfl, hbB, hc⟩ := h (by omega)
      obtain ⟨x, hx⟩ := some_at hlt
      obtain ⟨c1, c2, c3, c4⟩ := hc k x hx
      replace c1 := (hbl.cell (p := ⟨b, off + k * 4, none⟩) hbB).trans c1
      replace c2 := (hbl.cell (p := ⟨b, off + k * 4 + 1, none⟩) hbB).trans c2
      replace c3 := (hbl.cell (p := ⟨b, off + k * 4 + 2, none⟩) hbB).trans c3
      replace c4 := (hbl.cell (p := ⟨b, off + k * 4 + 3, none⟩) hbB).trans c4
      have hs' := hs.out
      rw [dropR_cons hx, List.all_cons] at hs'
      have HS := Lib.hid hs'
      clear hs' hs hc hx
      obtain ⟨xa, xb, xc, xd⟩ := x
      simp only at c1 c2 c3 c4
      cases hr : ldB ⟨xa, xb, xc, xd⟩
      · go_wp2_with (first | (go_at_call 72; refine (rright_any _ _ _ _ _).mono ?_; rintro e w1 ⟨rfl, hb⟩))
        go_ret
        exact ⟨ret_i (by have := HS.out; unfold ldsE; rw [this, hr]; simp), hbl.next1 hbl.size hb⟩
      · go_wp2_with (first | (go_at_call 72; refine (rright_any _ _ _ _ _).mono ?_; rintro e w1 ⟨rfl, hb⟩))
        go_roundw
        case rel => exact ⟨k + 1, by omega, by go_num, hbl.next1 hbl.size hb, by have := HS.out; unfold Hid; rw [this, hr]; simp⟩
        case measure => simp [intOf]; omega
    · go_wp2
      go_ret
      exact ⟨ret_i (by have := hs.out; rw [List.drop_eq_nil_of_le (by omega)] at this; unfold ldsE; rw [this]; simp; omega), hbl⟩

theorem lds_two {xs : List Q4} (h : ¬ ldsE xs = 0) : ldsE xs = 2 := by
  unfold ldsE at *
  split
  · rfl
  · rename_i hc; rw [if_neg hc] at h; exact absurd rfl h

/-- One number so many times, up to a limit. -/
theorem times_over (n c L : Int) (hc : 0 < c) (hc1 : c ≤ 1099511627776) (hL : 0 ≤ L) (hL1 : L ≤ 4503599627370496) (h : L / c < n) (w : World) :
    Calls Try.prog 69 #[.int .i64 n, .int .i64 c, .int .i64 L] w fun e w' => e = .returned (.tuple #[.int .i64 0, .bool false]) ∧ w = w' := by
  have q0 : 0 ≤ L / c := Int.ediv_nonneg hL (by omega)
  have q1 : L / c ≤ L := Int.ediv_le_self c hL
  go_enter Try.func69, Try.ntmps69
  go_wp2
  go_ret2
  exact ⟨rfl, rfl⟩
theorem times_fits (n c L : Int) (hc : 0 ≤ c) (hc1 : c ≤ 1099511627776) (hL : 0 ≤ L) (hL1 : L ≤ 4503599627370496) (h : ¬ (0 < c ∧ L / c < n)) (h1 : 0 ≤ n * c) (h2 : n * c ≤ L) (w : World) :
    Calls Try.prog 69 #[.int .i64 n, .int .i64 c, .int .i64 L] w fun e w' => e = .returned (.tuple #[.int .i64 (n * c), .bool true]) ∧ w = w' := by
  by_cases c0 : 0 < c
  · have q0 : 0 ≤ L / c := Int.ediv_nonneg hL (by omega)
    have q1 : L / c ≤ L := Int.ediv_le_self c hL
    have q2 : n ≤ L / c := by omega
    clear h
    go_enter Try.func69, Try.ntmps69
    go_wp2
    go_ret2
    exact ⟨rfl, rfl⟩
  · have c1 : c ≤ 0 := by omega
    clear h c0
    go_enter Try.func69, Try.ntmps69
    go_wp2
    go_ret2
    exact ⟨rfl, rfl⟩

set_option maxHeartbeats 1000000 in
theorem use_any (A : Option Addr) (xs : List Q4) (cap : Nat) (w : World) (h : R4 w w.heap.size A xs) (hl : xs.length ≤ 9223372036854775807) :
    Calls Try.prog 40 #[.slice A xs.length cap] w fun e w' => e = .returned (.tuple #[.int .i64 (usV xs), .int .i64 (usE xs)]) ∧ Below w.heap.size w w' := by
  by_cases hE : ldsE xs = 0
  · have hp := (lds_parts hE).2
    have HP := Lib.hid hp
    have hE1 := Lib.hid hE
    have hlen := (lds_parts hE).1
    clear hp
    go_enter Try.func40, Try.ntmps40
    go_wp2_with (first | (go_at_call 43; refine (dcheck_any A xs _ _ h hl).mono ?_; rintro e w1 ⟨rfl, hb⟩))
    go_loopw [5, 15] (fun u i wr => ∃ (k : Nat) (s : Int), k ≤ xs.length ∧ i = .int .i64 k ∧ u = .int .i64 s ∧ 0 ≤ s ∧ s ≤ 4503599627370496 ∧ Below w.heap.size w wr ∧ Hid (sumU (xs.take k) = some s)) (fun _ i _ => xs.length - (intOf i).toNat)
    case atStart => exact ⟨0, 0, by omega, rfl, rfl, by omega, by omega, hb, rfl⟩
    case round =>
      obtain ⟨k, s, hk, rfl, rfl, s0, s1, hbl, hs⟩ := hrel
      by_cases hlt : k < xs.length
      · obtain ⟨b, off, rfl, hbB, hc⟩ := h (by omega)
        obtain ⟨x, hx⟩ := some_at hlt
        obtain ⟨c1, c2, c3, c4⟩ := hc k x hx
        replace c1 := (hbl.cell (p := ⟨b, off + k * 4, none⟩) hbB).trans c1
        replace c2 := (hbl.cell (p := ⟨b, off + k * 4 + 1, none⟩) hbB).trans c2
        replace c3 := (hbl.cell (p := ⟨b, off + k * 4 + 2, none⟩) hbB).trans c3
        replace c4 := (hbl.cell (p := ⟨b, off + k * 4 + 3, none⟩) hbB).trans c4
        have hld := HP.out k x hx
        obtain ⟨x1, x2, x3, x4, x5, x6, x7, x8, x9⟩ := ldB_parts hld
        have hsn := sumU_snoc (xs.take k) x
        rw [← takeR_snoc hx, hs.out, addU_some] at hsn
        obtain ⟨u1, u2⟩ := up_le (x.d * 1000000) x.a (by omega) x1
        have ur := up_ref (x.d * 1000000) x.a (by omega) x1
        have d1 : 0 ≤ x.d * 1000000 / x.a := Int.ediv_nonneg (by omega) (by omega)
        have d2 : x.d * 1000000 / x.a ≤ x.d * 1000000 := Int.ediv_le_self _ (by omega)
        have hud : upD (x.d * 1000000) x.a = (x.d * 1000000 + x.a - 1) / x.a := rfl
        rw [hud] at hsn
        clear hc hx hs hud
        obtain ⟨xa, xb, xc, xd⟩ := x
        simp only at c1 c2 c3 c4 x1 x2 x7 x8 u1 u2 d1 d2 hsn ur
        by_cases hr : xd * 1000000 % xa = 0
        · have hr' : (xd * 1000000 % xa != 0) = false := by simp [hr]
          rw [if_pos hr] at ur
          have UR := Lib.hid ur
          clear ur hr
          by_cases ho : 4503599627370496 < s + (xd * 1000000 + xa - 1) / xa
          · rw [if_pos ho] at hsn
            have HS := Lib.hid hsn
            have ho2 : 4503599627370496 < s + xd * 1000000 / xa := by rw [← UR.out]; exact ho
            clear hsn
            go_wp2
            go_ret2
            exact ⟨ret_ii (by rw [(us_over hE1.out (sumU_none HS.out)).2]) (by rw [(us_over hE1.out (sumU_none HS.out)).1]), hbl.alloc hbl.size _⟩
          · rw [if_neg ho] at hsn
            have HS := Lib.hid hsn
            have ho1 : s + (xd * 1000000 + xa - 1) / xa ≤ 4503599627370496 := by omega
            have ho2 : s + xd * 1000000 / xa ≤ 4503599627370496 := by rw [← UR.out]; exact ho1
            clear hsn ho
            go_wp2
            go_roundw
            case rel => exact ⟨k + 1, _, by omega, by go_num, rfl, by omega, by omega, hbl.alloc hbl.size _, by have := HS.out; have e := UR.out; unfold Hid; first | exact this | (rw [e] at this; exact this)⟩
            case measure => simp [intOf]; omega
        · have hr' : (xd * 1000000 % xa != 0) = true := by simp [hr]
          rw [if_neg hr] at ur
          have UR := Lib.hid ur
          clear ur hr
          by_cases ho : 4503599627370496 < s + (xd * 1000000 + xa - 1) / xa
          · rw [if_pos ho] at hsn
            have HS := Lib.hid hsn
            have ho2 : 4503599627370496 < s + xd * 1000000 / xa + 1 := by have := UR.out; omega
            clear hsn
            go_wp2
            go_ret2
            exact ⟨ret_ii (by rw [(us_over hE1.out (sumU_none HS.out)).2]) (by rw [(us_over hE1.out (sumU_none HS.out)).1]), hbl.alloc hbl.size _⟩
          · rw [if_neg ho] at hsn
            have HS := Lib.hid hsn
            have ho1 : s + (xd * 1000000 + xa - 1) / xa ≤ 4503599627370496 := by omega
            have ho2 : s + xd * 1000000 / xa + 1 ≤ 4503599627370496 := by have := UR.out; omega
            clear hsn ho
            go_wp2
            go_roundw
            case rel => exact ⟨k + 1, _, by omega, by go_num, rfl, by omega, by omega, hbl.alloc hbl.size _, by have := HS.out; have e := UR.out; unfold Hid; first | exact this | (rw [e, ← Int.add_assoc] at this; exact this)⟩
            case measure => simp [intOf]; omega
      · have hs' := hs.out
        rw [List.take_of_length_le (by omega)] at hs'
        have HS := Lib.hid hs'
        clear hs hs'
        go_wp2
        go_ret2
        exact ⟨ret_ii (by rw [(us_sum hE1.out HS.out).2]) (by rw [(us_sum hE1.out HS.out).1]), hbl⟩
  · have hE2 : ldsE xs = 2 := lds_two hE
    go_enter Try.func40, Try.ntmps40
    go_wp2_with (first | (go_at_call 43; refine (dcheck_any A xs _ _ h hl).mono ?_; rintro e w1 ⟨rfl, hb⟩))
    all_goals go_ret2
    all_goals exact ⟨ret_ii (by unfold usV usE; simp [hE2]) (by unfold usE; simp [hE2]), hb⟩
set_option maxHeartbeats 1000000 in
theorem ruse_any (A : Option Addr) (xs : List Q4) (cap : Nat) (w : World) (h : R4 w w.heap.size A xs) (hl : xs.length ≤ 9223372036854775807) :
    Calls Try.prog 41 #[.slice A xs.length cap] w fun e w' => e = .returned (.tuple #[.int .i64 (usV xs), .int .i64 (usE xs)]) ∧ Below w.heap.size w w' := by
  by_cases hE : ldsE xs = 0
  · have hp := (lds_parts hE).2
    have HP := Lib.hid hp
    have hE1 := Lib.hid hE
    have hlen := (lds_parts hE).1
    clear hp
    go_enter Try.func41, Try.ntmps41
    go_wp2_with (first | (go_at_call 44; refine (rdcheck_any A xs _ _ h hl).mono ?_; rintro e w1 ⟨rfl, hb⟩))
    go_loopw [4, 13] (fun u i wr => ∃ (k : Nat) (s : Int), k ≤ xs.length ∧ i = .int .i64 k ∧ u = .int .i64 s ∧ 0 ≤ s ∧ s ≤ 4503599627370496 ∧ Below w.heap.size w wr ∧ Hid (sumU (xs.take k) = some s)) (fun _ i _ => xs.length - (intOf i).toNat)
    case atStart => exact ⟨0, 0, by omega, rfl, rfl, by omega, by omega, hb, rfl⟩
    case round =>
      obtain ⟨k, s, hk, rfl, rfl, s0, s1, hbl, hs⟩ := hrel
      by_cases hlt : k < xs.length
      · obtain ⟨b, off, rfl, hbB, hc⟩ := h (by omega)
        obtain ⟨x, hx⟩ := some_at hlt
        obtain ⟨c1, c2, c3, c4⟩ := hc k x hx
        replace c1 := (hbl.cell (p := ⟨b, off + k * 4, none⟩) hbB).trans c1
        replace c2 := (hbl.cell (p := ⟨b, off + k * 4 + 1, none⟩) hbB).trans c2
        replace c3 := (hbl.cell (p := ⟨b, off + k * 4 + 2, none⟩) hbB).trans c3
        replace c4 := (hbl.cell (p := ⟨b, off + k * 4 + 3, none⟩) hbB).trans c4
        have hld := HP.out k x hx
        obtain ⟨x1, x2, x3, x4, x5, x6, x7, x8, x9⟩ := ldB_parts hld
        have hsn := sumU_snoc (xs.take k) x
        rw [← takeR_snoc hx, hs.out, addU_some] at hsn
        obtain ⟨u1, u2⟩ := up_le (x.d * 1000000) x.a (by omega) x1
        have ur := up_ref (x.d * 1000000) x.a (by omega) x1
        have d1 : 0 ≤ x.d * 1000000 / x.a := Int.ediv_nonneg (by omega) (by omega)
        have d2 : x.d * 1000000 / x.a ≤ x.d * 1000000 := Int.ediv_le_self _ (by omega)
        have hud : upD (x.d * 1000000) x.a = (x.d * 1000000 + x.a - 1) / x.a := rfl
        rw [hud] at hsn
        clear hc hx hs hud
        obtain ⟨xa, xb, xc, xd⟩ := x
        simp only at c1 c2 c3 c4 x1 x2 x7 x8 u1 u2 d1 d2 hsn ur
        by_cases hr : xd * 1000000 % xa = 0
        · have hr' : (xd * 1000000 % xa != 0) = false := by simp [hr]
          rw [if_pos hr] at ur
          have UR := Lib.hid ur
          clear ur hr
          by_cases ho : 4503599627370496 < s + (xd * 1000000 + xa - 1) / xa
          · rw [if_pos ho] at hsn
            have HS := Lib.hid hsn
            have ho2 : 4503599627370496 < s + xd * 1000000 / xa := by rw [← UR.out]; exact ho
            clear hsn
            go_wp2
            go_ret2
            exact ⟨ret_ii (by rw [(us_over hE1.out (sumU_none HS.out)).2]) (by rw [(us_over hE1.out (sumU_none HS.out)).1]), hbl.alloc hbl.size _⟩
          · rw [if_neg ho] at hsn
            have HS := Lib.hid hsn
            have ho1 : s + (xd * 1000000 + xa - 1) / xa ≤ 4503599627370496 := by omega
            have ho2 : s + xd * 1000000 / xa ≤ 4503599627370496 := by rw [← UR.out]; exact ho1
            clear hsn ho
            go_wp2
            go_roundw
            case rel => exact ⟨k + 1, _, by omega, by go_num, rfl, by omega, by omega, hbl.alloc hbl.size _, by have := HS.out; have e := UR.out; unfold Hid; first | exact this | (rw [e] at this; exact this)⟩
            case measure => simp [intOf]; omega
        · have hr' : (xd * 1000000 % xa != 0) = true := by simp [hr]
          rw [if_neg hr] at ur
          have UR := Lib.hid ur
          clear ur hr
          by_cases ho : 4503599627370496 < s + (xd * 1000000 + xa - 1) / xa
          · rw [if_pos ho] at hsn
            have HS := Lib.hid hsn
            have ho2 : 4503599627370496 < s + xd * 1000000 / xa + 1 := by have := UR.out; omega
            clear hsn
            go_wp2
            go_ret2
            exact ⟨ret_ii (by rw [(us_over hE1.out (sumU_none HS.out)).2]) (by rw [(us_over hE1.out (sumU_none HS.out)).1]), hbl.alloc hbl.size _⟩
          · rw [if_neg ho] at hsn
            have HS := Lib.hid hsn
            have ho1 : s + (xd * 1000000 + xa - 1) / xa ≤ 4503599627370496 := by omega
            have ho2 : s + xd * 1000000 / xa + 1 ≤ 4503599627370496 := by have := UR.out; omega
            clear hsn ho
            go_wp2
            go_roundw
            case rel => exact ⟨k + 1, _, by omega, by go_num, rfl, by omega, by omega, hbl.alloc hbl.size _, by have := HS.out; have e := UR.out; unfold Hid; first | exact this | (rw [e, ← Int.add_assoc] at this; exact this)⟩
            case measure => simp [intOf]; omega
      · have hs' := hs.out
        rw [List.take_of_length_le (by omega)] at hs'
        have HS := Lib.hid hs'
        clear hs hs'
        go_wp2
        go_ret2
        exact ⟨ret_ii (by rw [(us_sum hE1.out HS.out).2]) (by rw [(us_sum hE1.out HS.out).1]), hbl⟩
  · have hE2 : ldsE xs = 2 := lds_two hE
    go_enter Try.func41, Try.ntmps41
    go_wp2_with (first | (go_at_call 44; refine (rdcheck_any A xs _ _ h hl).mono ?_; rintro e w1 ⟨rfl, hb⟩))
    all_goals go_ret2
    all_goals exact ⟨ret_ii (by unfold usV usE; simp [hE2]) (by unfold usE; simp [hE2]), hb⟩

set_option maxHeartbeats 1000000 in
theorem rall_any (A : Option Addr) (xs : List Q4) (cap : Nat) (wd : Int) (w : World) (h : R4 w w.heap.size A xs) (hl : xs.length ≤ 9223372036854775807) :
    Calls Try.prog 37 #[.slice A xs.length cap, .int .i64 wd] w fun e w' => e = .returned (.tuple #[.int .i64 (alV xs wd), .int .i64 (alE xs wd)]) ∧ Below w.heap.size w w' := by
  by_cases hE : ldsE xs = 0
  · have hp := (lds_parts hE).2
    have HP := Lib.hid hp
    have hE1 := Lib.hid hE
    have hlen := (lds_parts hE).1
    clear hp
    by_cases hwd : 0 ≤ wd ∧ wd ≤ 4503599627370496
    · have ht : timeB wd = true := by simp [timeB, hwd]
      obtain ⟨wd0, wd1⟩ := hwd
      go_enter Try.func37, Try.ntmps37
      go_wp2_with (first | (go_at_call 44; refine (rdcheck_any A xs _ _ h hl).mono ?_; rintro e w1 ⟨rfl, hb⟩) | (go_at_call 61; refine (crtime_any _ _).mono ?_; rintro e w' ⟨rfl, rfl⟩))
      go_loopw [6, 19] (fun u i wr => ∃ (k : Nat) (s : Int), k ≤ xs.length ∧ i = .int .i64 k ∧ u = .int .i64 s ∧ 0 ≤ s ∧ s ≤ 4503599627370496 ∧ Below w.heap.size w wr ∧ Hid (sumP ((xs.map (arrOf wd)).take k) = some s)) (fun _ i _ => xs.length - (intOf i).toNat)
      case atStart => exact ⟨0, 0, by omega, rfl, rfl, by omega, by omega, hb, rfl⟩
      case round =>
        obtain ⟨k, s, hk, rfl, rfl, s0, s1, hbl, hs⟩ := hrel
        by_cases hlt : k < xs.length
        · obtain ⟨b, off, rfl, hbB, hc⟩ := h (by omega)
          obtain ⟨x, hx⟩ := some_at hlt
          obtain ⟨c1, c2, c3, c4⟩ := hc k x hx
          replace c1 := (hbl.cell (p := ⟨b, off + k * 4, none⟩) hbB).trans c1
          replace c2 := (hbl.cell (p := ⟨b, off + k * 4 + 1, none⟩) hbB).trans c2
          replace c3 := (hbl.cell (p := ⟨b, off + k * 4 + 2, none⟩) hbB).trans c3
          replace c4 := (hbl.cell (p := ⟨b, off + k * 4 + 3, none⟩) hbB).trans c4
          have hld := HP.out k x hx
          obtain ⟨x1, x2, x3, x4, x5, x6, x7, x8, x9⟩ := ldB_parts hld
          obtain ⟨n0, n1⟩ := moV_bd hld wd
          have hsn := sumP_snoc ((xs.map (arrOf wd)).take k) (arrOf wd x)
          rw [← takeM_snoc wd hx, hs.out, addP_some] at hsn
          have hu := addP_bd s0 s1 n0 x7
          obtain ⟨xa, xb, xc, xd⟩ := x
          simp only at c1 c2 c3 c4 x7 x8 n0 n1
          replace hu : ¬ (0 < xd ∧ (4503599627370496 - s) / xd < moV xa xb xc wd) → 0 ≤ moV xa xb xc wd * xd ∧ moV xa xb xc wd * xd ≤ 4503599627370496 - s := hu
          replace hsn : sumP (List.take (k + 1) (xs.map (arrOf wd))) = if 0 < xd ∧ (4503599627370496 - s) / xd < moV xa xb xc wd then none else some (s + moV xa xb xc wd * xd) := hsn
          clear hc hx hs hld x1 x2 x3 x4 x5 x6 x9
          by_cases hd : 0 < xd
          · have g0 : 0 ≤ (4503599627370496 - s) / xd := Int.ediv_nonneg (by omega) (by omega)
            have g1 : (4503599627370496 - s) / xd ≤ 4503599627370496 - s := Int.ediv_le_self _ (by omega)
            by_cases ho : (4503599627370496 - s) / xd < moV xa xb xc wd
            · rw [if_pos ⟨hd, ho⟩] at hsn
              have HS := Lib.hid hsn
              clear hsn hu
              go_wp2_with (first | (go_at_call 25; refine (rmost_any _ _ _ _ _).mono ?_; rintro e w2 ⟨rfl, hb2⟩; have q3 := box_cell hb2 3 _ rfl))
              go_ret2
              exact ⟨ret_ii (by rw [(al_over hE1.out wd0 wd1 (sumP_none (List.take_prefix _ _) HS.out)).2]) (by rw [(al_over hE1.out wd0 wd1 (sumP_none (List.take_prefix _ _) HS.out)).1]), hbl.next1 hbl.size hb2⟩
            · rw [if_neg (by omega)] at hsn
              have HS := Lib.hid hsn
              obtain ⟨m0, m1⟩ := hu (by omega)
              have ho' : moV xa xb xc wd ≤ (4503599627370496 - s) / xd := by omega
              clear hsn hu ho
              go_wp2_with (first | (go_at_call 25; refine (rmost_any _ _ _ _ _).mono ?_; rintro e w2 ⟨rfl, hb2⟩; have q3 := box_cell hb2 3 _ rfl))
              go_roundw
              case rel => exact ⟨k + 1, _, by omega, by go_num, rfl, by omega, by omega, hbl.next1 hbl.size hb2, HS.out⟩
              case measure => simp [intOf]; omega
          · rw [if_neg (by omega)] at hsn
            have HS := Lib.hid hsn
            obtain ⟨m0, m1⟩ := hu (by omega)
            have hd' : xd ≤ 0 := by omega
            clear hsn hu hd
            go_wp2_with (first | (go_at_call 25; refine (rmost_any _ _ _ _ _).mono ?_; rintro e w2 ⟨rfl, hb2⟩; have q3 := box_cell hb2 3 _ rfl))
            go_roundw
            case rel => exact ⟨k + 1, _, by omega, by go_num, rfl, by omega, by omega, hbl.next1 hbl.size hb2, HS.out⟩
            case measure => simp [intOf]; omega
        · have hs' := hs.out
          rw [List.take_of_length_le (by simp; omega)] at hs'
          have HS := Lib.hid hs'
          clear hs hs'
          go_wp2
          go_ret2
          exact ⟨ret_ii (by rw [(al_sum hE1.out wd0 wd1 HS.out).2]) (by rw [(al_sum hE1.out wd0 wd1 HS.out).1]), hbl⟩
    · have ht : timeB wd = false := by simpa [timeB] using hwd
      go_enter Try.func37, Try.ntmps37
      go_wp2_with (first | (go_at_call 44; refine (rdcheck_any A xs _ _ h hl).mono ?_; rintro e w1 ⟨rfl, hb⟩) | (go_at_call 61; refine (crtime_any _ _).mono ?_; rintro e w' ⟨rfl, rfl⟩))
      all_goals go_ret2
      all_goals exact ⟨ret_ii (by unfold alV alE; rw [if_pos]; simp [hE1.out]; omega) (by unfold alE; simp [hE1.out]; omega), hb⟩
  · have hE2 : ldsE xs = 2 := lds_two hE
    go_enter Try.func37, Try.ntmps37
    go_wp2_with (first | (go_at_call 44; refine (rdcheck_any A xs _ _ h hl).mono ?_; rintro e w1 ⟨rfl, hb⟩))
    all_goals go_ret2
    all_goals exact ⟨ret_ii (by unfold alV alE; simp [hE2]) (by unfold alE; simp [hE2]), hb⟩
end Go.Proofs.Ytjckfgadchobfaa
