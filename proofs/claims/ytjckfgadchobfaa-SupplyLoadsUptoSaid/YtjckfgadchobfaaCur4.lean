/-
  The walks of the reference of package curve (vergeref22), part 4: Fits; and of vergeref13.Same.
-/
import Derived.Test.YtjckfgadchobfaaCur2
import Derived.Test.YtjckfgadchobfaaCur3
import Derived.Deep.RegionHeld3
import Derived.StillTailTactics
namespace Go.Proofs.Ytjckfgadchobfaa
open Go.RowKit
set_option linter.unusedVariables false

set_option maxHeartbeats 1000000 in
theorem same_any (A B : Option Addr) (xs ys : List Int) (c d : Nat) (w : World) (hx : Ints w w.heap.size A xs) (hy : Ints w w.heap.size B ys) (hl : xs.length ≤ 9223372036854775807) (hl2 : ys.length ≤ 9223372036854775807) :
    Calls Try.prog 35 #[.slice A xs.length c, .slice B ys.length d] w fun e w' => e = .returned (.bool (decide (xs = ys))) ∧ ∃ n, w' = w.drewN n := by
  by_cases hn : xs.length = ys.length
  · have hn' : ((xs.length : Int) != (ys.length : Int)) = false := by simp; omega
    have HN := Lib.hid hn
    clear hn
    go_enter Try.func35, Try.ntmps35
    go_wp2
    go_loopw [13] (fun i wr => ∃ (k n : Nat), k ≤ xs.length ∧ i = .int .i64 k ∧ wr = w.drewN n ∧ Hid (xs.take k = ys.take k)) (fun i _ => xs.length - (intOf i).toNat)
    case atStart => exact ⟨0, 0, by omega, rfl, rfl, by simp [Hid]⟩
    case round =>
      obtain ⟨k, n, hk, rfl, rfl, hs⟩ := hrel
      by_cases hlt : k < xs.length
      · have hlt2 : k < ys.length := by have := HN.out; omega
        obtain ⟨b, off, rfl, hbB, hc⟩ := hx (by omega)
        obtain ⟨b2, off2, rfl, hbB2, hc2⟩ := hy (by omega)
        have h1 := hc k hlt
        have h2 := hc2 k hlt2
        obtain ⟨x, ex⟩ : ∃ t, t = xs[k]?.getD 0 := ⟨_, rfl⟩
        obtain ⟨y, ey⟩ : ∃ t, t = ys[k]?.getD 0 := ⟨_, rfl⟩
        rw [← ex] at h1
        rw [← ey] at h2
        have i1 : ((k : Int)) < (xs.length : Int) := by omega
        have i2 : ((k : Int)) < (ys.length : Int) := by omega
        have tx : xs.take (k + 1) = xs.take k ++ [x] := by rw [List.take_succ_eq_append_getElem hlt, ex]; simp [hlt]
        have ty : ys.take (k + 1) = ys.take k ++ [y] := by rw [List.take_succ_eq_append_getElem hlt2, ey]; simp [hlt2]
        have TX := Lib.hid tx
        have TY := Lib.hid ty
        clear hc hc2 ex ey tx ty
        by_cases hxy : x = y
        · subst hxy
          go_wp2
          go_quiet (fail)
          go_wp2
          go_roundw
          case rel => exact ⟨k + 1, _, by omega, by go_num, rfl, by unfold Hid; rw [TX.out, TY.out, hs.out]⟩
          case measure => simp [intOf]; omega
        · have hxy' : (x != y) = true := by simp [hxy]
          have HXY := Lib.hid hxy
          clear hxy
          go_wp2
          go_quiet (fail)
          go_wp2
          go_ret
          exact ⟨ret_bool (by symm; simp only [decide_eq_false_iff_not]; intro he; have := TX.out; rw [he, TY.out] at this; rw [he] at hs; simp at this; exact HXY.out this.symm), _, by rw [World.drewN_drewN]⟩
      · go_wp2
        go_ret
        exact ⟨ret_bool (by have h1 := hs.out; have h2 := HN.out; rw [List.take_of_length_le (by omega), List.take_of_length_le (by omega)] at h1; simp [h1]), _, rfl⟩
  · have hn' : ((xs.length : Int) != (ys.length : Int)) = true := by simp; omega
    have HN := Lib.hid hn
    clear hn
    go_enter Try.func35, Try.ntmps35
    go_wp2
    go_ret
    exact ⟨ret_bool (by symm; simp only [decide_eq_false_iff_not]; intro he; exact HN.out (by rw [he])), 0, rfl⟩

/-- The arrival k is too near to one before it. -/
def badAt (p j a : Int) (xs : List Int) (k : Nat) : Prop := ∃ i, i < k ∧ xs[k]?.getD 0 - xs[i]?.getD 0 < gapV p j a ((k : Int) - i + 1)

/-- What the reference's search gives. -/
def FitRes (w : World) (p j a : Int) (xs : List Int) (e : Ending) (w' : World) : Prop :=
  Below w.heap.size w w' ∧ ∃ (r : Int) (E : Int), e = .returned (.tuple #[.int .i64 r, .int .i64 E]) ∧ E = fiE p j a xs ∧ (E ≠ 0 → r = 0) ∧
    (E = 0 → ∃ k : Nat, r = k ∧ k ≤ xs.length ∧ (∀ m, m < k → ¬ badAt p j a xs m) ∧ (k < xs.length → badAt p j a xs k))
theorem FitRes.dead {w w' : World} {p j a : Int} {xs : List Int} {E : Int} (hE : E = fiE p j a xs) (h0 : E ≠ 0) (hb : Below w.heap.size w w') : FitRes w p j a xs (.returned (.tuple #[.int .i64 0, .int .i64 E])) w' :=
  ⟨hb, 0, E, rfl, hE, fun _ => rfl, fun h => absurd h h0⟩
theorem FitRes.found {w w' : World} {p j a : Int} {xs : List Int} {k : Nat} (hE : fiE p j a xs = 0) (hb : Below w.heap.size w w') (hk : k ≤ xs.length) (h1 : ∀ m, m < k → ¬ badAt p j a xs m) (h2 : k < xs.length → badAt p j a xs k) :
    FitRes w p j a xs (.returned (.tuple #[.int .i64 (k : Int), .int .i64 0])) w' :=
  ⟨hb, k, 0, rfl, hE.symm, fun h => absurd rfl h, fun _ => ⟨k, rfl, hk, h1, h2⟩⟩

set_option maxHeartbeats 1000000 in
theorem rfits_any (p j a : Int) (A : Option Addr) (xs : List Int) (cap : Nat) (w : World) (h : Ints w w.heap.size A xs) (hl : xs.length ≤ 9223372036854775807) :
    Calls Try.prog 32 #[.agg #[.int .i64 p, .int .i64 j, .int .i64 a], .slice A xs.length cap] w (FitRes w p j a xs) := by
  by_cases hcu : 1 ≤ p ∧ p ≤ 1099511627776 ∧ 0 ≤ j ∧ j ≤ 1099511627776 ∧ 1 ≤ a ∧ a ≤ p
  · have hE : curE p j a = 0 := by unfold curE; rw [if_pos hcu]
    by_cases hn : xs.length ≤ 1048576
    · obtain ⟨p1, p2, j1, j2, a1, a2⟩ := hcu
      go_enter Try.func32, Try.ntmps32
      go_wp2_with (first | (go_at_call 30; refine (rccheck_any _ _ _ _).mono ?_; rintro e w1 ⟨rfl, hb⟩; have hb' := hb.box (Nat.le_refl _); have q0 := box_cell hb 0 _ rfl; have q1 := box_cell hb 1 _ rfl; have q2 := box_cell hb 2 _ rfl))
      go_loop [18] (fun i => ∃ (k : Nat), k ≤ xs.length ∧ i = .int .i64 k ∧ Hid (srt 0 xs = srt (if k = 0 then 0 else xs[k-1]?.getD 0) (xs.drop k))) (fun i => xs.length - (intOf i).toNat)
      case atStart => exact ⟨0, by omega, rfl, by simp [Hid]⟩
      case round =>
        obtain ⟨k, hk, rfl, hs⟩ := hrel
        by_cases hlt : k < xs.length
        · obtain ⟨b, off, rfl, hbB, hc⟩ := h (by omega)
          have hcell : w1.cell? ⟨b, off + k, none⟩ = some (.int .i64 (xs[k]?.getD 0)) := (hb'.cell (p := ⟨b, off + k, none⟩) hbB).trans (hc k hlt)
          have hs' := hs.out
          rw [drop_cons hlt] at hs'
          simp only [srt] at hs'
          obtain ⟨t, et⟩ : ∃ t, t = xs[k]?.getD 0 := ⟨_, rfl⟩
          rw [← et] at hs' hcell
          have ET := Lib.hid et
          clear et hs
          by_cases htx : 0 ≤ t ∧ t ≤ 4503599627370496
          · have ht : timeB t = true := by simp [timeB, htx]
            obtain ⟨t1, t2⟩ := htx
            by_cases hk0 : k = 0
            · subst hk0
              have hcell0 : w1.cell? ⟨b, off, none⟩ = some (.int .i64 t) := hcell
              have HS := Lib.hid hs'
              clear hs'
              go_wp2_with (first | (go_at_call 61; refine (crtime_any _ _).mono ?_; rintro e w' ⟨rfl, rfl⟩))
              go_round
              case rel => exact ⟨1, by omega, rfl, by have := HS.out; have e := ET.out; unfold Hid; simp_all⟩
              case measure => simp [intOf]; omega
            · have hcp : w1.cell? ⟨b, off + (k - 1), none⟩ = some (.int .i64 (xs[k-1]?.getD 0)) := (hb'.cell (p := ⟨b, off + (k - 1), none⟩) hbB).trans (hc (k - 1) (by omega))
              rw [if_neg hk0] at hs'
              obtain ⟨q, eq⟩ : ∃ t, t = xs[k-1]?.getD 0 := ⟨_, rfl⟩
              rw [← eq] at hs' hcp
              have k0 : 0 < k := by omega
              have k1 : (k : Int) - 1 < (xs.length : Int) := by omega
              have w4' : ((k : Int) - 1).toNat = k - 1 := by omega
              clear eq hk0
              by_cases hq : q ≤ t
              · have HS := Lib.hid hs'
                clear hs'
                go_wp2_with (first | (go_at_call 61; refine (crtime_any _ _).mono ?_; rintro e w' ⟨rfl, rfl⟩))
                go_round
                case rel => exact ⟨k + 1, by omega, by go_num, by have h2 := HS.out; have e := ET.out; unfold Hid; rw [h2, ht, if_neg (by omega), show k + 1 - 1 = k from rfl, ← e, decide_eq_true hq]; simp⟩
                case measure => simp [intOf]; omega
              · have hq' : t < q := by omega
                have HS := Lib.hid hs'
                clear hs' hq
                go_wp2_with (first | (go_at_call 61; refine (crtime_any _ _).mono ?_; rintro e w' ⟨rfl, rfl⟩))
                go_ret2
                exact FitRes.dead (by have h2 := HS.out; unfold fiE; simp [hE, h2]; omega) (by omega) hb'
          · have ht : timeB t = false := by simpa [timeB] using htx
            have HS := Lib.hid hs'
            clear hs'
            go_wp2_with (first | (go_at_call 61; refine (crtime_any _ _).mono ?_; rintro e w' ⟨rfl, rfl⟩))
            go_ret2
            exact FitRes.dead (by have h2 := HS.out; unfold fiE; simp [hE, h2, ht]) (by omega) hb'
        · have hs' := hs.out
          rw [List.drop_eq_nil_of_le (by omega)] at hs'
          have hs1 : srt 0 xs = true := hs'
          have HAT := Lib.hid (srt_at 0 xs hs1)
          have HE : Hid (fiE p j a xs = 0) := by unfold Hid fiE; simp [hE, hs1]; omega
          clear hs hs' hs1
          have hst : Below (bxW w p j a 34).heap.size (bxW w p j a 34) w1 := hb
          clear q0 q1 q2
          go_wp2
          go_loopw [42] (fun i wr => ∃ (k2 : Nat), k2 ≤ xs.length ∧ i = .int .i64 k2 ∧ Below (bxW w p j a 34).heap.size (bxW w p j a 34) wr ∧ Hid (∀ m, m < k2 → ¬ badAt p j a xs m)) (fun i _ => xs.length - (intOf i).toNat)
          case atStart => exact ⟨0, by omega, rfl, hst, fun m hm => by omega⟩
          case round =>
            obtain ⟨k2, hk2, rfl, hbo, hno⟩ := hrel
            obtain ⟨wo, hwo⟩ : ∃ wo : World, wo = wr := ⟨_, rfl⟩
            subst hwo
            by_cases hlt2 : k2 < xs.length
            · go_wp2
              go_loopw [9] (fun i wr => ∃ (i2 : Nat), i2 ≤ k2 ∧ i = .int .i64 i2 ∧ Below (bxW w p j a 34).heap.size (bxW w p j a 34) wr ∧ Hid (∀ m, m < i2 → ¬ xs[k2]?.getD 0 - xs[m]?.getD 0 < gapV p j a ((k2 : Int) - m + 1))) (fun i _ => k2 - (intOf i).toNat)
              case atStart => exact ⟨0, by omega, rfl, hbo, fun m hm => by omega⟩
              case round =>
                obtain ⟨i2, hi2, rfl, hbi, hni⟩ := hrel
                by_cases hlt3 : i2 < k2
                · obtain ⟨b, off, rfl, hbB, hc⟩ := h (by omega)
                  have hbi' := hbi.box (Nat.le_refl _)
                  have c1 : wr.cell? ⟨b, off + k2, none⟩ = some (.int .i64 (xs[k2]?.getD 0)) := (hbi'.cell (p := ⟨b, off + k2, none⟩) hbB).trans (hc k2 hlt2)
                  have c2 : wr.cell? ⟨b, off + i2, none⟩ = some (.int .i64 (xs[i2]?.getD 0)) := (hbi'.cell (p := ⟨b, off + i2, none⟩) hbB).trans (hc i2 (by omega))
                  have c3 := box_cell hbi 0 _ rfl
                  have c4 := box_cell hbi 1 _ rfl
                  have c5 := box_cell hbi 2 _ rfl
                  obtain ⟨_, t1, t2⟩ := HAT.out k2 hlt2
                  obtain ⟨_, t3, t4⟩ := HAT.out i2 (by omega)
                  obtain ⟨t, et⟩ : ∃ t, t = xs[k2]?.getD 0 := ⟨_, rfl⟩
                  obtain ⟨q, eq⟩ : ∃ t, t = xs[i2]?.getD 0 := ⟨_, rfl⟩
                  rw [← et] at c1 t1 t2
                  rw [← eq] at c2 t3 t4
                  have w1' : IntKind.i64.wrap (t - q) = t - q := IntWalk.i64_in _ (by omega)
                  have w2' : IntKind.i64.wrap ((k2 : Int) - i2) = (k2 : Int) - i2 := IntWalk.i64_in _ (by omega)
                  have w3' : IntKind.i64.wrap ((k2 : Int) - i2 + 1) = (k2 : Int) - i2 + 1 := IntWalk.i64_in _ (by omega)
                  have i3 : (k2 : Int) < (xs.length : Int) := by omega
                  have hzW : w.heap.size < wr.heap.size := by have := hbi.size; simp [bxW] at this; omega
                  have hbW : b < wr.heap.size := by omega
                  have i4 : (i2 : Int) < (xs.length : Int) := by omega
                  have ET := Lib.hid et
                  have EQ := Lib.hid eq
                  clear et eq hc
                  by_cases hbad : t - q < gapV p j a ((k2 : Int) - i2 + 1)
                  · have hbad' : decide (t - q < gapV p j a ((k2 : Int) - i2 + 1)) = true := by simpa using hbad
                    have HB : Hid (badAt p j a xs k2) := ⟨i2, hlt3, by rw [← ET.out, ← EQ.out]; exact hbad⟩
                    clear hbad
                    go_wp2
                    go_region_held3 (fun W => W.cell? ⟨b, off + k2, none⟩ = some (.int .i64 t) ∧ W.cell? ⟨b, off + i2, none⟩ = some (.int .i64 q) ∧ W.cell? ⟨w.heap.size, 0, none⟩ = some (.int .i64 p) ∧ W.cell? ⟨w.heap.size, 1, none⟩ = some (.int .i64 j) ∧ W.cell? ⟨w.heap.size, 2, none⟩ = some (.int .i64 a)) ((first | exact ⟨(hb3.cell (p := ⟨b, off + k2, none⟩) hbW).trans c1, (hb3.cell (p := ⟨b, off + i2, none⟩) hbW).trans c2, (hb3.cell (p := ⟨w.heap.size, 0, none⟩) hzW).trans c3, (hb3.cell (p := ⟨w.heap.size, 1, none⟩) hzW).trans c4, (hb3.cell (p := ⟨w.heap.size, 2, none⟩) hzW).trans c5⟩ | go_keep)) (first | (go_at_call 66; refine (rgap_any _ _ _ _ p1 p2 j1 j2 a1 a2 (by omega) (by omega) _).mono ?_; rintro e w3 ⟨rfl, hb3⟩))
                    go_wp2
                    go_ret2
                    exact FitRes.found HE.out (((hbi'.drew).trans (hb3.mono (by have := hbi'.size; simpa using this)))) hk2 hno.out (fun _ => HB.out)
                  · have hbad' : decide (t - q < gapV p j a ((k2 : Int) - i2 + 1)) = false := by simpa using hbad
                    have HB : Hid (¬ xs[k2]?.getD 0 - xs[i2]?.getD 0 < gapV p j a ((k2 : Int) - i2 + 1)) := by rw [← ET.out, ← EQ.out]; exact hbad
                    clear hbad
                    go_wp2
                    go_region_held3 (fun W => W.cell? ⟨b, off + k2, none⟩ = some (.int .i64 t) ∧ W.cell? ⟨b, off + i2, none⟩ = some (.int .i64 q) ∧ W.cell? ⟨w.heap.size, 0, none⟩ = some (.int .i64 p) ∧ W.cell? ⟨w.heap.size, 1, none⟩ = some (.int .i64 j) ∧ W.cell? ⟨w.heap.size, 2, none⟩ = some (.int .i64 a)) ((first | exact ⟨(hb3.cell (p := ⟨b, off + k2, none⟩) hbW).trans c1, (hb3.cell (p := ⟨b, off + i2, none⟩) hbW).trans c2, (hb3.cell (p := ⟨w.heap.size, 0, none⟩) hzW).trans c3, (hb3.cell (p := ⟨w.heap.size, 1, none⟩) hzW).trans c4, (hb3.cell (p := ⟨w.heap.size, 2, none⟩) hzW).trans c5⟩ | go_keep)) (first | (go_at_call 66; refine (rgap_any _ _ _ _ p1 p2 j1 j2 a1 a2 (by omega) (by omega) _).mono ?_; rintro e w3 ⟨rfl, hb3⟩))
                    go_wp2
                    go_roundw
                    case rel => exact ⟨i2 + 1, by omega, by go_num, (hbi.drew).trans (hb3.mono (by have := hbi.size; simpa using this)), fun m hm => by
                      rcases Nat.lt_succ_iff_lt_or_eq.1 hm with h1 | h1
                      · have := hni.out m h1; omega
                      · subst h1; have := HB.out; omega⟩
                    case measure => simp [intOf]; omega
                · have hi3 : i2 = k2 := by omega
                  have HI2 := Lib.hid hi3
                  clear hi3
                  go_wp2
                  go_roundw
                  case rel => exact ⟨k2 + 1, by omega, by go_num, hbi, fun m hm => by
                    rcases Nat.lt_succ_iff_lt_or_eq.1 hm with h1 | h1
                    · exact hno.out m h1
                    · subst h1
                      rintro ⟨i, hi, hbad⟩
                      have e := HI2.out
                      have := hni.out i (by omega)
                      omega⟩
                  case measure => simp [intOf]; omega
            · have hk3 : k2 = xs.length := by omega
              have HK3 := Lib.hid hk3
              clear hk3
              go_wp2
              go_ret2
              exact FitRes.found HE.out (hbo.box (Nat.le_refl _)) (by omega) (by have := HK3.out; subst this; exact hno.out) (by omega)
    · go_enter Try.func32, Try.ntmps32
      go_wp2_with (first | (go_at_call 30; refine (rccheck_any _ _ _ _).mono ?_; rintro e w1 ⟨rfl, hb⟩; have hb' := hb.box (Nat.le_refl _)))
      go_ret2
      exact FitRes.dead (by unfold fiE; simp [hE]; omega) (by omega) hb'
  · have hE : curE p j a = 2 := by unfold curE; rw [if_neg hcu]
    go_enter Try.func32, Try.ntmps32
    go_wp2_with (first | (go_at_call 30; refine (rccheck_any _ _ _ _).mono ?_; rintro e w1 ⟨rfl, hb⟩; have hb' := hb.box (Nat.le_refl _)))
    go_ret2
    exact FitRes.dead (by unfold fiE; simp [hE]) (by omega) hb'
end Go.Proofs.Ytjckfgadchobfaa
