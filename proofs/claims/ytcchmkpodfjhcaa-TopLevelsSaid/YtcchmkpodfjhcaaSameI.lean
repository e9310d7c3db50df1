/-
  The walk of vergeref05.Same.
-/
import Derived.Test.YtcchmkpodfjhcaaVi
import Derived.Deep.RegionHeld3
import Derived.StillTailTactics
import Derived.Deep.QuietTactic
import Derived.BigQuiet
namespace Go.Proofs.Ytcchmkpodfjhcaa
open Go.RowKit
set_option linter.unusedVariables false

set_option maxHeartbeats 1000000 in
theorem same_any (A B : Option Addr) (xs ys : List Int) (c d : Nat) (w : World) (hx : Ints w w.heap.size A xs) (hy : Ints w w.heap.size B ys) (hl : xs.length ≤ 9223372036854775807) (hl2 : ys.length ≤ 9223372036854775807) :
    Calls Try.prog 24 #[.slice A xs.length c, .slice B ys.length d] w fun e w' => e = .returned (.bool (decide (xs = ys))) ∧ ∃ n, w' = w.drewN n := by
  by_cases hn : xs.length = ys.length
  · have hn' : ((xs.length : Int) != (ys.length : Int)) = false := by simp; omega
    have HN := Lib.hid hn
    clear hn
    go_enter Try.func24, Try.ntmps24
    go_wp2
    go_loopw [13] (fun i wr => ∃ (k n : Nat), k ≤ xs.length ∧ i = .int .i64 k ∧ wr = w.drewN n ∧ Hid (xs.take k = ys.take k)) (fun i _ => xs.length - (intOf i).toNat)
    case atStart => exact ⟨0, 0, by omega, rfl, rfl, by simp [Hid]⟩
    case round =>
      obtain ⟨k, n, hk, rfl, rfl, hs⟩ := hrel
      by_cases hlt : k < xs.length
      · have hlt2 : k < ys.length := by have := HN.out; omega
        obtain ⟨b, off, rfl, hbB, hc⟩ := hx (by omega)
        obtain ⟨b2, off2, rfl, hbB2, hc2⟩ := hy (by omega)
        have h1 := hc k hlt
        have h2 := hc2 k hlt2
        obtain ⟨x, ex⟩ : ∃ t, t = xs[k]?.getD 0 := ⟨_, rfl⟩
        obtain ⟨y, ey⟩ : ∃ t, t = ys[k]?.getD 0 := ⟨_, rfl⟩
        rw [← ex] at h1
        rw [← ey] at h2
        have i1 : ((k : Int)) < (xs.length : Int) := by omega
        have i2 : ((k : Int)) < (ys.length : Int) := by omega
        have tx : xs.take (k + 1) = xs.take k ++ [x] := by rw [List.take_succ_eq_append_getElem hlt, ex]; simp [hlt]
        have ty : ys.take (k + 1) = ys.take k ++ [y] := by rw [List.take_succ_eq_append_getElem hlt2, ey]; simp [hlt2]
        have TX := Lib.hid tx
        have TY := Lib.hid ty
        clear hc hc2 ex ey tx ty
        by_cases hxy : x = y
        · subst hxy
          go_wp2
          go_quiet (fail)
          go_wp2
          go_roundw
          case rel => exact ⟨k + 1, _, by omega, by go_num, rfl, by unfold Hid; rw [TX.out, TY.out, hs.out]⟩
          case measure => simp [intOf]; omega
        · have hxy' : (x != y) = true := by simp [hxy]
          have HXY := Lib.hid hxy
          clear hxy
          go_wp2
          go_quiet (fail)
          go_wp2
          go_ret
          exact ⟨ret_bool (by symm; simp only [decide_eq_false_iff_not]; intro he; have := TX.out; rw [he, TY.out] at this; rw [he] at hs; simp at this; exact HXY.out this.symm), _, by rw [World.drewN_drewN]⟩
      · go_wp2
        go_ret
        exact ⟨ret_bool (by have h1 := hs.out; have h2 := HN.out; rw [List.take_of_length_le (by omega), List.take_of_length_le (by omega)] at h1; simp [h1]), _, rfl⟩
  · have hn' : ((xs.length : Int) != (ys.length : Int)) = true := by simp; omega
    have HN := Lib.hid hn
    clear hn
    go_enter Try.func24, Try.ntmps24
    go_wp2
    go_ret
    exact ⟨ret_bool (by symm; simp only [decide_eq_false_iff_not]; intro he; exact HN.out (by rw [he])), 0, rfl⟩

end Go.Proofs.Ytcchmkpodfjhcaa
