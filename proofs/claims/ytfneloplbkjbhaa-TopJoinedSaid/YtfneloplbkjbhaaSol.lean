/-
  The walks of package solve and of its reference (vergeref25), part 1: what they compute, Round.
-/
import Derived.Test.YtfneloplbkjbhaaDem5
import Derived.Test.YtfneloplbkjbhaaDemQ
import Derived.Test.YtfneloplbkjbhaaApp
import Derived.Test.YtfneloplbkjbhaaCur3
namespace Go.Proofs.Ytfneloplbkjbhaa
open Go.RowKit
set_option linter.unusedVariables false

def roE (b : Int) (xs : List Q4) (w : Int) : Int := if ldsE xs ≠ 0 then 2 else if b < 1 ∨ 4503599627370496 < b ∨ w < 0 ∨ 4503599627370496 < w then 1 else if alE xs w ≠ 0 then alE xs w else if 4503599627370496 - b < alV xs w then 10 else 0
def roV (b : Int) (xs : List Q4) (w : Int) : Int := if roE b xs w ≠ 0 then 0 else b + alV xs w
theorem roV_zero {b : Int} {xs : List Q4} {w : Int} (h : roE b xs w ≠ 0) : roV b xs w = 0 := by unfold roV; rw [if_pos h]

set_option maxHeartbeats 1000000 in
theorem round_any (b : Int) (A : Option Addr) (xs : List Q4) (cap : Nat) (wd : Int) (w : World) (h : R4 w w.heap.size A xs) (hl : xs.length ≤ 9223372036854775807) :
    Calls Try.prog 40 #[.int .i64 b, .slice A xs.length cap, .int .i64 wd] w fun e w' => e = .returned (.tuple #[.int .i64 (roV b xs wd), .int .i64 (roE b xs wd)]) ∧ Below w.heap.size w w' := by
  by_cases hE : ldsE xs = 0
  · by_cases hb : b < 1 ∨ 4503599627370496 < b ∨ wd < 0 ∨ 4503599627370496 < wd
    · have e1 : roE b xs wd = 1 := by unfold roE; rw [if_neg (by omega), if_pos hb]
      have R := Lib.hid (And.intro e1 (roV_zero (by rw [e1]; decide)))
      have ht : timeB wd = decide (0 ≤ wd ∧ wd ≤ 4503599627370496) := rfl
      clear e1
      by_cases hw : 0 ≤ wd ∧ wd ≤ 4503599627370496
      · have htb : timeB wd = true := by rw [ht]; exact decide_eq_true hw
        clear ht
        go_enter Try.func40, Try.ntmps40
        go_wp2_with (first | (go_at_call 24; refine (dcheck_any A xs _ _ h hl).mono ?_; rintro e w1 ⟨rfl, HB⟩))
        all_goals first | (exfalso; omega) | skip
        all_goals go_ret2
        all_goals exact ⟨ret_ii R.out.2.symm R.out.1.symm, HB⟩
      · have htb : timeB wd = false := by rw [ht]; exact decide_eq_false hw
        clear ht
        go_enter Try.func40, Try.ntmps40
        go_wp2_with (first | (go_at_call 24; refine (dcheck_any A xs _ _ h hl).mono ?_; rintro e w1 ⟨rfl, HB⟩))
        all_goals first | (exfalso; omega) | skip
        all_goals go_ret2
        all_goals exact ⟨ret_ii R.out.2.symm R.out.1.symm, HB⟩
    · have h1 : 1 ≤ b := by omega
      have h2 : b ≤ 4503599627370496 := by omega
      have h3 : 0 ≤ wd := by omega
      have h4 : wd ≤ 4503599627370496 := by omega
      have htb : timeB wd = true := by simp [timeB]; omega
      have bd := alV_bd xs wd
      by_cases ha : alE xs wd = 0
      · by_cases ho : 4503599627370496 - b < alV xs wd
        · have e1 : roE b xs wd = 10 := by unfold roE; rw [if_neg (by omega), if_neg hb, if_neg (by omega), if_pos ho]
          have R := Lib.hid (And.intro e1 (roV_zero (by rw [e1]; decide)))
          clear e1 hb
          go_enter Try.func40, Try.ntmps40
          go_wp2_with (first | (go_at_call 24; refine (dcheck_any A xs _ _ h hl).mono ?_; rintro e w1 ⟨rfl, HB⟩) | (go_at_call 46; refine (all_any A xs _ _ _ ((h.below HB).mono HB.size) hl).mono ?_; rintro e w2 ⟨rfl, hb2⟩; replace HB := HB.next HB.size hb2))
          all_goals go_ret2
          all_goals exact ⟨ret_ii R.out.2.symm R.out.1.symm, HB⟩
        · have e1 : roE b xs wd = 0 := by unfold roE; rw [if_neg (by omega), if_neg hb, if_neg (by omega), if_neg ho]
          have e2 : roV b xs wd = b + alV xs wd := by unfold roV; rw [if_neg (by omega)]
          have R := Lib.hid (And.intro e1 e2)
          have ho' : alV xs wd ≤ 4503599627370496 - b := by omega
          clear e1 e2 hb ho
          go_enter Try.func40, Try.ntmps40
          go_wp2_with (first | (go_at_call 24; refine (dcheck_any A xs _ _ h hl).mono ?_; rintro e w1 ⟨rfl, HB⟩) | (go_at_call 46; refine (all_any A xs _ _ _ ((h.below HB).mono HB.size) hl).mono ?_; rintro e w2 ⟨rfl, hb2⟩; replace HB := HB.next HB.size hb2))
          all_goals go_ret2
          all_goals exact ⟨ret_ii R.out.2.symm R.out.1.symm, HB⟩
      · have e1 : roE b xs wd = alE xs wd := by unfold roE; rw [if_neg (by omega), if_neg hb, if_pos ha]
        have R := Lib.hid (And.intro e1 (roV_zero (by rw [e1]; exact ha)))
        clear e1 hb
        go_enter Try.func40, Try.ntmps40
        go_wp2_with (first | (go_at_call 24; refine (dcheck_any A xs _ _ h hl).mono ?_; rintro e w1 ⟨rfl, HB⟩) | (go_at_call 46; refine (all_any A xs _ _ _ ((h.below HB).mono HB.size) hl).mono ?_; rintro e w2 ⟨rfl, hb2⟩; replace HB := HB.next HB.size hb2))
        all_goals go_ret2
        all_goals exact ⟨ret_ii R.out.2.symm R.out.1.symm, HB⟩
  · have hE2 : ldsE xs = 2 := lds_two hE
    have e1 : roE b xs wd = 2 := by unfold roE; rw [if_pos hE]
    have R := Lib.hid (And.intro e1 (roV_zero (by rw [e1]; decide)))
    clear e1
    go_enter Try.func40, Try.ntmps40
    go_wp2_with (first | (go_at_call 24; refine (dcheck_any A xs _ _ h hl).mono ?_; rintro e w1 ⟨rfl, HB⟩))
    all_goals go_ret2
    all_goals exact ⟨ret_ii R.out.2.symm R.out.1.symm, HB⟩
end Go.Proofs.Ytfneloplbkjbhaa
