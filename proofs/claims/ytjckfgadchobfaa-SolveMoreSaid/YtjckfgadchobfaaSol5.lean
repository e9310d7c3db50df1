/-
  vergelaw25.each, vergelaw25.lives: the answers that the document gives for layer 25.
-/
import Derived.Test.YtjckfgadchobfaaSol4
namespace Go.Proofs.Ytjckfgadchobfaa
open Go.RowKit
set_option linter.unusedVariables false

theorem each25 (p c : Int) (w : World) :
    Calls Try.prog 74 #[.int .i64 p, .int .i64 c] w fun e w' => e = .returned (.agg #[.int .i64 p, .int .i64 0, .int .i64 p, .int .i64 c]) ∧ Below w.heap.size w w' := by
  go_enter Try.func74, Try.ntmps74
  go_wp2
  exact bodyPost_ret (v := .agg #[.int .i64 p, .int .i64 0, .int .i64 p, .int .i64 c]) (by simp [results, Try.results74, go_sem]) rfl ⟨rfl, below_box _ _⟩

set_option maxHeartbeats 2000000 in
theorem lives25 (w : World) : Calls Try.prog 51 #[] w fun e w' => e = .returned (.bool true) ∧ Below w.heap.size w w' := by
  have v1 : soV 3 [⟨5, 0, 5, 2⟩] 100 = 5 := by decide +kernel
  have v2 : stE 3 [⟨5, 0, 5, 2⟩] 100 = 0 := by decide +kernel
  have v3 : stL 3 [⟨4, 0, 4, 2⟩] 100 = [3, 5, 7] := by decide +kernel
  have v4 : stE 3 [⟨4, 0, 4, 2⟩] 100 = 0 := by decide +kernel
  have v5 : stE 3 [⟨4, 0, 4, 4⟩] 100 = 11 := by decide +kernel
  have v6 : roV 3 [⟨4, 0, 4, 2⟩] 5 = 7 := by decide +kernel
  have v7 : roE 3 [⟨4, 0, 4, 2⟩] 5 = 0 := by decide +kernel
  have v8 : stE 0 [] 100 = 1 := by decide +kernel
  have v9 : stE 1 [⟨0, 0, 0, 0⟩] 100 = 2 := by decide +kernel
  have v10 : soV 7 [] 7 = 7 := by decide +kernel
  have v11 : stE 7 [] 7 = 0 := by decide +kernel
  go_enter Try.func51, Try.ntmps51
  go_wp2_with fail
  refine (each25 _ _ _).mono ?_
  rintro e w1 ⟨rfl, HB⟩
  go_wp2_with fail
  refine (solve_any _ _ [⟨5, 0, 5, 2⟩] _ _ _ (r4_new w1 [⟨5, 0, 5, 2⟩] 51 (0, 0)) (by simp)).mono ?_
  rintro e w2 ⟨rfl, hb⟩
  replace HB := HB.next1 HB.size hb
  clear hb
  go_wp2_with fail
  refine (each25 _ _ _).mono ?_
  rintro e w3 ⟨rfl, hb⟩
  replace HB := HB.next HB.size hb
  clear hb
  go_wp2_with fail
  refine (sts_any _ _ [⟨4, 0, 4, 2⟩] _ _ _ (r4_new w3 [⟨4, 0, 4, 2⟩] 51 (0, 0)) (by simp)).mono ?_
  rintro e w4 ⟨A, c, rfl, hI, hb⟩
  replace HB := HB.next1 HB.size hb
  clear hb
  rw [v3] at hI
  go_wp2_with fail
  refine (each25 _ _ _).mono ?_
  rintro e w5 ⟨rfl, hb⟩
  replace hI := (hI.below hb).mono hb.size
  replace HB := HB.next HB.size hb
  clear hb
  go_wp2_with fail
  refine (solve_any _ _ [⟨4, 0, 4, 4⟩] _ _ _ (r4_new w5 [⟨4, 0, 4, 4⟩] 51 (0, 0)) (by simp)).mono ?_
  rintro e w6 ⟨rfl, hb⟩
  replace hI := ((hI.below (below_box _ _)).mono (Nat.le_of_lt (by simp))).below hb
  replace hI := hI.mono hb.size
  replace HB := HB.next1 HB.size hb
  clear hb
  go_wp2_with fail
  refine (each25 _ _ _).mono ?_
  rintro e w7 ⟨rfl, hb⟩
  replace hI := (hI.below hb).mono hb.size
  replace HB := HB.next HB.size hb
  clear hb
  go_wp2_with fail
  refine (round_any _ _ [⟨4, 0, 4, 2⟩] _ _ _ (r4_new w7 [⟨4, 0, 4, 2⟩] 51 (0, 0)) (by simp)).mono ?_
  rintro e w8 ⟨rfl, hb⟩
  replace hI := ((hI.below (below_box _ _)).mono (Nat.le_of_lt (by simp))).below hb
  replace hI := hI.mono hb.size
  replace HB := HB.next1 HB.size hb
  clear hb
  go_wp2_with fail
  refine (solve_any _ _ [] _ _ _ (R4.nil _ _ _) (by simp)).mono ?_
  rintro e w9 ⟨rfl, hb⟩
  replace hI := (hI.below hb).mono hb.size
  replace HB := HB.next HB.size hb
  clear hb
  go_wp2_with fail
  refine (solve_any _ _ [⟨0, 0, 0, 0⟩] _ _ _ (r4_new w9 [⟨0, 0, 0, 0⟩] 51 (0, 0)) (by simp)).mono ?_
  rintro e w10 ⟨rfl, hb⟩
  replace hI := ((hI.below (below_box _ _)).mono (Nat.le_of_lt (by simp))).below hb
  replace hI := hI.mono hb.size
  replace HB := HB.next1 HB.size hb
  clear hb
  go_wp2_with fail
  refine (solve_any _ _ [] _ _ _ (R4.nil _ _ _) (by simp)).mono ?_
  rintro e w11 ⟨rfl, hb⟩
  replace hI := (hI.below hb).mono hb.size
  replace HB := HB.next HB.size hb
  clear hb
  have hI2 := (hI.below (below_box w11 (.cells #[.int .i64 3, .int .i64 5, .int .i64 7] 2))).mono (Nat.le_of_lt (by simp) : w11.heap.size ≤ (w11.alloc (.cells #[.int .i64 3, .int .i64 5, .int .i64 7] 2)).heap.size)
  go_wp2_with fail
  refine (same_any _ _ [3, 5, 7] [3, 5, 7] _ _ _ hI2 (ints_new _ _ _ _) (by decide) (by decide)).mono ?_
  rintro e w12 ⟨rfl, n, rfl⟩
  clear hI hI2
  replace HB := (HB.alloc HB.size (.cells #[.int .i64 3, .int .i64 5, .int .i64 7] 2)).drewN n
  go_wp2
  go_ret
  exact ⟨rfl, HB⟩
end Go.Proofs.Ytjckfgadchobfaa
