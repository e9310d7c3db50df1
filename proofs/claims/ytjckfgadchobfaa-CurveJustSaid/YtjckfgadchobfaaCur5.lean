/-
  vergelaw22.lives: the answers that the document gives for layer 22.
-/
import Derived.Test.YtjckfgadchobfaaCurP
namespace Go.Proofs.Ytjckfgadchobfaa
open Go.RowKit
set_option linter.unusedVariables false

set_option maxHeartbeats 1000000 in
theorem lives22 (w : World) : Calls Try.prog 28 #[] w fun e w' => e = .returned (.bool true) ∧ Below w.heap.size w w' := by
  have v1 : moV 10 5 2 6 = 2 := by decide
  have v2 : moE 10 5 2 6 = 0 := by decide
  have v3 : gaV 10 5 2 3 = 15 := by decide
  have v4 : gaE 10 5 2 3 = 0 := by decide
  have v5 : fiV 10 5 2 [0, 5, 15] = 3 := by decide
  have v6 : fiE 10 5 2 [0, 5, 15] = 0 := by decide
  have v7 : fiV 10 5 2 [0, 5, 14] = 2 := by decide
  have v8 : fiE 10 5 2 [0, 5, 14] = 0 := by decide
  have v9 : deL 10 5 2 3 = [0, 5, 15] := by decide
  have v10 : deE 10 5 2 3 = 0 := by decide
  have v11 : moE 10 5 2 (-1) = 1 := by decide
  have v12 : gaE 0 0 0 1 = 2 := by decide
  have v13 : fiE 10 5 2 [5, 4] = 1 := by decide
  have v14 : curE 10 5 2 = 0 := by decide
  have v15 : moV 10 5 2 (-1) = 0 := by decide
  have v16 : gaV 0 0 0 1 = 0 := by decide
  have v17 : fiV 10 5 2 [5, 4] = 0 := by decide
  go_enter Try.func28, Try.ntmps28
  go_wp2_with fail
  refine (most_any _ _ _ _ _).mono ?_
  rintro e w1 ⟨rfl, HB⟩
  have q0 := box_cell HB 0 _ rfl
  have q1 := box_cell HB 1 _ rfl
  have q2 := box_cell HB 2 _ rfl
  go_wp2_with fail
  refine (gapE_any _ _ _ _ _).mono ?_
  rintro e w2 ⟨rfl, hb⟩
  replace HB := HB.next HB.size hb
  clear hb q0 q1 q2
  have q0 := box_cell HB 0 _ rfl
  have q1 := box_cell HB 1 _ rfl
  have q2 := box_cell HB 2 _ rfl
  go_wp2_with fail
  refine (fits_any _ _ _ _ [0, 5, 15] _ _ (ints_new _ _ _ _) (by decide)).mono ?_
  rintro e w3 ⟨rfl, hb⟩
  replace HB := HB.next1 HB.size hb
  clear hb q0 q1 q2
  have q0 := box_cell HB 0 _ rfl
  have q1 := box_cell HB 1 _ rfl
  have q2 := box_cell HB 2 _ rfl
  go_wp2_with fail
  refine (fits_any _ _ _ _ [0, 5, 14] _ _ (ints_new _ _ _ _) (by decide)).mono ?_
  rintro e w4 ⟨rfl, hb⟩
  replace HB := HB.next1 HB.size hb
  clear hb q0 q1 q2
  have q0 := box_cell HB 0 _ rfl
  have q1 := box_cell HB 1 _ rfl
  have q2 := box_cell HB 2 _ rfl
  go_wp2_with fail
  refine (dense_any _ _ _ _ _).mono ?_
  rintro e w5 ⟨A, c, rfl, hI, hb⟩
  replace HB := HB.next HB.size hb
  clear hb q0 q1 q2
  have q0 := box_cell HB 0 _ rfl
  have q1 := box_cell HB 1 _ rfl
  have q2 := box_cell HB 2 _ rfl
  rw [v9] at hI
  go_wp2_with fail
  refine (most_any _ _ _ _ _).mono ?_
  rintro e w6 ⟨rfl, hb⟩
  replace hI := (hI.below hb).mono hb.size
  replace HB := HB.next HB.size hb
  clear hb q0 q1 q2
  have q0 := box_cell HB 0 _ rfl
  have q1 := box_cell HB 1 _ rfl
  have q2 := box_cell HB 2 _ rfl
  go_wp2_with fail
  refine (gapE_any _ _ _ _ _).mono ?_
  rintro e w7 ⟨rfl, hb⟩
  replace hI := (hI.below hb).mono hb.size
  replace HB := HB.next HB.size hb
  clear hb q0 q1 q2
  have q0 := box_cell HB 0 _ rfl
  have q1 := box_cell HB 1 _ rfl
  have q2 := box_cell HB 2 _ rfl
  go_wp2_with fail
  refine (fits_any _ _ _ _ [5, 4] _ _ (ints_new _ _ _ _) (by decide)).mono ?_
  rintro e w8 ⟨rfl, hb⟩
  replace hI := ((hI.below (below_box _ _)).mono (Nat.le_of_lt (by simp))).below hb
  replace hI := hI.mono hb.size
  replace HB := HB.next1 HB.size hb
  clear hb q0 q1 q2
  have q0 := box_cell HB 0 _ rfl
  have q1 := box_cell HB 1 _ rfl
  have q2 := box_cell HB 2 _ rfl
  have hI2 := (hI.below (below_box w8 (.cells #[.int .i64 0, .int .i64 5, .int .i64 15] 2))).mono (Nat.le_of_lt (by simp) : w8.heap.size ≤ (w8.alloc (.cells #[.int .i64 0, .int .i64 5, .int .i64 15] 2)).heap.size)
  go_wp2_with fail
  refine (same_any _ _ [0, 5, 15] [0, 5, 15] _ _ _ hI2 (ints_new _ _ _ _) (by decide) (by decide)).mono ?_
  rintro e w9 ⟨rfl, n, rfl⟩
  clear hI hI2
  replace HB := (HB.alloc HB.size (.cells #[.int .i64 0, .int .i64 5, .int .i64 15] 2)).drewN n
  clear q0 q1 q2
  have q0 := box_cell HB 0 _ rfl
  have q1 := box_cell HB 1 _ rfl
  have q2 := box_cell HB 2 _ rfl
  go_wp2_with fail
  refine (ccheck_any _ _ _ _).mono ?_
  rintro e w10 ⟨rfl, hb⟩
  replace HB := HB.next HB.size hb
  clear hb q0 q1 q2
  go_wp2
  go_ret
  exact ⟨rfl, HB.box (Nat.le_refl _)⟩
end Go.Proofs.Ytjckfgadchobfaa
