/-
  vergelaw24.lives: the answers that the document gives for layer 24.
-/
import Derived.Test.YtjckfgadchobfaaLod3
namespace Go.Proofs.Ytjckfgadchobfaa
open Go.RowKit
set_option linter.unusedVariables false

set_option maxHeartbeats 2000000 in
theorem lives24 (w : World) : Calls Try.prog 23 #[] w fun e w' => e = .returned (.bool true) ∧ Below w.heap.size w w' := by
  have v1 : shareV 3 10 11 = 6 := by decide
  have v2 : shareE 3 10 11 = 0 := by decide
  have v3 : thV 3 10 5 = 3 := by decide
  have v4 : thE 3 10 5 = 0 := by decide
  have v5 : liV 2 10 11 = 4 := by decide
  have v6 : liE 2 10 11 = 0 := by decide
  have v7 : loL [⟨4, 3, 10, 0⟩, ⟨4, 3, 10, 0⟩] [⟨0, 5, 2, 10⟩] 3 = [⟨10, 0, 10, 3⟩, ⟨10, 0, 10, 3⟩, ⟨10, 0, 10, 10⟩] := by rfl
  have v8 : loE [⟨4, 3, 10, 0⟩, ⟨4, 3, 10, 0⟩] [⟨0, 5, 2, 10⟩] 3 = 0 := by decide
  have v9 : loL [⟨4, 3, 10, 0⟩] [] 4 = [] := by rfl
  have v10 : loE [⟨4, 3, 10, 0⟩] [] 4 = 0 := by decide
  have v11 : shareE 3 0 1 = 2 := by decide
  have v12 : thE 3 10 (-1) = 1 := by decide
  go_enter Try.func23, Try.ntmps23
  go_wp2_with fail
  refine (share_any _ _ _ _).mono ?_
  rintro e w0 ⟨rfl, rfl⟩
  go_wp2_with fail
  refine (thread_any _ _ _ _ _ _).mono ?_
  rintro e w1 ⟨rfl, HB⟩
  have hT := HB.box (Nat.le_refl _)
  have q0 := box_cell hT 0 _ rfl
  have q1 := box_cell hT 1 _ rfl
  have q2 := box_cell hT 2 _ rfl
  have q3 := box_cell hT 3 _ rfl
  have r0 := box_cell HB 0 _ rfl
  have r1 := box_cell HB 1 _ rfl
  have r2 := box_cell HB 2 _ rfl
  have r3 := box_cell HB 3 _ rfl
  simp only [World.size_alloc] at r0 r1 r2 r3
  clear hT
  go_wp2_with fail
  refine (line_any _ _ _ _ _ _).mono ?_
  rintro e w2 ⟨rfl, hb⟩
  replace HB := HB.next HB.size hb
  clear hb q0 q1 q2 q3 r0 r1 r2 r3
  have hT := HB.box (Nat.le_refl _)
  have q0 := box_cell hT 0 _ rfl
  have q1 := box_cell hT 1 _ rfl
  have q2 := box_cell hT 2 _ rfl
  have q3 := box_cell hT 3 _ rfl
  have r0 := box_cell HB 0 _ rfl
  have r1 := box_cell HB 1 _ rfl
  have r2 := box_cell HB 2 _ rfl
  have r3 := box_cell HB 3 _ rfl
  simp only [World.size_alloc] at r0 r1 r2 r3
  clear hT
  have hsz := HB.size
  simp only [World.size_alloc] at hsz
  have s0 := ((below_box w2 (.cells #[.int .i64 4, .int .i64 3, .int .i64 10, .int .i64 0, .int .i64 4, .int .i64 3, .int .i64 10, .int .i64 0] 23)).cell (p := ⟨w.heap.size + 1, 0, none⟩) (by show w.heap.size + 1 < w2.heap.size; omega)).trans r0
  have s1 := ((below_box w2 (.cells #[.int .i64 4, .int .i64 3, .int .i64 10, .int .i64 0, .int .i64 4, .int .i64 3, .int .i64 10, .int .i64 0] 23)).cell (p := ⟨w.heap.size + 1, 1, none⟩) (by show w.heap.size + 1 < w2.heap.size; omega)).trans r1
  have s2 := ((below_box w2 (.cells #[.int .i64 4, .int .i64 3, .int .i64 10, .int .i64 0, .int .i64 4, .int .i64 3, .int .i64 10, .int .i64 0] 23)).cell (p := ⟨w.heap.size + 1, 2, none⟩) (by show w.heap.size + 1 < w2.heap.size; omega)).trans r2
  have s3 := ((below_box w2 (.cells #[.int .i64 4, .int .i64 3, .int .i64 10, .int .i64 0, .int .i64 4, .int .i64 3, .int .i64 10, .int .i64 0] 23)).cell (p := ⟨w.heap.size + 1, 3, none⟩) (by show w.heap.size + 1 < w2.heap.size; omega)).trans r3
  have hR1 := r4_new w2 [⟨4, 3, 10, 0⟩, ⟨4, 3, 10, 0⟩] 23 (0, 0)
  have hR2 := r4_newn (w2.alloc (.cells #[.int .i64 4, .int .i64 3, .int .i64 10, .int .i64 0, .int .i64 4, .int .i64 3, .int .i64 10, .int .i64 0] 23)) (w2.heap.size + 1) (by simp) [⟨0, 5, 2, 10⟩] 25 (0, 0)
  replace hR1 := (hR1.below (below_box _ (.cells #[.int .i64 0, .int .i64 5, .int .i64 2, .int .i64 10] 25))).mono (B' := (w2.heap.size + 1 + 1)) (by simp)
  go_wp2_with fail
  refine (loads_any _ _ [⟨4, 3, 10, 0⟩, ⟨4, 3, 10, 0⟩] [⟨0, 5, 2, 10⟩] _ _ _ _ (hR1.mono (by simp)) hR2 (by simp)).mono ?_
  rintro e w3 ⟨A, c, rfl, hR, hb⟩
  clear hR1 hR2 hsz s0 s1 s2 s3
  replace HB := HB.next2 HB.size hb
  clear hb q0 q1 q2 q3 r0 r1 r2 r3
  have hT := HB.box (Nat.le_refl _)
  have q0 := box_cell hT 0 _ rfl
  have q1 := box_cell hT 1 _ rfl
  have q2 := box_cell hT 2 _ rfl
  have q3 := box_cell hT 3 _ rfl
  have r0 := box_cell HB 0 _ rfl
  have r1 := box_cell HB 1 _ rfl
  have r2 := box_cell HB 2 _ rfl
  have r3 := box_cell HB 3 _ rfl
  simp only [World.size_alloc] at r0 r1 r2 r3
  clear hT
  rw [v7] at hR ⊢
  have hR1 := r4_new w3 [⟨4, 3, 10, 0⟩] 23 (0, 0)
  go_wp2_with fail
  refine (loads_any _ _ [⟨4, 3, 10, 0⟩] [] _ _ _ _ hR1 (R4.nil _ _ _) (by simp)).mono ?_
  rintro e w4 ⟨A2, c2, rfl, hR2, hb⟩
  clear hR1 hR2
  replace hR := ((hR.below (below_box _ _)).mono (Nat.le_of_lt (by simp))).below hb
  replace hR := hR.mono hb.size
  replace HB := HB.next1 HB.size hb
  clear hb q0 q1 q2 q3 r0 r1 r2 r3
  have hT := HB.box (Nat.le_refl _)
  have q0 := box_cell hT 0 _ rfl
  have q1 := box_cell hT 1 _ rfl
  have q2 := box_cell hT 2 _ rfl
  have q3 := box_cell hT 3 _ rfl
  have r0 := box_cell HB 0 _ rfl
  have r1 := box_cell HB 1 _ rfl
  have r2 := box_cell HB 2 _ rfl
  have r3 := box_cell HB 3 _ rfl
  simp only [World.size_alloc] at r0 r1 r2 r3
  clear hT
  rw [v9]
  go_wp2_with fail
  refine (share_any _ _ _ _).mono ?_
  rintro e w5 ⟨rfl, rfl⟩
  go_wp2_with fail
  refine (thread_any _ _ _ _ _ _).mono ?_
  rintro e w6 ⟨rfl, hb⟩
  replace hR := (hR.below hb).mono hb.size
  replace HB := HB.next HB.size hb
  clear hb q0 q1 q2 q3 r0 r1 r2 r3
  have hT := HB.box (Nat.le_refl _)
  have q0 := box_cell hT 0 _ rfl
  have q1 := box_cell hT 1 _ rfl
  have q2 := box_cell hT 2 _ rfl
  have q3 := box_cell hT 3 _ rfl
  have r0 := box_cell HB 0 _ rfl
  have r1 := box_cell HB 1 _ rfl
  have r2 := box_cell HB 2 _ rfl
  have r3 := box_cell HB 3 _ rfl
  simp only [World.size_alloc] at r0 r1 r2 r3
  clear hT
  obtain ⟨b, off, rfl, hlt, hc⟩ := hR (by simp)
  obtain ⟨g1, g2, g3, g4⟩ := hc 0 _ rfl
  obtain ⟨k1, k2, k3, k4⟩ := hc 2 _ rfl
  simp only [Nat.zero_mul, Nat.add_zero, Nat.reduceMul] at g1 g2 g3 g4 k1 k2 k3 k4
  clear hc
  go_wp2
  go_ret
  exact ⟨rfl, (HB.box (Nat.le_refl _)).box (Nat.le_refl _)⟩
end Go.Proofs.Ytjckfgadchobfaa
