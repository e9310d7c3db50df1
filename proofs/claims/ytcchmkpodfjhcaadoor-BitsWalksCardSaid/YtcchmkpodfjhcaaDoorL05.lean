/-
  The walk of vergelaw05.lives.
-/
import Derived.Test.YtcchmkpodfjhcaaDoorLwT
import Derived.Test.YtcchmkpodfjhcaaDoorB6
import Derived.Test.YtcchmkpodfjhcaaDoorSameI
namespace Go.Proofs.YtcchmkpodfjhcaaDoor
open Go.RowKit Go.Shelf
set_option linter.unusedVariables false

set_option maxRecDepth 10000 in
set_option maxHeartbeats 400000 in
theorem lives05 (w : World) (hT : Tab w) (hS : 0 < w.heap.size) : Calls Tryd.prog 24 #[] w fun e w' => e = .returned (.bool true) ∧ Below w.heap.size w w' := by
  obtain ⟨b, hb⟩ : ∃ b, b = ofV [63, 1, 1] := ⟨_, rfl⟩
  have hbv : b = 9223372036854775810 := by rw [hb]; decide +kernel
  have hL : lb 64 b = [1, 63] := by rw [hbv]; decide +kernel
  have hlt : b < 18446744073709551616 := by omega
  have HBV := Lib.hid (show ((b : Int) == 9223372036854775810) = true by rw [hbv]; rfl)
  have HLT := Lib.hid hlt
  have e1 : ofE [63, 1, 1] = 0 := by decide
  have v2 : ofV [64] = 0 := by decide
  have e2 : ofE [64] = 1 := by decide
  have k1 : ∀ W, Tab W → Calls Tryd.prog 16 #[.int .u64 (b : Int)] W fun e w' => e = .returned (.tuple #[.int .i64 1, .bool true]) ∧ W = w' := fun W h => by
    have := first_any b hlt W h; rw [hL] at this; exact this
  have k2 : ∀ W, Calls Tryd.prog 18 #[.int .u64 (b : Int)] W fun e w' => e = .returned (.tuple #[.int .i64 63, .bool true]) ∧ W = w' := fun W => by
    have := last_any b hlt W; rw [hL] at this; exact this
  have k3 : ∀ W, Tab W → Calls Tryd.prog 20 #[.int .u64 (b : Int), .int .i64 1] W fun e w' => e = .returned (.tuple #[.int .i64 63, .bool true]) ∧ W = w' := fun W h => by
    have := after_any b hlt 1 W h (by decide); rw [hL] at this; exact this
  have k4 : ∀ W, Tab W → Calls Tryd.prog 22 #[.int .u64 (b : Int), .int .i64 64] W fun e w' => e = .returned (.tuple #[.int .i64 1, .bool true]) ∧ W = w' := fun W h => by
    have := around_any b hlt 64 W h; rw [hL] at this; exact this
  have k5 : ∀ W, Tab W → Calls Tryd.prog 16 #[.int .u64 0] W fun e w' => e = .returned (.tuple #[.int .i64 0, .bool false]) ∧ W = w' := fun W h => by
    have := first_any 0 (by omega) W h
    rw [show lb 64 0 = [] by decide +kernel] at this; exact this
  have k6 : ∀ W, Calls Tryd.prog 13 #[.int .u64 (b : Int)] W fun e w' => e = .returned (.int .i64 2) ∧ W = w' := fun W => by
    have := count_any b hlt W; rw [hL] at this; exact this
  have k7 : ∀ W, Calls Tryd.prog 11 #[.int .i64 2, .int .i64 4] W fun e w' => e = .returned (.int .u64 28) ∧ W = w' := fun W => by
    have := between_any 2 4 W (by decide)
    rw [show btN 2 4 = 28 by decide +kernel] at this; exact this
  have k8 : ∀ W, Tab W → 0 < W.heap.size → Calls Tryd.prog 9 #[.int .u64 (b : Int)] W (IntRes W [1, 63]) := fun W h h2 => by
    have := list_any b hlt W h h2; rw [hL] at this; exact this
  have K1 := Lib.hid k1
  have K2 := Lib.hid k2
  have K3 := Lib.hid k3
  have K4 := Lib.hid k4
  have K5 := Lib.hid k5
  have K6 := Lib.hid k6
  have K7 := Lib.hid k7
  have K8 := Lib.hid k8
  have k0 : ∀ W : World, Calls Tryd.prog 25 #[.slice (some ⟨W.heap.size, 0, none⟩) 3 3] (W.alloc (.cells #[.int .i64 63, .int .i64 1, .int .i64 1] 3)) fun e w' => e = .returned (.tuple #[.int .u64 (b : Int), .int .i64 0]) ∧ W.alloc (.cells #[.int .i64 63, .int .i64 1, .int .i64 1] 3) = w' := fun W => by
    have := of_any _ [63, 1, 1] 3 _ (ints_new W [63, 1, 1] 3 (0, 0)) (by simp)
    rw [← hb, e1] at this; exact this
  have k00 : ∀ (W : World) (n : Nat), n = W.heap.size → Calls Tryd.prog 25 #[.slice (some ⟨n, 0, none⟩) 1 1] (W.alloc (.cells #[.int .i64 64] 3)) fun e w' => e = .returned (.tuple #[.int .u64 0, .int .i64 1]) ∧ W.alloc (.cells #[.int .i64 64] 3) = w' := fun W n hn => by
    subst hn
    have := of_any _ [64] 1 _ (ints_new W [64] 3 (0, 0)) (by simp)
    rw [v2, e2] at this; exact this
  have K0 := Lib.hid k0
  have K00 := Lib.hid k00
  clear k1 k2 k3 k4 k5 k6 k7 k8 k0 k00 e1 e2 v2 hL hbv hb hlt
  go_enter Tryd.func24, Tryd.ntmps24
  go_wp2_with fail
  refine (K0.out _).mono ?_
  rintro e w1 ⟨rfl, rfl⟩
  go_wp2_with fail
  refine (K00.out _ _ (by simp)).mono ?_
  rintro e w2 ⟨rfl, rfl⟩
  have HB : Below w.heap.size w ((w.alloc (.cells #[.int .i64 63, .int .i64 1, .int .i64 1] 3)).alloc (.cells #[.int .i64 64] 3)) := ((Below.refl _ _).alloc (Nat.le_refl _) _).alloc (by simp) _
  have HT := hT.below HB hS
  go_wp2_with fail
  refine (K1.out _ HT).mono ?_
  rintro e w3 ⟨rfl, rfl⟩
  go_wp2_with fail
  refine (K2.out _).mono ?_
  rintro e w3 ⟨rfl, rfl⟩
  go_wp2_with fail
  refine (K3.out _ HT).mono ?_
  rintro e w3 ⟨rfl, rfl⟩
  go_wp2_with fail
  refine (K4.out _ HT).mono ?_
  rintro e w3 ⟨rfl, rfl⟩
  go_wp2_with fail
  refine (K5.out _ HT).mono ?_
  rintro e w3 ⟨rfl, rfl⟩
  have hbv := HBV.out
  go_wp2_with fail
  refine (K6.out _).mono ?_
  rintro e w3 ⟨rfl, rfl⟩
  go_wp2_with fail
  refine (K7.out _).mono ?_
  rintro e w3 ⟨rfl, rfl⟩
  go_wp2_with fail
  refine (K8.out _ HT (by simp)).mono ?_
  rintro e w3 ⟨A, c, rfl, hI, hb⟩
  replace HB := HB.next HB.size hb
  clear hb HT
  have hI2 := (hI.below (below_box w3 (.cells #[.int .i64 1, .int .i64 63] 3))).mono (Nat.le_of_lt (by simp) : w3.heap.size ≤ (w3.alloc (.cells #[.int .i64 1, .int .i64 63] 3)).heap.size)
  go_wp2_with fail
  refine (same_any _ _ [1, 63] [1, 63] _ _ _ hI2 (ints_new _ _ _ _) (by decide) (by decide)).mono ?_
  rintro e w12 ⟨rfl, n, rfl⟩
  go_wp2
  go_ret
  exact ⟨rfl, (HB.alloc HB.size _).drewN n⟩
end Go.Proofs.YtcchmkpodfjhcaaDoor
