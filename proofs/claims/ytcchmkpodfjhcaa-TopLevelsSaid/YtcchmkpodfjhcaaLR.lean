/-
  The walk of vergelaw11.lives.
-/
import Derived.Test.YtcchmkpodfjhcaaQB
import Derived.Test.YtcchmkpodfjhcaaSameI
namespace Go.Proofs.Ytcchmkpodfjhcaa
open Go.RowKit Go.Shelf
set_option linter.unusedVariables false
set_option maxRecDepth 100000 in
set_option maxHeartbeats 4000000 in
theorem lives11 (w : World) : Calls Try.prog 42 #[] w fun e w' => e = .returned (.bool true) ∧ Below w.heap.size w w' := by
  have HN := Kept.mk (qnew_any 3 (by omega) (by omega) w)
  have HB := Kept.mk (fun W => qnew_bad 0 (by omega) W)
  go_enter Try.func42, Try.ntmps42
  go_wp2_with fail
  refine HN.out.mono ?_
  rintro e w1 ⟨hi, qb, I, M, p, L, K, rfl, hQw1, hbw1⟩
  go_wp2_with fail
  refine (HB.out _).mono ?_
  rintro e w' ⟨rfl, rfl⟩
  clear HN HB
  go_wp2_with fail
  refine (push_at hQw1 (Q' := [(7, 3)]) (a := 0) (by decide) (by decide)).mono ?_
  rintro e w2 ⟨rfl, hQw2, hK⟩
  have hbw2 := hK.below hbw1 (Nat.le_refl _) hbw1.size
  clear hQw1 hK hbw1
  go_wp2_with fail
  refine (push_at hQw2 (Q' := [(7, 3), (8, 5)]) (a := 0) (by decide) (by decide)).mono ?_
  rintro e w3 ⟨rfl, hQw3, hK⟩
  have hbw3 := hK.below hbw2 (Nat.le_refl _) hbw2.size
  clear hQw2 hK hbw2
  go_wp2_with fail
  refine (push_at hQw3 (Q' := [(7, 3), (8, 5), (9, 5)]) (a := 0) (by decide) (by decide)).mono ?_
  rintro e w4 ⟨rfl, hQw4, hK⟩
  have hbw4 := hK.below hbw3 (Nat.le_refl _) hbw3.size
  clear hQw3 hK hbw3
  go_wp2_with fail
  refine (push_at hQw4 (Q' := [(7, 3), (8, 5), (9, 5)]) (a := 4) (by decide) (by decide)).mono ?_
  rintro e w5 ⟨rfl, hQw5, hK⟩
  have hbw5 := hK.below hbw4 (Nat.le_refl _) hbw4.size
  clear hQw4 hK hbw4
  go_wp2_with fail
  refine (push_at hQw5 (Q' := [(7, 3), (8, 5), (9, 5)]) (a := 5) (by decide) (by decide)).mono ?_
  rintro e w6 ⟨rfl, hQw6, hK⟩
  have hbw6 := hK.below hbw5 (Nat.le_refl _) hbw5.size
  clear hQw5 hK hbw5
  go_wp2_with fail
  refine (push_at hQw6 (Q' := [(7, 3), (8, 5), (9, 5)]) (a := 1) (by decide) (by decide)).mono ?_
  rintro e w7 ⟨rfl, hQw7, hK⟩
  have hbw7 := hK.below hbw6 (Nat.le_refl _) hbw6.size
  clear hQw6 hK hbw6
  go_wp2_with fail
  have HT := Kept.mk (show Calls Try.prog 40 #[.pointer (some ⟨qb, 0, none⟩)] w7 fun e w' => e = .returned (.tuple #[.int .i64 8, .int .i64 5, .bool true]) ∧ w7 = w' from qtop_at hQw7)
  refine HT.out.mono ?_
  rintro e w' ⟨rfl, rfl⟩
  clear HT
  go_wp2_with fail
  refine (turn_at hQw7 (Q' := [(7, 3), (9, 5), (8, 5)]) (a := 0) (by decide)).mono ?_
  rintro e w8 ⟨rfl, hQw8, hK⟩
  have hbw8 := hK.below hbw7 (Nat.le_refl _) hbw7.size
  clear hQw7 hK hbw7
  go_wp2_with fail
  refine (pop_at hQw8 (Q' := [(7, 3), (8, 5)]) (v := .tuple #[.int .i64 9, .int .i64 5, .bool true]) (by decide) (by rfl) (by rfl)).mono ?_
  rintro e w9 ⟨rfl, hQw9, hK⟩
  have hbw9 := hK.below hbw8 (Nat.le_refl _) hbw8.size
  clear hQw8 hK hbw8
  go_wp2_with fail
  refine (raise_at hQw9 (Q' := [(8, 5), (7, 6)]) (a := 0) (by decide) (by decide)).mono ?_
  rintro e w10 ⟨rfl, hQw10, hK⟩
  have hbw10 := hK.below hbw9 (Nat.le_refl _) hbw9.size
  clear hQw9 hK hbw9
  go_wp2_with fail
  refine (remove_at hQw10 (Q' := [(8, 5), (7, 6)]) (a := 3) (by decide) (by decide)).mono ?_
  rintro e w11 ⟨rfl, hQw11, hK⟩
  have hbw11 := hK.below hbw10 (Nat.le_refl _) hbw10.size
  clear hQw10 hK hbw10
  go_wp2_with fail
  refine (pop_at hQw11 (Q' := [(8, 5)]) (v := .tuple #[.int .i64 7, .int .i64 6, .bool true]) (by decide) (by rfl) (by rfl)).mono ?_
  rintro e w12 ⟨rfl, hQw12, hK⟩
  have hbw12 := hK.below hbw11 (Nat.le_refl _) hbw11.size
  clear hQw11 hK hbw11
  go_wp2_with fail
  have HL := Kept.mk (show Calls Try.prog 52 #[.pointer (some ⟨qb, 0, none⟩)] w12 fun e w' => e = .returned (.int .i64 1) ∧ w12 = w' from qlen_any hQw12)
  refine HL.out.mono ?_
  rintro e w' ⟨rfl, rfl⟩
  clear HL
  go_wp2_with fail
  refine (show Calls Try.prog 53 #[.pointer (some ⟨qb, 0, none⟩), .int .i64 5] w12 (IntResO w12 [8]) from qlist_any hQw12 5).mono ?_
  intro e w13 hres
  obtain ⟨A, c, rfl, hI, hb13⟩ := hres.int
  have hbw13 := hbw12.trans (hb13.mono hbw12.size)
  clear hQw12 hb13 hbw12 hres
  go_wp2_with fail
  refine (same_any A (some ⟨w13.heap.size, 0, none⟩) [8] [8] c 1 _ ((hI.below (below_box _ _)).mono (by simp)) (ints_new w13 [8] 3 (0, 0)) (by simp) (by simp)).mono ?_
  rintro e w14 ⟨rfl, j, rfl⟩
  have hb14 := (below_box w13 (.cells #[.int .i64 8] 3)).drewN j
  have hbw14 := hbw13.trans (hb14.mono hbw13.size)
  clear hI hbw13 hb14
  go_wp2
  go_ret
  exact ⟨by first | rfl | simp, hbw14⟩
end Go.Proofs.Ytcchmkpodfjhcaa
