/-
  The pool's laws: lives.
-/
import Derived.Test.YtcchmkpodfjhcaaR6
import Derived.Test.YtcchmkpodfjhcaaSameI
namespace Go.Proofs.Ytcchmkpodfjhcaa
open Go.RowKit
set_option linter.unusedVariables false
theorem take_at {w : World} {lo hi p L K n m : Nat} {S S' : PS} {k a b : Int} (h : PoolAt w lo hi p L K n m S) (e : tk m S k = (a, b, S')) :
    Calls Try.prog 17 #[.pointer (some ⟨p, 0, none⟩), .int .i64 k] w (PRes w lo hi p L K n m S' (.tuple #[.int .i64 a, .int .i64 b])) := by
  have := take_any h k
  rwa [e] at this
theorem give_at {w : World} {lo hi p L K n m : Nat} {S S' : PS} {k a : Int} (h : PoolAt w lo hi p L K n m S) (e : gv n S k = (a, S')) :
    Calls Try.prog 20 #[.pointer (some ⟨p, 0, none⟩), .int .i64 k] w (PRes w lo hi p L K n m S' (.int .i64 a)) := by
  have := give_any h k
  rwa [e] at this
theorem move_at {w : World} {lo hi p L K n m : Nat} {S S' : PS} {i k a : Int} (h : PoolAt w lo hi p L K n m S) (e : mv n m S i k = (a, S')) :
    Calls Try.prog 22 #[.pointer (some ⟨p, 0, none⟩), .int .i64 i, .int .i64 k] w (PRes w lo hi p L K n m S' (.int .i64 a)) := by
  have := move_any h i k
  rwa [e] at this
set_option maxRecDepth 100000 in
set_option maxHeartbeats 4000000 in
theorem lives07 (w : World) : Calls Try.prog 14 #[] w fun e w' => e = .returned (.bool true) ∧ Below w.heap.size w w' := by
  have HN := Kept.mk (new_walk 3 2 (by omega) (by omega) (by omega) (by omega) w)
  have HB := Kept.mk (fun W => new_bad 0 2 (by omega) W)
  go_enter Try.func14, Try.ntmps14
  go_wp2_with fail
  refine HN.out.mono ?_
  rintro e w1 ⟨p, L, K, rfl, hP, hb1⟩
  go_wp2_with fail
  refine (HB.out _).mono ?_
  rintro e w' ⟨rfl, rfl⟩
  go_wp2_with fail
  refine (take_at hP (show tk 2 (newS 3 2) 0 = (0, 0, ⟨[2, 1], [[0], []]⟩) from rfl)).mono ?_
  rintro e w2 ⟨rfl, hP2, hK⟩
  have hb2 := hK.below hb1 (Nat.le_refl _) hb1.size
  clear hP hK hb1 HN HB
  go_wp2_with fail
  refine (take_at hP2 (show tk 2 _ 0 = (1, 0, ⟨[2], [[0, 1], []]⟩) from rfl)).mono ?_
  rintro e w3 ⟨rfl, hP3, hK⟩
  have hb3 := hK.below hb2 (Nat.le_refl _) hb2.size
  clear hP2 hK hb2
  go_wp2_with fail
  refine (give_at hP3 (show gv 3 _ 0 = (0, ⟨[2, 0], [[1], []]⟩) from rfl)).mono ?_
  rintro e w4 ⟨rfl, hP4, hK⟩
  have hb4 := hK.below hb3 (Nat.le_refl _) hb3.size
  clear hP3 hK hb3
  go_wp2_with fail
  refine (take_at hP4 (show tk 2 _ 1 = (0, 0, ⟨[2], [[1], [0]]⟩) from rfl)).mono ?_
  rintro e w5 ⟨rfl, hP5, hK⟩
  have hb5 := hK.below hb4 (Nat.le_refl _) hb4.size
  clear hP4 hK hb4
  go_wp2_with fail
  refine (move_at hP5 (show mv 3 2 _ 1 1 = (0, ⟨[2], [[], [0, 1]]⟩) from rfl)).mono ?_
  rintro e w6 ⟨rfl, hP6, hK⟩
  have hb6 := hK.below hb5 (Nat.le_refl _) hb5.size
  clear hP5 hK hb5
  have F1 := Kept.mk (show Calls Try.prog 31 #[.pointer (some ⟨p, 0, none⟩), .int .i64 1] w6 fun e w' => e = .returned (.tuple #[.int .i64 0, .bool true]) ∧ w6 = w' from pfirst hP6 1)
  have F2 := Kept.mk (show Calls Try.prog 29 #[.pointer (some ⟨p, 0, none⟩), .int .i64 0] w6 fun e w' => e = .returned (.tuple #[.int .i64 1, .bool true]) ∧ w6 = w' from pnext hP6 0)
  have F3 := Kept.mk (show Calls Try.prog 27 #[.pointer (some ⟨p, 0, none⟩), .int .i64 1] w6 fun e w' => e = .returned (.tuple #[.int .i64 1, .int .i64 0]) ∧ w6 = w' from pwhere hP6 1)
  go_wp2_with fail
  refine F1.out.mono ?_
  rintro e w' ⟨rfl, rfl⟩
  go_wp2_with fail
  refine F2.out.mono ?_
  rintro e w' ⟨rfl, rfl⟩
  go_wp2_with fail
  refine F3.out.mono ?_
  rintro e w' ⟨rfl, rfl⟩
  clear F1 F2 F3
  go_wp2_with fail
  refine (take_at hP6 (show tk 2 _ 2 = (0, 1, ⟨[2], [[], [0, 1]]⟩) from rfl)).mono ?_
  rintro e w7 ⟨rfl, hP7, hK⟩
  have hb7 := hK.below hb6 (Nat.le_refl _) hb6.size
  clear hP6 hK hb6
  have G1 := Kept.mk (show Calls Try.prog 23 #[.pointer (some ⟨p, 0, none⟩)] w7 fun e w' => e = .returned (.int .i64 1) ∧ w7 = w' from pfree hP7)
  go_wp2_with fail
  refine G1.out.mono ?_
  rintro e w' ⟨rfl, rfl⟩
  go_wp2_with fail
  refine (show Calls Try.prog 25 #[.pointer (some ⟨p, 0, none⟩), .int .i64 1] w7 (IntRes w7 [0, 1]) from plist_any hP7 1).mono ?_
  rintro e w8 ⟨A, c, rfl, hI, hb8⟩
  have hbw8 := hb7.trans (hb8.mono hb7.size)
  have hP8 := hP7.below hb8
  clear hP7 hb8 hb7 G1
  go_wp2_with fail
  refine (same_any A (some ⟨w8.heap.size, 0, none⟩) [0, 1] [0, 1] c 2 _ ((hI.below (below_box _ _)).mono (by simp)) (ints_new w8 [0, 1] 3 (0, 0)) (by simp) (by simp)).mono ?_
  rintro e w9 ⟨rfl, j, rfl⟩
  have hb9 := (below_box w8 (.cells #[.int .i64 0, .int .i64 1] 3)).drewN j
  have hP9 := hP8.below hb9
  have hbw9 := hbw8.trans (hb9.mono hbw8.size)
  have G2 := Kept.mk (show Calls Try.prog 25 #[.pointer (some ⟨p, 0, none⟩), .int .i64 0] _ (IntRes _ []) from plist_any hP9 0)
  clear hP8 hP9 hI hbw8
  go_wp2_with fail
  refine G2.out.mono ?_
  rintro e w10 ⟨A2, c2, rfl, _, hb10⟩
  have hbw10 := hbw9.trans (hb10.mono hbw9.size)
  clear G2 hbw9 hb9 hb10
  go_wp2
  go_ret
  exact ⟨by first | rfl | simp, hbw10⟩
end Go.Proofs.Ytcchmkpodfjhcaa
