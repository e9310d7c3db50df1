/-
  demand.One and its reference; vergelaw23.each, vergelaw23.lives.
-/
import Derived.Test.YtjckfgadchobfaaDem4
namespace Go.Proofs.Ytjckfgadchobfaa
open Go.RowKit
set_option linter.unusedVariables false

theorem r4_newn (w : World) (n : Nat) (hn : w.heap.size = n) (xs : List Q4) (T : TypeId) (fr : Nat × Nat) : R4 (w.alloc (.cells (xs.flatMap Q4.cells).toArray T fr)) (w.alloc (.cells (xs.flatMap Q4.cells).toArray T fr)).heap.size (some ⟨n, 0, none⟩) xs := by
  rw [← hn]; exact r4_new w xs T fr
set_option maxHeartbeats 400000 in
theorem one_any (p j a c wd : Int) (w : World) :
    Calls Try.prog 38 #[.agg #[.int .i64 p, .int .i64 j, .int .i64 a, .int .i64 c], .int .i64 wd] w fun e w' => e = .returned (.tuple #[.int .i64 (alV [⟨p, j, a, c⟩] wd), .int .i64 (alE [⟨p, j, a, c⟩] wd)]) ∧ Below w.heap.size w w' := by
  have hR := r4_newn (w.alloc (.cells #[.int .i64 p, .int .i64 j, .int .i64 a, .int .i64 c] 51)) (w.heap.size + 1) (by simp) [⟨p, j, a, c⟩] 51 (0, 0)
  go_enter Try.func38, Try.ntmps38
  go_wp2_with fail
  refine (all_any _ [⟨p, j, a, c⟩] _ _ _ hR (by simp)).mono ?_
  rintro e w1 ⟨rfl, hb⟩
  go_wp2
  go_ret2
  exact ⟨rfl, ((below_box w _).next1 (by simp) hb)⟩
set_option maxHeartbeats 400000 in
theorem rone_any (p j a c wd : Int) (w : World) :
    Calls Try.prog 39 #[.agg #[.int .i64 p, .int .i64 j, .int .i64 a, .int .i64 c], .int .i64 wd] w fun e w' => e = .returned (.tuple #[.int .i64 (alV [⟨p, j, a, c⟩] wd), .int .i64 (alE [⟨p, j, a, c⟩] wd)]) ∧ Below w.heap.size w w' := by
  have hR := r4_newn (w.alloc (.cells #[.int .i64 p, .int .i64 j, .int .i64 a, .int .i64 c] 51)) (w.heap.size + 1) (by simp) [⟨p, j, a, c⟩] 51 (0, 0)
  go_enter Try.func39, Try.ntmps39
  go_wp2_with fail
  refine (rall_any _ [⟨p, j, a, c⟩] _ _ _ hR (by simp)).mono ?_
  rintro e w1 ⟨rfl, hb⟩
  go_wp2
  go_ret2
  exact ⟨rfl, ((below_box w _).next1 (by simp) hb)⟩

theorem each23 (p c : Int) (w : World) :
    Calls Try.prog 70 #[.int .i64 p, .int .i64 c] w fun e w' => e = .returned (.agg #[.int .i64 p, .int .i64 0, .int .i64 p, .int .i64 c]) ∧ Below w.heap.size w w' := by
  go_enter Try.func70, Try.ntmps70
  go_wp2
  exact bodyPost_ret (v := .agg #[.int .i64 p, .int .i64 0, .int .i64 p, .int .i64 c]) (by simp [results, Try.results70, go_sem]) rfl ⟨rfl, below_box _ _⟩

set_option maxHeartbeats 1000000 in
theorem lives23 (w : World) : Calls Try.prog 42 #[] w fun e w' => e = .returned (.bool true) ∧ Below w.heap.size w w' := by
  have v1 : alV [⟨10, 0, 10, 3⟩, ⟨5, 0, 5, 1⟩] 12 = 9 := by decide
  have v2 : alE [⟨10, 0, 10, 3⟩, ⟨5, 0, 5, 1⟩] 12 = 0 := by decide
  have v3 : alV [⟨10, 0, 10, 3⟩] 12 = 6 := by decide
  have v4 : alE [⟨10, 0, 10, 3⟩] 12 = 0 := by decide
  have v5 : usV [⟨10, 0, 10, 3⟩, ⟨5, 0, 5, 1⟩] = 500000 := by decide
  have v6 : usE [⟨10, 0, 10, 3⟩, ⟨5, 0, 5, 1⟩] = 0 := by decide
  have v7 : alE [⟨10, 0, 10, 3⟩, ⟨5, 0, 5, 1⟩] (-1) = 1 := by decide
  have v8 : alE [⟨1, 0, 1, 1099511627776⟩] 1099511627776 = 10 := by decide
  have v9 : alE [⟨0, 0, 0, 0⟩] 1 = 2 := by decide
  have v10 : ldsE [⟨10, 0, 10, 3⟩, ⟨5, 0, 5, 1⟩] = 0 := by decide
  go_enter Try.func42, Try.ntmps42
  go_wp2_with fail
  refine (each23 _ _ _).mono ?_
  rintro e w1 ⟨rfl, HB⟩
  go_wp2_with fail
  refine (each23 _ _ _).mono ?_
  rintro e w2 ⟨rfl, hb⟩
  replace HB := HB.next HB.size hb
  clear hb
  have hR := r4_new w2 [⟨10, 0, 10, 3⟩, ⟨5, 0, 5, 1⟩] 51 (0, 0)
  go_wp2_with fail
  refine (all_any _ [⟨10, 0, 10, 3⟩, ⟨5, 0, 5, 1⟩] _ _ _ hR (by simp)).mono ?_
  rintro e w3 ⟨rfl, hb⟩
  replace HB := HB.next1 HB.size hb
  replace hR := (hR.below hb).mono hb.size
  clear hb
  obtain ⟨b, off, e1, hbl, hc⟩ := hR (by simp)
  obtain ⟨c1, c2, c3, c4⟩ := hc 0 _ rfl
  injection e1 with e1; injection e1 with e1 e2; subst e1; subst e2
  simp only [Nat.zero_mul, Nat.add_zero, Nat.zero_add] at c1 c2 c3 c4
  clear hc
  go_wp2_with fail
  refine (one_any _ _ _ _ _ _).mono ?_
  rintro e w4 ⟨rfl, hb⟩
  replace HB := HB.next HB.size hb
  replace hR := (hR.below hb).mono hb.size
  clear hb c1 c2 c3 c4
  go_wp2_with fail
  refine (use_any _ [⟨10, 0, 10, 3⟩, ⟨5, 0, 5, 1⟩] _ _ hR (by simp)).mono ?_
  rintro e w5 ⟨rfl, hb⟩
  replace HB := HB.next HB.size hb
  replace hR := (hR.below hb).mono hb.size
  clear hb
  go_wp2_with fail
  refine (all_any _ [⟨10, 0, 10, 3⟩, ⟨5, 0, 5, 1⟩] _ _ _ hR (by simp)).mono ?_
  rintro e w6 ⟨rfl, hb⟩
  replace HB := HB.next HB.size hb
  replace hR := (hR.below hb).mono hb.size
  clear hb
  go_wp2_with fail
  refine (each23 _ _ _).mono ?_
  rintro e w7 ⟨rfl, hb⟩
  replace HB := HB.next HB.size hb
  replace hR := (hR.below hb).mono hb.size
  clear hb
  go_wp2_with fail
  refine (all_any _ [⟨1, 0, 1, 1099511627776⟩] _ _ _ (r4_new w7 [⟨1, 0, 1, 1099511627776⟩] 51 (0, 0)) (by simp)).mono ?_
  rintro e w8 ⟨rfl, hb⟩
  replace hR := ((hR.below (below_box w7 (.cells #[.int .i64 1, .int .i64 0, .int .i64 1, .int .i64 1099511627776] 51))).mono (Nat.le_of_lt (by simp))).below hb
  replace hR := hR.mono hb.size
  replace HB := HB.next1 HB.size hb
  clear hb
  go_wp2_with fail
  refine (one_any _ _ _ _ _ _).mono ?_
  rintro e w9 ⟨rfl, hb⟩
  replace HB := HB.next HB.size hb
  replace hR := (hR.below hb).mono hb.size
  clear hb
  go_wp2_with fail
  refine (dcheck_any _ [⟨10, 0, 10, 3⟩, ⟨5, 0, 5, 1⟩] _ _ hR (by simp)).mono ?_
  rintro e w10 ⟨rfl, hb⟩
  replace HB := HB.next HB.size hb
  clear hb
  go_wp2
  go_ret
  exact ⟨rfl, HB⟩
end Go.Proofs.Ytjckfgadchobfaa
