/-
  The law TopServes of vergetop: its walk, where the priorities are refused.
-/
import Derived.Test.YtcchmkpodfjhcaaDoorT12
namespace Go.Proofs.YtcchmkpodfjhcaaDoor
open Go.RowKit Go.Shelf
set_option linter.unusedVariables false
theorem lb5 : lb 64 5 = [0, 2] := by decide
theorem list5 (w : World) (hT : Tab w) (hs : 0 < w.heap.size) : Calls Tryd.prog 9 #[.int .u64 5] w fun e w' => ∃ b off c, e = .returned (.slice (some ⟨b, off, none⟩) 2 c) ∧ w'.cell? ⟨b, off + 1, none⟩ = some (.int .i64 2) ∧ Below w.heap.size w w' := by
  refine (listO_any 5 (by decide) w hT hs).mono ?_
  rintro e w' ⟨v, rfl, own, hb⟩
  rw [lb5] at own
  obtain ⟨A, c, rfl⟩ := own_slice own
  obtain ⟨b, off, rfl, _, hc⟩ := (Ints.of_own own).2 (by simp)
  exact ⟨b, off, c, rfl, hc 1 (by simp), hb⟩
theorem between_mk (xs : List Int) (hl : xs.length ≤ 17592186044416) (w : World) : Calls Tryd.prog 11 #[.int .i64 0, .int .i64 ((xs.length : Int) - 1)] w fun e w' => e = .returned (.int .u64 (mk xs : Int)) ∧ w = w' :=
  between_any _ _ _ (wf_i64 (by omega) (by omega))
set_option maxHeartbeats 1000000 in
theorem walk_bad (A : Option Addr) (xs : List Int) (cap : Nat) (L : Int) (w : World) (h : Ints w w.heap.size A xs) (hA : A = none → cap = 0) (hl : xs.length ≤ 17592186044416) (hB : Bad xs) (hT : Tab w) (hs0 : 0 < w.heap.size) :
    Calls Tryd.prog 3 #[.slice A xs.length cap, .int .u64 L] w fun e w' => e = .returned (.bool true) ∧ Below w.heap.size w w' := by
  have HI := Kept.mk (fun W (hw : Below w.heap.size w W) => (h.below hw).mono hw.size)
  have HB := Kept.mk hB
  have li : (xs.length : Int) ≤ 17592186044416 := by omega
  clear h hB
  go_enter Tryd.func3, Tryd.ntmps3
  go_wp2_with (first
    | (go_at_call 8; refine (begins_any _).mono ?_; rintro e w' ⟨rfl, rfl⟩)
    | (go_at_call 9; refine (list5 _ hT hs0).mono ?_; rintro e w1 ⟨b1, o1, k1, rfl, hc1, hb1⟩)
    | (go_at_call 11; refine (between_mk xs hl _).mono ?_; rintro e w' ⟨rfl, rfl⟩)
    | (go_at_call 10; refine (make_bad A xs cap _ (HI.out _ hb1) hA hl HB.out).mono ?_; rintro e w2 ⟨rfl, hb2⟩))
  go_ret
  exact ⟨rfl, (hb1.trans (hb2.mono hb1.size)).alloc (Nat.le_trans hb1.size hb2.size) _⟩
end Go.Proofs.YtcchmkpodfjhcaaDoor
