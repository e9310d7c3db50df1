/-
  A mark's line is read again: the kind.
-/
import Derived.Test.YtfneloplbkjbhaaDoorTM5
namespace Go.Proofs.YtfneloplbkjbhaaDoor
open Go.RowKit Go.Shelf
open Go.Lib (byteCells itoa)
set_option linter.unusedVariables false
theorem BA_inj {l m : List UInt8} (h : BA l = BA m) : l = m := by
  unfold BA at h
  injection h with h
  injection h
set_option maxHeartbeats 1600000 in
theorem kind_any (b : Nat) (w : World) (h0 : 1 ≤ b) (h1 : b ≤ 11) (hW : Wrd w) :
    Calls Tryd.prog 40 #[.string (BA (wordL b))] w fun e w' => e = .returned (.int .u8 b) ∧ w = w' := by
  go_enter Tryd.func40, Tryd.ntmps40
  go_wp2
  go_loop [3] (fun u => ∃ j : Nat, 1 ≤ j ∧ j ≤ b ∧ u = .int .u8 j) (fun u => b - (intOf u).toNat)
  case atStart => exact ⟨1, by omega, by omega, rfl⟩
  case round =>
    obtain ⟨j, hj0, hj1, rfl⟩ := hrel
    have c1 := hW j (by omega)
    by_cases hjb : j = b
    · subst hjb
      have heq : (wordL j == wordL j) = true := beq_self_eq_true _
      go_wp2
      go_ret
      exact ⟨rfl, rfl⟩
    · have hne : ¬ wordL j = wordL b := fun h => hjb (word_inj (by omega) (by omega) h)
      have heq : (wordL j == wordL b) = false := beq_eq_false_iff_ne.2 hne
      go_wp2
      go_round
      case rel => exact ⟨j + 1, by omega, by omega, by go_num⟩
      case measure => simp [intOf]; omega
end Go.Proofs.YtfneloplbkjbhaaDoor
