/-
  What every top statement begins with.
-/
import Derived.Test.YtfneloplbkjbhaaDoorVk
namespace Go.Proofs.YtfneloplbkjbhaaDoor
open Go.RowKit
set_option linter.unusedVariables false
theorem low_any (t : Int) (h0 : 0 ≤ t) (h1 : t < 9223372036854775808) (w : World) : Calls Tryd.prog 14 #[.int .i64 t] w fun e w' => e = .returned (.int .u32 (t % 4294967296)) ∧ w = w' := by
  go_enter Tryd.func14, Tryd.ntmps14
  go_wp2
  go_ret
  exact ⟨by first | rfl | (simp [IntKind.wrap]; omega), rfl⟩
theorem diff35 (w : World) : Calls Tryd.prog 15 #[.int .u32 3, .int .u32 5] w fun e w' => e = .returned (.int .i64 (-2)) ∧ w = w' := by
  go_enter Tryd.func15, Tryd.ntmps15
  go_wp2
  go_ret
  exact ⟨by first | rfl | exact ret_i (by decide +kernel) | exact ret_i (by unfold wrap64 wrap32; decide +kernel), rfl⟩
theorem begins_any (w : World) : Calls Tryd.prog 5 #[] w fun e w' => e = .returned (.bool true) ∧ w = w' := by
  go_enter Tryd.func5, Tryd.ntmps5
  go_wp2_with (first | (go_at_call 14; refine (low_any _ (by decide) (by decide) _).mono ?_; rintro e w' ⟨rfl, rfl⟩) | (go_at_call 15; refine (diff35 _).mono ?_; rintro e w' ⟨rfl, rfl⟩))
  go_ret
  exact ⟨by first | rfl | decide, rfl⟩
end Go.Proofs.YtfneloplbkjbhaaDoor
