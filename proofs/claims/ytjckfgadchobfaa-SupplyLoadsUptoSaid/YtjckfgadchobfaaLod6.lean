/-
  The walk of vergeref24.Same at two slices that read alike.
-/
import Derived.Test.YtjckfgadchobfaaLod5
import Derived.Test.YtjckfgadchobfaaCur4
namespace Go.Proofs.Ytjckfgadchobfaa
open Go.RowKit
set_option linter.unusedVariables false

set_option maxHeartbeats 1000000 in
theorem same24_any (A B : Option Addr) (xs : List Q4) (c d : Nat) (w : World) (hx : R4 w w.heap.size A xs) (hy : R4 w w.heap.size B xs) (hl : xs.length ≤ 9223372036854775807) :
    Calls Try.prog 54 #[.slice A xs.length c, .slice B xs.length d] w fun e w' => e = .returned (.bool true) ∧ ∃ n, w' = w.drewN n := by
  go_enter Try.func54, Try.ntmps54
  go_wp2
  go_loopw [13] (fun i wr => ∃ (k n : Nat), k ≤ xs.length ∧ i = .int .i64 k ∧ wr = w.drewN n) (fun i _ => xs.length - (intOf i).toNat)
  case atStart => exact ⟨0, 0, by omega, rfl, rfl⟩
  case round =>
    obtain ⟨k, n, hk, rfl, rfl⟩ := hrel
    by_cases hlt : k < xs.length
    · obtain ⟨b, off, rfl, hbB, hc⟩ := hx (by omega)
      obtain ⟨b2, off2, rfl, hbB2, hc2⟩ := hy (by omega)
      obtain ⟨x, hx'⟩ := some_at hlt
      obtain ⟨e1, e2, e3, e4⟩ := hc k x hx'
      obtain ⟨f1, f2, f3, f4⟩ := hc2 k x hx'
      clear hc hc2 hx'
      obtain ⟨xa, xb, xc, xd⟩ := x
      simp only at e1 e2 e3 e4 f1 f2 f3 f4
      go_wp2_with (go_quiet (fail))
      go_roundw
      case rel => exact ⟨k + 1, _, by omega, by go_num, rfl⟩
      case measure => simp [intOf]; omega
    · go_wp2
      go_ret
      exact ⟨rfl, n, rfl⟩
end Go.Proofs.Ytjckfgadchobfaa
