/-
  The walks of intc.lines and intc.Check, on controllers of edges, of no threshold, with at most one line being served.
-/
import Derived.Test.YtcchmkpodfjhcaaDoorT2
namespace Go.Proofs.YtcchmkpodfjhcaaDoor
open Go.RowKit
set_option linter.unusedVariables false
/-- A controller's cells. -/
def iC (P E R D : Int) (v : Value) (t : Int) (s : Value) : Array Value := #[.int .u64 P, .int .u64 E, .int .u64 R, .int .u64 D, v, .int .i64 t, s]
def mk (xs : List Int) : Nat := btN 0 ((xs.length : Int) - 1)
theorem wf_i64 {x : Int} (h1 : -9223372036854775808 ≤ x) (h2 : x ≤ 9223372036854775807) : (Lit.int .i64 x).wf = true := by
  simp [Lit.wf, IntKind.min, IntKind.max, IntKind.signed, IntKind.bits]; omega
set_option maxHeartbeats 1000000 in
theorem lines_any (P E R D : Int) (A : Option Addr) (xs : List Int) (cap : Nat) (t : Int) (s : Value) (w : World) (hl : xs.length ≤ 17592186044416) :
    Calls Tryd.prog 34 #[.agg #[.int .u64 P, .int .u64 E, .int .u64 R, .int .u64 D, .slice A xs.length cap, .int .i64 t, s]] w fun e w' => e = .returned (.int .u64 (mk xs : Int)) ∧ Below w.heap.size w w' := by
  have li : (xs.length : Int) ≤ 17592186044416 := by omega
  go_enter Tryd.func34, Tryd.ntmps34
  go_wp2_with ((go_at_call 11; refine (between_any _ _ _ (wf_i64 (by omega) (by omega))).mono ?_; rintro e w' ⟨rfl, rfl⟩))
  go_ret
  exact ⟨rfl, below_box _ _⟩
end Go.Proofs.YtcchmkpodfjhcaaDoor
