/-
  Sets of bits: what they are as lists, and the walks of the reference (vergeref05): List, one, Has.
-/
import Derived.Test.YtakkfgkogomjbaaDoorVi
import Derived.Test.YtakkfgkogomjbaaDoorIR
namespace Go.Proofs.YtakkfgkogomjbaaDoor
open Go.RowKit
set_option linter.unusedVariables false

/-- The bits of a number below k, rising. -/
def lb (k b : Nat) : List Int := ((List.range k).filter fun i => b.testBit i).map fun i : Nat => (i : Int)
theorem lb_succ (k b : Nat) : lb (k + 1) b = lb k b ++ if b.testBit k then [(k : Int)] else [] := by
  unfold lb
  rw [List.range_succ, List.filter_append, List.map_append]
  by_cases h : b.testBit k
  · simp [h]
  · simp [h]
theorem lb_len (k b : Nat) : (lb k b).length ≤ k := by
  unfold lb
  have := List.length_filter_le (fun i => b.testBit i) (List.range k)
  simpa using this
theorem bit_div (b k : Nat) : b.testBit k = decide (b / 2 ^ k % 2 = 1) := Nat.testBit_eq_decide_div_mod_eq
theorem div_step (b k : Nat) : b / 2 ^ (k + 1) = b / 2 ^ k / 2 := by rw [Nat.pow_succ, Nat.div_div_eq_div_mul]

end Go.Proofs.YtakkfgkogomjbaaDoor
