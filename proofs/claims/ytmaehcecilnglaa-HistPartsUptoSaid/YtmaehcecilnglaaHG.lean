/-
  A guarded comparison of two equal histograms, in a region that does not draw its order.
-/
import Derived.Test.YtmaehcecilnglaaL38
import Derived.Test.YtmaehcecilnglaaHO
namespace Go.Proofs.Ytmaehcecilnglaa
open Go.RowKit
set_option linter.unusedVariables false
theorem wpList_eq_g {V : List Int} {L : List Value} (hV : V.length = 54) (hL : L = V.map (Value.int .i64)) {ops : Array Oper} {rest : List Oper} {o : Oper} {a : Act} {w : World} {Q : Exit → Act → World → Prop} {j : Nat} {want : Bool} (hgd : o.guard = some (j, want)) (hy : yielded ops a.tmps j = some want) (x y : Operand) (t : TypeId) (ho : o.op = .binOp .eql 24 x y t)
    (hx : a.eval x = .agg L.toArray) (hy2 : a.eval y = .agg L.toArray) (h : wpList Try.prog ops Q rest (a.put o.dst (.bool true)) w) : wpList Try.prog ops Q (o :: rest) a w :=
  wpList_step fun K hK => by
    simp only [Region.wanted, hgd, hy, beq_self_eq_true, if_true]
    unfold Oper.wp
    rw [exec_eql hV hL ho hx hy2 w]
    exact hK _ _ h
end Go.Proofs.Ytmaehcecilnglaa
