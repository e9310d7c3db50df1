/-
  An operation of a region laid out.
-/
import Derived.Test.YtmaehcecilnglaaL38
import Derived.Deep.RegionHeld3
open Lean Elab Tactic Meta
namespace Go
/-- Operation number i of the goal's region, written out: 'hop'. -/
elab "lay_op " i:num : tactic => withMainContext do
  let t := (← instantiateMVars (← getMainTarget)).consumeMData
  let ops := t.getAppArgs[2]!
  let some oe := opAt ops i.getNat | throwError "no operation there"
  let oStx ← Term.exprToSyntax oe
  let pStx ← Term.exprToSyntax ops
  let h := mkIdent `hop
  evalTactic (← `(tactic| have $h:ident : $pStx[$i]? = some $oStx := rfl))
end Go
