/-
  No cell of these rows narrows 'for every input' (looked for: loops, veiled, ifaces, maps, wideKeys, modest, calm, conditions, laid).
  DERIVED. THE GIVEN ROWS OF THIS SEAT. 14 by the template 'for every input the law returns true; each argument reads behind the call as it read before'; 0 by the template 'total and deterministic' (their statements: YtjckfgadchobfaaTotals.lean).
  GIVEN WITH THE SEED: the statements are not yours to turn. If you find one false, say at which input.
  Laid BY PROGRAM, IN A SANDBOX (cutbox-rows.mjs): the forced cells as the released guide's own fill.sh prints them over the translation 47944f6a7903b0a9… (all of the seat's roots in one cut). By AI agents, Wed Nov 11 2026. No macro, syntax, notation, axiom, sorry.
-/
import Derived.Test.YtjckfgadchobfaaChecked
import GoSem.Claim
import GoSem.ClaimJoined
import GoSem.ClaimMapViews
import Derived.JoinedTies
import Derived.KernelRfl
namespace Go.Proofs.Ytjckfgadchobfaa
/- THE CELL 'sum', in the pinned program and in every row, IS THE sha256 OF THE DUMP (.gsa) THAT YtjckfgadchobfaaProg.lean LOADS. Nothing in Lean hashes anything: it is a label: what it is worth is what the hold of that sum in a sandbox is worth. -/
noncomputable def Try.pinned : Pinned := { name := "ytjckfgadchobfaa", sum := "47944f6a7903b0a97badc8ae8d00b6acdc3d3ae58deabf195b32c6b0bd29bbdf", checked := Try.checked }
namespace Rows
def none {H : Type} : Left H := { results := [], args := [] }

/-- 'vergelaw24.SupplyBounds': WHATEVER THE INPUT: true; the input reads as it did. -/
def supplyBoundsSpec : ChangeSpec := { name := "supplyBounds", fn := fun _ => fun
  | [d1, d2, d3, d4, d5] => { results := [.lit (.bool true)], args := [d1, d2, d3, d4, d5] }
  | _ => none }
def supplyBoundsRow : OpenClaim := { program := "ytjckfgadchobfaa", sum := "47944f6a7903b0a97badc8ae8d00b6acdc3d3ae58deabf195b32c6b0bd29bbdf", func := "verge/vergelaw24.SupplyBounds", spec := "supplyBounds", apart := false }
def SupplyBoundsSaid : Prop := supplyBoundsRow.holds Try.pinned (OpenSpec.ofChange supplyBoundsSpec)

/-- ITS FALSE NEIGHBOUR: 'it returns false'. Refute it at one input. -/
def supplyBoundsWrong : ChangeSpec := { name := "supplyBounds", fn := fun _ => fun
  | [d1, d2, d3, d4, d5] => { results := [.lit (.bool false)], args := [d1, d2, d3, d4, d5] }
  | _ => none }
def SupplyBoundsWrongFalsely : Prop := supplyBoundsRow.holds Try.pinned (OpenSpec.ofChange supplyBoundsWrong)

/-- 'vergelaw22.CurveBounds': WHATEVER THE INPUT: true; the input reads as it did. -/
def curveBoundsSpec : ChangeSpec := { name := "curveBounds", fn := fun _ => fun
  | [d1, d2, d3] => { results := [.lit (.bool true)], args := [d1, d2, d3] }
  | _ => none }
def curveBoundsRow : OpenClaim := { program := "ytjckfgadchobfaa", sum := "47944f6a7903b0a97badc8ae8d00b6acdc3d3ae58deabf195b32c6b0bd29bbdf", func := "verge/vergelaw22.CurveBounds", spec := "curveBounds", apart := false }
def CurveBoundsSaid : Prop := curveBoundsRow.holds Try.pinned (OpenSpec.ofChange curveBoundsSpec)

/-- ITS FALSE NEIGHBOUR: 'it returns false'. Refute it at one input. -/
def curveBoundsWrong : ChangeSpec := { name := "curveBounds", fn := fun _ => fun
  | [d1, d2, d3] => { results := [.lit (.bool false)], args := [d1, d2, d3] }
  | _ => none }
def CurveBoundsWrongFalsely : Prop := curveBoundsRow.holds Try.pinned (OpenSpec.ofChange curveBoundsWrong)

/-- 'vergelaw22.CurveFits': WHATEVER THE INPUT: true; the input reads as it did. -/
def curveFitsSpec : ChangeSpec := { name := "curveFits", fn := fun _ => fun
  | [d1, d2, d3] => { results := [.lit (.bool true)], args := [d1, d2, d3] }
  | _ => none }
def curveFitsRow : OpenClaim := { program := "ytjckfgadchobfaa", sum := "47944f6a7903b0a97badc8ae8d00b6acdc3d3ae58deabf195b32c6b0bd29bbdf", func := "verge/vergelaw22.CurveFits", spec := "curveFits", apart := false }
def CurveFitsSaid : Prop := curveFitsRow.holds Try.pinned (OpenSpec.ofChange curveFitsSpec)

/-- ITS FALSE NEIGHBOUR: 'it returns false'. Refute it at one input. -/
def curveFitsWrong : ChangeSpec := { name := "curveFits", fn := fun _ => fun
  | [d1, d2, d3] => { results := [.lit (.bool false)], args := [d1, d2, d3] }
  | _ => none }
def CurveFitsWrongFalsely : Prop := curveFitsRow.holds Try.pinned (OpenSpec.ofChange curveFitsWrong)

/-- 'vergelaw22.CurveJust': WHATEVER THE INPUT: true; the input reads as it did. -/
def curveJustSpec : ChangeSpec := { name := "curveJust", fn := fun _ => fun
  | [d1, d2] => { results := [.lit (.bool true)], args := [d1, d2] }
  | _ => none }
def curveJustRow : OpenClaim := { program := "ytjckfgadchobfaa", sum := "47944f6a7903b0a97badc8ae8d00b6acdc3d3ae58deabf195b32c6b0bd29bbdf", func := "verge/vergelaw22.CurveJust", spec := "curveJust", apart := false }
def CurveJustSaid : Prop := curveJustRow.holds Try.pinned (OpenSpec.ofChange curveJustSpec)

/-- ITS FALSE NEIGHBOUR: 'it returns false'. Refute it at one input. -/
def curveJustWrong : ChangeSpec := { name := "curveJust", fn := fun _ => fun
  | [d1, d2] => { results := [.lit (.bool false)], args := [d1, d2] }
  | _ => none }
def CurveJustWrongFalsely : Prop := curveJustRow.holds Try.pinned (OpenSpec.ofChange curveJustWrong)

/-- 'vergelaw22.CurveDense': WHATEVER THE INPUT: true; the input reads as it did. -/
def curveDenseSpec : ChangeSpec := { name := "curveDense", fn := fun _ => fun
  | [d1, d2, d3] => { results := [.lit (.bool true)], args := [d1, d2, d3] }
  | _ => none }
def curveDenseRow : OpenClaim := { program := "ytjckfgadchobfaa", sum := "47944f6a7903b0a97badc8ae8d00b6acdc3d3ae58deabf195b32c6b0bd29bbdf", func := "verge/vergelaw22.CurveDense", spec := "curveDense", apart := false }
def CurveDenseSaid : Prop := curveDenseRow.holds Try.pinned (OpenSpec.ofChange curveDenseSpec)

/-- ITS FALSE NEIGHBOUR: 'it returns false'. Refute it at one input. -/
def curveDenseWrong : ChangeSpec := { name := "curveDense", fn := fun _ => fun
  | [d1, d2, d3] => { results := [.lit (.bool false)], args := [d1, d2, d3] }
  | _ => none }
def CurveDenseWrongFalsely : Prop := curveDenseRow.holds Try.pinned (OpenSpec.ofChange curveDenseWrong)

/-- 'vergelaw22.CurveParts': WHATEVER THE INPUT: true; the input reads as it did. -/
def curvePartsSpec : ChangeSpec := { name := "curveParts", fn := fun _ => fun
  | [d1, d2, d3] => { results := [.lit (.bool true)], args := [d1, d2, d3] }
  | _ => none }
def curvePartsRow : OpenClaim := { program := "ytjckfgadchobfaa", sum := "47944f6a7903b0a97badc8ae8d00b6acdc3d3ae58deabf195b32c6b0bd29bbdf", func := "verge/vergelaw22.CurveParts", spec := "curveParts", apart := false }
def CurvePartsSaid : Prop := curvePartsRow.holds Try.pinned (OpenSpec.ofChange curvePartsSpec)

/-- ITS FALSE NEIGHBOUR: 'it returns false'. Refute it at one input. -/
def curvePartsWrong : ChangeSpec := { name := "curveParts", fn := fun _ => fun
  | [d1, d2, d3] => { results := [.lit (.bool false)], args := [d1, d2, d3] }
  | _ => none }
def CurvePartsWrongFalsely : Prop := curvePartsRow.holds Try.pinned (OpenSpec.ofChange curvePartsWrong)

/-- 'vergelaw23.DemandSums': WHATEVER THE INPUT: true; the input reads as it did. -/
def demandSumsSpec : ChangeSpec := { name := "demandSums", fn := fun _ => fun
  | [d1, d2, d3] => { results := [.lit (.bool true)], args := [d1, d2, d3] }
  | _ => none }
def demandSumsRow : OpenClaim := { program := "ytjckfgadchobfaa", sum := "47944f6a7903b0a97badc8ae8d00b6acdc3d3ae58deabf195b32c6b0bd29bbdf", func := "verge/vergelaw23.DemandSums", spec := "demandSums", unfollowed := true, recurses := true, apart := false }
def DemandSumsSaid : Prop := demandSumsRow.holds Try.pinned (OpenSpec.ofChange demandSumsSpec)

/-- ITS FALSE NEIGHBOUR: 'it returns false'. Refute it at one input. -/
def demandSumsWrong : ChangeSpec := { name := "demandSums", fn := fun _ => fun
  | [d1, d2, d3] => { results := [.lit (.bool false)], args := [d1, d2, d3] }
  | _ => none }
def DemandSumsWrongFalsely : Prop := demandSumsRow.holds Try.pinned (OpenSpec.ofChange demandSumsWrong)

/-- 'vergelaw23.DemandMore': WHATEVER THE INPUT: true; the input reads as it did. -/
def demandMoreSpec : ChangeSpec := { name := "demandMore", fn := fun _ => fun
  | [d1, d2, d3, d4] => { results := [.lit (.bool true)], args := [d1, d2, d3, d4] }
  | _ => none }
def demandMoreRow : OpenClaim := { program := "ytjckfgadchobfaa", sum := "47944f6a7903b0a97badc8ae8d00b6acdc3d3ae58deabf195b32c6b0bd29bbdf", func := "verge/vergelaw23.DemandMore", spec := "demandMore", unfollowed := true, recurses := true, apart := false }
def DemandMoreSaid : Prop := demandMoreRow.holds Try.pinned (OpenSpec.ofChange demandMoreSpec)

/-- ITS FALSE NEIGHBOUR: 'it returns false'. Refute it at one input. -/
def demandMoreWrong : ChangeSpec := { name := "demandMore", fn := fun _ => fun
  | [d1, d2, d3, d4] => { results := [.lit (.bool false)], args := [d1, d2, d3, d4] }
  | _ => none }
def DemandMoreWrongFalsely : Prop := demandMoreRow.holds Try.pinned (OpenSpec.ofChange demandMoreWrong)

/-- 'vergelaw23.DemandUse': WHATEVER THE INPUT: true; the input reads as it did. -/
def demandUseSpec : ChangeSpec := { name := "demandUse", fn := fun _ => fun
  | [d1, d2] => { results := [.lit (.bool true)], args := [d1, d2] }
  | _ => none }
def demandUseRow : OpenClaim := { program := "ytjckfgadchobfaa", sum := "47944f6a7903b0a97badc8ae8d00b6acdc3d3ae58deabf195b32c6b0bd29bbdf", func := "verge/vergelaw23.DemandUse", spec := "demandUse", unfollowed := true, recurses := true, apart := false }
def DemandUseSaid : Prop := demandUseRow.holds Try.pinned (OpenSpec.ofChange demandUseSpec)

/-- ITS FALSE NEIGHBOUR: 'it returns false'. Refute it at one input. -/
def demandUseWrong : ChangeSpec := { name := "demandUse", fn := fun _ => fun
  | [d1, d2] => { results := [.lit (.bool false)], args := [d1, d2] }
  | _ => none }
def DemandUseWrongFalsely : Prop := demandUseRow.holds Try.pinned (OpenSpec.ofChange demandUseWrong)

/-- 'vergelaw25.SolveFinds': WHATEVER THE INPUT: true; the input reads as it did. -/
def solveFindsSpec : ChangeSpec := { name := "solveFinds", fn := fun _ => fun
  | [d1, d2, d3, d4] => { results := [.lit (.bool true)], args := [d1, d2, d3, d4] }
  | _ => none }
def solveFindsRow : OpenClaim := { program := "ytjckfgadchobfaa", sum := "47944f6a7903b0a97badc8ae8d00b6acdc3d3ae58deabf195b32c6b0bd29bbdf", func := "verge/vergelaw25.SolveFinds", spec := "solveFinds", unfollowed := true, recurses := true, apart := false }
def SolveFindsSaid : Prop := solveFindsRow.holds Try.pinned (OpenSpec.ofChange solveFindsSpec)

/-- ITS FALSE NEIGHBOUR: 'it returns false'. Refute it at one input. -/
def solveFindsWrong : ChangeSpec := { name := "solveFinds", fn := fun _ => fun
  | [d1, d2, d3, d4] => { results := [.lit (.bool false)], args := [d1, d2, d3, d4] }
  | _ => none }
def SolveFindsWrongFalsely : Prop := solveFindsRow.holds Try.pinned (OpenSpec.ofChange solveFindsWrong)

/-- 'vergelaw25.SolveLeast': WHATEVER THE INPUT: true; the input reads as it did. -/
def solveLeastSpec : ChangeSpec := { name := "solveLeast", fn := fun _ => fun
  | [d1, d2, d3, d4] => { results := [.lit (.bool true)], args := [d1, d2, d3, d4] }
  | _ => none }
def solveLeastRow : OpenClaim := { program := "ytjckfgadchobfaa", sum := "47944f6a7903b0a97badc8ae8d00b6acdc3d3ae58deabf195b32c6b0bd29bbdf", func := "verge/vergelaw25.SolveLeast", spec := "solveLeast", unfollowed := true, recurses := true, apart := false }
def SolveLeastSaid : Prop := solveLeastRow.holds Try.pinned (OpenSpec.ofChange solveLeastSpec)

/-- ITS FALSE NEIGHBOUR: 'it returns false'. Refute it at one input. -/
def solveLeastWrong : ChangeSpec := { name := "solveLeast", fn := fun _ => fun
  | [d1, d2, d3, d4] => { results := [.lit (.bool false)], args := [d1, d2, d3, d4] }
  | _ => none }
def SolveLeastWrongFalsely : Prop := solveLeastRow.holds Try.pinned (OpenSpec.ofChange solveLeastWrong)

/-- 'vergelaw25.SolveMore': WHATEVER THE INPUT: true; the input reads as it did. -/
def solveMoreSpec : ChangeSpec := { name := "solveMore", fn := fun _ => fun
  | [d1, d2, d3, d4, d5] => { results := [.lit (.bool true)], args := [d1, d2, d3, d4, d5] }
  | _ => none }
def solveMoreRow : OpenClaim := { program := "ytjckfgadchobfaa", sum := "47944f6a7903b0a97badc8ae8d00b6acdc3d3ae58deabf195b32c6b0bd29bbdf", func := "verge/vergelaw25.SolveMore", spec := "solveMore", unfollowed := true, recurses := true, apart := false }
def SolveMoreSaid : Prop := solveMoreRow.holds Try.pinned (OpenSpec.ofChange solveMoreSpec)

/-- ITS FALSE NEIGHBOUR: 'it returns false'. Refute it at one input. -/
def solveMoreWrong : ChangeSpec := { name := "solveMore", fn := fun _ => fun
  | [d1, d2, d3, d4, d5] => { results := [.lit (.bool false)], args := [d1, d2, d3, d4, d5] }
  | _ => none }
def SolveMoreWrongFalsely : Prop := solveMoreRow.holds Try.pinned (OpenSpec.ofChange solveMoreWrong)

/-- 'vergelaw25.SolveRises': WHATEVER THE INPUT: true; the input reads as it did. -/
def solveRisesSpec : ChangeSpec := { name := "solveRises", fn := fun _ => fun
  | [d1, d2, d3] => { results := [.lit (.bool true)], args := [d1, d2, d3] }
  | _ => none }
def solveRisesRow : OpenClaim := { program := "ytjckfgadchobfaa", sum := "47944f6a7903b0a97badc8ae8d00b6acdc3d3ae58deabf195b32c6b0bd29bbdf", func := "verge/vergelaw25.SolveRises", spec := "solveRises", unfollowed := true, recurses := true, apart := false }
def SolveRisesSaid : Prop := solveRisesRow.holds Try.pinned (OpenSpec.ofChange solveRisesSpec)

/-- ITS FALSE NEIGHBOUR: 'it returns false'. Refute it at one input. -/
def solveRisesWrong : ChangeSpec := { name := "solveRises", fn := fun _ => fun
  | [d1, d2, d3] => { results := [.lit (.bool false)], args := [d1, d2, d3] }
  | _ => none }
def SolveRisesWrongFalsely : Prop := solveRisesRow.holds Try.pinned (OpenSpec.ofChange solveRisesWrong)

/-- 'vergelaw24.SupplyLoads': WHATEVER THE INPUT: true; the input reads as it did. -/
def supplyLoadsSpec : ChangeSpec := { name := "supplyLoads", fn := fun _ => fun
  | [d1, d2, d3, d4] => { results := [.lit (.bool true)], args := [d1, d2, d3, d4] }
  | _ => none }
def supplyLoadsRow : OpenClaim := { program := "ytjckfgadchobfaa", sum := "47944f6a7903b0a97badc8ae8d00b6acdc3d3ae58deabf195b32c6b0bd29bbdf", func := "verge/vergelaw24.SupplyLoads", spec := "supplyLoads", unfollowed := true, recurses := true, apart := false }
def SupplyLoadsSaid : Prop := supplyLoadsRow.holds Try.pinned (OpenSpec.ofChange supplyLoadsSpec)

/-- ITS FALSE NEIGHBOUR: 'it returns false'. Refute it at one input. -/
def supplyLoadsWrong : ChangeSpec := { name := "supplyLoads", fn := fun _ => fun
  | [d1, d2, d3, d4] => { results := [.lit (.bool false)], args := [d1, d2, d3, d4] }
  | _ => none }
def SupplyLoadsWrongFalsely : Prop := supplyLoadsRow.holds Try.pinned (OpenSpec.ofChange supplyLoadsWrong)

/- THE SECOND FORM. 'bulk': how many values and letters a reading holds, each counted each time it is reached (what is shared counts as often as it is met; a slice's spare places count too). A statement '..UptoSaid' is the law's where the arguments, and the package variables that the reading takes, are together of bulk at most 1048576: NARROWER than '..Said'. Prove '..Said' where nothing that the law and all that it calls make is longer than what came in: it says more and counts as full. Else prove '..UptoSaid'. A law counts once. -/
mutual
def uptoBulk {H : Type} : DataW H → Nat
  | .lit (.string bytes) => bytes.length + 1
  | .lit _ => 1
  | .nil => 1
  | .ptr d => uptoBulk d + 1
  | .slice elems spare => uptoBulkAll elems + uptoBulkAll spare + 1
  | .agg parts => uptoBulkAll parts + 1
  | .iface _ d => uptoBulk d + 1
  | .map entries => uptoBulkEntries entries + 1
  | .held _ => 1
def uptoBulkAll {H : Type} : List (DataW H) → Nat
  | [] => 0
  | d :: r => uptoBulk d + uptoBulkAll r
def uptoBulkEntries {H : Type} : List (Lit × DataW H) → Nat
  | [] => 0
  | x :: r => uptoBulkEntry x + uptoBulkEntries r
def uptoBulkEntry {H : Type} : Lit × DataW H → Nat
  | (.string bytes, d) => bytes.length + uptoBulk d + 1
  | (_, d) => uptoBulk d + 1
 end
def uptoSmall : (H : Type) → List (DataW H) → Bool := fun _ ds => decide (uptoBulkAll ds ≤ 1048576)
def OpenSpec.upto (s : _root_.Go.ChangeSpec) : _root_.Go.OpenSpec := { _root_.Go.OpenSpec.ofChange s with cond := some uptoSmall }

/-- 'vergelaw24.SupplyBounds', WHERE WHAT IT READS IS OF BULK AT MOST 1048576: true; the input reads as it did. -/
def supplyBoundsUptoRow : OpenClaim := { program := "ytjckfgadchobfaa", sum := "47944f6a7903b0a97badc8ae8d00b6acdc3d3ae58deabf195b32c6b0bd29bbdf", func := "verge/vergelaw24.SupplyBounds", spec := "supplyBounds", apart := false, narrowed := true }
def SupplyBoundsUptoSaid : Prop := supplyBoundsUptoRow.holds Try.pinned (OpenSpec.upto supplyBoundsSpec)

/-- 'vergelaw22.CurveBounds', WHERE WHAT IT READS IS OF BULK AT MOST 1048576: true; the input reads as it did. -/
def curveBoundsUptoRow : OpenClaim := { program := "ytjckfgadchobfaa", sum := "47944f6a7903b0a97badc8ae8d00b6acdc3d3ae58deabf195b32c6b0bd29bbdf", func := "verge/vergelaw22.CurveBounds", spec := "curveBounds", apart := false, narrowed := true }
def CurveBoundsUptoSaid : Prop := curveBoundsUptoRow.holds Try.pinned (OpenSpec.upto curveBoundsSpec)

/-- 'vergelaw22.CurveFits', WHERE WHAT IT READS IS OF BULK AT MOST 1048576: true; the input reads as it did. -/
def curveFitsUptoRow : OpenClaim := { program := "ytjckfgadchobfaa", sum := "47944f6a7903b0a97badc8ae8d00b6acdc3d3ae58deabf195b32c6b0bd29bbdf", func := "verge/vergelaw22.CurveFits", spec := "curveFits", apart := false, narrowed := true }
def CurveFitsUptoSaid : Prop := curveFitsUptoRow.holds Try.pinned (OpenSpec.upto curveFitsSpec)

/-- 'vergelaw22.CurveJust', WHERE WHAT IT READS IS OF BULK AT MOST 1048576: true; the input reads as it did. -/
def curveJustUptoRow : OpenClaim := { program := "ytjckfgadchobfaa", sum := "47944f6a7903b0a97badc8ae8d00b6acdc3d3ae58deabf195b32c6b0bd29bbdf", func := "verge/vergelaw22.CurveJust", spec := "curveJust", apart := false, narrowed := true }
def CurveJustUptoSaid : Prop := curveJustUptoRow.holds Try.pinned (OpenSpec.upto curveJustSpec)

/-- 'vergelaw22.CurveDense', WHERE WHAT IT READS IS OF BULK AT MOST 1048576: true; the input reads as it did. -/
def curveDenseUptoRow : OpenClaim := { program := "ytjckfgadchobfaa", sum := "47944f6a7903b0a97badc8ae8d00b6acdc3d3ae58deabf195b32c6b0bd29bbdf", func := "verge/vergelaw22.CurveDense", spec := "curveDense", apart := false, narrowed := true }
def CurveDenseUptoSaid : Prop := curveDenseUptoRow.holds Try.pinned (OpenSpec.upto curveDenseSpec)

/-- 'vergelaw22.CurveParts', WHERE WHAT IT READS IS OF BULK AT MOST 1048576: true; the input reads as it did. -/
def curvePartsUptoRow : OpenClaim := { program := "ytjckfgadchobfaa", sum := "47944f6a7903b0a97badc8ae8d00b6acdc3d3ae58deabf195b32c6b0bd29bbdf", func := "verge/vergelaw22.CurveParts", spec := "curveParts", apart := false, narrowed := true }
def CurvePartsUptoSaid : Prop := curvePartsUptoRow.holds Try.pinned (OpenSpec.upto curvePartsSpec)

/-- 'vergelaw23.DemandSums', WHERE WHAT IT READS IS OF BULK AT MOST 1048576: true; the input reads as it did. -/
def demandSumsUptoRow : OpenClaim := { program := "ytjckfgadchobfaa", sum := "47944f6a7903b0a97badc8ae8d00b6acdc3d3ae58deabf195b32c6b0bd29bbdf", func := "verge/vergelaw23.DemandSums", spec := "demandSums", unfollowed := true, recurses := true, apart := false, narrowed := true }
def DemandSumsUptoSaid : Prop := demandSumsUptoRow.holds Try.pinned (OpenSpec.upto demandSumsSpec)

/-- 'vergelaw23.DemandMore', WHERE WHAT IT READS IS OF BULK AT MOST 1048576: true; the input reads as it did. -/
def demandMoreUptoRow : OpenClaim := { program := "ytjckfgadchobfaa", sum := "47944f6a7903b0a97badc8ae8d00b6acdc3d3ae58deabf195b32c6b0bd29bbdf", func := "verge/vergelaw23.DemandMore", spec := "demandMore", unfollowed := true, recurses := true, apart := false, narrowed := true }
def DemandMoreUptoSaid : Prop := demandMoreUptoRow.holds Try.pinned (OpenSpec.upto demandMoreSpec)

/-- 'vergelaw23.DemandUse', WHERE WHAT IT READS IS OF BULK AT MOST 1048576: true; the input reads as it did. -/
def demandUseUptoRow : OpenClaim := { program := "ytjckfgadchobfaa", sum := "47944f6a7903b0a97badc8ae8d00b6acdc3d3ae58deabf195b32c6b0bd29bbdf", func := "verge/vergelaw23.DemandUse", spec := "demandUse", unfollowed := true, recurses := true, apart := false, narrowed := true }
def DemandUseUptoSaid : Prop := demandUseUptoRow.holds Try.pinned (OpenSpec.upto demandUseSpec)

/-- 'vergelaw25.SolveFinds', WHERE WHAT IT READS IS OF BULK AT MOST 1048576: true; the input reads as it did. -/
def solveFindsUptoRow : OpenClaim := { program := "ytjckfgadchobfaa", sum := "47944f6a7903b0a97badc8ae8d00b6acdc3d3ae58deabf195b32c6b0bd29bbdf", func := "verge/vergelaw25.SolveFinds", spec := "solveFinds", unfollowed := true, recurses := true, apart := false, narrowed := true }
def SolveFindsUptoSaid : Prop := solveFindsUptoRow.holds Try.pinned (OpenSpec.upto solveFindsSpec)

/-- 'vergelaw25.SolveLeast', WHERE WHAT IT READS IS OF BULK AT MOST 1048576: true; the input reads as it did. -/
def solveLeastUptoRow : OpenClaim := { program := "ytjckfgadchobfaa", sum := "47944f6a7903b0a97badc8ae8d00b6acdc3d3ae58deabf195b32c6b0bd29bbdf", func := "verge/vergelaw25.SolveLeast", spec := "solveLeast", unfollowed := true, recurses := true, apart := false, narrowed := true }
def SolveLeastUptoSaid : Prop := solveLeastUptoRow.holds Try.pinned (OpenSpec.upto solveLeastSpec)

/-- 'vergelaw25.SolveMore', WHERE WHAT IT READS IS OF BULK AT MOST 1048576: true; the input reads as it did. -/
def solveMoreUptoRow : OpenClaim := { program := "ytjckfgadchobfaa", sum := "47944f6a7903b0a97badc8ae8d00b6acdc3d3ae58deabf195b32c6b0bd29bbdf", func := "verge/vergelaw25.SolveMore", spec := "solveMore", unfollowed := true, recurses := true, apart := false, narrowed := true }
def SolveMoreUptoSaid : Prop := solveMoreUptoRow.holds Try.pinned (OpenSpec.upto solveMoreSpec)

/-- 'vergelaw25.SolveRises', WHERE WHAT IT READS IS OF BULK AT MOST 1048576: true; the input reads as it did. -/
def solveRisesUptoRow : OpenClaim := { program := "ytjckfgadchobfaa", sum := "47944f6a7903b0a97badc8ae8d00b6acdc3d3ae58deabf195b32c6b0bd29bbdf", func := "verge/vergelaw25.SolveRises", spec := "solveRises", unfollowed := true, recurses := true, apart := false, narrowed := true }
def SolveRisesUptoSaid : Prop := solveRisesUptoRow.holds Try.pinned (OpenSpec.upto solveRisesSpec)

/-- 'vergelaw24.SupplyLoads', WHERE WHAT IT READS IS OF BULK AT MOST 1048576: true; the input reads as it did. -/
def supplyLoadsUptoRow : OpenClaim := { program := "ytjckfgadchobfaa", sum := "47944f6a7903b0a97badc8ae8d00b6acdc3d3ae58deabf195b32c6b0bd29bbdf", func := "verge/vergelaw24.SupplyLoads", spec := "supplyLoads", unfollowed := true, recurses := true, apart := false, narrowed := true }
def SupplyLoadsUptoSaid : Prop := supplyLoadsUptoRow.holds Try.pinned (OpenSpec.upto supplyLoadsSpec)

end Rows
end Go.Proofs.Ytjckfgadchobfaa
