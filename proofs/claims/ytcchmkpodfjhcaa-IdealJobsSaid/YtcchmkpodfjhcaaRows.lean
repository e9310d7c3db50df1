/-
  No cell of these rows narrows 'for every input' (looked for: loops, veiled, ifaces, maps, wideKeys, modest, calm, conditions, laid).
  DERIVED. THE GIVEN ROWS OF THIS SEAT. 11 by the template 'for every input the law returns true; each argument reads behind the call as it read before'; 0 by the template 'total and deterministic' (their statements: YtcchmkpodfjhcaaTotals.lean).
  GIVEN WITH THE SEED: the statements are not yours to turn. If you find one false, say at which input.
  Laid BY PROGRAM, IN A SANDBOX (cutbox-rows.mjs): the forced cells as the released guide's own fill.sh prints them over the translation 6f3dcebc73c04c53… (all of the seat's roots in one cut). By AI agents, Wed Nov 11 2026. No macro, syntax, notation, axiom, sorry.
-/
import Derived.Test.YtcchmkpodfjhcaaChecked
import GoSem.Claim
import GoSem.ClaimJoined
import GoSem.ClaimMapViews
import Derived.JoinedTies
import Derived.KernelRfl
namespace Go.Proofs.Ytcchmkpodfjhcaa
/- THE CELL 'sum', in the pinned program and in every row, IS THE sha256 OF THE DUMP (.gsa) THAT YtcchmkpodfjhcaaProg.lean LOADS. Nothing in Lean hashes anything: it is a label: what it is worth is what the hold of that sum in a sandbox is worth. -/
noncomputable def Try.pinned : Pinned := { name := "ytcchmkpodfjhcaa", sum := "6f3dcebc73c04c5366cc017e2fe253eaac4a917e8dc3b1f2d6b9fe584f3dce11", checked := Try.checked }
namespace Rows
def none {H : Type} : Left H := { results := [], args := [] }

/-- 'vergelaw07.PoolPlays': WHATEVER THE INPUT: true; the input reads as it did. -/
def poolPlaysSpec : ChangeSpec := { name := "poolPlays", fn := fun _ => fun
  | [d1, d2, d3, d4, d5] => { results := [.lit (.bool true)], args := [d1, d2, d3, d4, d5] }
  | _ => none }
def poolPlaysRow : OpenClaim := { program := "ytcchmkpodfjhcaa", sum := "6f3dcebc73c04c5366cc017e2fe253eaac4a917e8dc3b1f2d6b9fe584f3dce11", func := "verge/vergelaw07.PoolPlays", spec := "poolPlays", unfollowed := true, recurses := true, apart := false }
def PoolPlaysSaid : Prop := poolPlaysRow.holds Try.pinned (OpenSpec.ofChange poolPlaysSpec)

/-- ITS FALSE NEIGHBOUR: 'it returns false'. Refute it at one input. -/
def poolPlaysWrong : ChangeSpec := { name := "poolPlays", fn := fun _ => fun
  | [d1, d2, d3, d4, d5] => { results := [.lit (.bool false)], args := [d1, d2, d3, d4, d5] }
  | _ => none }
def PoolPlaysWrongFalsely : Prop := poolPlaysRow.holds Try.pinned (OpenSpec.ofChange poolPlaysWrong)

/-- 'vergelaw07.PoolOnce': WHATEVER THE INPUT: true; the input reads as it did. -/
def poolOnceSpec : ChangeSpec := { name := "poolOnce", fn := fun _ => fun
  | [d1, d2, d3] => { results := [.lit (.bool true)], args := [d1, d2, d3] }
  | _ => none }
def poolOnceRow : OpenClaim := { program := "ytcchmkpodfjhcaa", sum := "6f3dcebc73c04c5366cc017e2fe253eaac4a917e8dc3b1f2d6b9fe584f3dce11", func := "verge/vergelaw07.PoolOnce", spec := "poolOnce", unfollowed := true, recurses := true, apart := false }
def PoolOnceSaid : Prop := poolOnceRow.holds Try.pinned (OpenSpec.ofChange poolOnceSpec)

/-- ITS FALSE NEIGHBOUR: 'it returns false'. Refute it at one input. -/
def poolOnceWrong : ChangeSpec := { name := "poolOnce", fn := fun _ => fun
  | [d1, d2, d3] => { results := [.lit (.bool false)], args := [d1, d2, d3] }
  | _ => none }
def PoolOnceWrongFalsely : Prop := poolOnceRow.holds Try.pinned (OpenSpec.ofChange poolOnceWrong)

/-- 'vergetop.TopLevels': WHATEVER THE INPUT: true; the input reads as it did. -/
def topLevelsSpec : ChangeSpec := { name := "topLevels", fn := fun _ => fun
  | [d1, d2, d3] => { results := [.lit (.bool true)], args := [d1, d2, d3] }
  | _ => none }
def topLevelsRow : OpenClaim := { program := "ytcchmkpodfjhcaa", sum := "6f3dcebc73c04c5366cc017e2fe253eaac4a917e8dc3b1f2d6b9fe584f3dce11", func := "verge/vergetop.TopLevels", spec := "topLevels", unfollowed := true, recurses := true, apart := false }
def TopLevelsSaid : Prop := topLevelsRow.holds Try.pinned (OpenSpec.ofChange topLevelsSpec)

/-- ITS FALSE NEIGHBOUR: 'it returns false'. Refute it at one input. -/
def topLevelsWrong : ChangeSpec := { name := "topLevels", fn := fun _ => fun
  | [d1, d2, d3] => { results := [.lit (.bool false)], args := [d1, d2, d3] }
  | _ => none }
def TopLevelsWrongFalsely : Prop := topLevelsRow.holds Try.pinned (OpenSpec.ofChange topLevelsWrong)

/-- 'vergelaw11.ReadyPlays': WHATEVER THE INPUT: true; the input reads as it did. -/
def readyPlaysSpec : ChangeSpec := { name := "readyPlays", fn := fun _ => fun
  | [d1, d2] => { results := [.lit (.bool true)], args := [d1, d2] }
  | _ => none }
def readyPlaysRow : OpenClaim := { program := "ytcchmkpodfjhcaa", sum := "6f3dcebc73c04c5366cc017e2fe253eaac4a917e8dc3b1f2d6b9fe584f3dce11", func := "verge/vergelaw11.ReadyPlays", spec := "readyPlays", unfollowed := true, recurses := true, apart := false }
def ReadyPlaysSaid : Prop := readyPlaysRow.holds Try.pinned (OpenSpec.ofChange readyPlaysSpec)

/-- ITS FALSE NEIGHBOUR: 'it returns false'. Refute it at one input. -/
def readyPlaysWrong : ChangeSpec := { name := "readyPlays", fn := fun _ => fun
  | [d1, d2] => { results := [.lit (.bool false)], args := [d1, d2] }
  | _ => none }
def ReadyPlaysWrongFalsely : Prop := readyPlaysRow.holds Try.pinned (OpenSpec.ofChange readyPlaysWrong)

/-- 'vergelaw11.ReadyOrder': WHATEVER THE INPUT: true; the input reads as it did. -/
def readyOrderSpec : ChangeSpec := { name := "readyOrder", fn := fun _ => fun
  | [d] => { results := [.lit (.bool true)], args := [d] }
  | _ => none }
def readyOrderRow : OpenClaim := { program := "ytcchmkpodfjhcaa", sum := "6f3dcebc73c04c5366cc017e2fe253eaac4a917e8dc3b1f2d6b9fe584f3dce11", func := "verge/vergelaw11.ReadyOrder", spec := "readyOrder", unfollowed := true, recurses := true, apart := false }
def ReadyOrderSaid : Prop := readyOrderRow.holds Try.pinned (OpenSpec.ofChange readyOrderSpec)

/-- ITS FALSE NEIGHBOUR: 'it returns false'. Refute it at one input. -/
def readyOrderWrong : ChangeSpec := { name := "readyOrder", fn := fun _ => fun
  | [d] => { results := [.lit (.bool false)], args := [d] }
  | _ => none }
def ReadyOrderWrongFalsely : Prop := readyOrderRow.holds Try.pinned (OpenSpec.ofChange readyOrderWrong)

/-- 'vergelaw11.ReadyTurns': WHATEVER THE INPUT: true; the input reads as it did. -/
def readyTurnsSpec : ChangeSpec := { name := "readyTurns", fn := fun _ => fun
  | [d1, d2] => { results := [.lit (.bool true)], args := [d1, d2] }
  | _ => none }
def readyTurnsRow : OpenClaim := { program := "ytcchmkpodfjhcaa", sum := "6f3dcebc73c04c5366cc017e2fe253eaac4a917e8dc3b1f2d6b9fe584f3dce11", func := "verge/vergelaw11.ReadyTurns", spec := "readyTurns", unfollowed := true, recurses := true, apart := false }
def ReadyTurnsSaid : Prop := readyTurnsRow.holds Try.pinned (OpenSpec.ofChange readyTurnsSpec)

/-- ITS FALSE NEIGHBOUR: 'it returns false'. Refute it at one input. -/
def readyTurnsWrong : ChangeSpec := { name := "readyTurns", fn := fun _ => fun
  | [d1, d2] => { results := [.lit (.bool false)], args := [d1, d2] }
  | _ => none }
def ReadyTurnsWrongFalsely : Prop := readyTurnsRow.holds Try.pinned (OpenSpec.ofChange readyTurnsWrong)

/-- 'vergelaw40.IdealPlans': WHATEVER THE INPUT: true; the input reads as it did. -/
def idealPlansSpec : ChangeSpec := { name := "idealPlans", fn := fun _ => fun
  | [d] => { results := [.lit (.bool true)], args := [d] }
  | _ => none }
def idealPlansRow : OpenClaim := { program := "ytcchmkpodfjhcaa", sum := "6f3dcebc73c04c5366cc017e2fe253eaac4a917e8dc3b1f2d6b9fe584f3dce11", func := "verge/vergelaw40.IdealPlans", spec := "idealPlans", unfollowed := true, recurses := true, apart := false }
def IdealPlansSaid : Prop := idealPlansRow.holds Try.pinned (OpenSpec.ofChange idealPlansSpec)

/-- ITS FALSE NEIGHBOUR: 'it returns false'. Refute it at one input. -/
def idealPlansWrong : ChangeSpec := { name := "idealPlans", fn := fun _ => fun
  | [d] => { results := [.lit (.bool false)], args := [d] }
  | _ => none }
def IdealPlansWrongFalsely : Prop := idealPlansRow.holds Try.pinned (OpenSpec.ofChange idealPlansWrong)

/-- 'vergelaw40.IdealJobs': WHATEVER THE INPUT: true; the input reads as it did. -/
def idealJobsSpec : ChangeSpec := { name := "idealJobs", fn := fun _ => fun
  | [d1, d2, d3] => { results := [.lit (.bool true)], args := [d1, d2, d3] }
  | _ => none }
def idealJobsRow : OpenClaim := { program := "ytcchmkpodfjhcaa", sum := "6f3dcebc73c04c5366cc017e2fe253eaac4a917e8dc3b1f2d6b9fe584f3dce11", func := "verge/vergelaw40.IdealJobs", spec := "idealJobs", unfollowed := true, recurses := true, apart := false }
def IdealJobsSaid : Prop := idealJobsRow.holds Try.pinned (OpenSpec.ofChange idealJobsSpec)

/-- ITS FALSE NEIGHBOUR: 'it returns false'. Refute it at one input. -/
def idealJobsWrong : ChangeSpec := { name := "idealJobs", fn := fun _ => fun
  | [d1, d2, d3] => { results := [.lit (.bool false)], args := [d1, d2, d3] }
  | _ => none }
def IdealJobsWrongFalsely : Prop := idealJobsRow.holds Try.pinned (OpenSpec.ofChange idealJobsWrong)

/-- 'vergelaw40.IdealAll': WHATEVER THE INPUT: true; the input reads as it did. -/
def idealAllSpec : ChangeSpec := { name := "idealAll", fn := fun _ => fun
  | [d] => { results := [.lit (.bool true)], args := [d] }
  | _ => none }
def idealAllRow : OpenClaim := { program := "ytcchmkpodfjhcaa", sum := "6f3dcebc73c04c5366cc017e2fe253eaac4a917e8dc3b1f2d6b9fe584f3dce11", func := "verge/vergelaw40.IdealAll", spec := "idealAll", unfollowed := true, recurses := true, apart := false }
def IdealAllSaid : Prop := idealAllRow.holds Try.pinned (OpenSpec.ofChange idealAllSpec)

/-- ITS FALSE NEIGHBOUR: 'it returns false'. Refute it at one input. -/
def idealAllWrong : ChangeSpec := { name := "idealAll", fn := fun _ => fun
  | [d] => { results := [.lit (.bool false)], args := [d] }
  | _ => none }
def IdealAllWrongFalsely : Prop := idealAllRow.holds Try.pinned (OpenSpec.ofChange idealAllWrong)

/-- 'vergelaw40.IdealUrgent': WHATEVER THE INPUT: true; the input reads as it did. -/
def idealUrgentSpec : ChangeSpec := { name := "idealUrgent", fn := fun _ => fun
  | [d1, d2] => { results := [.lit (.bool true)], args := [d1, d2] }
  | _ => none }
def idealUrgentRow : OpenClaim := { program := "ytcchmkpodfjhcaa", sum := "6f3dcebc73c04c5366cc017e2fe253eaac4a917e8dc3b1f2d6b9fe584f3dce11", func := "verge/vergelaw40.IdealUrgent", spec := "idealUrgent", unfollowed := true, recurses := true, apart := false }
def IdealUrgentSaid : Prop := idealUrgentRow.holds Try.pinned (OpenSpec.ofChange idealUrgentSpec)

/-- ITS FALSE NEIGHBOUR: 'it returns false'. Refute it at one input. -/
def idealUrgentWrong : ChangeSpec := { name := "idealUrgent", fn := fun _ => fun
  | [d1, d2] => { results := [.lit (.bool false)], args := [d1, d2] }
  | _ => none }
def IdealUrgentWrongFalsely : Prop := idealUrgentRow.holds Try.pinned (OpenSpec.ofChange idealUrgentWrong)

/-- 'vergelaw40.IdealMore': WHATEVER THE INPUT: true; the input reads as it did. -/
def idealMoreSpec : ChangeSpec := { name := "idealMore", fn := fun _ => fun
  | [d1, d2, d3, d4] => { results := [.lit (.bool true)], args := [d1, d2, d3, d4] }
  | _ => none }
def idealMoreRow : OpenClaim := { program := "ytcchmkpodfjhcaa", sum := "6f3dcebc73c04c5366cc017e2fe253eaac4a917e8dc3b1f2d6b9fe584f3dce11", func := "verge/vergelaw40.IdealMore", spec := "idealMore", unfollowed := true, recurses := true, apart := false }
def IdealMoreSaid : Prop := idealMoreRow.holds Try.pinned (OpenSpec.ofChange idealMoreSpec)

/-- ITS FALSE NEIGHBOUR: 'it returns false'. Refute it at one input. -/
def idealMoreWrong : ChangeSpec := { name := "idealMore", fn := fun _ => fun
  | [d1, d2, d3, d4] => { results := [.lit (.bool false)], args := [d1, d2, d3, d4] }
  | _ => none }
def IdealMoreWrongFalsely : Prop := idealMoreRow.holds Try.pinned (OpenSpec.ofChange idealMoreWrong)

/- THE SECOND FORM. 'bulk': how many values and letters a reading holds, each counted each time it is reached (what is shared counts as often as it is met; a slice's spare places count too). A statement '..UptoSaid' is the law's where the arguments, and the package variables that the reading takes, are together of bulk at most 1048576: NARROWER than '..Said'. Prove '..Said' where nothing that the law and all that it calls make is longer than what came in: it says more and counts as full. Else prove '..UptoSaid'. A law counts once. -/
mutual
def uptoBulk {H : Type} : DataW H → Nat
  | .lit (.string bytes) => bytes.length + 1
  | .lit _ => 1
  | .nil => 1
  | .ptr d => uptoBulk d + 1
  | .slice elems spare => uptoBulkAll elems + uptoBulkAll spare + 1
  | .agg parts => uptoBulkAll parts + 1
  | .iface _ d => uptoBulk d + 1
  | .map entries => uptoBulkEntries entries + 1
  | .held _ => 1
def uptoBulkAll {H : Type} : List (DataW H) → Nat
  | [] => 0
  | d :: r => uptoBulk d + uptoBulkAll r
def uptoBulkEntries {H : Type} : List (Lit × DataW H) → Nat
  | [] => 0
  | x :: r => uptoBulkEntry x + uptoBulkEntries r
def uptoBulkEntry {H : Type} : Lit × DataW H → Nat
  | (.string bytes, d) => bytes.length + uptoBulk d + 1
  | (_, d) => uptoBulk d + 1
 end
def uptoSmall : (H : Type) → List (DataW H) → Bool := fun _ ds => decide (uptoBulkAll ds ≤ 1048576)
def OpenSpec.upto (s : _root_.Go.ChangeSpec) : _root_.Go.OpenSpec := { _root_.Go.OpenSpec.ofChange s with cond := some uptoSmall }

/-- 'vergelaw07.PoolPlays', WHERE WHAT IT READS IS OF BULK AT MOST 1048576: true; the input reads as it did. -/
def poolPlaysUptoRow : OpenClaim := { program := "ytcchmkpodfjhcaa", sum := "6f3dcebc73c04c5366cc017e2fe253eaac4a917e8dc3b1f2d6b9fe584f3dce11", func := "verge/vergelaw07.PoolPlays", spec := "poolPlays", unfollowed := true, recurses := true, apart := false, narrowed := true }
def PoolPlaysUptoSaid : Prop := poolPlaysUptoRow.holds Try.pinned (OpenSpec.upto poolPlaysSpec)

/-- 'vergelaw07.PoolOnce', WHERE WHAT IT READS IS OF BULK AT MOST 1048576: true; the input reads as it did. -/
def poolOnceUptoRow : OpenClaim := { program := "ytcchmkpodfjhcaa", sum := "6f3dcebc73c04c5366cc017e2fe253eaac4a917e8dc3b1f2d6b9fe584f3dce11", func := "verge/vergelaw07.PoolOnce", spec := "poolOnce", unfollowed := true, recurses := true, apart := false, narrowed := true }
def PoolOnceUptoSaid : Prop := poolOnceUptoRow.holds Try.pinned (OpenSpec.upto poolOnceSpec)

/-- 'vergetop.TopLevels', WHERE WHAT IT READS IS OF BULK AT MOST 1048576: true; the input reads as it did. -/
def topLevelsUptoRow : OpenClaim := { program := "ytcchmkpodfjhcaa", sum := "6f3dcebc73c04c5366cc017e2fe253eaac4a917e8dc3b1f2d6b9fe584f3dce11", func := "verge/vergetop.TopLevels", spec := "topLevels", unfollowed := true, recurses := true, apart := false, narrowed := true }
def TopLevelsUptoSaid : Prop := topLevelsUptoRow.holds Try.pinned (OpenSpec.upto topLevelsSpec)

/-- 'vergelaw11.ReadyPlays', WHERE WHAT IT READS IS OF BULK AT MOST 1048576: true; the input reads as it did. -/
def readyPlaysUptoRow : OpenClaim := { program := "ytcchmkpodfjhcaa", sum := "6f3dcebc73c04c5366cc017e2fe253eaac4a917e8dc3b1f2d6b9fe584f3dce11", func := "verge/vergelaw11.ReadyPlays", spec := "readyPlays", unfollowed := true, recurses := true, apart := false, narrowed := true }
def ReadyPlaysUptoSaid : Prop := readyPlaysUptoRow.holds Try.pinned (OpenSpec.upto readyPlaysSpec)

/-- 'vergelaw11.ReadyOrder', WHERE WHAT IT READS IS OF BULK AT MOST 1048576: true; the input reads as it did. -/
def readyOrderUptoRow : OpenClaim := { program := "ytcchmkpodfjhcaa", sum := "6f3dcebc73c04c5366cc017e2fe253eaac4a917e8dc3b1f2d6b9fe584f3dce11", func := "verge/vergelaw11.ReadyOrder", spec := "readyOrder", unfollowed := true, recurses := true, apart := false, narrowed := true }
def ReadyOrderUptoSaid : Prop := readyOrderUptoRow.holds Try.pinned (OpenSpec.upto readyOrderSpec)

/-- 'vergelaw11.ReadyTurns', WHERE WHAT IT READS IS OF BULK AT MOST 1048576: true; the input reads as it did. -/
def readyTurnsUptoRow : OpenClaim := { program := "ytcchmkpodfjhcaa", sum := "6f3dcebc73c04c5366cc017e2fe253eaac4a917e8dc3b1f2d6b9fe584f3dce11", func := "verge/vergelaw11.ReadyTurns", spec := "readyTurns", unfollowed := true, recurses := true, apart := false, narrowed := true }
def ReadyTurnsUptoSaid : Prop := readyTurnsUptoRow.holds Try.pinned (OpenSpec.upto readyTurnsSpec)

/-- 'vergelaw40.IdealPlans', WHERE WHAT IT READS IS OF BULK AT MOST 1048576: true; the input reads as it did. -/
def idealPlansUptoRow : OpenClaim := { program := "ytcchmkpodfjhcaa", sum := "6f3dcebc73c04c5366cc017e2fe253eaac4a917e8dc3b1f2d6b9fe584f3dce11", func := "verge/vergelaw40.IdealPlans", spec := "idealPlans", unfollowed := true, recurses := true, apart := false, narrowed := true }
def IdealPlansUptoSaid : Prop := idealPlansUptoRow.holds Try.pinned (OpenSpec.upto idealPlansSpec)

/-- 'vergelaw40.IdealJobs', WHERE WHAT IT READS IS OF BULK AT MOST 1048576: true; the input reads as it did. -/
def idealJobsUptoRow : OpenClaim := { program := "ytcchmkpodfjhcaa", sum := "6f3dcebc73c04c5366cc017e2fe253eaac4a917e8dc3b1f2d6b9fe584f3dce11", func := "verge/vergelaw40.IdealJobs", spec := "idealJobs", unfollowed := true, recurses := true, apart := false, narrowed := true }
def IdealJobsUptoSaid : Prop := idealJobsUptoRow.holds Try.pinned (OpenSpec.upto idealJobsSpec)

/-- 'vergelaw40.IdealAll', WHERE WHAT IT READS IS OF BULK AT MOST 1048576: true; the input reads as it did. -/
def idealAllUptoRow : OpenClaim := { program := "ytcchmkpodfjhcaa", sum := "6f3dcebc73c04c5366cc017e2fe253eaac4a917e8dc3b1f2d6b9fe584f3dce11", func := "verge/vergelaw40.IdealAll", spec := "idealAll", unfollowed := true, recurses := true, apart := false, narrowed := true }
def IdealAllUptoSaid : Prop := idealAllUptoRow.holds Try.pinned (OpenSpec.upto idealAllSpec)

/-- 'vergelaw40.IdealUrgent', WHERE WHAT IT READS IS OF BULK AT MOST 1048576: true; the input reads as it did. -/
def idealUrgentUptoRow : OpenClaim := { program := "ytcchmkpodfjhcaa", sum := "6f3dcebc73c04c5366cc017e2fe253eaac4a917e8dc3b1f2d6b9fe584f3dce11", func := "verge/vergelaw40.IdealUrgent", spec := "idealUrgent", unfollowed := true, recurses := true, apart := false, narrowed := true }
def IdealUrgentUptoSaid : Prop := idealUrgentUptoRow.holds Try.pinned (OpenSpec.upto idealUrgentSpec)

/-- 'vergelaw40.IdealMore', WHERE WHAT IT READS IS OF BULK AT MOST 1048576: true; the input reads as it did. -/
def idealMoreUptoRow : OpenClaim := { program := "ytcchmkpodfjhcaa", sum := "6f3dcebc73c04c5366cc017e2fe253eaac4a917e8dc3b1f2d6b9fe584f3dce11", func := "verge/vergelaw40.IdealMore", spec := "idealMore", unfollowed := true, recurses := true, apart := false, narrowed := true }
def IdealMoreUptoSaid : Prop := idealMoreUptoRow.holds Try.pinned (OpenSpec.upto idealMoreSpec)

end Rows
end Go.Proofs.Ytcchmkpodfjhcaa
