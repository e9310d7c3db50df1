/-
  Marks put behind bytes: right, put.
-/
import Derived.Test.YtfneloplbkjbhaaDoorGT
import Derived.Test.YtfneloplbkjbhaaDoorMShf
import Derived.Lib.AppendStr
import Derived.Lib.AppendIntMem
import Derived.Lib.Hide
import Derived.Laws.IdiomStrings
import Derived.WalkKit
import Derived.BigCall
namespace Go.Proofs.YtfneloplbkjbhaaDoor
open Go.RowKit Go.Shelf
open Go.Lib (byteCells)
set_option linter.unusedVariables false
def okMB (q : QM) : Bool := decide (okM q)
def QM.v (q : QM) : Value := .agg #[.int .i64 q.a, .int .u8 q.b, .int .i64 q.c, .int .i64 q.d]
theorem mtime_any (n : Int) (w : World) :
    Calls Tryd.prog 35 #[.int .i64 n] w fun e w' => e = .returned (.bool (timeB n)) ∧ w = w' := by
  go_enter Tryd.func35, Tryd.ntmps35
  go_wp2
  all_goals go_ret
  all_goals exact ⟨ret_dec (by simp <;> omega), rfl⟩
set_option maxHeartbeats 1600000 in
theorem tmright_any (q : QM) (w : World) :
    Calls Tryd.prog 16 #[q.v] w fun e w' => e = .returned (.bool (okMB q)) ∧ Below w.heap.size w w' := by
  obtain ⟨a, b, c, d⟩ := q
  unfold QM.v
  simp only
  go_enter Tryd.func16, Tryd.ntmps16
  go_wp2_with (first | (go_at_call 35; refine (mtime_any _ _).mono ?_; rintro e w' ⟨rfl, rfl⟩))
  all_goals go_ret
  all_goals refine ⟨?_, below_box _ _⟩
  all_goals unfold okMB okM
  all_goals exact ret_dec (by simp [timeB] at * <;> omega)
theorem byteInfo : (Tryd.prog.info? 5).map (fun i => (i.zero, i.size, i.bytes)) = some (some (.int .u8 0), 1, 1) := by kernel_rfl
/-- The kinds' words, where the table lies. -/
def Wrd (w : World) : Prop := ∀ k, k < 12 → w.cell? ⟨0, k, none⟩ = some (.string (BA (wordL k)))
theorem Wrd.below {w w' : World} {B : Nat} (h : Wrd w) (hB : 0 < B) (hb : Below B w w') : Wrd w' := fun k hk => (hb.cell (p := ⟨0, k, none⟩) hB).trans (h k hk)
theorem BA_size (l : List UInt8) : (BA l).size = l.length := by unfold BA; simp [ByteArray.size]
theorem strCells_BA (l : List UInt8) : Lib.strCells (BA l) = byteCells l := by
  unfold Lib.strCells BA byteCells
  simp
end Go.Proofs.YtfneloplbkjbhaaDoor
