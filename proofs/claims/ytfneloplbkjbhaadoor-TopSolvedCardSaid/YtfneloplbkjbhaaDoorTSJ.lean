/-
  The law TopSolved of vergetop: a world that holds the seven listed variables.
-/
import Derived.Test.YtfneloplbkjbhaaDoorLwS
import Derived.Shelf.Vars
namespace Go.Proofs.YtfneloplbkjbhaaDoor.topSolved
open Go.ChangeShapes Go.WideShapes Go.ChangeAt Go.RowKit Go.Shelf
set_option linter.unusedVariables false
theorem mx_of_shaped {W : World} (h : W.ShapedOpen Tryd.prog) : ∃ m, W.cell? ⟨1, 0, none⟩ = some (.int .i64 m) :=
  Go.Proofs.cell_of_shapedOpen_int (zero := #[.int .i64 0]) (t := 3) h (of_decide_eq_true (by kernel_rfl)) (by kernel_rfl) rfl (by kernel_rfl) (by kernel_rfl) Tryd.underlying3
def flat0 : DataW Unit → List Value
  | .lit (.int k n) => [.int k n]
  | .lit (.string s) => [.string ⟨s.toArray⟩]
  | _ => []
def flat1 : DataW Unit → List Value
  | .agg ds => ds.flatMap flat0
  | d => flat0 d
def flat2 : DataW Unit → Array Value
  | .agg ds => (ds.flatMap flat1).toArray
  | d => (flat1 d).toArray
abbrev synS : ByteArray := { data := #[105, 110, 118, 97, 108, 105, 100, 32, 115, 121, 110, 116, 97, 120] }
abbrev rngS : ByteArray := { data := #[118, 97, 108, 117, 101, 32, 111, 117, 116, 32, 111, 102, 32, 114, 97, 110, 103, 101] }
noncomputable def low : Nat := (World.holding Tryd.prog default ⟨#[], #[], []⟩).heap.size
def putAt (h : Array Obj) (g : Nat) (cs : Array Value) : Array Obj := h.modify g fun
  | .cells _ t frozen => .cells cs t frozen
  | o => o
/-- A world for the witness: the settled one, each listed variable holding what its initialiser lays. -/
noncomputable def laidWorld (os : Os) : World :=
  let w0 := World.holding Tryd.prog os ⟨#[.cells #[.string synS] 170, .cells #[.string rngS] 170], #[], []⟩
  { w0 with heap := putAt (putAt (putAt (putAt (putAt (putAt (putAt w0.heap 2 (flat2 Rows.laid_internal_strconv_uint64pow10)) 3 #[.iface 168 (.pointer (some ⟨low, 0, none⟩))]) 4 #[.iface 168 (.pointer (some ⟨low + 1, 0, none⟩))]) 5 (flat2 Rows.laid_unicode_utf8_first)) 6 (flat2 Rows.laid_unicode_utf8_acceptRanges)) 7 (flat2 Rows.laid_math_bits_deBruijn32tab)) 8 (flat2 Rows.laid_math_bits_deBruijn64tab) }
theorem laid_met (os : Os) : laidMet Tryd.prog Rows.topSolvedRow.laid ((laidWorld os).forCall (fun _ _ => 0) ⟨#[], #[.agg #[.int .i64 0, .int .i64 0, .int .i64 0, .slice none 0 0, .slice none 0 0, .slice none 0 0], .int .i64 0, .int .i64 0, .int .i64 0], []⟩).memory :=
  laidMet_of_run3 8 (by kernel_rfl) (by kernel_rfl) (by kernel_rfl)
end Go.Proofs.YtfneloplbkjbhaaDoor.topSolved
