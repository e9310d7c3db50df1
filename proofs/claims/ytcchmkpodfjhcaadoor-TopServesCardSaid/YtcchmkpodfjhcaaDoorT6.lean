/-
  The walks of the desk's edge, active and level.
-/
import Derived.Test.YtcchmkpodfjhcaaDoorT5
namespace Go.Proofs.YtcchmkpodfjhcaaDoor
open Go.RowKit
set_option linter.unusedVariables false
/-- A desk's cells as they stand in a world. -/
structure DeskAt (W : World) (d : Nat) (P R D : Int) (M : Int) (v s : Value) : Prop where
  c0 : W.cell? ⟨d, 0, none⟩ = some (.int .u64 P)
  c1 : W.cell? ⟨d, 1, none⟩ = some (.int .u64 M)
  c2 : W.cell? ⟨d, 2, none⟩ = some (.int .u64 R)
  c3 : W.cell? ⟨d, 3, none⟩ = some (.int .u64 D)
  c4 : W.cell? ⟨d, 4, none⟩ = some v
  c5 : W.cell? ⟨d, 5, none⟩ = some (.int .i64 0)
  c6 : W.cell? ⟨d, 6, none⟩ = some s
theorem DeskAt.below {W W' : World} {B d : Nat} {P R D M : Int} {v s : Value} (h : DeskAt W d P R D M v s) (hb : Below B W W') (hd : d < B) : DeskAt W' d P R D M v s :=
  ⟨(hb.cell (p := (⟨d, 0, none⟩ : Addr)) hd).trans h.c0, (hb.cell (p := (⟨d, 1, none⟩ : Addr)) hd).trans h.c1, (hb.cell (p := (⟨d, 2, none⟩ : Addr)) hd).trans h.c2, (hb.cell (p := (⟨d, 3, none⟩ : Addr)) hd).trans h.c3, (hb.cell (p := (⟨d, 4, none⟩ : Addr)) hd).trans h.c4, (hb.cell (p := (⟨d, 5, none⟩ : Addr)) hd).trans h.c5, (hb.cell (p := (⟨d, 6, none⟩ : Addr)) hd).trans h.c6⟩
theorem shr_bit (M n : Nat) (hM : M < 18446744073709551616) : (bits .and .u64 ((M : Int) / 2 ^ n) 1 == 1) = M.testBit n := by
  have e : (M : Int) / 2 ^ n = ((M / 2 ^ n : Nat) : Int) := by simp
  rw [e, show (1 : Int) = ((1 : Nat) : Int) from rfl, u64_and_nat _ _ (Nat.lt_of_le_of_lt (Nat.div_le_self _ _) hM) (by omega), Nat.and_one_is_mod, bit_div]
  rw [Bool.eq_iff_iff, beq_iff_eq, decide_eq_true_iff]
  omega
theorem edge_any (d : Nat) (M : Nat) (n : Nat) (hM : M < 18446744073709551616) (hn : n < 64) (ht : M.testBit n = true) (W : World) (h : W.cell? ⟨d, 3, none⟩ = some (.int .u64 (M : Int))) :
    Calls Tryd.prog 38 #[.pointer (some ⟨d, 0, none⟩), .int .i64 (n : Int)] W fun e w' => e = .returned (.bool true) ∧ W = w' := by
  have nl : (n : Int) < 64 := by omega
  go_enter Tryd.func38, Tryd.ntmps38
  go_wp2
  go_ret
  exact ⟨ret_bool ((shr_bit M n hM).trans ht), rfl⟩
theorem active_any (d : Nat) (A : Option Addr) (cap : Nat) (W : World) (h : W.cell? ⟨d, 6, none⟩ = some (.slice A 0 cap)) :
    Calls Tryd.prog 39 #[.pointer (some ⟨d, 0, none⟩)] W fun e w' => e = .returned (.int .u64 0) ∧ W = w' := by
  go_enter Tryd.func39, Tryd.ntmps39
  go_wp2_with ((go_at_call 25; refine (of_any A [] cap _ (Ints.nil _ _ _) (by simp)).mono ?_; rintro e w' ⟨rfl, rfl⟩))
  go_ret
  exact ⟨rfl, rfl⟩
theorem level_any (d : Nat) (A : Option Addr) (cap : Nat) (W : World) (h : W.cell? ⟨d, 6, none⟩ = some (.slice A 0 cap)) (h5 : W.cell? ⟨d, 5, none⟩ = some (.int .i64 0)) :
    Calls Tryd.prog 49 #[.pointer (some ⟨d, 0, none⟩)] W fun e w' => e = .returned (.int .i64 0) ∧ W = w' := by
  go_enter Tryd.func49, Tryd.ntmps49
  go_wp2
  go_ret
  exact ⟨rfl, rfl⟩
end Go.Proofs.YtcchmkpodfjhcaaDoor
