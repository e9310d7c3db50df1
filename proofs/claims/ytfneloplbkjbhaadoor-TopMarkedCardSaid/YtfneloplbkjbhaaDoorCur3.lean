/-
  The walks of package curve and of its reference (vergeref22), part 3: Dense.
-/
import Derived.Test.YtfneloplbkjbhaaDoorCur
import Derived.Test.YtfneloplbkjbhaaDoorVi
namespace Go.Proofs.YtfneloplbkjbhaaDoor
open Go.RowKit
set_option linter.unusedVariables false

theorem info_i64 : (Tryd.prog.info? 2).map (fun i => (i.zero, i.size, i.bytes)) = some (some (.int .i64 0), 1, 8) := by kernel_rfl

def deE (p j a n : Int) : Int := if curE p j a ≠ 0 then 2 else if n < 0 ∨ 1048576 < n then 1 else if 0 < n ∧ ¬ (0 ≤ gapV p j a n ∧ gapV p j a n ≤ 4503599627370496) then 10 else 0
def dens (p j a : Int) (k : Nat) : List Int := (List.range k).map fun i : Nat => gapV p j a ((i : Int) + 1)
def deL (p j a n : Int) : List Int := if deE p j a n = 0 then dens p j a n.toNat else []
theorem dens_succ (p j a : Int) (k : Nat) : dens p j a (k + 1) = dens p j a k ++ [gapV p j a ((k : Int) + 1)] := by simp [dens, List.range_succ]
theorem dens_length (p j a : Int) (k : Nat) : (dens p j a k).length = k := by simp [dens]

def IntsRes (w : World) (L : List Int) (E : Int) (e : Ending) (w' : World) : Prop :=
  ∃ A c, e = .returned (.tuple #[.slice A L.length c, .int .i64 E]) ∧ Ints w' w'.heap.size A L ∧ Below w.heap.size w w'
theorem IntsRes.nil {w w' : World} {E E' : Int} (h : E' = E) (hb : Below w.heap.size w w') : IntsRes w [] E (.returned (.tuple #[.slice none 0 0, .int .i64 E'])) w' :=
  ⟨none, 0, by rw [h]; rfl, Ints.nil _ _ _, hb⟩
theorem IntsRes.own {w w' : World} {L : List Int} {E : Int} {v : Value} {base : Nat} {t : TypeId} {n : Nat} (hn : n = L.length) (h : w'.ownsRow base t 1 v n (L.map (Value.int .i64))) (hb : Below w.heap.size w w') : IntsRes w L E (.returned (.tuple #[v, .int .i64 E])) w' := by
  subst hn
  obtain ⟨A, c, rfl⟩ := own_slice h
  exact ⟨A, c, rfl, (Ints.of_own h).2, hb⟩

theorem dens_app {w : World} {base : Nat} {t : TypeId} {v : Value} {p j a : Int} {k : Nat} (h : w.ownsRow base t 1 v (k + 1) ((dens p j a k).map (Value.int .i64) ++ [.int .i64 (gapV p j a ((k : Int) + 1))])) : w.ownsRow base t 1 v (k + 1) ((dens p j a (k + 1)).map (Value.int .i64)) := by
  rw [dens_succ]; simpa using h
/-- The world behind the box. -/
def bxW (w : World) (p j a : Int) (t : TypeId) : World := w.alloc (.cells #[.int .i64 p, .int .i64 j, .int .i64 a] t)

theorem den_end {w wr : World} {p j a n : Int} {k : Nat} {v : Value} {t : TypeId} (hL : deE p j a n = 0) (hk : (k : Int) = n) (hown : wr.ownsRow (w.heap.size + 1) t 1 v k ((dens p j a k).map (Value.int .i64))) {T : TypeId}
    (hbl : Below (bxW w p j a T).heap.size (bxW w p j a T) wr) : IntsRes w (deL p j a n) (deE p j a n) (.returned (.tuple #[v, .int .i64 0])) wr := by
  subst hk
  have e : deL p j a k = dens p j a k := by unfold deL; rw [if_pos hL, Int.toNat_natCast]
  rw [e, hL]
  exact IntsRes.own (dens_length p j a k).symm hown (hbl.box (Nat.le_refl _))
end Go.Proofs.YtfneloplbkjbhaaDoor
