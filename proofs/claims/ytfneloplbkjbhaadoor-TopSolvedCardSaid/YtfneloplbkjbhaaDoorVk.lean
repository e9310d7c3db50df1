/-
  Small lemmas of our own that every walk uses: endings of calls, worlds behind a callee, numbers. No program in sight.
-/
import Derived.Test.YtfneloplbkjbhaaDoorRows
import Derived.WalkKit
import Derived.WalkSpells
import Derived.WalkLawsBesides
import Derived.BigQuiet
import Derived.Deep.QuietTactic
import Derived.Lib.Hide
namespace Go.Proofs.YtfneloplbkjbhaaDoor
open Go.RowKit
set_option linter.unusedVariables false

theorem ret_dec {b : Bool} {p : Prop} [Decidable p] (h : b = true ↔ p) : Ending.returned (.bool b) = .returned (.bool (decide p)) := by
  rw [show b = decide p from by rw [Bool.eq_iff_iff]; simpa using h]
theorem ret_bool {a b : Bool} (h : a = b) : Ending.returned (.bool a) = .returned (.bool b) := by rw [h]
theorem ret_i {k : IntKind} {a b : Int} (h : a = b) : Ending.returned (.int k a) = .returned (.int k b) := by rw [h]
theorem ret_ii {k k' : IntKind} {a b c d : Int} (h1 : a = c) (h2 : b = d) : Ending.returned (.tuple #[.int k a, .int k' b]) = .returned (.tuple #[.int k c, .int k' d]) := by rw [h1, h2]

theorem bcell {W w1 : World} (hb : Below W.heap.size W w1) : (∀ b o, b < W.heap.size → w1.cell? ⟨b, o, none⟩ = W.cell? ⟨b, o, none⟩) ∧ (∀ b o, b < W.heap.size → w1.frozen? ⟨b, o, none⟩ = W.frozen? ⟨b, o, none⟩) :=
  ⟨fun b o h => hb.cell (p := ⟨b, o, none⟩) h, fun b o h => hb.frozen (p := ⟨b, o, none⟩) h⟩

theorem below_box (w : World) (o : Obj) : Below w.heap.size w (w.alloc o) := (Below.refl _ _).alloc (Nat.le_refl _) _

theorem mul_le_of_le_ediv {n b m : Int} (hb : 0 < b) (h : n ≤ m / b) : n * b ≤ m :=
  Int.le_trans (Int.mul_le_mul_of_nonneg_right h (by omega)) (Int.ediv_mul_le m (by omega))

theorem up_le (w p : Int) (h0 : 0 ≤ w) (h1 : 1 ≤ p) : 0 ≤ (w + p - 1) / p ∧ (w + p - 1) / p ≤ w := by
  refine ⟨Int.ediv_nonneg (by omega) (by omega), ?_⟩
  by_cases hw : w = 0
  · subst hw; rw [Int.ediv_eq_zero_of_lt (by omega) (by omega)]; omega
  · have : (w + p - 1) / p ≤ (w * p) / p := Int.ediv_le_ediv (by omega) (by
      have : 0 ≤ (w - 1) * (p - 1) := Int.mul_nonneg (by omega) (by omega)
      rw [Int.sub_mul, Int.mul_sub] at this; omega)
    rwa [Int.mul_ediv_cancel _ (by omega)] at this

theorem up_ref (x p : Int) (h0 : 0 ≤ x) (h1 : 1 ≤ p) : (x + p - 1) / p = if x % p = 0 then x / p else x / p + 1 := by
  have e := Int.emod_add_mul_ediv x p
  have hl := Int.emod_lt_of_pos x (show 0 < p by omega)
  have hg := Int.emod_nonneg x (show p ≠ 0 by omega)
  split
  · rename_i h
    rw [show x + p - 1 = (p - 1) + p * (x / p) by omega, Int.add_mul_ediv_left _ _ (by omega), Int.ediv_eq_zero_of_lt (by omega) (by omega)]; omega
  · rename_i h
    rw [show x + p - 1 = (x % p - 1) + p * (x / p + 1) by rw [Int.mul_add]; omega, Int.add_mul_ediv_left _ _ (by omega), Int.ediv_eq_zero_of_lt (by omega) (by omega)]; omega

theorem _root_.Go.RowKit.Below.box {B : Nat} {w w' : World} {o : Obj} (h : Below (w.alloc o).heap.size (w.alloc o) w') (hB : B ≤ w.heap.size) : Below B w w' :=
  ((Below.refl _ _).alloc hB _).trans (h.mono (by simp; omega))
theorem _root_.Go.RowKit.Below.drewN {B : Nat} {a w : World} (h : Below B a w) (n : Nat) : Below B a (w.drewN n) := ⟨h.os, h.tape, h.output, h.size, h.block⟩

theorem _root_.Go.RowKit.Below.next {B : Nat} {a w w' : World} (h : Below B a w) (hB : B ≤ w.heap.size) (k : Below w.heap.size w w') : Below B a w' := h.trans (k.mono hB)
theorem _root_.Go.RowKit.Below.next1 {B : Nat} {a w w' : World} {o : Obj} (h : Below B a w) (hB : B ≤ w.heap.size) (k : Below (w.alloc o).heap.size (w.alloc o) w') : Below B a w' := (h.alloc hB o).trans (k.mono (by simp; omega))
theorem _root_.Go.RowKit.Below.next2 {B : Nat} {a w w' : World} {o o2 : Obj} (h : Below B a w) (hB : B ≤ w.heap.size) (k : Below ((w.alloc o).alloc o2).heap.size ((w.alloc o).alloc o2) w') : Below B a w' := ((h.alloc hB o).alloc (by simp; omega) o2).trans (k.mono (by simp; omega))

theorem box_cell {w w1 : World} {cs : Array Value} {T : TypeId} {fr : Nat × Nat} (hb : Below (w.alloc (.cells cs T fr)).heap.size (w.alloc (.cells cs T fr)) w1) (i : Nat) (v : Value) (hv : cs[i]? = some v) : w1.cell? ⟨w.heap.size, i, none⟩ = some v := by
  rw [hb.cell (p := ⟨w.heap.size, i, none⟩) (by simp)]
  exact (cell_of_row _ w.heap.size i cs T fr (heap_alloc_new w _)).trans hv
theorem box_free {w w1 : World} {cs : Array Value} {T : TypeId} (hb : Below (w.alloc (.cells cs T)).heap.size (w.alloc (.cells cs T)) w1) (i : Nat) : w1.frozen? ⟨w.heap.size, i, none⟩ = false := by
  rw [hb.frozen (p := ⟨w.heap.size, i, none⟩) (by simp)]
  have h : (w.alloc (.cells cs T)).heap[w.heap.size]? = some (.cells cs T (0, 0)) := heap_alloc_new w _
  unfold World.frozen?
  rw [h]
  simp

theorem quiet_add {P : Program} {f : FuncId} {args : Array Value} {w : World} {a n : Nat} {v : Value}
    (h : Calls P f args (w.drewN (a + n)) fun e w' => e = .returned v ∧ ∃ m, w' = (w.drewN (a + n)).drewN m) :
    Calls P f args (w.drewN (a + n)) fun e w'' => e = .returned v ∧ ∃ m, w'' = w.drewN (a + m) :=
  h.mono fun _ _ ⟨he, m, hm⟩ => ⟨he, n + m, by rw [hm, World.drewN_drewN, Nat.add_assoc]⟩
theorem quiet_add_left {P : Program} {f : FuncId} {args : Array Value} {w : World} {a n : Nat} {v : Value}
    (h : Calls P f args (w.drewN (a + n)) fun e w' => e = .returned v ∧ w.drewN (a + n) = w') :
    Calls P f args (w.drewN (a + n)) fun e w'' => e = .returned v ∧ ∃ m, w'' = w.drewN (a + m) :=
  h.mono fun _ _ ⟨he, hm⟩ => ⟨he, n, hm.symm⟩
theorem quiet_left {P : Program} {f : FuncId} {args : Array Value} {w : World} {n : Nat} {v : Value}
    (h : Calls P f args (w.drewN n) fun e w' => e = .returned v ∧ w.drewN n = w') : Calls P f args (w.drewN n) fun e w'' => e = .returned v ∧ ∃ m, w'' = w.drewN m :=
  h.mono fun _ _ ⟨he, hm⟩ => ⟨he, n, hm.symm⟩

def timeB (n : Int) : Bool := decide (0 ≤ n ∧ n ≤ 4503599627370496)
def costB (n : Int) : Bool := decide (1 ≤ n ∧ n ≤ 1099511627776)

end Go.Proofs.YtfneloplbkjbhaaDoor
