/-
  Where a table of mutexes lies; the walks of find, Lock, Unlock, Holder.
-/
import Derived.Test.YtcchmkpodfjhcaaCQ
import Derived.Test.YtcchmkpodfjhcaaQB
import Derived.Test.YtcchmkpodfjhcaaR2
namespace Go.Proofs.Ytcchmkpodfjhcaa
open Go.RowKit
set_option linter.unusedVariables false
/-- Row j of a block of mutexes. -/
def MxAt (cur : Array Value) (j : Nat) (y : Mx) : Prop := cur[j * 3]? = some (.int .i64 y.1) ∧ cur[j * 3 + 1]? = some (.bool y.2.1) ∧ cur[j * 3 + 2]? = some (.int .i64 y.2.2)
structure TabAt (w : World) (lo hi tb : Nat) (T : List Mx) (A : Option Addr) (c : Nat) : Prop where
  box : w.heap[tb]? = some (.cells #[.slice A T.length c] 139)
  t1 : lo ≤ tb
  t2 : tb < hi
  hh : hi ≤ w.heap.size
  len : T.length ≤ 16
  rows : 0 < T.length → ∃ g cur, A = some ⟨g, 0, none⟩ ∧ lo ≤ g ∧ g < hi ∧ g ≠ tb ∧ w.heap[g]? = some (.cells cur 141) ∧ ∀ j y, T[j]? = some y → MxAt cur j y
theorem TabAt.blocks {w w' : World} {lo hi tb c : Nat} {T : List Mx} {A : Option Addr} (h : TabAt w lo hi tb T A c) (hs : w.heap.size ≤ w'.heap.size) (hb : ∀ i, lo ≤ i → i < hi → w'.heap[i]? = w.heap[i]?) : TabAt w' lo hi tb T A c :=
  ⟨(hb _ h.t1 h.t2).trans h.box, h.t1, h.t2, Nat.le_trans h.hh hs, h.len, fun h0 => by
    obtain ⟨g, cur, e, h1, h2, h3, h4, h5⟩ := h.rows h0
    exact ⟨g, cur, e, h1, h2, h3, (hb _ h1 h2).trans h4, h5⟩⟩
theorem TabAt.below {w w' : World} {lo hi tb c : Nat} {T : List Mx} {A : Option Addr} (h : TabAt w lo hi tb T A c) (hb : Below hi w w') : TabAt w' lo hi tb T A c := h.blocks hb.size fun i _ hi => hb.block i hi
theorem TabAt.c0 {w : World} {lo hi tb c : Nat} {T : List Mx} {A : Option Addr} (h : TabAt w lo hi tb T A c) : w.cell? ⟨tb, 0, none⟩ = some (.slice A T.length c) := cell_of_row _ _ 0 _ _ _ h.box
theorem mx_cells {w : World} {g : Nat} {cur : Array Value} (h : w.heap[g]? = some (.cells cur 141)) {j : Nat} {y : Mx} (hy : MxAt cur j y) :
    w.cell? ⟨g, j * 3, none⟩ = some (.int .i64 y.1) ∧ w.cell? ⟨g, j * 3 + 1, none⟩ = some (.bool y.2.1) ∧ w.cell? ⟨g, j * 3 + 2, none⟩ = some (.int .i64 y.2.2) ∧ ∀ i, w.frozen? ⟨g, i, none⟩ = false :=
  ⟨(cell_of_row _ _ _ _ _ _ h).trans hy.1, (cell_of_row _ _ _ _ _ _ h).trans hy.2.1, (cell_of_row _ _ _ _ _ _ h).trans hy.2.2, fun i => frozen_of_row _ _ i _ _ h⟩
theorem find_bad {w : World} {lo hi tb c : Nat} {T : List Mx} {A : Option Addr} (h : TabAt w lo hi tb T A c) {m : Int} (hm : ¬ (0 ≤ m ∧ m < (T.length : Int))) :
    Calls Try.prog 81 #[.pointer (some ⟨tb, 0, none⟩), .int .i64 m] w fun e w' => e = .returned (.pointer none) ∧ w = w' := by
  have c0 := h.c0
  by_cases h0 : m < 0
  · go_enter Try.func81, Try.ntmps81
    go_wp2
    go_ret
    exact ⟨rfl, rfl⟩
  · have h1 : ¬ m < (T.length : Int) := fun h => hm ⟨by omega, h⟩
    have h2 : (T.length : Int) ≤ m := by omega
    go_enter Try.func81, Try.ntmps81
    go_wp2
    go_ret
    exact ⟨rfl, rfl⟩
theorem find_ok {w : World} {lo hi tb c g : Nat} {T : List Mx} (h : TabAt w lo hi tb T (some ⟨g, 0, none⟩) c) {j : Nat} (hj : j < T.length) :
    Calls Try.prog 81 #[.pointer (some ⟨tb, 0, none⟩), .int .i64 (j : Int)] w fun e w' => e = .returned (.pointer (some ⟨g, j * 3, none⟩)) ∧ w = w' := by
  have c0 := h.c0
  have h0 : ¬ (j : Int) < 0 := by omega
  have h1 : (j : Int) < (T.length : Int) := by omega
  have h2 : ¬ (T.length : Int) ≤ (j : Int) := by omega
  go_enter Try.func81, Try.ntmps81
  go_wp2
  go_ret
  exact ⟨by simp, rfl⟩
/-- A row's flag, and holder, are turned. -/
theorem TabAt.put {w : World} {lo hi tb c g j : Nat} {cur : Array Value} {T : List Mx} (h : TabAt w lo hi tb T (some ⟨g, 0, none⟩) c) (hg : w.heap[g]? = some (.cells cur 141)) (hr : ∀ j y, T[j]? = some y → MxAt cur j y) (h1 : lo ≤ g) (h2 : g < hi) (h3 : g ≠ tb) {y : Mx} (hy : T[j]? = some y) (b : Bool) (t : Int) :
    TabAt ((w.setCell ⟨g, j * 3 + 1, none⟩ (.bool b)).setCell ⟨g, j * 3 + 2, none⟩ (.int .i64 t)) lo hi tb (T.set j (y.1, b, t)) (some ⟨g, 0, none⟩) c ∧ Kp lo hi w ((w.setCell ⟨g, j * 3 + 1, none⟩ (.bool b)).setCell ⟨g, j * 3 + 2, none⟩ (.int .i64 t)) := by
  have e1 := block_setCell hg (o := j * 3 + 1) (.bool b)
  have e2 := block_setCell e1 (o := j * 3 + 2) (.int .i64 t)
  have hk : ∀ i, i ≠ g → ((w.setCell ⟨g, j * 3 + 1, none⟩ (.bool b)).setCell ⟨g, j * 3 + 2, none⟩ (.int .i64 t)).heap[i]? = w.heap[i]? := fun i hi => (Below.heap_setCell _ _ _ _ hi).trans (Below.heap_setCell _ _ _ _ hi)
  have z := hr j y hy
  have s2 := (Array.getElem?_eq_some_iff.1 z.2.2).1
  refine ⟨⟨?_, h.t1, h.t2, by simpa using h.hh, by simpa using h.len, fun h0 => ⟨g, _, rfl, h1, h2, h3, e2, fun i x hx => ?_⟩⟩, ⟨rfl, rfl, rfl, by simp, fun i _ hi => hk i (by omega)⟩⟩
  · rw [hk tb (by omega), List.length_set]
    exact h.box
  · rw [List.getElem?_set] at hx
    by_cases hij : j = i
    · subst hij
      rw [if_pos rfl] at hx
      split at hx
      · cases hx
        refine ⟨?_, ?_, ?_⟩
        · rw [Array.getElem?_setIfInBounds, if_neg (by omega), Array.getElem?_setIfInBounds, if_neg (by omega)]
          exact z.1
        · rw [Array.getElem?_setIfInBounds, if_neg (by omega), Array.getElem?_setIfInBounds, if_pos rfl, if_pos (by omega)]
        · rw [Array.getElem?_setIfInBounds, if_pos rfl, if_pos (by simp; omega)]
      · cases hx
    · rw [if_neg hij] at hx
      obtain ⟨a, b, c⟩ := hr i x hx
      refine ⟨?_, ?_, ?_⟩
      · rw [Array.getElem?_setIfInBounds, if_neg (by omega), Array.getElem?_setIfInBounds, if_neg (by omega)]; exact a
      · rw [Array.getElem?_setIfInBounds, if_neg (by omega), Array.getElem?_setIfInBounds, if_neg (by omega)]; exact b
      · rw [Array.getElem?_setIfInBounds, if_neg (by omega), Array.getElem?_setIfInBounds, if_neg (by omega)]; exact c
end Go.Proofs.Ytcchmkpodfjhcaa
