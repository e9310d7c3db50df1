/-
  The walks of Lock, Unlock, Holder.
-/
import Derived.Test.YtcchmkpodfjhcaaCT
namespace Go.Proofs.Ytcchmkpodfjhcaa
open Go.RowKit
set_option linter.unusedVariables false
/-- What an act on the table gives. -/
def TRes (w : World) (lo hi tb : Nat) (T : List Mx) (v : Value) (e : Ending) (w' : World) : Prop := e = .returned v ∧ (∃ A c, TabAt w' lo hi tb T A c) ∧ Kp lo hi w w'
theorem TRes.same {w : World} {lo hi tb c : Nat} {T : List Mx} {A : Option Addr} (h : TabAt w lo hi tb T A c) (v : Value) : TRes w lo hi tb T v (.returned v) w := ⟨rfl, ⟨A, c, h⟩, Kp.refl _ _ _⟩
set_option maxRecDepth 100000 in
set_option maxHeartbeats 4000000 in
theorem lock_any {w : World} {lo hi tb c : Nat} {T : List Mx} {A : Option Addr} (h : TabAt w lo hi tb T A c) (m task prio : Int) :
    Calls Try.prog 37 #[.pointer (some ⟨tb, 0, none⟩), .int .i64 m, .int .i64 task, .int .i64 prio] w (TRes w lo hi tb (tLock T m task prio).2 (.int .i64 (tLock T m task prio).1)) := by
  by_cases hm : 0 ≤ m ∧ m < (T.length : Int)
  · obtain ⟨j, rfl⟩ : ∃ j : Nat, m = j := ⟨m.toNat, by omega⟩
    have hj : j < T.length := by omega
    obtain ⟨y, hy⟩ : ∃ y, T[j]? = some y := ⟨_, List.getElem?_eq_getElem hj⟩
    obtain ⟨g, cur, rfl, h1, h2, h3, h4, h5⟩ := h.rows (by omega)
    have HF := Kept.mk (find_ok h hj)
    have e : tLock T (j : Int) task prio = if y.1 < prio then (12, T) else if y.2.1 = true then if y.2.2 = task then (4, T) else (13, T) else (0, T.set j (y.1, true, task)) := by
      unfold tLock
      rw [if_pos hm, Int.toNat_natCast, hy]
    obtain ⟨x0, x1, x2, xf⟩ := mx_cells h4 (h5 j y hy)
    have HP := Kept.mk (h.put h4 h5 h1 h2 h3 hy true task)
    have HT := Kept.mk h
    obtain ⟨yc, yb, yt⟩ := y
    simp only at x0 x1 x2 e HP
    rw [e]
    clear e h h5 h4 hy
    by_cases hp : yc < prio
    · have ne := HT.out
      rw [if_pos hp]
      have HT' := Kept.mk (TRes.same HT.out (.int .i64 12))
      go_enter Try.func37, Try.ntmps37
      go_wp2_with fail
      refine HF.out.mono ?_
      rintro e w2 ⟨rfl, rfl⟩
      go_wp2
      go_ret
      exact HT'.out
    · rw [if_neg hp]
      have hp' : ¬ yc < prio := hp
      cases yb with
      | true =>
        rw [if_pos rfl]
        by_cases ht : yt = task
        · have t1 : (yt == task) = true := by simp [ht]
          rw [if_pos ht]
          clear ht
          have HT' := Kept.mk (TRes.same HT.out (.int .i64 4))
          go_enter Try.func37, Try.ntmps37
          go_wp2_with fail
          refine HF.out.mono ?_
          rintro e w2 ⟨rfl, rfl⟩
          go_wp2
          go_ret
          exact HT'.out
        · have t1 : (yt == task) = false := by simp [ht]
          rw [if_neg ht]
          clear ht
          have HT' := Kept.mk (TRes.same HT.out (.int .i64 13))
          go_enter Try.func37, Try.ntmps37
          go_wp2_with fail
          refine HF.out.mono ?_
          rintro e w2 ⟨rfl, rfl⟩
          go_wp2
          go_ret
          exact HT'.out
      | false =>
        rw [if_neg (by simp)]
        go_enter Try.func37, Try.ntmps37
        go_wp2_with fail
        refine HF.out.mono ?_
        rintro e w2 ⟨rfl, rfl⟩
        go_wp2
        go_ret
        exact ⟨rfl, ⟨_, _, HP.out.1⟩, HP.out.2⟩
  · have HF := Kept.mk (find_bad h hm)
    have e : tLock T m task prio = (1, T) := by unfold tLock; rw [if_neg hm]
    rw [e]
    have HT' := Kept.mk (TRes.same h (.int .i64 1))
    clear e hm h
    go_enter Try.func37, Try.ntmps37
    go_wp2_with fail
    refine HF.out.mono ?_
    rintro e w2 ⟨rfl, rfl⟩
    go_wp2
    go_ret
    exact HT'.out
theorem setCell_same_value {w : World} {b o : Nat} {cs : Array Value} {t : TypeId} {fr : Nat × Nat} {u : Value} (h : w.heap[b]? = some (.cells cs t fr)) (hu : cs[o]? = some u) : w.setCell ⟨b, o, none⟩ u = w := by
  have hlt := lt_of_block h
  have e := block_setCell h (o := o) u
  have hs : cs.setIfInBounds o u = cs := by
    apply Array.ext_getElem?
    intro i
    rw [Array.getElem?_setIfInBounds]
    split
    · rename_i hi; subst hi
      split
      · exact hu.symm
      · rename_i h2; rw [Array.getElem?_eq_none (by omega)]
    · rfl
  rw [hs] at e
  have hh : (w.setCell ⟨b, o, none⟩ u).heap = w.heap := by
    apply Array.ext_getElem?
    intro i
    by_cases hi : i = b
    · subst hi; rw [e, h]
    · exact Below.heap_setCell _ _ _ _ hi
  show ({ w with heap := (w.setCell ⟨b, o, none⟩ u).heap } : World) = w
  rw [hh]
set_option maxRecDepth 100000 in
set_option maxHeartbeats 4000000 in
theorem unlock_any {w : World} {lo hi tb c : Nat} {T : List Mx} {A : Option Addr} (h : TabAt w lo hi tb T A c) (m task : Int) :
    Calls Try.prog 36 #[.pointer (some ⟨tb, 0, none⟩), .int .i64 m, .int .i64 task] w (TRes w lo hi tb (tUnlock T m task).2 (.int .i64 (tUnlock T m task).1)) := by
  by_cases hm : 0 ≤ m ∧ m < (T.length : Int)
  · obtain ⟨j, rfl⟩ : ∃ j : Nat, m = j := ⟨m.toNat, by omega⟩
    have hj : j < T.length := by omega
    obtain ⟨y, hy⟩ : ∃ y, T[j]? = some y := ⟨_, List.getElem?_eq_getElem hj⟩
    obtain ⟨g, cur, rfl, h1, h2, h3, h4, h5⟩ := h.rows (by omega)
    have HF := Kept.mk (find_ok h hj)
    have e : tUnlock T (j : Int) task = if y.2.1 = true ∧ y.2.2 = task then (0, T.set j (y.1, false, task)) else (7, T) := by
      unfold tUnlock
      rw [if_pos hm, Int.toNat_natCast, hy]
    obtain ⟨x0, x1, x2, xf⟩ := mx_cells h4 (h5 j y hy)
    have HP := Kept.mk (h.put h4 h5 h1 h2 h3 hy false task)
    have HT := Kept.mk h
    have HX := Kept.mk (fun u : Value => block_setCell h4 (o := j * 3 + 1) u)
    have HR := Kept.mk (h5 j y hy)
    obtain ⟨yc, yb, yt⟩ := y
    simp only at x0 x1 x2 e HP HR
    rw [e]
    clear e h h5 h4 hy
    cases yb with
    | true =>
      by_cases ht : yt = task
      · have t1 : (yt == task) = true := by simp [ht]
        rw [if_pos ⟨rfl, ht⟩]
        have HTT := Kept.mk ht
        clear ht
        go_enter Try.func36, Try.ntmps36
        go_wp2_with fail
        refine HF.out.mono ?_
        rintro e w2 ⟨rfl, rfl⟩
        go_wp2
        go_ret
        have hs := setCell_same_value (HX.out (.bool false)) (o := j * 3 + 2) (u := .int .i64 task) (by rw [Array.getElem?_setIfInBounds, if_neg (by omega), ← HTT.out]; exact HR.out.2.2)
        have hp := HP.out
        rw [hs] at hp
        exact ⟨rfl, ⟨_, _, hp.1⟩, hp.2⟩
      · have t1 : (yt == task) = false := by simp [ht]
        rw [if_neg (fun h => ht h.2)]
        clear ht
        have HT' := Kept.mk (TRes.same HT.out (.int .i64 7))
        go_enter Try.func36, Try.ntmps36
        go_wp2_with fail
        refine HF.out.mono ?_
        rintro e w2 ⟨rfl, rfl⟩
        go_wp2
        go_ret
        exact HT'.out
    | false =>
      rw [if_neg (by simp)]
      have HT' := Kept.mk (TRes.same HT.out (.int .i64 7))
      go_enter Try.func36, Try.ntmps36
      go_wp2_with fail
      refine HF.out.mono ?_
      rintro e w2 ⟨rfl, rfl⟩
      go_wp2
      go_ret
      exact HT'.out
  · have HF := Kept.mk (find_bad h hm)
    have e : tUnlock T m task = (1, T) := by unfold tUnlock; rw [if_neg hm]
    rw [e]
    have HT' := Kept.mk (TRes.same h (.int .i64 1))
    clear e hm h
    go_enter Try.func36, Try.ntmps36
    go_wp2_with fail
    refine HF.out.mono ?_
    rintro e w2 ⟨rfl, rfl⟩
    go_wp2
    go_ret
    exact HT'.out
/-- Who holds the mutex of a number that is one. -/
theorem holder_at {w : World} {lo hi tb c : Nat} {T : List Mx} {A : Option Addr} (h : TabAt w lo hi tb T A c) {j : Nat} {y : Mx} (hy : T[j]? = some y) :
    Calls Try.prog 41 #[.pointer (some ⟨tb, 0, none⟩), .int .i64 (j : Int)] w fun e w' => e = .returned (.tuple #[.int .i64 (if y.2.1 = true then y.2.2 else 0), .bool y.2.1]) ∧ w = w' := by
  have hj : j < T.length := (List.getElem?_eq_some_iff.1 hy).1
  obtain ⟨g, cur, rfl, h1, h2, h3, h4, h5⟩ := h.rows (by omega)
  have HF := Kept.mk (find_ok h hj)
  obtain ⟨x0, x1, x2, xf⟩ := mx_cells h4 (h5 j y hy)
  obtain ⟨yc, yb, yt⟩ := y
  simp only at x0 x1 x2
  clear h h5 h4 hy
  cases yb with
  | true =>
    go_enter Try.func41, Try.ntmps41
    go_wp2_with fail
    refine HF.out.mono ?_
    rintro e w2 ⟨rfl, rfl⟩
    go_wp2
    go_ret2
    exact ⟨rfl, rfl⟩
  | false =>
    go_enter Try.func41, Try.ntmps41
    go_wp2_with fail
    refine HF.out.mono ?_
    rintro e w2 ⟨rfl, rfl⟩
    go_wp2
    go_ret2
    exact ⟨rfl, rfl⟩
end Go.Proofs.Ytcchmkpodfjhcaa
