/-
  What is known between two acts of the law TopLevels: where the queue and the table lie.
-/
import Derived.Test.YtcchmkpodfjhcaaCT4
import Derived.Test.YtcchmkpodfjhcaaL11t
namespace Go.Proofs.Ytcchmkpodfjhcaa
open Go.RowKit
set_option linter.unusedVariables false
theorem PQ_pushn {n : Nat} {xs : List Int} {k : Nat} (hk : k < n) : qPush n (PQ xs k) k (xs[k]?.getD 0) = (if 0 ≤ xs[k]?.getD 0 ∧ xs[k]?.getD 0 < 64 then 0 else 1, PQ xs (k + 1)) := by
  unfold qPush
  have h1 : (k : Int) ∉ (PQ xs k).ids := fun h => by
    obtain ⟨y, hy, e⟩ := List.mem_map.1 h
    obtain ⟨i, h1, h2, _⟩ := PQ_mem hy
    omega
  have h2 := PQ_len xs k
  show _ = (_, PQ xs k ++ _)
  by_cases hc : 0 ≤ xs[k]?.getD 0 ∧ xs[k]?.getD 0 < 64
  · rw [if_neg (by simpa using hc), if_neg h1, if_neg (by omega), if_pos hc, if_pos hc]
  · rw [if_pos hc, if_neg hc, if_neg hc, List.append_nil]
def tAct (T : List Mx) (un : Bool) (m i p : Int) : Int × List Mx := if un = true then tUnlock T m i else tLock T m i p
theorem tAct_ok {xs cs : List Int} {T T' : List Mx} {Q : QL} {m : Int} {i : Nat} {p : Int} {un : Bool} (h : TL xs cs T Q) (hi : okPrio xs i) (e : tAct T un m i p = (0, T')) :
    qRaise Q i (tLev T' i (xs[i]?.getD 0)) = (0, Q.rem i ++ [((i : Int), (tLev T' i (xs[i]?.getD 0)).toNat)]) ∧ TL xs cs T' (Q.rem i ++ [((i : Int), (tLev T' i (xs[i]?.getD 0)).toNat)]) := by
  unfold tAct at e
  split at e
  · exact h.unlock hi e
  · exact h.lock hi e
theorem tAct_ne {T T' : List Mx} {un : Bool} {m i p a : Int} (e : tAct T un m i p = (a, T')) (h : a ≠ 0) : T' = T := by
  unfold tAct tLock tUnlock at e
  repeat' (split at e)
  all_goals (cases e)
  all_goals (first | rfl | exact absurd rfl h)
structure LV (w wr : World) (lo hi qb I M p L K lo2 hi2 tb : Nat) (T : List Mx) (Q : QL) : Prop where
  qa : QAt wr lo hi qb I M p L K 64 Q
  ta : ∃ A c, TabAt wr lo2 hi2 tb T A c
  lw : w.heap.size ≤ lo
  lh : lo ≤ hi
  hl : hi ≤ lo2
  bw : Below w.heap.size w wr
section
variable {w wr W : World} {lo hi qb I M p L K lo2 hi2 tb : Nat} {T T' : List Mx} {Q Q' : QL}
theorem LV.hih (h : LV w wr lo hi qb I M p L K lo2 hi2 tb T Q) : lo2 ≤ hi2 ∧ hi2 ≤ wr.heap.size := by
  obtain ⟨A, c, ht⟩ := h.ta
  exact ⟨by have := ht.t1; have := ht.t2; omega, ht.hh⟩
theorem LV.next (h : LV w wr lo hi qb I M p L K lo2 hi2 tb T Q) (hb : Below wr.heap.size wr W) : LV w W lo hi qb I M p L K lo2 hi2 tb T Q := by
  obtain ⟨A, c, ht⟩ := h.ta
  exact ⟨h.qa.below (hb.mono h.qa.hi), ⟨A, c, ht.below (hb.mono ht.hh)⟩, h.lw, h.lh, h.hl, h.bw.trans (hb.mono h.bw.size)⟩
theorem LV.tabbed (h : LV w wr lo hi qb I M p L K lo2 hi2 tb T Q) (ht : ∃ A c, TabAt W lo2 hi2 tb T' A c) (hk : Kp lo2 hi2 wr W) : LV w W lo hi qb I M p L K lo2 hi2 tb T' Q := by
  have h1 := h.lw
  have h2 := h.hl
  have h3 := h.qa.hi
  have h4 := h.lh
  have h5 := h.hih
  have hb : Below lo2 wr W := hk.below (Below.refl _ _) (Nat.le_refl _) (by omega)
  exact ⟨h.qa.below (hb.mono h2), ht, h.lw, h.lh, h.hl, h.bw.trans (hb.mono (by omega))⟩
theorem LV.queued (h : LV w wr lo hi qb I M p L K lo2 hi2 tb T Q) (hq : QAt W lo hi qb I M p L K 64 Q') (hk : Kp lo hi wr W) : LV w W lo hi qb I M p L K lo2 hi2 tb T Q' := by
  have h1 := h.lw
  have h2 := h.hl
  have h3 := h.qa.hi
  have h4 := h.lh
  obtain ⟨A, c, ht⟩ := h.ta
  have h5 := ht.hh
  exact ⟨hq, ⟨A, c, ht.blocks hk.size fun i g1 g2 => hk.block i (by omega) (.inr (by omega))⟩, h.lw, h.lh, h.hl, hk.below h.bw h.lw h.bw.size⟩
theorem LV.kept (h : LV w wr lo hi qb I M p L K lo2 hi2 tb T Q) {x : Nat} {o : Obj} (hx : wr.heap[x]? = some o) (h2 : hi2 ≤ x) : (Kp lo2 hi2 wr W → W.heap[x]? = some o) ∧ (Kp lo hi wr W → W.heap[x]? = some o) := by
  have hl := lt_of_block hx
  have h5 := h.hih
  have h6 := h.hl
  exact ⟨fun hk => (hk.block x hl (.inr h2)).trans hx, fun hk => (hk.block x hl (.inr (by omega))).trans hx⟩
theorem LV.lock (h : LV w wr lo hi qb I M p L K lo2 hi2 tb T Q) {un : Bool} {m i pr a : Int} (e : tAct T un m i pr = (a, T')) (hu : un = false) :
    Calls Try.prog 37 #[.pointer (some ⟨tb, 0, none⟩), .int .i64 m, .int .i64 i, .int .i64 pr] wr (TRes wr lo2 hi2 tb T' (.int .i64 a)) := by
  subst hu
  obtain ⟨A, c, ht⟩ := h.ta
  have := lock_any ht m i pr
  unfold tAct at e
  rw [if_neg (by decide)] at e
  rwa [e] at this
theorem LV.unlock (h : LV w wr lo hi qb I M p L K lo2 hi2 tb T Q) {un : Bool} {m i pr a : Int} (e : tAct T un m i pr = (a, T')) (hu : un = true) :
    Calls Try.prog 36 #[.pointer (some ⟨tb, 0, none⟩), .int .i64 m, .int .i64 i] wr (TRes wr lo2 hi2 tb T' (.int .i64 a)) := by
  subst hu
  obtain ⟨A, c, ht⟩ := h.ta
  have := unlock_any ht m i
  unfold tAct at e
  rw [if_pos rfl] at e
  rwa [e] at this
theorem LV.level (h : LV w wr lo hi qb I M p L K lo2 hi2 tb T Q) (i pr : Int) :
    Calls Try.prog 39 #[.pointer (some ⟨tb, 0, none⟩), .int .i64 i, .int .i64 pr] wr fun e w' => e = .returned (.int .i64 (tLev T i pr)) ∧ Below wr.heap.size wr w' := by
  obtain ⟨A, c, ht⟩ := h.ta
  exact level_any ht i pr
theorem LV.holder (h : LV w wr lo hi qb I M p L K lo2 hi2 tb T Q) {j : Nat} {y : Mx} (hy : T[j]? = some y) :
    Calls Try.prog 41 #[.pointer (some ⟨tb, 0, none⟩), .int .i64 (j : Int)] wr fun e w' => e = .returned (.tuple #[.int .i64 (if y.2.1 = true then y.2.2 else 0), .bool y.2.1]) ∧ wr = w' := by
  obtain ⟨A, c, ht⟩ := h.ta
  exact holder_at ht hy
end
end Go.Proofs.Ytcchmkpodfjhcaa
