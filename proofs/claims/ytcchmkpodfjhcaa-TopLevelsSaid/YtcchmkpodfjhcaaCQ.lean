/-
  The plain law of mutexes with ceilings, and of the levels of those who hold them.
-/
import Derived.Test.YtcchmkpodfjhcaaL11p
namespace Go.Proofs.Ytcchmkpodfjhcaa
open Go.RowKit
set_option linter.unusedVariables false
/-- A mutex: its ceiling, whether it is held, by whom. -/
abbrev Mx := Int × Bool × Int
def mxHas (task : Int) (y : Mx) : Bool := y.2.1 && decide (y.2.2 = task)
def lvS (task a : Int) (y : Mx) : Int := if mxHas task y = true then max a y.1 else a
theorem lvS_ge (task a : Int) (y : Mx) : a ≤ lvS task a y := by unfold lvS; split <;> omega
def tLev : List Mx → Int → Int → Int
  | [], _, p => p
  | y :: r, task, p => tLev r task (lvS task p y)
theorem lev_le : ∀ (T : List Mx) (task p : Int), p ≤ tLev T task p
  | [], _, p => Int.le_refl _
  | y :: r, task, p => Int.le_trans (lvS_ge task p y) (lev_le r task _)
theorem lev_mem : ∀ {T : List Mx} {task : Int} (p : Int) {y : Mx}, y ∈ T → mxHas task y = true → y.1 ≤ tLev T task p
  | z :: r, task, p, y, hm, hy => by
    rw [tLev]
    rcases List.mem_cons.1 hm with rfl | hm
    · have := lev_le r task (lvS task p y)
      have h2 : y.1 ≤ lvS task p y := by unfold lvS; rw [if_pos hy]; omega
      omega
    · exact lev_mem _ hm hy
theorem lev_max : ∀ {T : List Mx} {task p B : Int}, p ≤ B → (∀ y ∈ T, y.1 ≤ B) → tLev T task p ≤ B
  | [], _, p, B, h, _ => h
  | y :: r, task, p, B, h, hT => by
    rw [tLev]
    refine lev_max (T := r) ?_ fun z hz => hT z (List.mem_cons_of_mem _ hz)
    have := hT y (List.mem_cons_self ..)
    unfold lvS
    split <;> omega
theorem lev_snoc : ∀ (T : List Mx) (task p : Int) (y : Mx), tLev (T ++ [y]) task p = lvS task (tLev T task p) y
  | [], _, _, _ => rfl
  | z :: r, task, p, y => lev_snoc r task _ y
theorem lev_set : ∀ {T : List Mx} {m : Nat} {y y' : Mx} {task p : Int}, T[m]? = some y → y'.1 = y.1 → mxHas task y' = mxHas task y → tLev (T.set m y') task p = tLev T task p
  | z :: r, 0, y, y', task, p, h, h1, h2 => by
    simp only [List.getElem?_cons_zero, Option.some.injEq] at h
    subst h
    show tLev r task (lvS task p y') = tLev r task (lvS task p z)
    unfold lvS
    rw [h1, h2]
  | z :: r, m + 1, y, y', task, p, h, h1, h2 => by
    show tLev (r.set m y') task _ = tLev r task _
    exact lev_set (by simpa using h) h1 h2
/-- What Lock tells, and leaves. -/
def tLock (T : List Mx) (m task prio : Int) : Int × List Mx := if 0 ≤ m ∧ m < (T.length : Int) then match T[m.toNat]? with
    | none => (1, T)
    | some y => if y.1 < prio then (12, T) else if y.2.1 = true then if y.2.2 = task then (4, T) else (13, T) else (0, T.set m.toNat (y.1, true, task))
  else (1, T)
def tUnlock (T : List Mx) (m task : Int) : Int × List Mx := if 0 ≤ m ∧ m < (T.length : Int) then match T[m.toNat]? with
    | none => (1, T)
    | some y => if y.2.1 = true ∧ y.2.2 = task then (0, T.set m.toNat (y.1, false, task)) else (7, T)
  else (1, T)
def okPrio (xs : List Int) (i : Nat) : Prop := i < xs.length ∧ 0 ≤ xs[i]?.getD 0 ∧ xs[i]?.getD 0 < 64
/-- The state between two acts: the mutexes' ceilings are cs, whoever holds one is a task; in the queue are all tasks, each at its level. -/
structure TL (xs cs : List Int) (T : List Mx) (Q : QL) : Prop where
  ce : T.map (·.1) = cs
  cr : ∀ c ∈ cs, 0 ≤ c ∧ c < 64
  hold : ∀ y ∈ T, y.2.1 = true → ∃ i : Nat, y.2.2 = i ∧ okPrio xs i
  q : ∀ z ∈ Q, ∃ i : Nat, z.1 = i ∧ okPrio xs i ∧ (z.2 : Int) = tLev T i (xs[i]?.getD 0)
  all : ∀ i : Nat, okPrio xs i → (i : Int) ∈ Q.ids
theorem lev_none : ∀ {T : List Mx} {task p : Int}, (∀ y ∈ T, y.2.1 = false) → tLev T task p = p
  | [], _, _, _ => rfl
  | y :: r, task, p, h => by
    have e : lvS task p y = p := by unfold lvS; rw [if_neg (by unfold mxHas; rw [h y (List.mem_cons_self ..)]; simp)]
    rw [tLev, e]
    exact lev_none fun z hz => h z (List.mem_cons_of_mem _ hz)
def newT (cs : List Int) : List Mx := cs.map fun c => (c, false, 0)
theorem PQ_ids {xs : List Int} : ∀ {k i : Nat}, i < k → 0 ≤ xs[i]?.getD 0 ∧ xs[i]?.getD 0 < 64 → (i : Int) ∈ (PQ xs k).ids
  | 0, i, h, _ => absurd h (by omega)
  | k + 1, i, h, hv => by
    unfold PQ QL.ids
    rw [List.map_append, List.mem_append]
    by_cases e : i = k
    · right; subst e; rw [if_pos hv]; simp
    · left; exact PQ_ids (by omega) hv
theorem TL.first {xs cs : List Int} (hcs : ∀ c ∈ cs, 0 ≤ c ∧ c < 64) : TL xs cs (newT cs) (PQ xs xs.length) := by
  refine ⟨?_, hcs, ?_, ?_, fun i hi => PQ_ids hi.1 hi.2⟩
  · unfold newT; rw [List.map_map]; exact List.map_id'' (fun _ => rfl) cs
  · intro y hy h
    unfold newT at hy
    obtain ⟨c, _, rfl⟩ := List.mem_map.1 hy
    cases h
  · intro z hz
    obtain ⟨i, h1, h2, h3, h4⟩ := PQ_mem hz
    refine ⟨i, h1, ⟨h2, by omega, by omega⟩, ?_⟩
    rw [lev_none fun y hy => ?_]
    · exact h3.symm
    · unfold newT at hy
      obtain ⟨c, _, rfl⟩ := List.mem_map.1 hy
      rfl
theorem TL.ceil {xs cs : List Int} {T : List Mx} {Q : QL} (h : TL xs cs T Q) : ∀ y ∈ T, 0 ≤ y.1 ∧ y.1 < 64 := fun y hy => h.cr _ (by rw [← h.ce]; exact List.mem_map.2 ⟨y, hy, rfl⟩)
theorem TL.lev {xs cs : List Int} {T : List Mx} {Q : QL} (h : TL xs cs T Q) {i : Nat} (hi : okPrio xs i) : 0 ≤ tLev T i (xs[i]?.getD 0) ∧ tLev T i (xs[i]?.getD 0) < 64 := by
  have h1 := lev_le T i (xs[i]?.getD 0)
  have h2 := hi.2
  have h3 : tLev T i (xs[i]?.getD 0) ≤ 63 := lev_max (by omega) fun y hy => by have := h.ceil y hy; omega
  omega
/-- Another task's act changes no level; the task's own is told anew. -/
theorem TL.turn {xs cs : List Int} {T T' : List Mx} {Q : QL} (h : TL xs cs T Q) {i : Nat} (hi : okPrio xs i) (h1 : T'.map (·.1) = cs) (h2 : ∀ y ∈ T', y.2.1 = true → ∃ i : Nat, y.2.2 = i ∧ okPrio xs i) (h3 : ∀ (j : Nat) p, j ≠ i → tLev T' j p = tLev T j p) :
    qRaise Q i (tLev T' i (xs[i]?.getD 0)) = (0, Q.rem i ++ [((i : Int), (tLev T' i (xs[i]?.getD 0)).toNat)]) ∧ TL xs cs T' (Q.rem i ++ [((i : Int), (tLev T' i (xs[i]?.getD 0)).toNat)]) := by
  have hl : 0 ≤ tLev T' i (xs[i]?.getD 0) ∧ tLev T' i (xs[i]?.getD 0) < 64 := by
    have g1 := lev_le T' i (xs[i]?.getD 0)
    have g2 := hi.2
    have g3 : tLev T' i (xs[i]?.getD 0) ≤ 63 := lev_max (by omega) fun y hy => by have := h.cr y.1 (by rw [← h1]; exact List.mem_map.2 ⟨y, hy, rfl⟩); omega
    omega
  refine ⟨?_, h1, h.cr, h2, ?_, ?_⟩
  · unfold qRaise
    rw [if_neg (by simpa using hl), if_pos (h.all i hi)]
  · intro z hz
    rcases List.mem_append.1 hz with hz | hz
    · have hz' := List.mem_filter.1 hz
      obtain ⟨j, g1, g2, g3⟩ := h.q z hz'.1
      have hne : j ≠ i := by
        rintro rfl
        have := hz'.2
        rw [decide_eq_true_eq] at this
        exact this g1
      exact ⟨j, g1, g2, by rw [h3 j _ hne]; exact g3⟩
    · simp only [List.mem_singleton] at hz
      subst hz
      exact ⟨i, rfl, hi, by simp only; omega⟩
  · intro j hj
    unfold QL.ids
    rw [List.map_append, List.mem_append]
    by_cases e : j = i
    · subst e; right; simp
    · left
      obtain ⟨z, hz, ez⟩ := List.mem_map.1 (h.all j hj)
      exact List.mem_map.2 ⟨z, List.mem_filter.2 ⟨hz, by rw [decide_eq_true_eq, ez]; omega⟩, ez⟩
theorem set_fst : ∀ {T : List Mx} {m : Nat} {y y' : Mx}, T[m]? = some y → y'.1 = y.1 → (T.set m y').map (·.1) = T.map (·.1)
  | z :: r, 0, y, y', h, h1 => by
    simp only [List.getElem?_cons_zero, Option.some.injEq] at h
    subst h
    show y'.1 :: r.map (·.1) = z.1 :: r.map (·.1)
    rw [h1]
  | z :: r, m + 1, y, y', h, h1 => by
    show z.1 :: (r.set m y').map (·.1) = z.1 :: r.map (·.1)
    rw [set_fst (by simpa using h) h1]
theorem TL.lock {xs cs : List Int} {T T' : List Mx} {Q : QL} {m : Int} {i : Nat} {p : Int} (h : TL xs cs T Q) (hi : okPrio xs i) (e : tLock T m i p = (0, T')) :
    qRaise Q i (tLev T' i (xs[i]?.getD 0)) = (0, Q.rem i ++ [((i : Int), (tLev T' i (xs[i]?.getD 0)).toNat)]) ∧ TL xs cs T' (Q.rem i ++ [((i : Int), (tLev T' i (xs[i]?.getD 0)).toNat)]) := by
  unfold tLock at e
  by_cases hm : 0 ≤ m ∧ m < (T.length : Int)
  · rw [if_pos hm] at e
    cases hy : T[m.toNat]? with
    | none => rw [hy] at e; simp at e
    | some y =>
      rw [hy] at e
      simp only at e
      repeat' (split at e)
      all_goals (simp only [Prod.mk.injEq, Int.reduceEq, false_and, true_and] at e)
      rename_i hh
      subst e
      refine h.turn hi (by rw [set_fst hy (by rfl)]; exact h.ce) ?_ ?_
      · intro z hz hzh
        rcases List.mem_or_eq_of_mem_set hz with hz | rfl
        · exact h.hold z hz hzh
        · exact ⟨i, rfl, hi⟩
      · intro j p hj
        refine lev_set hy rfl ?_
        have hf : y.2.1 = false := by cases hb : y.2.1 <;> simp_all
        unfold mxHas
        rw [hf]
        simp
        omega
  · rw [if_neg hm] at e
    simp at e
theorem TL.unlock {xs cs : List Int} {T T' : List Mx} {Q : QL} {m : Int} {i : Nat} (h : TL xs cs T Q) (hi : okPrio xs i) (e : tUnlock T m i = (0, T')) :
    qRaise Q i (tLev T' i (xs[i]?.getD 0)) = (0, Q.rem i ++ [((i : Int), (tLev T' i (xs[i]?.getD 0)).toNat)]) ∧ TL xs cs T' (Q.rem i ++ [((i : Int), (tLev T' i (xs[i]?.getD 0)).toNat)]) := by
  unfold tUnlock at e
  by_cases hm : 0 ≤ m ∧ m < (T.length : Int)
  · rw [if_pos hm] at e
    cases hy : T[m.toNat]? with
    | none => rw [hy] at e; simp at e
    | some y =>
      rw [hy] at e
      simp only at e
      split at e
      · rename_i hh
        simp only [Prod.mk.injEq, true_and] at e
        subst e
        refine h.turn hi (by rw [set_fst hy (by rfl)]; exact h.ce) ?_ ?_
        · intro z hz hzh
          rcases List.mem_or_eq_of_mem_set hz with hz | rfl
          · exact h.hold z hz hzh
          · cases hzh
        · intro j p hj
          refine lev_set hy rfl ?_
          unfold mxHas
          rw [hh.2]
          simp
          omega
      · simp at e
  · rw [if_neg hm] at e
    simp at e
/-- The first one is at the greatest level. -/
theorem TL.top {xs cs : List Int} {T : List Mx} {Q : QL} (h : TL xs cs T Q) (hne : Q ≠ []) : ∃ (f k : Nat), qTop Q = some ((f : Int), k) ∧ okPrio xs f ∧ (k : Int) = tLev T f (xs[f]?.getD 0) ∧ ∀ j, okPrio xs j → tLev T j (xs[j]?.getD 0) ≤ (k : Int) := by
  have hp : ∀ x ∈ Q, x.2 < 64 := fun x hx => by
    obtain ⟨i, _, h2, h3⟩ := h.q x hx
    have := h.lev h2
    omega
  obtain ⟨id, p, h1, h2, h3⟩ := top_some hp hne
  obtain ⟨i, g1, g2, g3⟩ := h.q _ h3
  simp only at g1 g3
  subst g1
  refine ⟨i, p, h1, g2, g3, fun j hj => ?_⟩
  obtain ⟨z, hz, ez⟩ := List.mem_map.1 (h.all j hj)
  obtain ⟨i', f1, f2, f3⟩ := h.q z hz
  have : i' = j := by omega
  subst this
  rw [← f3]
  by_cases hlt : p < z.2
  · have := h2.2.2 z.2 hlt (hp z hz)
    have hm : z.1 ∈ Q.of z.2 := of_mem.2 hz
    rw [this] at hm
    cases hm
  · omega
/-- Whoever holds a mutex is at its ceiling at least. -/
theorem TL.held {xs cs : List Int} {T : List Mx} {Q : QL} (h : TL xs cs T Q) {m : Nat} {y : Mx} (hy : T[m]? = some y) (hh : y.2.1 = true) : ∃ i : Nat, y.2.2 = i ∧ okPrio xs i ∧ y.1 ≤ tLev T i (xs[i]?.getD 0) := by
  obtain ⟨i, h1, h2⟩ := h.hold y (List.mem_of_getElem? hy) hh
  exact ⟨i, h1, h2, lev_mem _ (List.mem_of_getElem? hy) (by unfold mxHas; rw [hh, h1]; simp)⟩
end Go.Proofs.Ytcchmkpodfjhcaa
