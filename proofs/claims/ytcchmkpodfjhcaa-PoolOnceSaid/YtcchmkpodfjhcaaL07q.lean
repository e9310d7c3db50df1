/-
  The plain law of PoolOnce: each entry is free, or stands in one list, once.
-/
import Derived.Test.YtcchmkpodfjhcaaPA
namespace Go.Proofs.Ytcchmkpodfjhcaa
set_option linter.unusedVariables false
/-- Has an entry been seen, when the lists below k are gone through, and some entries of the next one? -/
def visB (S : PS) (k : Nat) (pre : List Nat) (j : Nat) : Bool := (List.range k).any (fun k' : Nat => decide (j ∈ S.list (k' : Int))) || decide (j ∈ pre)
def visC (S : PS) (k : Nat) (pre : List Nat) (j : Nat) : Int := if visB S k pre j then 1 else 0
theorem vis_zero (S : PS) (j : Nat) : visC S 0 [] j = 0 := by simp [visC, visB]
theorem vis_step (S : PS) (k : Nat) (j : Nat) : visC S k (S.list (k : Int)) j = visC S (k + 1) [] j := by
  have : visB S k (S.list (k : Int)) j = visB S (k + 1) [] j := by
    unfold visB
    rw [List.range_succ, List.any_append]
    simp
  unfold visC
  rw [this]
theorem Good.lst {n m : Nat} {S : PS} {F G : Nat → Int} (h : Good n m S F G) {k : Nat} {j : Nat} (hj : j ∈ S.list (k : Int)) : S.lists[k]? = some (S.list (k : Int)) := by
  unfold PS.list at hj ⊢
  rw [if_pos (by omega), Int.toNat_natCast] at hj ⊢
  cases e : S.lists[k]? with
  | none => rw [e] at hj; simp at hj
  | some l => rfl
/-- The next one has not been seen. -/
theorem vis_new {n m : Nat} {S : PS} {F G : Nat → Int} (h : Good n m S F G) {k : Nat} {pre r : List Nat} {x : Nat} (e : S.list (k : Int) = pre ++ x :: r) : visB S k pre x = false := by
  have hx : x ∈ S.list (k : Int) := by rw [e]; simp
  have hl := h.lst hx
  have hnd := h.rep.lnd k _ hl
  rw [e] at hnd
  unfold visB
  rw [Bool.or_eq_false_iff]
  refine ⟨?_, decide_eq_false fun hp => (List.nodup_append.1 hnd).2.2 x hp x (by simp) rfl⟩
  rw [List.any_eq_false]
  intro k' hk'
  have hk := List.mem_range.1 hk'
  simp only [decide_eq_true_eq]
  intro hm
  have := (h.rep.one (h.lst hm) hl hm hx).1
  omega
theorem vis_upd {n m : Nat} {S : PS} {F G : Nat → Int} (h : Good n m S F G) {k : Nat} {pre r : List Nat} {x : Nat} (e : S.list (k : Int) = pre ++ x :: r) : upd (visC S k pre) x 1 = visC S k (pre ++ [x]) := by
  funext j
  unfold upd visC visB
  by_cases hj : j = x
  · rw [if_pos hj, if_pos]
    simp [hj]
  · rw [if_neg hj]
    have : decide (j ∈ pre ++ [x]) = decide (j ∈ pre) := by simp [hj]
    rw [this]
/-- What Where tells of an entry of a list. -/
theorem wh_in {n m : Nat} {S : PS} {F G : Nat → Int} (h : Good n m S F G) {k x : Nat} (hx : x ∈ S.list (k : Int)) : x < n ∧ wh n S (x : Int) = ((k : Int), (0 : Int)) := by
  have hl := h.lst hx
  have hlt := h.rep.llt k _ hl x hx
  refine ⟨hlt, ?_⟩
  unfold wh
  rw [if_neg (by omega), Int.toNat_natCast, h.rep.loc hl hx]
theorem vis_end {n m : Nat} {S : PS} {F G : Nat → Int} (h : Good n m S F G) {x : Nat} (hx : x < n) : (visB S m [] x = true ∧ ∃ k : Nat, wh n S (x : Int) = ((k : Int), (0 : Int))) ∨ (visB S m [] x = false ∧ wh n S (x : Int) = ((0 : Int), (3 : Int))) := by
  rcases h.link hx with ⟨h1, h2, _⟩ | ⟨k, l, a, b, h1, h2, h3, h4, _⟩
  · right
    refine ⟨?_, by unfold wh; rw [if_neg (by omega), Int.toNat_natCast, h1]⟩
    unfold visB
    rw [Bool.or_eq_false_iff]
    refine ⟨?_, by simp⟩
    rw [List.any_eq_false]
    intro k' _
    simp only [decide_eq_true_eq]
    intro hm
    exact loc_none h1 k' _ (h.lst hm) hm
  · left
    have hl : S.list (k : Int) = l := by unfold PS.list; rw [if_pos (by omega), Int.toNat_natCast, h2]; rfl
    refine ⟨?_, k, by unfold wh; rw [if_neg (by omega), Int.toNat_natCast, h1]⟩
    unfold visB
    rw [Bool.or_eq_true]
    exact .inl (List.any_eq_true.2 ⟨k, List.mem_range.2 h4, decide_eq_true (by rw [hl]; exact h3)⟩)
/-- How many of the entries below k have not been seen. -/
def unseen (S : PS) (m k : Nat) : Nat := ((List.range k).filter fun j => !visB S m [] j).length
theorem unseen_step (S : PS) (m k : Nat) : unseen S m (k + 1) = unseen S m k + if visB S m [] k then 0 else 1 := by
  unfold unseen
  rw [List.range_succ, List.filter_append, List.length_append]
  cases h : visB S m [] k <;> simp [h]
theorem unseen_le (S : PS) (m k : Nat) : unseen S m k ≤ k := by
  have := List.length_filter_le (fun j => !visB S m [] j) (List.range k)
  simpa [unseen] using this
theorem unseen_all {n m : Nat} {S : PS} {F G : Nat → Int} (h : Good n m S F G) : unseen S m n = S.pile.length := by
  unfold unseen
  apply List.Perm.length_eq
  refine (List.perm_ext_iff_of_nodup (List.nodup_range.sublist List.filter_sublist) h.rep.pnd).2 fun j => ?_
  rw [List.mem_filter, List.mem_range]
  constructor
  · rintro ⟨hj, hv⟩
    rcases h.link hj with ⟨_, h2, _⟩ | ⟨k, l, a, b, h1, h2, h3, h4, _⟩
    · exact h2
    · rcases vis_end h hj with ⟨hb, _⟩ | ⟨_, hw⟩
      · rw [hb] at hv; simp at hv
      · unfold wh at hw
        rw [if_neg (by omega), Int.toNat_natCast, h1] at hw
        simp at hw
  · intro hp
    have hj := h.rep.plt j hp
    refine ⟨hj, ?_⟩
    rcases vis_end h hj with ⟨_, k, hw⟩ | ⟨hb, _⟩
    · unfold wh at hw
      rw [if_neg (by omega), Int.toNat_natCast] at hw
      cases e : S.loc j with
      | none => rw [e] at hw; simp at hw
      | some k' =>
        obtain ⟨l, hl, hm⟩ := loc_some e
        exact absurd hp (h.rep.notP hl hm)
    · rw [hb]; rfl
end Go.Proofs.Ytcchmkpodfjhcaa
