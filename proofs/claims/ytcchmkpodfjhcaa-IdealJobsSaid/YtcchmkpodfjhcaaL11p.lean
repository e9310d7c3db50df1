/-
  Plain: what the law ReadyOrder pushes, and how it comes out.
-/
import Derived.Test.YtcchmkpodfjhcaaQB
namespace Go.Proofs.Ytcchmkpodfjhcaa
set_option linter.unusedVariables false
/-- What is in a queue when the first k of xs are pushed, each with its place as its id. -/
def PQ (xs : List Int) : Nat → QL
  | 0 => []
  | k + 1 => PQ xs k ++ if 0 ≤ xs[k]?.getD 0 ∧ xs[k]?.getD 0 < 64 then [((k : Int), (xs[k]?.getD 0).toNat)] else []
theorem PQ_mem {xs : List Int} : ∀ {k : Nat} {y : Int × Nat}, y ∈ PQ xs k → ∃ i : Nat, y.1 = i ∧ i < k ∧ xs[i]?.getD 0 = (y.2 : Int) ∧ y.2 < 64
  | 0, y, h => by cases h
  | k + 1, y, h => by
    unfold PQ at h
    rcases List.mem_append.1 h with h | h
    · obtain ⟨i, h1, h2, h3, h4⟩ := PQ_mem h
      exact ⟨i, h1, by omega, h3, h4⟩
    · split at h
      · rename_i hc
        simp at h
        subst h
        exact ⟨k, rfl, by omega, by simp only; omega, by simp only; omega⟩
      · cases h
theorem PQ_up (xs : List Int) : ∀ k : Nat, (PQ xs k).Pairwise fun a b => a.1 < b.1
  | 0 => List.Pairwise.nil
  | k + 1 => by
    unfold PQ
    rw [List.pairwise_append]
    refine ⟨PQ_up xs k, ?_, fun a ha b hb => ?_⟩
    · split <;> simp
    · obtain ⟨i, h1, h2, _⟩ := PQ_mem ha
      split at hb
      · simp at hb; subst hb; simp only; omega
      · cases hb
theorem PQ_len (xs : List Int) : ∀ k : Nat, (PQ xs k).length ≤ k
  | 0 => Nat.le_refl _
  | k + 1 => by
    have := PQ_len xs k
    unfold PQ
    rw [List.length_append]
    split <;> simp <;> omega
theorem PQ_push {xs : List Int} {k : Nat} (hk : k < 100) : qPush 100 (PQ xs k) k (xs[k]?.getD 0) = (if 0 ≤ xs[k]?.getD 0 ∧ xs[k]?.getD 0 < 64 then 0 else 1, PQ xs (k + 1)) := by
  unfold qPush
  have h1 : (k : Int) ∉ (PQ xs k).ids := fun h => by
    obtain ⟨y, hy, e⟩ := List.mem_map.1 h
    obtain ⟨i, h1, h2, _⟩ := PQ_mem hy
    omega
  have h2 := PQ_len xs k
  show _ = (_, PQ xs k ++ _)
  by_cases hc : 0 ≤ xs[k]?.getD 0 ∧ xs[k]?.getD 0 < 64
  · rw [if_neg (by simpa using hc), if_neg h1, if_neg (by omega), if_pos hc, if_pos hc]
  · rw [if_pos hc, if_neg hc, if_neg hc, List.append_nil]
/-- What is still in the queue stands behind what came out. -/
structure Ord (xs : List Int) (Q : QL) (last lastP : Int) : Prop where
  a : ∀ y ∈ Q, ∃ i : Nat, y.1 = i ∧ i < xs.length ∧ xs[i]?.getD 0 = (y.2 : Int) ∧ y.2 < 64
  b : Q.Pairwise fun a b => a.1 < b.1
  c : ∀ y ∈ Q, (y.2 : Int) < lastP ∨ ((y.2 : Int) = lastP ∧ last < y.1)
theorem Ord.start (xs : List Int) : Ord xs (PQ xs xs.length) (-1) 64 :=
  ⟨fun y hy => PQ_mem hy, PQ_up _ _, fun y hy => by obtain ⟨i, _, _, _, h⟩ := PQ_mem hy; exact .inl (by omega)⟩
theorem top_some {Q : QL} (hp : ∀ x ∈ Q, x.2 < 64) (h : Q ≠ []) : ∃ id p, qTop Q = some (id, p) ∧ IsTop Q (some (id, p)) ∧ (id, p) ∈ Q := by
  have ht := top_is hp
  cases e : qTop Q with
  | none =>
    rw [e] at ht
    exfalso
    cases Q with
    | nil => exact h rfl
    | cons y r =>
      have := ht y.2 (hp y (List.mem_cons_self ..))
      have hm : y.1 ∈ QL.of (y :: r) y.2 := of_mem.2 (List.mem_cons_self ..)
      rw [this] at hm
      cases hm
  | some a =>
    obtain ⟨id, p⟩ := a
    rw [e] at ht
    exact ⟨id, p, rfl, ht, of_mem.1 (List.mem_of_head? ht.2.1)⟩
theorem head_least : ∀ {l : List Int} {a b : Int}, l.Pairwise (· < ·) → l.head? = some a → b ∈ l → b ≠ a → a < b
  | [], _, _, _, h, _, _ => by cases h
  | x :: r, a, b, hp, h, hb, hne => by
    simp at h
    subst h
    rw [List.pairwise_cons] at hp
    rcases List.mem_cons.1 hb with rfl | hb
    · exact absurd rfl hne
    · exact hp.1 b hb
theorem Ord.pop {xs : List Int} {Q : QL} {last lastP : Int} (h : Ord xs Q last lastP) {id : Int} {p : Nat} (ht : IsTop Q (some (id, p))) : Ord xs (Q.rem id) id p := by
  have hsub : ∀ y ∈ Q.rem id, y ∈ Q ∧ y.1 ≠ id := fun y hy => by
    unfold QL.rem at hy
    rw [List.mem_filter] at hy
    exact ⟨hy.1, of_decide_eq_true hy.2⟩
  refine ⟨fun y hy => h.a y (hsub y hy).1, h.b.sublist List.filter_sublist, fun y hy => ?_⟩
  obtain ⟨h1, h2⟩ := hsub y hy
  obtain ⟨_, _, _, _, hy64⟩ := h.a y h1
  have hm : y.1 ∈ Q.of y.2 := of_mem.2 h1
  by_cases hlt : p < y.2
  · rw [ht.2.2 y.2 hlt hy64] at hm
    cases hm
  · by_cases he : y.2 = p
    · refine .inr ⟨by omega, ?_⟩
      rw [he] at hm
      refine head_least ?_ ht.2.1 hm h2
      unfold QL.of
      rw [List.pairwise_map]
      exact h.b.sublist List.filter_sublist
    · exact .inl (by omega)
theorem Ord.wf {xs : List Int} {Q : QL} {last lastP : Int} (h : Ord xs Q last lastP) (hl : xs.length ≤ 100) : ∀ x ∈ Q, (Lit.int .i64 x.1).wf = true := fun x hx => by
  obtain ⟨i, h1, h2, _⟩ := h.a x hx
  rw [h1]
  simp [Lit.wf, IntKind.min, IntKind.max, IntKind.signed, IntKind.bits]
  omega
end Go.Proofs.Ytcchmkpodfjhcaa
