/-
  Plain facts of sets of bits: a set is made of its list; the list rises; the set of some numbers has just these, and no more.
-/
import Derived.Test.YtcchmkpodfjhcaaDoorB5
namespace Go.Proofs.YtcchmkpodfjhcaaDoor
set_option linter.unusedVariables false

theorem snoc_rec {α : Type} {P : List α → Prop} (h0 : P []) (h1 : ∀ xs x, P xs → P (xs ++ [x])) (xs : List α) : P xs := by
  have : ∀ ys : List α, P ys.reverse := by
    intro ys
    induction ys with
    | nil => exact h0
    | cons y r ih => rw [List.reverse_cons]; exact h1 _ _ ih
  have h := this xs.reverse
  rwa [List.reverse_reverse] at h
theorem ofF_bit (xs : List Int) (h : xs.all okB = true) (i : Nat) : (ofF xs).testBit i = xs.any fun x => decide (x = (i : Int)) := by
  revert h
  refine snoc_rec (P := fun xs => xs.all okB = true → (ofF xs).testBit i = xs.any fun x => decide (x = (i : Int))) ?_ ?_ xs
  · intro _; simp [ofF]
  · intro xs x ih h
    rw [List.all_append, Bool.and_eq_true] at h
    rw [ofF_snoc, Nat.testBit_or, ih h.1, List.any_append, Nat.testBit_two_pow]
    have hx : 0 ≤ x ∧ x ≤ 63 := by simpa [okB] using h.2
    congr 1
    simp only [List.any_cons, List.any_nil, Bool.or_false]
    rw [Bool.eq_iff_iff]
    simp only [decide_eq_true_eq]
    omega
theorem ofF_lt (xs : List Int) (h : xs.all okB = true) : ofF xs < 18446744073709551616 := by
  apply Nat.lt_pow_two_of_testBit (n := 64)
  intro i hi
  rw [ofF_bit xs h, List.any_eq_false]
  intro x hx
  have := List.all_eq_true.1 h x hx
  have : 0 ≤ x ∧ x ≤ 63 := by simpa [okB] using this
  simp; omega
theorem ofV_lt (xs : List Int) : ofV xs < 18446744073709551616 := by
  unfold ofV
  by_cases h : xs.all okB = true
  · rw [if_pos h]; exact ofF_lt xs h
  · rw [if_neg h]; omega
theorem lb_ok (b : Nat) : (lb 64 b).all okB = true := by
  rw [List.all_eq_true]
  intro x hx
  obtain ⟨i, rfl, hi, _⟩ := lb_mem hx
  simp only [okB]
  exact decide_eq_true (by omega)
theorem lb_in {b i : Nat} (h : i < 64) (hb : b.testBit i = true) : (i : Int) ∈ lb 64 b := by
  unfold lb
  exact List.mem_map.2 ⟨i, List.mem_filter.2 ⟨List.mem_range.2 h, hb⟩, rfl⟩
theorem of_lb {b : Nat} (hb : b < 18446744073709551616) : ofV (lb 64 b) = b ∧ ofE (lb 64 b) = 0 := by
  obtain ⟨h1, h2⟩ := of_good (lb_ok b)
  refine ⟨?_, h2⟩
  rw [h1]
  apply bits_eq 64 (ofF_lt _ (lb_ok b)) hb
  intro i hi
  rw [ofF_bit _ (lb_ok b), Bool.eq_iff_iff, List.any_eq_true]
  constructor
  · rintro ⟨x, hx, he⟩
    obtain ⟨j, rfl, _, hj⟩ := lb_mem hx
    have : j = i := by have := of_decide_eq_true he; omega
    rw [← this]; exact hj
  · intro h
    exact ⟨(i : Int), lb_in hi h, by simp⟩
theorem lb_rises (b : Nat) : (lb 64 b).Pairwise (· < ·) := by
  unfold lb
  rw [List.pairwise_map]
  exact (List.Pairwise.filter _ List.pairwise_lt_range).imp fun h => by omega
theorem lb_next {b k : Nat} {x y : Int} (hx : (lb 64 b)[k]? = some x) (hy : (lb 64 b)[k + 1]? = some y) : x < y := by
  obtain ⟨h1, rfl⟩ := List.getElem?_eq_some_iff.1 hx
  obtain ⟨h2, rfl⟩ := List.getElem?_eq_some_iff.1 hy
  exact List.pairwise_iff_getElem.1 (lb_rises b) k (k + 1) h1 h2 (by omega)
theorem cnt_or (p : Nat → Bool) (n : Nat) : ∀ k, ((List.range k).filter fun i => p i || decide (n = i)).length ≤ ((List.range k).filter p).length + if n < k then 1 else 0
  | 0 => by simp
  | k + 1 => by
    have ih := cnt_or p n k
    rw [List.range_succ, List.filter_append, List.filter_append, List.length_append, List.length_append]
    by_cases hp : p k <;> by_cases hn : n = k
    · subst hn; simp only [hp, List.filter_cons, List.filter_nil, Bool.true_or, if_true, List.length_cons, List.length_nil]; split <;> split at ih <;> omega
    · simp only [hp, List.filter_cons, List.filter_nil, Bool.true_or, if_true, List.length_cons, List.length_nil]; split <;> split at ih <;> omega
    · subst hn
      simp only [hp, List.filter_cons, List.filter_nil, Bool.false_or, decide_true, if_true, Bool.false_eq_true, if_false, List.length_cons, List.length_nil]
      rw [if_pos (by omega)]
      rw [if_neg (by omega)] at ih
      omega
    · simp only [hp, hn, List.filter_cons, List.filter_nil, Bool.false_or, decide_false, Bool.false_eq_true, if_false, List.length_nil]; split <;> split at ih <;> omega
theorem of_count (xs : List Int) : (lb 64 (ofF xs)).length ≤ xs.length := by
  refine snoc_rec (P := fun xs => (lb 64 (ofF xs)).length ≤ xs.length) ?_ ?_ xs
  · rw [lb_none (fun i _ => by simp [ofF])]; simp
  · intro xs x ih
    rw [ofF_snoc, List.length_append]
    unfold lb at ih ⊢
    rw [List.length_map] at ih ⊢
    have h := cnt_or (fun i => (ofF xs).testBit i) x.toNat 64
    have e : (fun i => (ofF xs ||| 2 ^ x.toNat).testBit i) = fun i => (ofF xs).testBit i || decide (x.toNat = i) := by
      funext i
      rw [Nat.testBit_or, Nat.testBit_two_pow]
    rw [e]
    simp only [List.length_cons, List.length_nil]
    split at h <;> omega
theorem of_has {xs : List Int} (h : xs.all okB = true) {x : Int} (hx : x ∈ xs) : (ofF xs &&& (18446744073709551615 - btN 0 (x - 1))) &&& btN 0 x ≠ 0 := by
  have hb : 0 ≤ x ∧ x ≤ 63 := by simpa [okB] using List.all_eq_true.1 h x hx
  obtain ⟨n, rfl⟩ := Int.eq_ofNat_of_zero_le hb.1
  have hlt := btN_lt 0 ((n : Int) - 1)
  have e : 18446744073709551615 - btN 0 ((n : Int) - 1) = 2 ^ 64 - (btN 0 ((n : Int) - 1) + 1) := by omega
  intro h0
  have h2 := congrArg (fun b => b.testBit n) h0
  simp only [Nat.zero_testBit] at h2
  rw [Nat.testBit_and, Nat.testBit_and, e, Nat.testBit_two_pow_sub_succ hlt, btN_bit, btN_bit, ofF_bit xs h] at h2
  have h3 : (xs.any fun y => decide (y = (n : Int))) = true := by
    rw [List.any_eq_true]
    exact ⟨_, hx, by simp⟩
  have h4 : btP 0 ((n : Int) - 1) n = false := by unfold btP; exact decide_eq_false (by omega)
  have h5 : btP 0 (n : Int) n = true := by unfold btP; exact decide_eq_true (by omega)
  have h6 : decide (n < 64) = true := decide_eq_true (by omega)
  rw [h3, h4, h5, h6] at h2
  simp at h2
end Go.Proofs.YtcchmkpodfjhcaaDoor
