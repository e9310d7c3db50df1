/-
  Plain facts: what the search for the next line finds; sets of lines as they are raised and served.
-/
import Derived.Test.YtcchmkpodfjhcaaDoorT11
import Derived.Test.YtcchmkpodfjhcaaDoorBQ
namespace Go.Proofs.YtcchmkpodfjhcaaDoor
open Go.RowKit
set_option linter.unusedVariables false
abbrev pr (xs : List Int) (n : Nat) : Int := xs[n]?.getD 0
theorem nx_spec (xs : List Int) (l : List Nat) : l.Pairwise (· < ·) → (∀ n, n ∈ l → 1 ≤ pr xs n) →
    (l = [] ∧ nxF xs l = (64, 0)) ∨ (∃ n, n ∈ l ∧ nxF xs l = ((n : Int), pr xs n) ∧ ∀ m, m ∈ l → pr xs m < pr xs n ∨ (pr xs m = pr xs n ∧ n ≤ m)) := by
  refine snoc_rec (P := fun l => l.Pairwise (· < ·) → (∀ n, n ∈ l → 1 ≤ pr xs n) →
    (l = [] ∧ nxF xs l = (64, 0)) ∨ (∃ n, n ∈ l ∧ nxF xs l = ((n : Int), pr xs n) ∧ ∀ m, m ∈ l → pr xs m < pr xs n ∨ (pr xs m = pr xs n ∧ n ≤ m))) ?_ ?_ l
  · intro _ _; exact .inl ⟨rfl, rfl⟩
  · intro l x ih hp h1
    rw [List.pairwise_append] at hp
    obtain ⟨hp1, _, hp2⟩ := hp
    have hx := h1 x (by simp)
    right
    rcases ih hp1 (fun n hn => h1 n (by simp [hn])) with ⟨rfl, hf⟩ | ⟨n, hn, hf, hm⟩
    · refine ⟨x, by simp, ?_, ?_⟩
      · rw [nxF_snoc, hf, if_pos (by show (0 : Int) < pr xs x; omega)]
      · intro m hm
        obtain rfl : m = x := by simpa using hm
        exact .inr ⟨rfl, Nat.le_refl _⟩
    · have hnx : n < x := hp2 n hn x (by simp)
      by_cases hlt : pr xs n < pr xs x
      · refine ⟨x, by simp, ?_, ?_⟩
        · rw [nxF_snoc, hf, if_pos hlt]
        · intro m hm'
          rcases List.mem_append.1 hm' with h | h
          · have := hm m h; left; omega
          · obtain rfl : m = x := by simpa using h
            exact .inr ⟨rfl, Nat.le_refl _⟩
      · refine ⟨n, by simp [hn], ?_, ?_⟩
        · rw [nxF_snoc, hf, if_neg hlt]
        · intro m hm'
          rcases List.mem_append.1 hm' with h | h
          · exact hm m h
          · obtain rfl : m = x := by simpa using h
            rcases Int.lt_or_eq_of_le (Int.not_lt.1 hlt) with h | h
            · exact .inl h
            · exact .inr ⟨h, by omega⟩
theorem lbn_rises (b : Nat) : (lbn b).Pairwise (· < ·) := List.Pairwise.filter _ List.pairwise_lt_range
theorem mem_lbn {b n : Nat} : n ∈ lbn b ↔ n < 64 ∧ b.testBit n = true := by
  unfold lbn; rw [List.mem_filter, List.mem_range]
theorem clr_bit {P n : Nat} (hP : P < 18446744073709551616) (hn : n < 64) (i : Nat) : (clr P n).testBit i = (P.testBit i && decide (i ≠ n)) := by
  unfold clr
  rw [Nat.testBit_and]
  cases hp : P.testBit i with
  | false => simp
  | true =>
    have hi := lt_bit hP hp
    rw [bit_comp _ _ (bit_lt hn) hi, Nat.testBit_two_pow]
    simp only [Bool.true_and]
    by_cases h : n = i
    · subst h; simp
    · simp [h, Ne.symm h]
theorem filter_one {l : List Nat} {n : Nat} : l.Pairwise (· < ·) → n ∈ l → (l.filter fun i => decide (i ≠ n)).length + 1 = l.length := by
  induction l with
  | nil => intro _ h; cases h
  | cons x r ih =>
    intro hp hn
    rw [List.pairwise_cons] at hp
    rcases List.mem_cons.1 hn with rfl | hn
    · have hall : r.filter (fun i => decide (i ≠ n)) = r := List.filter_eq_self.2 fun m hm => by have := hp.1 m hm; simp; omega
      rw [List.filter_cons]
      simp only [ne_eq, not_true_eq_false, decide_false, Bool.false_eq_true, if_false, List.length_cons]
      have := congrArg List.length hall
      simp only [ne_eq] at this
      omega
    · have hx : x ≠ n := by have := hp.1 n hn; omega
      rw [List.filter_cons, if_pos (by simpa using hx), List.length_cons, List.length_cons, ih hp.2 hn]
theorem lbn_clr {P n : Nat} (hP : P < 18446744073709551616) (hn : n < 64) : lbn (clr P n) = (lbn P).filter fun i => decide (i ≠ n) := by
  unfold lbn
  rw [List.filter_filter]
  congr 1
  funext i
  rw [clr_bit hP hn, Bool.and_comm]
theorem lbn_clr_len {P n : Nat} (hP : P < 18446744073709551616) (h : n ∈ lbn P) : (lbn (clr P n)).length + 1 = (lbn P).length := by
  rw [lbn_clr hP (mem_lbn.1 h).1]
  exact filter_one (lbn_rises P) h
theorem lbn_nil {P : Nat} (hP : P < 18446744073709551616) (h : lbn P = []) : P = 0 := by
  apply Nat.eq_of_testBit_eq
  intro i
  rw [Nat.zero_testBit]
  cases hp : P.testBit i with
  | false => rfl
  | true =>
    have : i ∈ lbn P := mem_lbn.2 ⟨lt_bit hP hp, hp⟩
    rw [h] at this; cases this
/-- A set of lines of a controller. -/
structure Sub (P : Nat) (xs : List Int) : Prop where of ::
  lt : P < 18446744073709551616
  sub : ∀ i, P.testBit i = true → (mk xs).testBit i = true
theorem Sub.mf {P : Nat} {xs : List Int} (h : Sub P xs) : MF P (mk xs) := mf_of P (mk xs) h.lt (mk_lt xs) h.sub
theorem Sub.len {P : Nat} {xs : List Int} (h : Sub P xs) {n : Nat} (hn : n ∈ lbn P) : n < xs.length := by
  have := h.sub n (mem_lbn.1 hn).2
  rw [mk_bit] at this
  simpa using (Bool.and_eq_true_iff.1 this).2
theorem Sub.next {P : Nat} {xs : List Int} (h : Sub P xs) (hx : xs.any oddP = false) : NextOk P (mk xs) xs := by
  refine ⟨?_, ?_, fun n hn => h.len hn, fun n hn => (odd_range hx n hn).2⟩
  · rw [and_num _ _ h.lt (mk_lt xs)]
    have : P &&& mk xs = P := by
      apply Nat.eq_of_testBit_eq
      intro i
      rw [Nat.testBit_and]
      cases hp : P.testBit i with
      | false => rfl
      | true => rw [h.sub i hp]; rfl
    rw [this]
  · rw [show (0 : Int) = ((0 : Nat) : Int) from rfl, andn_num _ _ h.lt (by omega)]
    have : P &&& (18446744073709551615 - 0) = P := by
      apply Nat.eq_of_testBit_eq
      intro i
      rw [Nat.testBit_and]
      cases hp : P.testBit i with
      | false => rfl
      | true => rw [bit_comp 0 i (by omega) (lt_bit h.lt hp), Nat.zero_testBit]; rfl
    rw [this]
theorem Sub.clr {P : Nat} {xs : List Int} (h : Sub P xs) {n : Nat} (hn : n < 64) : Sub (clr P n) xs :=
  ⟨clr_lt h.lt, fun i hi => h.sub i (by rw [clr_bit h.lt hn] at hi; exact (Bool.and_eq_true_iff.1 hi).1)⟩
theorem Sub.and (L : Nat) (hL : L < 18446744073709551616) (xs : List Int) : Sub (L &&& mk xs) xs :=
  ⟨Nat.lt_of_le_of_lt Nat.and_le_left hL, fun i hi => by rw [Nat.testBit_and] at hi; exact (Bool.and_eq_true_iff.1 hi).2⟩
/-- What is raised behind k lines. -/
def up (R k : Nat) : Nat := ofF ((lb 64 R).take k)
theorem up_zero (R : Nat) : up R 0 = 0 := rfl
theorem take_ok (R k : Nat) : ((lb 64 R).take k).all okB = true := by
  rw [List.all_eq_true]
  intro x hx
  exact List.all_eq_true.1 (lb_ok R) x (List.mem_of_mem_take hx)
theorem up_all {R : Nat} (hR : R < 18446744073709551616) : up R (lb 64 R).length = R := by
  unfold up
  rw [List.take_length]
  exact (of_good (lb_ok R)).1.symm.trans (of_lb hR).1
theorem up_sub {R k : Nat} {xs : List Int} (h : Sub R xs) : Sub (up R k) xs := by
  refine ⟨ofF_lt _ (take_ok R k), fun i hi => h.sub i ?_⟩
  unfold up at hi
  rw [ofF_bit _ (take_ok R k), List.any_eq_true] at hi
  obtain ⟨x, hx, he⟩ := hi
  obtain ⟨j, rfl, _, hj⟩ := lb_mem (List.mem_of_mem_take hx)
  have : j = i := by have := of_decide_eq_true he; omega
  rw [← this]; exact hj
theorem up_step {R k : Nat} {n : Nat} (hx : (lb 64 R)[k]? = some (n : Int)) : up R (k + 1) = up R k ||| 2 ^ n ∧ (up R k).testBit n = false := by
  refine ⟨by unfold up; rw [of_step hx]; simp, ?_⟩
  unfold up
  rw [ofF_bit _ (take_ok R k), List.any_eq_false]
  intro x hxm he
  have hxn : x = (n : Int) := of_decide_eq_true he
  obtain ⟨j, hj⟩ := List.mem_iff_getElem?.1 hxm
  rw [List.getElem?_take] at hj
  split at hj
  · rename_i hjk
    obtain ⟨h1, e1⟩ := List.getElem?_eq_some_iff.1 hj
    obtain ⟨h2, e2⟩ := List.getElem?_eq_some_iff.1 hx
    have := List.pairwise_iff_getElem.1 (lb_rises R) j k h1 h2 hjk
    omega
  · cases hj
theorem lb_at {R k : Nat} {x : Int} (hx : (lb 64 R)[k]? = some x) : ∃ n : Nat, x = n ∧ n < 64 ∧ R.testBit n = true :=
  lb_mem (List.mem_of_getElem? hx)
end Go.Proofs.YtcchmkpodfjhcaaDoor
