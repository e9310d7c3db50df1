/-
  The plain law of HistBelow: of good numbers, not none, at least so many per so many lie at or below the answer, and fewer at or below its half.
-/
import Derived.Test.YtmaehcecilnglaaHQ
import Derived.Test.YtmaehcecilnglaaH10
namespace Go.Proofs.Ytmaehcecilnglaa
set_option linter.unusedVariables false

/-- A number's length is at most j exactly where it is below 2^j. -/
theorem len_lt {m j : Nat} (hm : m < 2 ^ 64) : Lib.bitLen m < j + 1 ↔ m < 2 ^ j := by
  by_cases h0 : m = 0
  · subst h0
    rw [len_zero]
    have := Nat.two_pow_pos j
    omega
  · obtain ⟨k1, k2, k3⟩ := len_bd h0 hm
    constructor
    · intro h
      exact Nat.lt_of_lt_of_le k3 (Nat.pow_le_pow_right (by omega) (by omega))
    · intro h
      rcases Nat.lt_or_ge (Lib.bitLen m) (j + 1) with hl | hl
      · exact hl
      · have := Nat.pow_le_pow_right (n := 2) (by omega) (show j ≤ Lib.bitLen m - 1 by omega)
        omega
theorem bl_le {n : Int} (h : timeB n = true) (j : Nat) : bl n < j + 1 ↔ n ≤ 2 ^ j - 1 := by
  unfold timeB at h
  have h := of_decide_eq_true h
  unfold bl
  rw [len_lt (by omega)]
  have e : (2 : Int) ^ j = ((2 ^ j : Nat) : Int) := by simp
  rw [e]
  omega
theorem psum_cV (l : List Int) : ∀ k, k ≤ 54 → psum (cV l) k = ((l.countP fun n => decide (bl n < k) : Nat) : Int)
  | 0, _ => by simp [psum]
  | k + 1, hk => by
    have hx : (cV l)[k]? = some ((l.countP fun n => bl n == k : Nat) : Int) := by
      have hl : k < (cV l).length := by rw [cV_len]; omega
      rw [List.getElem?_eq_getElem hl, cV_at]
    rw [psum_step hx, psum_cV l k (by omega)]
    clear hx
    induction l with
    | nil => simp
    | cons n r ih =>
      simp only [List.countP_cons]
      by_cases h1 : bl n < k
      · rw [if_pos (by simpa using h1), if_neg (by simp; omega), if_pos (by simp; omega)]; omega
      · by_cases h2 : bl n = k
        · rw [if_neg (by simpa using h1), if_pos (by simpa using h2), if_pos (by simp; omega)]; omega
        · rw [if_neg (by simpa using h1), if_neg (by simpa using h2), if_neg (by simp; omega)]; omega
def cnt (l : List Int) (b : Int) : Nat := l.countP fun n => decide (n ≤ b)
theorem psum_cnt {l : List Int} (h : l.all timeB = true) {k : Nat} (hk : k < 54) : psum (cV l) (k + 1) = (cnt l (2 ^ k - 1) : Int) := by
  rw [psum_cV l (k + 1) (by omega)]
  unfold cnt
  congr 1
  apply List.countP_congr
  intro n hn
  have ht := List.all_eq_true.1 h n hn
  simp only [decide_eq_true_eq]
  exact bl_le ht k
theorem cnt_le (l : List Int) (b : Int) : cnt l b ≤ l.length := List.countP_le_length
/-- The place found. -/
theorem plc_spec {V : List Int} {need : Int} (h : need ≤ psum V 54) : plc V need < 54 ∧ need ≤ psum V (plc V need + 1) ∧ ∀ i, i < plc V need → psum V (i + 1) < need := by
  unfold plc
  cases hf : (List.range 54).find? fun j => decide (need ≤ psum V (j + 1)) with
  | none =>
    have := List.find?_eq_none.1 hf 53 (by simp)
    simp at this
    omega
  | some j =>
    rw [List.find?_range_eq_some] at hf
    obtain ⟨h1, h2, h3⟩ := hf
    refine ⟨by simpa using h2, by simpa using h1, fun i hi => ?_⟩
    have := h3 i hi
    simp at this
    omega
theorem ceil_ge {a p o x : Nat} (ho : 0 < o) (h : ndN a p o ≤ x) : a * p ≤ x * o := by
  unfold ndN at h
  have h1 : (a * p + o - 1) / o < x + 1 := by omega
  rw [Nat.div_lt_iff_lt_mul ho, Nat.add_mul] at h1
  omega
theorem ceil_lt {a p o x : Nat} (ho : 0 < o) (h : x < ndN a p o) : x * o < a * p := by
  unfold ndN at h
  rw [Nat.lt_div_iff_mul_lt ho] at h
  omega
theorem below_law {l : List Int} {p o : Int} (h : l.all timeB = true) (hl : l.length ≤ 4503599627370496) (he : beE (cV l) p o = 0) :
    (∃ k : Nat, k ≤ 53 ∧ beV (cV l) p o = 2 ^ k - 1) ∧ rangeOk p o ∧ (l.length : Int) * p ≤ (cnt l (beV (cV l) p o) : Int) * o ∧
      (beV (cV l) p o = 0 ∨ (cnt l (beV (cV l) p o / 2) : Int) * o < (l.length : Int) * p) ∧ (p < o ∨ cnt l (beV (cV l) p o) = l.length) := by
  have hok := ((sm_all l hZ 0 okZ (by omega)).1 h).2
  rw [addL_hZ (cV_len l)] at hok
  obtain ⟨t1, t2⟩ := hok.tot
  have hr : rangeOk p o := by
    unfold beE at he
    rw [if_neg (by omega)] at he
    unfold rangeOk
    split at he
    · cases he
    · omega
  have hv : beV (cV l) p o = 2 ^ plc (cV l) (ndN (totV (cV l)).toNat p.toNat o.toNat) - 1 := by
    unfold beV; rw [if_neg (by omega)]
  rw [t2] at hv
  simp only [Int.zero_add, Int.toNat_natCast] at hv
  obtain ⟨o1, o2, p1, p2⟩ := id hr
  obtain ⟨P, rfl⟩ : ∃ P : Nat, p = P := ⟨p.toNat, by omega⟩
  obtain ⟨O, rfl⟩ : ∃ O : Nat, o = O := ⟨o.toNat, by omega⟩
  simp only [Int.toNat_natCast] at hv
  have hO : 0 < O := by omega
  have hn := (nd_le (a := l.length) (p := P) (o := O) hO (by omega)).1
  have h54 : psum (cV l) 54 = (l.length : Int) := by
    have := psum_cnt h (k := 53) (by omega)
    rw [this]
    unfold cnt
    have e : l.countP (fun n => decide (n ≤ 2 ^ 53 - 1)) = l.length := by
      rw [List.countP_eq_length]
      intro n hn
      have ht := List.all_eq_true.1 h n hn
      have := (bl_le ht 53).1 (bl_lt ht)
      simpa using this
    rw [e]
  obtain ⟨q1, q2, q3⟩ := plc_spec (V := cV l) (need := ((ndN l.length P O : Nat) : Int)) (by rw [h54]; omega)
  generalize hk : plc (cV l) ((ndN l.length P O : Nat) : Int) = k at hv q1 q2 q3
  rw [psum_cnt h q1] at q2
  rw [hv]
  refine ⟨⟨k, by omega, rfl⟩, hr, ?_, ?_, ?_⟩
  · have := ceil_ge hO (show ndN l.length P O ≤ cnt l (2 ^ k - 1) by omega)
    exact_mod_cast this
  · cases k with
    | zero => left; rfl
    | succ k =>
      right
      have h1 := q3 k (by omega)
      rw [psum_cnt h (by omega)] at h1
      have e : ((2 : Int) ^ (k + 1) - 1) / 2 = 2 ^ k - 1 := by
        have := Nat.two_pow_pos k
        have e1 : (2 : Int) ^ k = ((2 ^ k : Nat) : Int) := by simp
        rw [Int.pow_succ, e1]
        omega
      rw [e]
      have := ceil_lt hO (show cnt l (2 ^ k - 1) < ndN l.length P O by omega)
      exact_mod_cast this
  · rcases Nat.lt_or_ge P O with hlt | hge
    · left; omega
    · right
      have : P = O := by omega
      subst this
      have e : ndN l.length P P = l.length := by
        unfold ndN
        rw [show l.length * P + P - 1 = P - 1 + l.length * P by omega, Nat.add_mul_div_right _ _ hO, Nat.div_eq_of_lt (by omega)]
        omega
      rw [e] at q2
      have := cnt_le l (2 ^ k - 1)
      omega
theorem cnt_step {l : List Int} {k : Nat} {x : Int} (b : Int) (h : l[k]? = some x) : cnt (l.take (k + 1)) b = cnt (l.take k) b + if x ≤ b then 1 else 0 := by
  unfold cnt
  rw [List.take_add_one, h, List.countP_append]
  simp [List.countP_cons]
end Go.Proofs.Ytmaehcecilnglaa
