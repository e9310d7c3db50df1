/-
  The plain laws of arrivals: what the search of curve.Fits finds is the first arrival that is too near to one before it.
-/
import Derived.Test.YtfneloplbkjbhaaDoorCur4
namespace Go.Proofs.YtfneloplbkjbhaaDoor
open Go.RowKit
set_option linter.unusedVariables false

/-- What the search knows of the first k arrivals. -/
structure FInv (p j a : Int) (x : Nat → Int) (k : Nat) (la : Int) : Prop where
  top : 0 < k → ∃ i, i < k ∧ la = x i - i * p
  all : ∀ i, i < k → x i - i * p ≤ la
  near : ∀ i, i + 1 < k → a ≤ x (i + 1) - x i

theorem far {a : Int} {x : Nat → Int} {k : Nat} (h : ∀ i, i + 1 < k + 1 → a ≤ x (i + 1) - x i) : ∀ (d i : Nat), i + d = k → (d : Int) * a ≤ x k - x i
  | 0, i, e => by obtain rfl : i = k := by omega
                  simp
  | d + 1, i, e => by
    have h1 := far h d (i + 1) (by omega)
    have h2 := h i (by omega)
    have e3 : ((d + 1 : Nat) : Int) * a = d * a + a := by rw [Int.natCast_add, Int.add_mul]; simp
    omega

theorem gap_ge (p j a : Int) (n : Int) : (n - 1) * p - j ≤ gapV p j a n ∧ (n - 1) * a ≤ gapV p j a n := by unfold gapV; omega
theorem gap_lt {p j a n d : Int} (h1 : (n - 1) * p - j ≤ d) (h2 : (n - 1) * a ≤ d) : ¬ d < gapV p j a n := by unfold gapV; omega

theorem badAt_of {p j a : Int} {xs : List Int} {k : Nat} {la : Int} (hI : FInv p j a (fun i => xs[i]?.getD 0) k la) (hk : 0 < k)
    (h : xs[k]?.getD 0 - k * p < la - j ∨ xs[k]?.getD 0 - xs[k-1]?.getD 0 < a) : badAt p j a xs k := by
  rcases h with h | h
  · obtain ⟨i, hi, rfl⟩ := hI.top hk
    refine ⟨i, hi, ?_⟩
    have := (gap_ge p j a ((k : Int) - i + 1)).1
    have e : ((k : Int) - i + 1 - 1) * p = k * p - i * p := by rw [show (k : Int) - i + 1 - 1 = k - i by omega, Int.sub_mul]
    try simp only at h
    omega
  · refine ⟨k - 1, by omega, ?_⟩
    have := (gap_ge p j a ((k : Int) - ((k - 1 : Nat) : Int) + 1)).2
    have e : ((k : Int) - ((k - 1 : Nat) : Int) + 1 - 1) * a = a := by rw [show (k : Int) - ((k - 1 : Nat) : Int) + 1 - 1 = 1 by omega, Int.one_mul]
    omega

theorem not_bad_of {p j a : Int} {xs : List Int} {k : Nat} {la : Int} (hI : FInv p j a (fun i => xs[i]?.getD 0) k la)
    (h : ¬ (0 < k ∧ (xs[k]?.getD 0 - k * p < la - j ∨ xs[k]?.getD 0 - xs[k-1]?.getD 0 < a))) : ¬ badAt p j a xs k := by
  rintro ⟨i, hi, hb⟩
  have h1 : la - j ≤ xs[k]?.getD 0 - k * p := by omega
  have h2 : a ≤ xs[k]?.getD 0 - xs[k-1]?.getD 0 := by omega
  refine gap_lt ?_ ?_ hb
  · have := hI.all i hi
    try simp only at this
    rw [show (k : Int) - i + 1 - 1 = k - i by omega, Int.sub_mul]
    omega
  · have := far (a := a) (x := fun i => xs[i]?.getD 0) (k := k) (fun i hi => by
      by_cases e : i + 1 = k
      · subst e; simpa using h2
      · exact hI.near i (by omega)) (k - i) i (by omega)
    rw [show (k : Int) - i + 1 - 1 = ((k - i : Nat) : Int) by omega]
    exact this

theorem FInv.step {p j a : Int} {xs : List Int} {k : Nat} {la : Int} (hI : FInv p j a (fun i => xs[i]?.getD 0) k la)
    (h : ¬ (0 < k ∧ (xs[k]?.getD 0 - k * p < la - j ∨ xs[k]?.getD 0 - xs[k-1]?.getD 0 < a))) :
    FInv p j a (fun i => xs[i]?.getD 0) (k + 1) (if k = 0 ∨ la < xs[k]?.getD 0 - k * p then xs[k]?.getD 0 - k * p else la) := by
  refine ⟨fun _ => ?_, fun i hi => ?_, fun i hi => ?_⟩
  · split
    · exact ⟨k, by omega, rfl⟩
    · obtain ⟨i, hi, e⟩ := hI.top (by omega)
      exact ⟨i, by omega, e⟩
  · by_cases e : i = k
    · subst e; try simp only
      split <;> omega
    · have := hI.all i (by omega)
      try simp only at this ⊢
      split <;> omega
  · by_cases e : i + 1 = k
    · subst e
      simp only [Nat.add_sub_cancel] at h ⊢
      omega
    · exact hI.near i (by omega)

theorem fitsL_found {p j a : Int} {xs : List Int} : ∀ (n k : Nat) (la : Int), k + n = xs.length → FInv p j a (fun i => xs[i]?.getD 0) k la → (∀ m, m < k → ¬ badAt p j a xs m) →
    let f := fitsL p j a k la (xs[k-1]?.getD 0) (xs.drop k); f ≤ xs.length ∧ (∀ m, m < f → ¬ badAt p j a xs m) ∧ (f < xs.length → badAt p j a xs f)
  | 0, k, la, hn, hI, hb => by
    rw [List.drop_eq_nil_of_le (by omega)]
    simp only [fitsL]
    exact ⟨by omega, hb, fun h => by omega⟩
  | n + 1, k, la, hn, hI, hb => by
    rw [drop_cons (by omega)]
    simp only [fitsL]
    by_cases h : 0 < k ∧ (xs[k]?.getD 0 - k * p < la - j ∨ xs[k]?.getD 0 - xs[k-1]?.getD 0 < a)
    · rw [if_pos h]
      exact ⟨by omega, hb, fun _ => badAt_of hI h.1 h.2⟩
    · rw [if_neg h]
      have := fitsL_found n (k + 1) _ (by omega) (hI.step h) (fun m hm => by
        by_cases e : m = k
        · subst e; exact not_bad_of hI h
        · exact hb m (by omega))
      exact this

theorem fits_found (p j a : Int) (xs : List Int) : fitsL p j a 0 0 0 xs ≤ xs.length ∧ (∀ m, m < fitsL p j a 0 0 0 xs → ¬ badAt p j a xs m) ∧ (fitsL p j a 0 0 0 xs < xs.length → badAt p j a xs (fitsL p j a 0 0 0 xs)) := by
  have := fitsL_found (p := p) (j := j) (a := a) (xs := xs) xs.length 0 0 (by omega) ⟨fun h => by omega, fun i hi => by omega, fun i hi => by omega⟩ (fun m hm => by omega)
  have e : fitsL p j a 0 0 (xs[0-1]?.getD 0) (xs.drop 0) = fitsL p j a 0 0 0 xs := by
    rw [List.drop_zero]
    cases xs <;> simp [fitsL]
  rw [e] at this
  exact this

theorem first_one {n f k : Nat} {B : Nat → Prop} (hf : f ≤ n) (f1 : ∀ m, m < f → ¬ B m) (f2 : f < n → B f) (hk : k ≤ n) (k1 : ∀ m, m < k → ¬ B m) (k2 : k < n → B k) : f = k := by
  rcases Nat.lt_trichotomy f k with h | h | h
  · exact absurd (f2 (by omega)) (k1 f h)
  · exact h
  · exact absurd (k2 (by omega)) (f1 k h)

/-- The reference finds what the search finds. -/
theorem FitRes.value {w w' : World} {p j a : Int} {xs : List Int} {e : Ending} (h : FitRes w p j a xs e w') : e = .returned (.tuple #[.int .i64 (fiV p j a xs), .int .i64 (fiE p j a xs)]) ∧ Below w.heap.size w w' := by
  obtain ⟨hb, r, E, rfl, rfl, h0, h1⟩ := h
  refine ⟨?_, hb⟩
  by_cases hE : fiE p j a xs = 0
  · obtain ⟨k, rfl, hk, k1, k2⟩ := h1 hE
    obtain ⟨f0, f1, f2⟩ := fits_found p j a xs
    rw [show fiV p j a xs = (k : Int) by unfold fiV; rw [if_neg (by omega), first_one f0 f1 f2 hk k1 k2]]
  · rw [h0 hE, show fiV p j a xs = 0 by unfold fiV; rw [if_pos hE]]

end Go.Proofs.YtfneloplbkjbhaaDoor
