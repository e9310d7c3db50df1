/-
  The plain laws of curves: how many may arrive, and how far so many are apart, are one another's inverse; dense arrivals fit; stretches together.
-/
import Derived.Test.YtfneloplbkjbhaaDoorCurP
namespace Go.Proofs.YtfneloplbkjbhaaDoor
open Go.RowKit
set_option linter.unusedVariables false

theorem up_lt_iff {x q m : Int} (hq : 1 ≤ q) : upD x q < m ↔ x ≤ (m - 1) * q := by
  unfold upD
  rw [Int.ediv_lt_iff_lt_mul (by omega), Int.sub_mul]
  omega
theorem up_mono {x y q : Int} (hq : 1 ≤ q) (h : x ≤ y) : upD x q ≤ upD y q := Int.ediv_le_ediv (by omega) (by omega)
theorem up_nonneg {x q : Int} (hq : 1 ≤ q) (h : 0 ≤ x) : 0 ≤ upD x q := Int.ediv_nonneg (by omega) (by omega)
theorem up_ge {x q : Int} (hq : 1 ≤ q) : x ≤ upD x q * q := by
  have := (up_lt_iff (x := x) (m := upD x q + 1) hq).1 (by omega)
  rwa [Int.add_sub_cancel] at this
theorem up_le_of {x q m : Int} (hq : 1 ≤ q) (h : x ≤ m * q) : upD x q ≤ m := by
  have := (up_lt_iff (x := x) (m := m + 1) hq).2 (by rwa [Int.add_sub_cancel])
  omega
theorem up_add {x y q : Int} (hq : 1 ≤ q) : upD (x + y) q ≤ upD x q + upD y q := up_le_of hq (by
  have h1 := up_ge (x := x) hq
  have h2 := up_ge (x := y) hq
  rw [Int.add_mul]; omega)
theorem up_anti {x q r : Int} (hq : 1 ≤ q) (h : q ≤ r) (hx : 0 ≤ x) : upD x r ≤ upD x q := up_le_of (by omega) (by
  have h1 := up_ge (x := x) hq
  have h2 : upD x q * q ≤ upD x q * r := Int.mul_le_mul_of_nonneg_left h (up_nonneg hq hx)
  omega)

theorem most_lt_iff {p j a d m : Int} (hc : curE p j a = 0) (hp : 1 ≤ p) (ha : 1 ≤ a) (h0 : 0 ≤ d) (h1 : d < 4503599627370496) : moV p j a (d + 1) < m ↔ d < gapV p j a m := by
  have e : moV p j a (d + 1) = min (upD (d + 1 + j) p) (upD (d + 1) a) := by unfold moV; rw [if_neg (by omega), if_pos (by omega)]
  have e1 := up_lt_iff (x := d + 1 + j) (m := m) hp
  have e2 := up_lt_iff (x := d + 1) (m := m) ha
  rw [e]
  unfold gapV
  omega

theorem gap_mono {p j a n m : Int} (hp : 0 ≤ p) (ha : 0 ≤ a) (h : n ≤ m) : gapV p j a n ≤ gapV p j a m := by
  have h1 : (n - 1) * p ≤ (m - 1) * p := Int.mul_le_mul_of_nonneg_right (by omega) hp
  have h2 : (n - 1) * a ≤ (m - 1) * a := Int.mul_le_mul_of_nonneg_right (by omega) ha
  unfold gapV; omega
theorem gap_one {p j a : Int} (hj : 0 ≤ j) : gapV p j a 1 = 0 := by unfold gapV; simp; omega

/-- Dense arrivals are never too near. -/
theorem gap_apart {p j a : Int} {k i : Nat} (hj : 0 ≤ j) (ha : 1 ≤ a) (hap : a ≤ p) (h : i ≤ k) : gapV p j a ((k : Int) - i + 1) ≤ gapV p j a ((k : Int) + 1) - gapV p j a ((i : Int) + 1) := by
  have e1 : ((k : Int) - i + 1 - 1) * p = k * p - i * p := by rw [show (k : Int) - i + 1 - 1 = k - i by omega, Int.sub_mul]
  have e2 : ((k : Int) - i + 1 - 1) * a = k * a - i * a := by rw [show (k : Int) - i + 1 - 1 = k - i by omega, Int.sub_mul]
  have e3 : ((k : Int) + 1 - 1) * p = k * p := by rw [Int.add_sub_cancel]
  have e4 : ((k : Int) + 1 - 1) * a = k * a := by rw [Int.add_sub_cancel]
  have e5 : ((i : Int) + 1 - 1) * p = i * p := by rw [Int.add_sub_cancel]
  have e6 : ((i : Int) + 1 - 1) * a = i * a := by rw [Int.add_sub_cancel]
  have g1 : ((k : Int) - i) * a ≤ ((k : Int) - i) * p := Int.mul_le_mul_of_nonneg_left hap (by omega)
  have g2 : (i : Int) * a ≤ (i : Int) * p := Int.mul_le_mul_of_nonneg_left hap (by omega)
  rw [Int.sub_mul, Int.sub_mul] at g1
  unfold gapV
  rw [e1, e2, e3, e4, e5, e6]
  omega

theorem dens_at {p j a : Int} {n i : Nat} (h : i < n) : (dens p j a n)[i]?.getD 0 = gapV p j a ((i : Int) + 1) := by simp [dens, h]

theorem srt_of : ∀ (xs : List Int) (b : Int), (∀ i, i < xs.length → b ≤ xs[i]?.getD 0 ∧ 0 ≤ xs[i]?.getD 0 ∧ xs[i]?.getD 0 ≤ 4503599627370496) → (∀ i, i + 1 < xs.length → xs[i]?.getD 0 ≤ xs[i+1]?.getD 0) → srt b xs = true
  | [], b, _, _ => rfl
  | x :: r, b, h1, h2 => by
    have h0 := h1 0 (by simp)
    simp only [List.getElem?_cons_zero, Option.getD_some] at h0
    simp only [srt, Bool.and_eq_true, decide_eq_true_eq, timeB]
    have mono : ∀ i, i < r.length → x ≤ r[i]?.getD 0 := by
      intro i hi
      induction i with
      | zero =>
        have := h2 0 (by simp; omega)
        simpa using this
      | succ i ih =>
        have := h2 (i + 1) (by simp; omega)
        simp only [List.getElem?_cons_succ] at this
        have := ih (by omega)
        omega
    refine ⟨⟨h0.1, h0.2⟩, srt_of r x (fun i hi => ?_) (fun i hi => ?_)⟩
    · have := h1 (i + 1) (by simp; omega)
      simp only [List.getElem?_cons_succ] at this
      exact ⟨mono i hi, this.2⟩
    · have := h2 (i + 1) (by simp; omega)
      simpa using this

theorem dens_fits {p j a : Int} {n : Nat} (hc : curE p j a = 0) (hj : 0 ≤ j) (ha : 1 ≤ a) (hap : a ≤ p) (hn : n ≤ 1048576) (hg : n = 0 ∨ gapV p j a n ≤ 4503599627370496) :
    fiE p j a (dens p j a n) = 0 ∧ fiV p j a (dens p j a n) = n := by
  have hl := dens_length p j a n
  have hs : srt 0 (dens p j a n) = true := by
    apply srt_of
    · intro i hi
      rw [hl] at hi
      rw [dens_at hi]
      have h1 := gap_mono (p := p) (j := j) (a := a) (n := 1) (m := (i : Int) + 1) (by omega) (by omega) (by omega)
      have h2 := gap_mono (p := p) (j := j) (a := a) (n := (i : Int) + 1) (m := n) (by omega) (by omega) (by omega)
      rw [gap_one hj] at h1
      omega
    · intro i hi
      rw [hl] at hi
      rw [dens_at (by omega), dens_at hi]
      exact gap_mono (by omega) (by omega) (by omega)
  have hE : fiE p j a (dens p j a n) = 0 := by unfold fiE; simp [hc, hs, hl]; omega
  refine ⟨hE, ?_⟩
  obtain ⟨f0, f1, f2⟩ := fits_found p j a (dens p j a n)
  have := first_one f0 f1 f2 (k := n) (by omega) (fun m hm => by
    rintro ⟨i, hi, hb⟩
    rw [dens_at (by omega), dens_at (by omega)] at hb
    have := gap_apart (p := p) (j := j) (a := a) (k := m) (i := i) hj ha hap (by omega)
    omega) (fun h => by omega)
  unfold fiV
  rw [if_neg (by omega), this]

/-- How many are below a length. -/
def belowN (w : Int) (l : List Int) : Int := (l.filter fun t => decide (t < w)).length
theorem belowN_nil (w : Int) : belowN w [] = 0 := rfl
theorem belowN_snoc (w : Int) (l : List Int) (t : Int) : belowN w (l ++ [t]) = belowN w l + if t < w then 1 else 0 := by
  unfold belowN
  rw [List.filter_append]
  by_cases h : t < w <;> simp [h]
theorem dens_below {p j a x : Int} (hc : curE p j a = 0) (hp : 1 ≤ p) (ha : 1 ≤ a) (hj : 0 ≤ j) (h0 : 0 ≤ x) (h1 : x ≤ 4503599627370496) : ∀ n : Nat, belowN x (dens p j a n) = min (moV p j a x) n
  | 0 => by
    have : 0 ≤ moV p j a x := by unfold moV; split; omega; split; have := up_nonneg (x := x + j) hp (by omega); have := up_nonneg (x := x) ha h0; omega; omega
    simp [dens, belowN_nil]; omega
  | n + 1 => by
    rw [dens_succ, belowN_snoc, dens_below hc hp ha hj h0 h1 n]
    have hge : 0 ≤ gapV p j a ((n : Int) + 1) := by
      have h1 := gap_mono (p := p) (j := j) (a := a) (n := 1) (m := (n : Int) + 1) (by omega) (by omega) (by omega)
      rw [gap_one hj] at h1; exact h1
    by_cases hx : x = 0
    · subst hx
      have : moV p j a 0 = 0 := by unfold moV; rw [if_neg (by omega), if_neg (by omega)]
      rw [this, if_neg (by omega)]; omega
    · have := most_lt_iff (p := p) (j := j) (a := a) (d := x - 1) (m := (n : Int) + 1) hc hp ha (by omega) (by omega)
      rw [Int.sub_add_cancel] at this
      split <;> omega

theorem most_more {p j a x y : Int} (hc : curE p j a = 0) (hp : 1 ≤ p) (ha : 1 ≤ a) (hap : a ≤ p) (hj : 0 ≤ j) (x0 : 0 ≤ x) (x1 : x ≤ 2251799813685248) (y0 : 0 ≤ y) (y1 : y ≤ 2251799813685248) :
    moV p j a x ≤ moV p j a (x + y) ∧ moV p j a y ≤ moV p j a (x + y) ∧ moV p j a (x + y) ≤ moV p j a x + moV p j a y := by
  by_cases hx : x = 0
  · subst hx
    have : moV p j a 0 = 0 := by unfold moV; rw [if_neg (by omega), if_neg (by omega)]
    rw [this, Int.zero_add]
    have : 0 ≤ moV p j a y := by unfold moV; split; omega; split; have := up_nonneg (x := y + j) hp (by omega); have := up_nonneg (x := y) ha y0; omega; omega
    omega
  by_cases hy : y = 0
  · subst hy
    have : moV p j a 0 = 0 := by unfold moV; rw [if_neg (by omega), if_neg (by omega)]
    rw [this, Int.add_zero]
    have : 0 ≤ moV p j a x := by unfold moV; split; omega; split; have := up_nonneg (x := x + j) hp (by omega); have := up_nonneg (x := x) ha x0; omega; omega
    omega
  have e : ∀ z, 1 ≤ z → z ≤ 4503599627370496 → moV p j a z = min (upD (z + j) p) (upD z a) := fun z z0 z1 => by unfold moV; rw [if_neg (by omega), if_pos (by omega)]
  rw [e x (by omega) (by omega), e y (by omega) (by omega), e (x + y) (by omega) (by omega)]
  have m1 := up_mono (x := x + j) (y := x + y + j) hp (by omega)
  have m2 := up_mono (x := y + j) (y := x + y + j) hp (by omega)
  have m3 := up_mono (x := x) (y := x + y) ha (by omega)
  have m4 := up_mono (x := y) (y := x + y) ha (by omega)
  have s1 := up_add (x := x) (y := y) ha
  have s2 := up_add (x := x + j) (y := y) hp
  have s3 := up_add (x := x) (y := y + j) hp
  have s4 := up_mono (x := y) (y := y + j) hp (by omega)
  have a1 := up_anti (x := x) ha hap x0
  have a2 := up_anti (x := y) ha hap y0
  rw [show x + j + y = x + y + j by omega] at s2
  rw [show x + (y + j) = x + y + j by omega] at s3
  omega
end Go.Proofs.YtfneloplbkjbhaaDoor
