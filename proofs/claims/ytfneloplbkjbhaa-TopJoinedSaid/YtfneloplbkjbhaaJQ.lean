/-
  Loads in another order; more loads and a greater base: the plain law of TopJoined's search.
-/
import Derived.Test.YtfneloplbkjbhaaSolQ
namespace Go.Proofs.Ytfneloplbkjbhaa
open Go.RowKit
set_option linter.unusedVariables false
def sumI (l : List (Int × Int)) : Int := (l.map fun y => y.1 * y.2).sum
theorem sumI_cons (x : Int × Int) (l : List (Int × Int)) : sumI (x :: l) = x.1 * x.2 + sumI l := by simp [sumI]
theorem sumI_nonneg : ∀ {l : List (Int × Int)}, (∀ x ∈ l, 0 ≤ x.1 ∧ 0 ≤ x.2) → 0 ≤ sumI l
  | [], _ => by simp [sumI]
  | x :: r, h => by
    have h1 := h x (by simp)
    have h2 := sumI_nonneg (l := r) fun y hy => h y (by simp [hy])
    have h3 := Int.mul_nonneg h1.1 h1.2
    rw [sumI_cons]; omega
theorem sumI_perm {l m : List (Int × Int)} (h : l.Perm m) : sumI l = sumI m := by
  induction h with
  | nil => rfl
  | cons x _ ih => rw [sumI_cons, sumI_cons, ih]
  | swap x y r => rw [sumI_cons, sumI_cons, sumI_cons, sumI_cons]; omega
  | trans _ _ a b => rw [a, b]
theorem foldP_sum : ∀ (l : List (Int × Int)) (s : Int), (∀ x ∈ l, 0 ≤ x.1 ∧ 0 ≤ x.2) → 0 ≤ s → s ≤ 4503599627370496 → l.foldl addP (some s) = if s + sumI l ≤ 4503599627370496 then some (s + sumI l) else none
  | [], s, _, h0, h1 => by simp [sumI, h1]
  | x :: r, s, h, h0, h1 => by
    have hx := h x (by simp)
    have hr : ∀ y ∈ r, 0 ≤ y.1 ∧ 0 ≤ y.2 := fun y hy => h y (by simp [hy])
    have hn := sumI_nonneg hr
    rw [List.foldl_cons, addP_some, sumI_cons]
    by_cases hc : 0 < x.2 ∧ (4503599627370496 - s) / x.2 < x.1
    · rw [if_pos hc, foldP_none]
      have := (Int.ediv_lt_iff_lt_mul hc.1).1 hc.2
      rw [if_neg (by omega)]
    · rw [if_neg hc]
      have hb := addP_bd h0 h1 hx.1 hx.2 hc
      rw [foldP_sum r (s + x.1 * x.2) hr (by omega) (by omega), Int.add_assoc]
theorem sumP_eq {l : List (Int × Int)} (h : ∀ x ∈ l, 0 ≤ x.1 ∧ 0 ≤ x.2) : sumP l = if sumI l ≤ 4503599627370496 then some (sumI l) else none := by
  unfold sumP
  rw [foldP_sum l 0 h (by omega) (by omega), Int.zero_add]
theorem all_perm {f : Q4 → Bool} {xs ys : List Q4} (h : xs.Perm ys) : xs.all f = ys.all f := by
  rw [Bool.eq_iff_iff, List.all_eq_true, List.all_eq_true]
  exact ⟨fun g x hx => g x (h.mem_iff.2 hx), fun g x hx => g x (h.mem_iff.1 hx)⟩
theorem lds_perm {xs ys : List Q4} (h : xs.Perm ys) : ldsE xs = ldsE ys := by
  unfold ldsE
  rw [h.length_eq, all_perm h]
theorem al_perm {xs ys : List Q4} (h : xs.Perm ys) (w : Int) : alE xs w = alE ys w ∧ alV xs w = alV ys w := by
  by_cases hl : ldsE xs = 0
  · have hl2 : ldsE ys = 0 := (lds_perm h).symm.trans hl
    have hs : sumP (xs.map (arrOf w)) = sumP (ys.map (arrOf w)) := by
      rw [sumP_eq (arr_nonneg hl w), sumP_eq (arr_nonneg hl2 w), sumI_perm (h.map _)]
    have he : alE xs w = alE ys w := by unfold alE; rw [lds_perm h, hs]
    exact ⟨he, by unfold alV; rw [he, hs]⟩
  · have hl2 : ¬ ldsE ys = 0 := fun e => hl ((lds_perm h).trans e)
    have e1 : alE xs w = 2 := by unfold alE; rw [if_pos hl]
    have e2 : alE ys w = 2 := by unfold alE; rw [if_pos hl2]
    exact ⟨e1.trans e2.symm, by unfold alV; rw [e1, e2, if_pos (by decide), if_pos (by decide)]⟩
theorem ro_perm {xs ys : List Q4} (h : xs.Perm ys) (b w : Int) : roE b xs w = roE b ys w ∧ roV b xs w = roV b ys w := by
  have h1 := al_perm h w
  have he : roE b xs w = roE b ys w := by unfold roE; rw [lds_perm h, h1.1, h1.2]
  exact ⟨he, by unfold roV; rw [he, h1.2]⟩
theorem run_perm {xs ys : List Q4} (h : xs.Perm ys) (b lim : Int) : ∀ (k : Nat) (w : Int) (out : List Int), run b xs lim k w out = run b ys lim k w out
  | 0, _, _ => rfl
  | k + 1, w, out => by
    unfold run
    rw [(ro_perm h b w).1, (ro_perm h b w).2, run_perm h b lim k]
/-- A search is the same whatever the loads' order. -/
theorem st_perm {xs ys : List Q4} (h : xs.Perm ys) (b lim : Int) : stE b xs lim = stE b ys lim ∧ soV b xs lim = soV b ys lim := by
  have h1 : stE b xs lim = stE b ys lim := by unfold stE; rw [lds_perm h, run_perm h]
  have h2 : stL b xs lim = stL b ys lim := by unfold stL; rw [lds_perm h, run_perm h]
  exact ⟨h1, by unfold soV; rw [h1, h2]⟩
/-- With more loads, and a greater base, nothing less is found. -/
theorem so_more {b b' : Int} {l m : List Q4} {lim : Int} (hb : b ≤ b') (h1 : stE b l lim = 0) (h2 : stE b' (l ++ m) lim = 0) : soV b l lim ≤ soV b' (l ++ m) lim := by
  obtain ⟨z, e, a1, a2, a3, a4, a5, a6, a7⟩ := so_least h1
  obtain ⟨y, e', c1, c2, c3, c4, c5, c6, c7⟩ := so_least h2
  rw [e, e']
  by_cases hlt : y < z
  · have h3 := a7 y (by omega) hlt
    have p1 := ro_parts c1
    have p2 := ro_parts h3.1
    have p3 := al_app p2.1 p1.1 c5 c6 p1.2.2.2.2.2.1
    omega
  · omega
end Go.Proofs.Ytfneloplbkjbhaa
