/-
  What the demand of loads is, in plain words; its bounds.
-/
import Derived.Test.YtfneloplbkjbhaaDem
namespace Go.Proofs.Ytfneloplbkjbhaa
open Go.RowKit
set_option linter.unusedVariables false

theorem ldB_parts {x : Q4} (h : ldB x = true) : 1 ≤ x.a ∧ x.a ≤ 1099511627776 ∧ 0 ≤ x.b ∧ x.b ≤ 1099511627776 ∧ 1 ≤ x.c ∧ x.c ≤ x.a ∧ 0 ≤ x.d ∧ x.d ≤ 1099511627776 ∧ curE x.a x.b x.c = 0 := by
  unfold ldB at h
  simp only [decide_eq_true_eq] at h
  obtain ⟨h1, h2, h3⟩ := h
  have := h1
  unfold curE at this
  split at this <;> omega
theorem lds_parts {xs : List Q4} (h : ldsE xs = 0) : xs.length ≤ 256 ∧ ∀ (k : Nat) (x : Q4), xs[k]? = some x → ldB x = true := by
  unfold ldsE at h
  have h1 : ¬ (256 < xs.length ∨ xs.all ldB = false) := fun hh => by rw [if_pos hh] at h; omega
  refine ⟨by omega, fun k x hx => ?_⟩
  have h2 : xs.all ldB = true := by
    cases e : xs.all ldB
    · exact absurd (.inr e) h1
    · rfl
  exact List.all_eq_true.1 h2 x (List.mem_of_getElem? hx)

def addP : Option Int → Int × Int → Option Int
  | none, _ => none
  | some s, x => if 0 < x.2 ∧ (4503599627370496 - s) / x.2 < x.1 then none else some (s + x.1 * x.2)
theorem addP_some (s : Int) (x : Int × Int) : addP (some s) x = if 0 < x.2 ∧ (4503599627370496 - s) / x.2 < x.1 then none else some (s + x.1 * x.2) := rfl
def sumP (l : List (Int × Int)) : Option Int := l.foldl addP (some 0)
theorem sumP_snoc (l : List (Int × Int)) (x : Int × Int) : sumP (l ++ [x]) = addP (sumP l) x := by simp [sumP]
theorem foldP_none : ∀ l : List (Int × Int), l.foldl addP none = none
  | [] => rfl
  | x :: r => by rw [List.foldl_cons]; exact foldP_none r
theorem sumP_none {p l : List (Int × Int)} (h : p <+: l) (hn : sumP p = none) : sumP l = none := by
  obtain ⟨r, rfl⟩ := h
  unfold sumP at *
  rw [List.foldl_append, hn, foldP_none]
theorem addP_bd {s n c : Int} (s0 : 0 ≤ s) (s1 : s ≤ 4503599627370496) (n0 : 0 ≤ n) (c0 : 0 ≤ c) (h : ¬ (0 < c ∧ (4503599627370496 - s) / c < n)) : 0 ≤ n * c ∧ n * c ≤ 4503599627370496 - s := by
  refine ⟨Int.mul_nonneg n0 c0, ?_⟩
  by_cases hc : c = 0
  · subst hc; omega
  · exact mul_le_of_le_ediv (by omega) (by omega)
theorem foldP_bd : ∀ (l : List (Int × Int)) (s t : Int), (∀ x ∈ l, 0 ≤ x.1 ∧ 0 ≤ x.2) → 0 ≤ s → s ≤ 4503599627370496 → l.foldl addP (some s) = some t → 0 ≤ t ∧ t ≤ 4503599627370496
  | [], s, t, _, h0, h1, h => by simp only [List.foldl_nil, Option.some.injEq] at h; omega
  | x :: r, s, t, hl, h0, h1, h => by
    rw [List.foldl_cons, addP_some] at h
    by_cases hc : 0 < x.2 ∧ (4503599627370496 - s) / x.2 < x.1
    · rw [if_pos hc, foldP_none] at h; cases h
    · rw [if_neg hc] at h
      obtain ⟨b1, b2⟩ := addP_bd h0 h1 (hl x (by simp)).1 (hl x (by simp)).2 hc
      exact foldP_bd r (s + x.1 * x.2) t (fun y hy => hl y (by simp [hy])) (by omega) (by omega) h
theorem sumP_bd {l : List (Int × Int)} {t : Int} (hl : ∀ x ∈ l, 0 ≤ x.1 ∧ 0 ≤ x.2) (h : sumP l = some t) : 0 ≤ t ∧ t ≤ 4503599627370496 := foldP_bd l 0 t hl (by omega) (by omega) h

/-- How many of a load may arrive, and its cost. -/
def arrOf (wd : Int) (x : Q4) : Int × Int := (moV x.a x.b x.c wd, x.d)
theorem moV_bd {x : Q4} (h : ldB x = true) (wd : Int) : 0 ≤ moV x.a x.b x.c wd ∧ moV x.a x.b x.c wd ≤ 4503599627370496 := by
  obtain ⟨h1, h2, h3, h4, h5, h6, h7, h8, h9⟩ := ldB_parts h
  unfold moV
  split
  · omega
  · split
    · have g1 := up_le wd x.c (by omega) (by omega)
      have g2 := up_le (wd + x.b) x.a (by omega) (by omega)
      unfold upD
      omega
    · omega
theorem arr_nonneg {xs : List Q4} (h : ldsE xs = 0) (wd : Int) : ∀ y ∈ xs.map (arrOf wd), 0 ≤ y.1 ∧ 0 ≤ y.2 := by
  intro y hy
  obtain ⟨x, hx, rfl⟩ := List.mem_map.1 hy
  obtain ⟨k, hk⟩ := List.getElem?_of_mem hx
  have hb := (lds_parts h).2 k x hk
  have := ldB_parts hb
  exact ⟨(moV_bd hb wd).1, this.2.2.2.2.2.2.1⟩

def alE (xs : List Q4) (wd : Int) : Int := if ldsE xs ≠ 0 then 2 else if ¬ (0 ≤ wd ∧ wd ≤ 4503599627370496) then 1 else if (sumP (xs.map (arrOf wd))).isNone = true then 10 else 0
def alV (xs : List Q4) (wd : Int) : Int := if alE xs wd ≠ 0 then 0 else (sumP (xs.map (arrOf wd))).getD 0
theorem al_over {xs : List Q4} {wd : Int} (h : ldsE xs = 0) (h0 : 0 ≤ wd) (h1 : wd ≤ 4503599627370496) (hs : sumP (xs.map (arrOf wd)) = none) : alE xs wd = 10 ∧ alV xs wd = 0 := by
  have : alE xs wd = 10 := by unfold alE; rw [if_neg (by omega), if_neg (by omega), hs]; rfl
  exact ⟨this, by unfold alV; rw [if_pos (by omega)]⟩
theorem al_sum {xs : List Q4} {wd s : Int} (h : ldsE xs = 0) (h0 : 0 ≤ wd) (h1 : wd ≤ 4503599627370496) (hs : sumP (xs.map (arrOf wd)) = some s) : alE xs wd = 0 ∧ alV xs wd = s := by
  have : alE xs wd = 0 := by unfold alE; rw [if_neg (by omega), if_neg (by omega), hs]; rfl
  exact ⟨this, by unfold alV; rw [if_neg (by omega), hs]; rfl⟩

def addU : Option Int → Q4 → Option Int
  | none, _ => none
  | some s, x => if 4503599627370496 < s + upD (x.d * 1000000) x.a then none else some (s + upD (x.d * 1000000) x.a)
theorem addU_some (s : Int) (x : Q4) : addU (some s) x = if 4503599627370496 < s + upD (x.d * 1000000) x.a then none else some (s + upD (x.d * 1000000) x.a) := rfl
def sumU (l : List Q4) : Option Int := l.foldl addU (some 0)
theorem sumU_snoc (l : List Q4) (x : Q4) : sumU (l ++ [x]) = addU (sumU l) x := by simp [sumU]
theorem foldU_none : ∀ l : List Q4, l.foldl addU none = none
  | [] => rfl
  | x :: r => by rw [List.foldl_cons]; exact foldU_none r
theorem sumU_none {xs : List Q4} {k : Nat} (hn : sumU (xs.take k) = none) : sumU xs = none := by
  rw [← List.take_append_drop k xs]
  unfold sumU at *
  rw [List.foldl_append, hn, foldU_none]
def usE (xs : List Q4) : Int := if ldsE xs ≠ 0 then 2 else if (sumU xs).isNone = true then 10 else 0
def usV (xs : List Q4) : Int := if usE xs ≠ 0 then 0 else (sumU xs).getD 0
theorem us_over {xs : List Q4} (h : ldsE xs = 0) (hs : sumU xs = none) : usE xs = 10 ∧ usV xs = 0 := by
  have : usE xs = 10 := by unfold usE; rw [if_neg (by omega), hs]; rfl
  exact ⟨this, by unfold usV; rw [if_pos (by omega)]⟩
theorem us_sum {xs : List Q4} {s : Int} (h : ldsE xs = 0) (hs : sumU xs = some s) : usE xs = 0 ∧ usV xs = s := by
  have : usE xs = 0 := by unfold usE; rw [if_neg (by omega), hs]; rfl
  exact ⟨this, by unfold usV; rw [if_neg (by omega), hs]; rfl⟩
theorem takeR_snoc {xs : List Q4} {k : Nat} {x : Q4} (h : xs[k]? = some x) : xs.take (k + 1) = xs.take k ++ [x] := by
  rw [List.take_add_one, h]; rfl
theorem takeM_snoc {xs : List Q4} {k : Nat} {x : Q4} (wd : Int) (h : xs[k]? = some x) : (xs.map (arrOf wd)).take (k + 1) = (xs.map (arrOf wd)).take k ++ [arrOf wd x] := by
  rw [List.take_add_one, List.getElem?_map, h]; rfl
end Go.Proofs.Ytfneloplbkjbhaa
