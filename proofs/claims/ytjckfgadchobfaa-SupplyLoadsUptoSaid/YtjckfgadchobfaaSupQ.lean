/-
  The plain law of supply.Loads: what the loads ask for is at least what is told of each thread and line.
-/
import Derived.Test.YtjckfgadchobfaaLod6
namespace Go.Proofs.Ytjckfgadchobfaa
open Go.RowKit
set_option linter.unusedVariables false

theorem lnS_some : ∀ (ls l L : List Q4), lnS l ls = some L → L = l ++ ls.map lnL
  | [], l, L, h => by simp [lnS] at h; simp [h]
  | x :: r, l, L, h => by
    unfold lnS at h
    rw [List.foldl_cons] at h
    by_cases hx : 1099511627776 < x.c * x.b
    · have : addL (some l) x = none := by simp [addL, hx]
      rw [this, foldL_none] at h; cases h
    · have e : addL (some l) x = some (l ++ [lnL x]) := by simp [addL, hx]
      rw [e] at h
      have := lnS_some r (l ++ [lnL x]) L h
      rw [this]; simp
theorem lo_form {ts ls : List Q4} {pr : Int} (h : loE ts ls pr = 0) : oddB ts ls = false ∧ loL ts ls pr = thS pr ts ++ ls.map lnL := by
  unfold loE at h
  unfold loL
  by_cases ho : oddB ts ls = true
  · rw [if_pos ho] at h; omega
  · rw [if_neg ho] at h ⊢
    refine ⟨by simpa using ho, ?_⟩
    cases hL : lnS (thS pr ts) ls with
    | none => rw [hL] at h; simp at h
    | some L => rw [lnS_some _ _ _ hL]; rfl
theorem sup_step {L p : List Q4} {y : Q4} {w n v : Int} (hE : ldsE L = 0) (hs : sumP (L.map (arrOf w)) = some n) (hp : (p ++ [y]) <+: L) (hv : sumP (p.map (arrOf w)) = some v) :
    sumP ((p ++ [y]).map (arrOf w)) = some (v + moV y.a y.b y.c w * y.d) ∧ 0 ≤ v ∧ v + moV y.a y.b y.c w * y.d ≤ 4503599627370496 ∧ ¬ (0 < y.d ∧ (4503599627370496 - v) / y.d < moV y.a y.b y.c w) := by
  have hy : ldB y = true := by
    obtain ⟨q, hq⟩ := hp
    have : y ∈ L := by rw [← hq]; simp
    obtain ⟨k, hk⟩ := List.getElem?_of_mem this
    exact (lds_parts hE).2 k y hk
  have hnn : ∀ z ∈ p.map (arrOf w), 0 ≤ z.1 ∧ 0 ≤ z.2 := by
    obtain ⟨q, hq⟩ := hp
    intro z hz
    refine arr_nonneg hE w z ?_
    rw [← hq, List.map_append, List.map_append]
    exact List.mem_append_left _ (List.mem_append_left _ hz)
  have hb := sumP_bd hnn hv
  have e : sumP ((p ++ [y]).map (arrOf w)) = addP (some v) (arrOf w y) := by rw [List.map_append, List.map_cons, List.map_nil, sumP_snoc, hv]
  rw [addP_some] at e
  have hnm := (moV_bd hy w).1
  have hd := (ldB_parts hy).2.2.2.2.2.2.1
  by_cases hc : 0 < (arrOf w y).2 ∧ (4503599627370496 - v) / (arrOf w y).2 < (arrOf w y).1
  · rw [if_pos hc] at e
    have := sumP_none (List.IsPrefix.map (arrOf w) hp) e
    rw [hs] at this; cases this
  · rw [if_neg hc] at e
    have := addP_bd hb.1 hb.2 hnm hd hc
    exact ⟨e, hb.1, by omega, hc⟩
theorem mo_up {c w : Int} (c1 : 1 ≤ c) (c2 : c ≤ 1099511627776) (w0 : 0 ≤ w) (w1 : w ≤ 4503599627370496) : moV c 0 c w = (w + c - 1) / c := by
  have hcu : curE c 0 c = 0 := by unfold curE; rw [if_pos (by omega)]
  unfold moV
  rw [if_neg (by omega)]
  by_cases h : 1 ≤ w
  · rw [if_pos ⟨h, w1⟩]
    unfold upD
    rw [Int.add_zero, Int.min_self]
  · have : w = 0 := by omega
    subst this
    rw [if_neg (by omega)]
    have := up_le 0 c (by omega) c1
    omega
theorem th_le {b c w v : Int} (h : threadB b c = true) (w0 : 0 ≤ w) (w1 : w ≤ 4503599627370496) (v0 : 0 ≤ v) (hn : ¬ (0 < b ∧ (4503599627370496 - v) / b < moV c 0 c w)) : 0 ≤ thV b c w ∧ thV b c w ≤ moV c 0 c w * b := by
  have hp : 1 ≤ b ∧ b ≤ c ∧ 1 ≤ c ∧ c ≤ 1099511627776 := by simpa [threadB] using h
  rw [mo_up hp.2.2.1 hp.2.2.2 w0 w1] at hn ⊢
  have hu := up_le w c w0 hp.2.2.1
  have hm : 0 ≤ (w + c - 1) / c * b := Int.mul_nonneg hu.1 (by omega)
  have hdiv : (4503599627370496 - v) / b ≤ 4503599627370496 / b := Int.ediv_le_ediv (by omega) (by omega)
  have hs : shareE b c w = 0 := by unfold shareE; rw [if_neg (by omega), if_neg (by omega), if_neg (by omega)]
  unfold thV
  rw [if_neg (by omega), if_pos hs]
  unfold shareV
  rw [if_pos hs]
  omega
theorem li_eq {m x t w : Int} (h : lineB m x = true) (t1 : 1 ≤ t) (w0 : 0 ≤ w) (w1 : w ≤ 4503599627370496) (he : liE m x w = 0) : liV m x w * t = moV x 0 x w * (m * t) ∧ 0 ≤ liV m x w := by
  have hp : 1 ≤ m ∧ m ≤ 64 ∧ 1 ≤ x ∧ x ≤ 1099511627776 := by simpa [lineB] using h
  rw [mo_up hp.2.2.1 hp.2.2.2 w0 w1]
  have hu := up_le w x w0 hp.2.2.1
  unfold liE at he
  rw [if_neg (by omega)] at he
  unfold liV
  rw [if_neg (by omega)]
  unfold shareV
  rw [if_pos he]
  exact ⟨Int.mul_assoc _ _ _, Int.mul_nonneg hu.1 (by omega)⟩
end Go.Proofs.Ytjckfgadchobfaa
