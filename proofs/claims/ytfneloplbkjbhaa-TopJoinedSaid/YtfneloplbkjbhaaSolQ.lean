/-
  The plain laws of solve: what is found is a fixed point, nothing less is; the steps rise; more loads or a greater base take no less.
-/
import Derived.Test.YtfneloplbkjbhaaSol5
namespace Go.Proofs.Ytfneloplbkjbhaa
open Go.RowKit
set_option linter.unusedVariables false

theorem run_last {b : Int} {xs : List Q4} {lim : Int} : ∀ (k : Nat) (x : Int) (out : List Int), 0 ≤ x → (roE b xs x = 0 → x ≤ roV b xs x) → (run b xs lim k x out).2 = 0 →
    ∃ (r : List Int) (z : Int), (run b xs lim k x out).1 = out ++ r ++ [z] ∧ roE b xs z = 0 ∧ roV b xs z = z ∧ z ≤ lim ∧ x ≤ z ∧ ∀ t, x ≤ t → t < z → roE b xs t = 0 ∧ t < roV b xs t
  | 0, x, out, _, _, h => by simp [run] at h
  | k + 1, x, out, h0, hm, h => by
    unfold run at h ⊢
    by_cases hx : lim < x
    · rw [if_pos hx] at h; simp at h
    · rw [if_neg hx] at h ⊢
      by_cases he : roE b xs x = 0
      · have he' : ¬ roE b xs x ≠ 0 := fun h => h he
        rw [if_neg he'] at h ⊢
        have hle := hm he
        by_cases hv : roV b xs x = x
        · rw [if_pos hv]
          exact ⟨[], x, by simp, he, hv, by omega, by omega, fun t h1 h2 => by omega⟩
        · rw [if_neg hv] at h ⊢
          obtain ⟨r, z, e, a1, a2, a3, a4, a5⟩ := run_last k (roV b xs x) (out ++ [x]) (roV_bd b xs x).1 (fun h => (ro_mono h0 hle h).2) h
          refine ⟨x :: r, z, by rw [e]; simp, a1, a2, a3, by omega, fun t h1 h2 => ?_⟩
          by_cases ht : t < roV b xs x
          · obtain ⟨m1, m2⟩ := ro_mono (b := b) (xs := xs) (w := t) (v := z) (by omega) (by omega) a1
            have := (ro_mono (b := b) (xs := xs) (w := x) (v := t) h0 h1 m1).2
            exact ⟨m1, by omega⟩
          · exact a5 t (by omega) h2
      · have he' : roE b xs x ≠ 0 := he
        rw [if_pos he'] at h; exact absurd h he
theorem st_parts {b : Int} {xs : List Q4} {lim : Int} (h : stE b xs lim = 0) : ldsE xs = 0 ∧ 1 ≤ b ∧ b ≤ 4503599627370496 ∧ 0 ≤ lim ∧ lim ≤ 4503599627370496 ∧ (run b xs lim 4096 b []).2 = 0 ∧ stL b xs lim = (run b xs lim 4096 b []).1 := by
  unfold stE at h
  split at h
  · omega
  · split at h
    · omega
    · rename_i h1 h2
      exact ⟨by omega, by omega, by omega, by omega, by omega, h, by unfold stL; rw [if_neg h1, if_neg h2]⟩
/-- What is found. -/
theorem so_least {b : Int} {xs : List Q4} {lim : Int} (h : stE b xs lim = 0) : ∃ z, soV b xs lim = z ∧ roE b xs z = 0 ∧ roV b xs z = z ∧ z ≤ lim ∧ b ≤ z ∧ 0 ≤ z ∧ z ≤ 4503599627370496 ∧ ∀ t, b ≤ t → t < z → roE b xs t = 0 ∧ t < roV b xs t := by
  obtain ⟨h1, h2, h3, h4, h5, h6, h7⟩ := st_parts h
  obtain ⟨r, z, e, a1, a2, a3, a4, a5⟩ := run_last 4096 b [] (by omega) (fun h => (ro_parts h).2.2.2.2.2.2.2.2.1) h6
  refine ⟨z, ?_, a1, a2, a3, a4, by omega, by omega, a5⟩
  unfold soV
  rw [if_neg (by omega), h7, e]
  simp
theorem run_rises {b : Int} {xs : List Q4} {lim : Int} : ∀ (k : Nat) (x : Int) (out : List Int), 0 ≤ x → (roE b xs x = 0 → x ≤ roV b xs x) → (run b xs lim k x out).2 = 0 →
    ∃ r : List Int, (run b xs lim k x out).1 = out ++ x :: r ∧ (∀ (i : Nat) a, (x :: r)[i]? = some a → 0 ≤ a ∧ a ≤ lim) ∧ ∀ (i : Nat) a c, (x :: r)[i]? = some a → (x :: r)[i + 1]? = some c → a < c
  | 0, x, out, _, _, h => by simp [run] at h
  | k + 1, x, out, h0, hm, h => by
    unfold run at h ⊢
    by_cases hx : lim < x
    · rw [if_pos hx] at h; simp at h
    · rw [if_neg hx] at h ⊢
      by_cases he : roE b xs x = 0
      · have he' : ¬ roE b xs x ≠ 0 := fun h => h he
        rw [if_neg he'] at h ⊢
        have hle := hm he
        by_cases hv : roV b xs x = x
        · rw [if_pos hv]
          refine ⟨[], by simp, fun i a hi => ?_, fun i a c h1 h2 => ?_⟩
          · cases i with
            | zero => simp at hi; omega
            | succ i => simp at hi
          · simp at h2
        · rw [if_neg hv] at h ⊢
          obtain ⟨r, e, a1, a2⟩ := run_rises k (roV b xs x) (out ++ [x]) (roV_bd b xs x).1 (fun h => (ro_mono h0 hle h).2) h
          refine ⟨roV b xs x :: r, by rw [e]; simp, fun i a hi => ?_, fun i a c h1 h2 => ?_⟩
          · cases i with
            | zero => simp at hi; omega
            | succ i => exact a1 i a (by simpa using hi)
          · cases i with
            | zero => simp at h1 h2; omega
            | succ i => exact a2 i a c (by simpa using h1) (by simpa using h2)
      · have he' : roE b xs x ≠ 0 := he
        rw [if_pos he'] at h; exact absurd h he
theorem st_rises {b : Int} {xs : List Q4} {lim : Int} (h : stE b xs lim = 0) : ∃ r, stL b xs lim = b :: r ∧ (∀ (i : Nat) a, (b :: r)[i]? = some a → 0 ≤ a ∧ a ≤ lim) ∧ ∀ (i : Nat) a c, (b :: r)[i]? = some a → (b :: r)[i + 1]? = some c → a < c := by
  obtain ⟨h1, h2, h3, h4, h5, h6, h7⟩ := st_parts h
  obtain ⟨r, e, a1, a2⟩ := run_rises 4096 b [] (by omega) (fun h => (ro_parts h).2.2.2.2.2.2.2.2.1) h6
  exact ⟨r, by rw [h7, e]; simp, a1, a2⟩
theorem st_bad {b : Int} {xs : List Q4} {lim : Int} (h : stE b xs lim ≠ 0) : soV b xs lim = 0 ∧ stL b xs lim = [] := by
  refine ⟨by unfold soV; rw [if_pos h], ?_⟩
  have key : ∀ (k : Nat) (x : Int) (out : List Int), (run b xs lim k x out).2 ≠ 0 → (run b xs lim k x out).1 = [] := by
    intro k
    induction k with
    | zero => intro x out _; rfl
    | succ k ih =>
      intro x out hx
      unfold run at hx ⊢
      by_cases h1 : lim < x
      · rw [if_pos h1]
      · rw [if_neg h1] at hx ⊢
        by_cases h2 : roE b xs x ≠ 0
        · rw [if_pos h2]
        · rw [if_neg h2] at hx ⊢
          by_cases h3 : roV b xs x = x
          · rw [if_pos h3] at hx; exact absurd rfl hx
          · rw [if_neg h3] at hx ⊢; exact ih _ _ hx
  unfold stE at h
  unfold stL
  by_cases h1 : ldsE xs ≠ 0
  · rw [if_pos h1]
  · rw [if_neg h1] at h ⊢
    by_cases h2 : b < 1 ∨ 4503599627370496 < b ∨ lim < 0 ∨ 4503599627370496 < lim
    · rw [if_pos h2]
    · rw [if_neg h2] at h ⊢; exact key _ _ _ h

/-! ### more -/
theorem al_app {l m : List Q4} {w : Int} (hl : ldsE l = 0) (hb : ldsE (l ++ m) = 0) (w0 : 0 ≤ w) (w1 : w ≤ 4503599627370496) (h : alE (l ++ m) w = 0) : alV l w ≤ alV (l ++ m) w := by
  cases ht : sumP ((l ++ m).map (arrOf w)) with
  | none => have := (al_over hb w0 w1 ht).1; omega
  | some t =>
    have happ : sumP ((l ++ m).map (arrOf w)) = (m.map (arrOf w)).foldl addP (sumP (l.map (arrOf w))) := by unfold sumP; rw [List.map_append, List.foldl_append]
    have nn := arr_nonneg hb w
    have nm : ∀ y ∈ m.map (arrOf w), 0 ≤ y.1 ∧ 0 ≤ y.2 := fun y hy => nn y (by rw [List.map_append]; exact List.mem_append_right _ hy)
    cases hs : sumP (l.map (arrOf w)) with
    | none => rw [happ, hs, foldP_none] at ht; cases ht
    | some s =>
      have sb := sumP_bd (arr_nonneg hl w) hs
      rw [happ, hs] at ht
      obtain ⟨t0, e0, e1⟩ := (fold_shift (m.map (arrOf w)) s nm sb.1 sb.2).1 t ht
      have tb := foldP_bd _ 0 t0 nm (by omega) (by omega) e0
      have ht2 : sumP ((l ++ m).map (arrOf w)) = some t := by rw [happ, hs]; exact ht
      rw [(al_sum hl w0 w1 hs).2, (al_sum hb w0 w1 ht2).2]
      omega
theorem so_app {b : Int} {l m : List Q4} {lim : Int} (h1 : stE b l lim = 0) (h2 : stE b (l ++ m) lim = 0) : soV b l lim ≤ soV b (l ++ m) lim := by
  obtain ⟨z, e, a1, a2, a3, a4, a5, a6, a7⟩ := so_least h1
  obtain ⟨y, e', c1, c2, c3, c4, c5, c6, c7⟩ := so_least h2
  rw [e, e']
  by_cases hlt : y < z
  · have h3 := (a7 y c4 hlt)
    have p1 := ro_parts c1
    have p2 := ro_parts h3.1
    have := al_app p2.1 p1.1 c5 c6 p1.2.2.2.2.2.1
    omega
  · omega
theorem so_base {b more : Int} {l : List Q4} {lim : Int} (hm : 0 ≤ more) (h1 : stE b l lim = 0) (h2 : stE (b + more) l lim = 0) : soV b l lim ≤ soV (b + more) l lim := by
  obtain ⟨z, e, a1, a2, a3, a4, a5, a6, a7⟩ := so_least h1
  obtain ⟨y, e', c1, c2, c3, c4, c5, c6, c7⟩ := so_least h2
  rw [e, e']
  by_cases hlt : y < z
  · have h3 := (a7 y (by omega) hlt)
    have p1 := ro_parts c1
    have p2 := ro_parts h3.1
    omega
  · omega
theorem so_nil {b lim : Int} (h : stE b [] lim = 0) : soV b [] lim = b := by
  obtain ⟨z, e, a1, a2, a3, a4, a5, a6, a7⟩ := so_least h
  have p := ro_parts a1
  have hv : alV [] z = 0 := by
    unfold alV
    split
    · rfl
    · rfl
  omega
theorem st_nil {b lim : Int} {l : List Q4} (h : stE b l lim = 0) : stE b [] lim = 0 := by
  obtain ⟨h1, h2, h3, h4, h5, h6, h7⟩ := st_parts h
  obtain ⟨z, e, a1, a2, a3, a4, a5, a6, a7⟩ := so_least h
  have hE : roE b [] b = 0 := by
    unfold roE
    have e1 : ldsE [] = 0 := rfl
    have e2 : alE [] b = 0 := (al_sum (xs := []) rfl (by omega) h3 (s := 0) rfl).1
    have e3 : alV [] b = 0 := (al_sum (xs := []) rfl (by omega) h3 (s := 0) rfl).2
    rw [if_neg (by omega), if_neg (by omega), if_neg (by omega), if_neg (by omega)]
  have hV : roV b [] b = b := by
    have e3 : alV [] b = 0 := (al_sum (xs := []) rfl (by omega) h3 (s := 0) rfl).2
    rw [(ro_parts hE).2.2.2.2.2.2.2.1]; omega
  unfold stE
  rw [if_neg (by decide), if_neg (by omega)]
  show (run b [] lim (4095 + 1) b []).2 = 0
  unfold run
  rw [if_neg (by omega), if_neg (fun h => h hE), if_pos hV]
end Go.Proofs.Ytfneloplbkjbhaa
