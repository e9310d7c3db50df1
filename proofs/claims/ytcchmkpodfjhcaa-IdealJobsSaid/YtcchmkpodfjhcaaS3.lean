/-
  The walk of the stable sort's merge.
-/
import Derived.Test.YtcchmkpodfjhcaaS2
namespace Go.Proofs.Ytcchmkpodfjhcaa
open Go.RowKit
set_option linter.unusedVariables false
set_option maxRecDepth 100000 in
set_option maxHeartbeats 16000000 in
theorem sym_one {w : World} {g n cap bx : Nat} {A D : Nat → Nat} (h : DB w g n D) (hc : Cmp w g n bx A) (hn : n ≤ 4096) {a m b : Nat} (hm : m = a + 1) (hab : m < b) (hb : b ≤ n) (h2 : srt A D m b) (hcr : crs D a m b) :
    Calls Try.prog 115 #[.slice (some ⟨g, 0, none⟩) n cap, .int .i64 a, .int .i64 m, .int .i64 b, cmpV bx] w (Srt w g n A D a b) := by
  have HD := Kept.mk h
  have HC := Kept.mk hc
  have HS := Kept.mk h2
  have HX := Kept.mk hcr
  have hm' : ((m : Int) - (a : Int) == 1) = true := by simp; omega
  have HM := Kept.mk hm
  have ham : a < m := by omega
  clear h hc h2 hcr hm
  go_enter Try.func115, Try.ntmps115
  go_wp2_with fail
  go_loopw [10, 11] (fun t u wr => ∃ (i j : Nat), m ≤ i ∧ i ≤ j ∧ j ≤ b ∧ t = .int .i64 i ∧ u = .int .i64 j ∧ DB wr g n D ∧ Kept (i = m ∨ A (D (i - 1)) < A (D a)) ∧ Kept (j = b ∨ ¬ A (D j) < A (D a)) ∧ Kp g (g + 1) w wr) (fun t u _ => (intOf u).toNat - (intOf t).toNat)
  case atStart => exact ⟨m, b, Nat.le_refl _, by omega, Nat.le_refl _, rfl, rfl, HD.out, ⟨.inl rfl⟩, ⟨.inl rfl⟩, Kp.refl _ _ _⟩
  case round =>
    obtain ⟨i, j, h1, h3, h4, rfl, rfl, hD, hI, hJ, hK⟩ := hrel
    by_cases hlt : i < j
    · have ij : (i : Int) < (j : Int) := by omega
      obtain ⟨p, hp⟩ : ∃ p, p = (i + j) / 2 := ⟨_, rfl⟩
      have e1 : ((i : Int) + (j : Int)) / 2 = (p : Int) := by omega
      have p1 : i ≤ p := by omega
      have p2 : p < j := by omega
      have c1 := hD.nb.c p (by omega)
      have c2 := hD.nb.c a (by omega)
      have HCC := Kept.mk (fun m => HC.out.call (wr.drewN m) (hK.drewN m) (D p) (D a) (hD.lt p (by omega)) (hD.lt a (by omega)))
      have HDD := Kept.mk hD
      have HK := Kept.mk hK
      obtain ⟨x, hx⟩ : ∃ x, x = D p := ⟨_, rfl⟩
      obtain ⟨y, hy⟩ : ∃ y, y = D a := ⟨_, rfl⟩
      rw [← hx, ← hy] at HCC
      rw [← hx] at c1
      rw [← hy] at c2
      have q1 : (p : Int) < (n : Int) := by omega
      have q2 : (a : Int) < (n : Int) := by omega
      obtain ⟨cm, hcm⟩ : ∃ cm, cm = cmpA A x y := ⟨_, rfl⟩
      rw [← hcm] at HCC
      by_cases hlt2 : A x < A y
      · have hneg : cm < 0 := by rw [hcm]; exact cmpA_neg.2 hlt2
        have HN := Kept.mk (show p + 1 = m ∨ A (D (p + 1 - 1)) < A (D a) from .inr (by rw [Nat.add_sub_cancel, ← hx, ← hy]; exact hlt2))
        clear hp hD hK hI hx hy hcm hlt2
        go_wp2_with fail
        go_quiet (first | (go_at_call 107; refine Calls.quiet_of (HCC.out _)))
        go_wp2
        go_roundw
        case rel => exact ⟨p + 1, j, by omega, by omega, h4, by go_num, rfl, HDD.out.drewN _, HN, hJ, HK.out.drewN _⟩
        case measure => simp [intOf]; omega
      · have hneg : ¬ cm < 0 := by rw [hcm]; exact fun h => hlt2 (cmpA_neg.1 h)
        have HN := Kept.mk (show p = b ∨ ¬ A (D p) < A (D a) from .inr (by rw [← hx, ← hy]; exact hlt2))
        clear hp hD hK hJ hx hy hcm hlt2
        go_wp2_with fail
        go_quiet (first | (go_at_call 107; refine Calls.quiet_of (HCC.out _)))
        go_wp2
        go_roundw
        case rel => exact ⟨i, p, by omega, by omega, by omega, rfl, rfl, HDD.out.drewN _, hI, HN, HK.out.drewN _⟩
        case measure => simp [intOf]; omega
    · have hij : i = j := by omega
      subst hij
      have hfin : Sam D (insL D a i) a b ∧ srt A (insL D a i) a b := by
        have hs := HS.out
        have hm := HM.out
        rw [hm] at hs
        refine insL_done hs (by have := HX.out; rwa [hm] at this) (by omega) h4 (fun k g1 g2 => ?_) (fun k g1 g2 => ?_)
        · rcases hI.out with h | h
          · omega
          · by_cases e : k = i - 1
            · subst e; exact h
            · have := hs k (i - 1) g1 (by omega) (by omega)
              unfold ltA at this
              omega
        · rcases hJ.out with h | h
          · omega
          · by_cases e : k = i
            · subst e; exact h
            · have := hs i k (by omega) (by omega) g2
              unfold ltA at this
              omega
      have HF := Kept.mk hfin
      have HDD := Kept.mk hD
      have HK := Kept.mk hK
      clear hfin hD hK hI hJ
      go_wp2
      go_loopw [13] (fun t wr => ∃ (k : Nat), a ≤ k ∧ k + 1 ≤ i ∧ t = .int .i64 k ∧ DB wr g n (insL D a (k + 1)) ∧ Kp g (g + 1) w wr) (fun t _ => i - (intOf t).toNat)
      case atStart => exact ⟨a, by omega, by omega, rfl, by rw [insL_zero]; exact HDD.out, HK.out⟩
      case round =>
        clear HDD HK
        obtain ⟨k, g1, g2, rfl, hD, hK⟩ := hrel
        by_cases hlt3 : k + 1 < i
        · have ik : (k : Int) < (i : Int) - 1 := by omega
          have c1 := hD.nb.c k (by omega)
          have c2 := hD.nb.c (k + 1) (by omega)
          have f1 := hD.nb.f k
          have f2 := hD.nb.f (k + 1)
          have HSW := Kept.mk (hD.swap (i := k) (j := k + 1) (by omega) (by omega))
          have HST := Kept.mk (show up2 (insL D a (k + 1)) k (k + 1) = insL D a (k + 1 + 1) from insL_succ D a (k + 1) (by omega))
          have HKS := Kept.mk (fun u v => Kp.swap (lo := w) (i := k) (j := k + 1) (u := u) (v := v) hK)
          obtain ⟨x, hx⟩ : ∃ x, x = insL D a (k + 1) k := ⟨_, rfl⟩
          obtain ⟨y, hy⟩ : ∃ y, y = insL D a (k + 1) (k + 1) := ⟨_, rfl⟩
          simp only [← hx, ← hy] at c1 c2 HSW
          obtain ⟨p, hp⟩ : ∃ p, p = k + 1 := ⟨_, rfl⟩
          have e1 : (k : Int) + 1 = (p : Int) := by omega
          simp only [← hp] at c2 f2 HSW HKS HST
          have HP := Kept.mk hp
          have i1 : (p : Int) < (n : Int) := by omega
          have i2 : (k : Int) < (n : Int) := by omega
          have hkp : k ≠ p := by omega
          clear hD hK hx hy hp
          go_wp2
          go_region
          all_goals go_wp2
          go_roundw
          case rel => exact ⟨p, by omega, by omega, by go_num, by rw [← HST.out]; exact HSW.out.drewN 1, (HKS.out _ _).drewN 1⟩
          case measure => simp [intOf]; omega
        · have hki : k + 1 = i := by omega
          have ik : ¬ (k : Int) < (i : Int) - 1 := by omega
          have hD' := hD
          rw [hki] at hD'
          clear hD hki
          go_wp2
          go_end0
          exact ⟨rfl, hK, _, hD', HF.out⟩
end Go.Proofs.Ytcchmkpodfjhcaa
