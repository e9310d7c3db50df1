/-
  The walk of the stable sort's insertion sort.
-/
import Derived.Test.YtcchmkpodfjhcaaS1
namespace Go.Proofs.Ytcchmkpodfjhcaa
open Go.RowKit
set_option linter.unusedVariables false
/-- What a sort of a stretch leaves. -/
def Srt (w : World) (g n : Nat) (A D : Nat → Nat) (a b : Nat) (e : Ending) (w' : World) : Prop := e = .returned (.tuple #[]) ∧ Kp g (g + 1) w w' ∧ ∃ D', DB w' g n D' ∧ Sam D D' a b ∧ srt A D' a b
abbrev cmpV (bx : Nat) : Value := .func (.func 107) #[] #[.pointer (some ⟨bx, 0, none⟩)]
theorem insR_at (D : Nat → Nat) (m i : Nat) : insR D m i i = D m := by unfold insR; rw [if_pos rfl]
theorem insR_ahead (D : Nat → Nat) {m i k : Nat} (h : k < i) : insR D m i k = D k := by unfold insR; rw [if_neg (by omega), if_neg (by omega)]
set_option maxRecDepth 100000 in
set_option maxHeartbeats 8000000 in
theorem ins_any {w : World} {g n cap bx : Nat} {A D : Nat → Nat} (h : DB w g n D) (hc : Cmp w g n bx A) (hn : n ≤ 4096) {a b : Nat} (hab : a ≤ b) (hb : b ≤ n) (hD : ∀ i j, a ≤ i → i < j → j < b → D i < D j) :
    Calls Try.prog 114 #[.slice (some ⟨g, 0, none⟩) n cap, .int .i64 a, .int .i64 b, cmpV bx] w (Srt w g n A D a b) := by
  have HD := Kept.mk h
  have HC := Kept.mk hc
  have HU := Kept.mk hD
  clear h hc hD
  go_enter Try.func114, Try.ntmps114
  go_wp2
  go_loopw [8] (fun t wr => ∃ (i : Nat) (D' : Nat → Nat), a < i ∧ i ≤ b + 1 ∧ t = .int .i64 i ∧ DB wr g n D' ∧ Kept (Sam D D' a (min i b) ∧ srt A D' a (min i b)) ∧ Kp g (g + 1) w wr) (fun t _ => b + 1 - (intOf t).toNat)
  case atStart => exact ⟨a + 1, D, by omega, by omega, by go_num, HD.out, ⟨Sam.refl _ _ _, fun i j h1 h2 h3 => absurd h3 (by omega)⟩, Kp.refl _ _ _⟩
  case round =>
    obtain ⟨i, D', h1, h2, rfl, hD', hS, hK⟩ := hrel
    by_cases hlt : i < b
    · have ii : (i : Int) < (b : Int) := by omega
      have HD' := Kept.mk hD'
      have HK := Kept.mk hK
      have hS' := hS.out
      rw [show min i b = i by omega] at hS'
      have HS := Kept.mk hS'
      have HUP := Kept.mk (show ∀ k, a ≤ k → k < i → D' k < D' i from fun k g1 g2 => by
        obtain ⟨j, g3, g4, g5⟩ := hS'.1.to k g1 g2
        rw [g5, hS'.1.out i (by omega)]
        exact HU.out j i g3 g4 hlt)
      clear hD' hK hS hS'
      go_wp2
      go_loopw [9] (fun t wr => ∃ (j : Nat), a ≤ j ∧ j ≤ i ∧ t = .int .i64 j ∧ DB wr g n (insR D' i j) ∧ Kept (∀ k, j ≤ k → k < i → A (D' i) < A (D' k)) ∧ Kp g (g + 1) w wr) (fun t _ => (intOf t).toNat)
      case atStart => exact ⟨i, by omega, Nat.le_refl _, rfl, by rw [insR_zero]; exact HD'.out, ⟨fun k h3 h4 => by omega⟩, HK.out⟩
      case round =>
        clear HD' HK
        obtain ⟨j, h3, h4, rfl, hDj, hA, hK⟩ := hrel
        have OUT := Kept.mk (show (j = a ∨ ¬ A (D' i) < A (D' (j - 1))) → Sam D (insR D' i j) a (min (i + 1) b) ∧ srt A (insR D' i j) a (min (i + 1) b) from fun ho => by
          obtain ⟨g1, g2⟩ := HS.out
          have := insR_done g2 HUP.out h3 h4 (fun k f1 f2 => by
            rcases ho with ho | ho
            · omega
            · by_cases e : k = j - 1
              · subst e; exact ho
              · have := g2 k (j - 1) f1 (by omega) (by omega)
                unfold ltA at this
                omega) hA.out
          rw [show min (i + 1) b = i + 1 by omega]
          exact ⟨(g1.wide (Nat.le_refl _) (Nat.le_succ _)).trans this.1, this.2⟩)
        by_cases hja : a < j
        · have ij : (a : Int) < (j : Int) := by omega
          have c1 := hDj.nb.c j (by omega)
          have c2 := hDj.nb.c (j - 1) (by omega)
          have f1 := hDj.nb.f j
          have f2 := hDj.nb.f (j - 1)
          have l1 := hDj.lt j (by omega)
          have l2 := hDj.lt (j - 1) (by omega)
          have e1 : (j : Int) - 1 = ((j - 1 : Nat) : Int) := by omega
          have HSW := Kept.mk (hDj.swap (i := j) (j := j - 1) (by omega) (by omega))
          have HST := Kept.mk (show up2 (insR D' i j) j (j - 1) = insR D' i (j - 1) by
            have := insR_succ D' i (j - 1) (by omega)
            rwa [show j - 1 + 1 = j by omega] at this)
          have HKS := Kept.mk (fun u v => Kp.swap (lo := w) (i := j) (j := j - 1) (u := u) (v := v) hK)
          have HCC := Kept.mk (fun m => HC.out.call (wr.drewN m) (hK.drewN m) (insR D' i j j) (insR D' i j (j - 1)) l1 l2)
          simp only [insR_at, insR_ahead D' (show j - 1 < j by omega)] at c1 c2 HSW HCC
          obtain ⟨x, hx⟩ : ∃ x, x = D' i := ⟨_, rfl⟩
          obtain ⟨y, hy⟩ : ∃ y, y = D' (j - 1) := ⟨_, rfl⟩
          obtain ⟨p, hp⟩ : ∃ p, p = j - 1 := ⟨_, rfl⟩
          simp only [← hx, ← hy] at c1 c2 HSW HCC
          simp only [← hp] at c2 f2 e1 HSW HKS
          have HP := Kept.mk hp
          have i1 : (p : Int) < (n : Int) := by omega
          have i2 : (j : Int) < (n : Int) := by omega
          have hpj : j ≠ p := by omega
          by_cases hlt2 : A x < A y
          · have hcm : cmpA A x y < 0 := cmpA_neg.2 hlt2
            have HL := Kept.mk (show ∀ k, j - 1 ≤ k → k < i → A (D' i) < A (D' k) from fun k g1 g2 => by
              by_cases e : k = j - 1
              · subst e; rw [← hx, ← hy]; exact hlt2
              · exact hA.out k (by omega) g2)
            obtain ⟨cm, hcm'⟩ : ∃ cm, cm = cmpA A x y := ⟨_, rfl⟩
            rw [← hcm'] at HCC hcm
            clear hDj hK hx hy hp hA l1 l2 hlt2 hcm'
            go_wp2_with fail
            go_quiet (first | (go_at_call 107; refine Calls.quiet_of (HCC.out _)))
            go_wp2
            go_region
            all_goals go_wp2
            go_roundw
            case rel => exact ⟨p, by omega, by omega, by go_num, by have := HST.out; rw [← HP.out] at this; rw [← this]; exact HSW.out.drewN _, by rw [HP.out]; exact HL, (HKS.out _ _).drewN _⟩
            case measure => simp [intOf]; omega
          · have hcm : ¬ cmpA A x y < 0 := fun h => hlt2 (cmpA_neg.1 h)
            have HO := Kept.mk (OUT.out (.inr (by rw [← hx, ← hy]; exact hlt2)))
            have HDJ := Kept.mk hDj
            have HK := Kept.mk hK
            obtain ⟨cm, hcm'⟩ : ∃ cm, cm = cmpA A x y := ⟨_, rfl⟩
            rw [← hcm'] at HCC hcm
            clear hDj hK hx hy hp hA l1 l2 hlt2 hcm' OUT
            go_wp2_with fail
            go_quiet (first | (go_at_call 107; refine Calls.quiet_of (HCC.out _)))
            go_wp2
            go_roundw
            case rel => exact ⟨i + 1, _, by omega, by omega, by go_num, HDJ.out.drewN _, ⟨HO.out⟩, HK.out.drewN _⟩
            case measure => simp [intOf]; omega
        · have hja' : decide ((a : Int) < (j : Int)) = false := decide_eq_false (by omega)
          have HO := Kept.mk (OUT.out (.inl (by omega)))
          have HDJ := Kept.mk hDj
          have HK := Kept.mk hK
          clear hDj hK hA OUT
          go_wp2_with fail
          go_quiet (fail)
          go_wp2
          go_roundw
          case rel => exact ⟨i + 1, _, by omega, by omega, by go_num, HDJ.out.drewN _, ⟨HO.out⟩, HK.out.drewN _⟩
          case measure => simp [intOf]; omega
    · have hge : ¬ (i : Int) < (b : Int) := by omega
      have hS' := hS.out
      rw [show min i b = b by omega] at hS'
      go_wp2
      go_end0
      exact ⟨rfl, hK, D', hD', hS'⟩
end Go.Proofs.Ytcchmkpodfjhcaa
