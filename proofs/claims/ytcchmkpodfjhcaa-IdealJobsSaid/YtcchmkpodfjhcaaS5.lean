/-
  The walk of the stable sort's merge, whatever its parts are.
-/
import Derived.Test.YtcchmkpodfjhcaaS4
import Derived.Deep.DeepCutAuto
import Derived.Deep.CutRange
namespace Go.Proofs.Ytcchmkpodfjhcaa
open Go.RowKit
set_option linter.unusedVariables false
def symI (w : World) (g n cap bx : Nat) (A : Nat → Nat) (L : Nat) : Prop := ∀ (W : World) (D : Nat → Nat) (a m b : Nat), Kp g (g + 1) w W → DB W g n D → b - a < L → a < m → m < b → b ≤ n → srt A D a m → srt A D m b → crs D a m b →
  Calls Try.prog 115 #[.slice (some ⟨g, 0, none⟩) n cap, .int .i64 a, .int .i64 m, .int .i64 b, cmpV bx] W (Srt W g n A D a b)
/-- The first recursive call, or none. -/
theorem half_left {w : World} {g n cap bx : Nat} {A D D1 : Nat → Nat} {a m b start mid en L : Nat} (IH : symI w g n cap bx A L) (hH : Half A D D1 a m b start mid en) {W : World} (hK : Kp g (g + 1) w W) (hD : DB W g n D1) (hL : mid - a < L) (hn : b ≤ n) (hmb : mid ≤ b) (h1 : a < start) (h2 : start < mid) :
    Calls Try.prog 115 #[.slice (some ⟨g, 0, none⟩) n cap, .int .i64 a, .int .i64 start, .int .i64 mid, cmpV bx] W (Srt W g n A D1 a mid) :=
  IH W D1 a start mid hK hD hL h1 h2 (by omega) hH.s1 hH.s2 hH.c1
theorem half_right {w : World} {g n cap bx : Nat} {A D D1 D2 : Nat → Nat} {a m b start mid en L : Nat} (IH : symI w g n cap bx A L) (hH : Half A D D1 a m b start mid en) (hS : Sam D1 D2 a mid) {W : World} (hK : Kp g (g + 1) w W) (hD : DB W g n D2) (hL : b - mid < L) (hn : b ≤ n) (hmb : a ≤ mid) (h1 : mid < en) (h2 : en < b) :
    Calls Try.prog 115 #[.slice (some ⟨g, 0, none⟩) n cap, .int .i64 mid, .int .i64 en, .int .i64 b, cmpV bx] W (Srt W g n A D2 mid b) :=
  IH W D2 mid en b hK hD hL h1 h2 hn
    (fun i j g1 g2 g3 => by rw [hS.out i (by omega), hS.out j (by omega)]; exact hH.s3 i j g1 g2 g3)
    (fun i j g1 g2 g3 => by rw [hS.out i (by omega), hS.out j (by omega)]; exact hH.s4 i j g1 g2 g3)
    (fun i j g1 g2 g3 g4 => by rw [hS.out i (by omega), hS.out j (by omega)]; exact hH.c2 i j g1 g2 g3 g4)
theorem half_left_not {A D D1 : Nat → Nat} {a m b start mid en : Nat} (hH : Half A D D1 a m b start mid en) (h1 : a ≤ start) (h2 : start ≤ mid) (h : ¬ (a < start ∧ start < mid)) : srt A D1 a mid := by
  by_cases e : a = start
  · subst e; exact hH.s2
  · have : start = mid := by omega
    subst this; exact hH.s1
theorem half_right_not {A D D1 D2 : Nat → Nat} {a m b start mid en : Nat} (hH : Half A D D1 a m b start mid en) (hS : Sam D1 D2 a mid) (h1 : mid ≤ en) (h2 : en ≤ b) (h : ¬ (mid < en ∧ en < b)) : srt A D2 mid b := by
  intro i j g1 g2 g3
  rw [hS.out i (by omega), hS.out j (by omega)]
  by_cases e : mid = en
  · subst e; exact hH.s4 i j g1 g2 g3
  · have : en = b := by omega
    subst this; exact hH.s3 i j g1 g2 g3
theorem lt_of_crs {A D : Nat → Nat} {a m b i j : Nat} (hc : crs D a m b) (h1 : a ≤ i) (h2 : i < m) (h3 : m ≤ j) (h4 : j < b) (h : ¬ A (D j) < A (D i)) : ltA A (D i) (D j) := by
  have := hc i j h1 h2 h3 h4
  unfold ltA
  omega
set_option maxRecDepth 100000 in
set_option maxHeartbeats 30000000 in
theorem sym_step {w : World} {g n cap bx : Nat} {A D : Nat → Nat} (h : DB w g n D) (hc : Cmp w g n bx A) (hn : n ≤ 4096) {a m b : Nat} (ham : a + 1 < m) (hmb : m + 1 < b) (hb : b ≤ n) (h1 : srt A D a m) (h2 : srt A D m b) (hcr : crs D a m b) (IH : symI w g n cap bx A (b - a)) :
    Calls Try.prog 115 #[.slice (some ⟨g, 0, none⟩) n cap, .int .i64 a, .int .i64 m, .int .i64 b, cmpV bx] w (Srt w g n A D a b) := by
  have HD := Kept.mk h
  have HC := Kept.mk hc
  have HS1 := Kept.mk h1
  have HS2 := Kept.mk h2
  have HX := Kept.mk hcr
  have HI := Kept.mk IH
  have hm' : ((m : Int) - (a : Int) == 1) = false := by simp; omega
  have hm2 : ((b : Int) - (m : Int) == 1) = false := by simp; omega
  clear h hc h1 h2 hcr IH
  obtain ⟨mid, hmid⟩ : ∃ p, p = (a + b) / 2 := ⟨_, rfl⟩
  have em : ((a : Int) + (b : Int)) / 2 = (mid : Int) := by omega
  have HMID := Kept.mk hmid
  have md1 : a < mid := by omega
  have md2 : mid < b := by omega
  -- where the search begins and ends
  obtain ⟨s0, r0, hs0, hr0, h00⟩ : ∃ s0 r0 : Nat, (s0 = if mid < m then mid + m - b else a) ∧ (r0 = if mid < m then mid else m) ∧ s0 ≤ r0 := ⟨_, _, rfl, rfl, by split <;> omega⟩
  have HS0 := Kept.mk hs0
  have HR0 := Kept.mk hr0
  have b1 : a ≤ s0 := by rw [hs0]; split <;> omega
  have b2 : r0 ≤ mid := by rw [hr0]; split <;> omega
  have b3 : r0 ≤ m := by rw [hr0]; split <;> omega
  have b4 : mid + m - s0 ≤ b := by rw [hs0]; split <;> omega
  clear hs0 hr0 hmid
  go_enter Try.func115, Try.ntmps115
  go_upto_if 140 with fail
  go_cut [20, 21] from 138 to 146 (fun s t wx => s = .int .i64 s0 ∧ t = .int .i64 r0 ∧ wx = w)
  case first =>
    by_cases hmm : mid < m
    · have hmm' : (mid : Int) < (m : Int) := by omega
      have e0 : (mid : Int) + (m : Int) - (b : Int) = (s0 : Int) := by have := HS0.out; rw [if_pos hmm] at this; omega
      have e1 := Kept.mk (show mid = r0 by have := HR0.out; rw [if_pos hmm] at this; omega)
      go_wp2
      go_meet
      exact ⟨rfl, by rw [← e1.out], rfl⟩
    · have hmm' : ¬ (mid : Int) < (m : Int) := by omega
      have e0 := Kept.mk (show a = s0 by have := HS0.out; rw [if_neg hmm] at this; omega)
      have e1 := Kept.mk (show m = r0 by have := HR0.out; rw [if_neg hmm] at this; omega)
      go_wp2
      go_meet
      exact ⟨by rw [← e0.out], by rw [← e1.out], rfl⟩
  case rest =>
    obtain ⟨rfl, rfl, hwc⟩ := hcut
    replace hwc := hwc.symm
    subst hwc
    obtain ⟨pp, hpp⟩ : ∃ p, p = mid + m - 1 := ⟨_, rfl⟩
    have epp : (mid : Int) + (m : Int) - 1 = (pp : Int) := by omega
    clear hpp
    go_wp2_with fail
    go_loopw [20, 21] (fun t u wr => ∃ (i j : Nat), s0 ≤ i ∧ i ≤ j ∧ j ≤ r0 ∧ t = .int .i64 i ∧ u = .int .i64 j ∧ DB wr g n D ∧ Kept (i = s0 ∨ ¬ A (D (mid + m - i)) < A (D (i - 1))) ∧ Kept (j = r0 ∨ A (D (mid + m - j - 1)) < A (D j)) ∧ Kp g (g + 1) w wr) (fun t u _ => (intOf u).toNat - (intOf t).toNat)
    case atStart => exact ⟨s0, r0, Nat.le_refl _, by omega, Nat.le_refl _, rfl, rfl, HD.out, ⟨.inl rfl⟩, ⟨.inl rfl⟩, Kp.refl _ _ _⟩
    case round =>
      obtain ⟨i, j, h1, h3, h4, rfl, rfl, hD, hI, hJ, hK⟩ := hrel
      by_cases hlt : i < j
      · have ij : (i : Int) < (j : Int) := by omega
        obtain ⟨p, hp⟩ : ∃ p, p = (i + j) / 2 := ⟨_, rfl⟩
        have e1 : ((i : Int) + (j : Int)) / 2 = (p : Int) := by omega
        have p1 : i ≤ p := by omega
        have p2 : p < j := by omega
        obtain ⟨q, hq⟩ : ∃ q, q = pp - p := ⟨_, rfl⟩
        have e2 : (pp : Int) - (p : Int) = (q : Int) := by omega
        have q0 : q < n := by omega
        have c1 := hD.nb.c p (by omega)
        have c2 := hD.nb.c q q0
        have HCC := Kept.mk (fun k => HC.out.call (wr.drewN k) (hK.drewN k) (D q) (D p) (hD.lt q q0) (hD.lt p (by omega)))
        have HDD := Kept.mk hD
        have HK := Kept.mk hK
        obtain ⟨x, hx⟩ : ∃ x, x = D q := ⟨_, rfl⟩
        obtain ⟨y, hy⟩ : ∃ y, y = D p := ⟨_, rfl⟩
        rw [← hx, ← hy] at HCC
        rw [← hy] at c1
        rw [← hx] at c2
        have q1 : (p : Int) < (n : Int) := by omega
        have q2 : (q : Int) < (n : Int) := by omega
        obtain ⟨cm, hcm⟩ : ∃ cm, cm = cmpA A x y := ⟨_, rfl⟩
        rw [← hcm] at HCC
        by_cases hlt2 : A x < A y
        · have hneg : decide (cm < 0) = true := decide_eq_true (by rw [hcm]; exact cmpA_neg.2 hlt2)
          have HN := Kept.mk (show p = r0 ∨ A (D (mid + m - p - 1)) < A (D p) from .inr (by
            rw [show mid + m - p - 1 = q by omega, ← hx, ← hy]; exact hlt2))
          clear hp hD hK hJ hx hy hcm hlt2 hq
          go_wp2_with fail
          go_quiet (first | (go_at_call 107; refine Calls.quiet_of (HCC.out _)))
          go_wp2
          go_roundw
          case rel => exact ⟨i, p, by omega, by omega, by omega, rfl, rfl, HDD.out.drewN _, hI, HN, HK.out.drewN _⟩
          case measure => simp [intOf]; omega
        · have hneg : decide (cm < 0) = false := decide_eq_false (by rw [hcm]; exact fun h => hlt2 (cmpA_neg.1 h))
          have HN := Kept.mk (show p + 1 = s0 ∨ ¬ A (D (mid + m - (p + 1))) < A (D (p + 1 - 1)) from .inr (by
            rw [Nat.add_sub_cancel, show mid + m - (p + 1) = q by omega, ← hx, ← hy]; exact hlt2))
          clear hp hD hK hI hx hy hcm hlt2 hq
          go_wp2_with fail
          go_quiet (first | (go_at_call 107; refine Calls.quiet_of (HCC.out _)))
          go_wp2
          go_roundw
          case rel => exact ⟨p + 1, j, by omega, by omega, h4, by go_num, rfl, HDD.out.drewN _, HN, hJ, HK.out.drewN _⟩
          case measure => simp [intOf]; omega
      · have hij : i = j := by omega
        subst hij
        obtain ⟨en, hen⟩ : ∃ p, p = mid + m - i := ⟨_, rfl⟩
        have een : (mid : Int) + (m : Int) - (i : Int) = (en : Int) := by omega
        have hcut : Cut A D a m b i := by
          have hm2 := HMID.out
          refine ⟨by omega, by omega, by omega, by omega, by omega, ?_, ?_⟩
          · rw [← hm2]
            rcases hI.out with e | e
            · have := HS0.out
              by_cases hmm : mid < m
              · rw [if_pos hmm] at this; right; left; omega
              · rw [if_neg hmm] at this; left; omega
            · by_cases e1 : i = a
              · exact .inl e1
              · by_cases e2 : mid + m - i = b
                · exact .inr (.inl e2)
                · exact .inr (.inr (lt_of_crs HX.out (by omega) (by omega) (by omega) (by omega) e))
          · rw [← hm2]
            rcases hJ.out with e | e
            · have := HR0.out
              by_cases hmm : mid < m
              · rw [if_pos hmm] at this; right; left; omega
              · rw [if_neg hmm] at this; left; omega
            · by_cases e1 : i = m
              · exact .inl e1
              · by_cases e2 : mid + m - i = m
                · exact .inr (.inl e2)
                · exact .inr (.inr (.inl e))
        have hle := hcut.le4
        rw [← HMID.out, ← hen] at hle
        have hle5 := hcut.le5
        rw [← HMID.out, ← hen] at hle5
        have hH := hcut.half HS1.out HS2.out HX.out (by omega) (by omega)
        rw [← HMID.out, ← hen] at hH
        obtain ⟨D1, hD1⟩ : ∃ D1, D1 = rotF D i m en := ⟨_, rfl⟩
        rw [← hD1] at hH
        have HH := Kept.mk hH
        have HD1 := Kept.mk hD1
        have HDD := Kept.mk hD
        have HK := Kept.mk hK
        have im : i ≤ m := by omega
        have imid : i ≤ mid := by omega
        have men : mid ≤ en := by omega
        have ai : a ≤ i := by omega
        have HB := Kept.mk (show b - mid < b - a by omega)
        have HA := Kept.mk (show mid - a < b - a by omega)
        clear hen hcut hH hD1 hD hK hI hJ epp
        -- the rotation, or none
        go_upto_region 39 with fail
        obtain ⟨b1x, hb1x⟩ : ∃ bb : Bool, bb = decide (i < m ∧ m < en) := ⟨_, rfl⟩
        have HB1 := Kept.mk hb1x
        clear hb1x
        go_cut [185] from 178 to 185 (fun s wx => s = .bool b1x ∧ DB wx g n D ∧ Kp g (g + 1) w wx)
        case first =>
          by_cases r1 : i < m
          · have r1' : (i : Int) < (m : Int) := by omega
            by_cases r2 : m < en
            · have r2' : (m : Int) < (en : Int) := by omega
              have HE := Kept.mk (decide_eq_true (show i < m ∧ m < en from ⟨r1, r2⟩))
              clear r1 r2
              go_wp2_with fail
              go_meet
              exact ⟨by rw [HB1.out, HE.out], HDD.out, HK.out⟩
            · have r2' : decide ((m : Int) < (en : Int)) = false := decide_eq_false (by omega)
              have r2'n : decide (m < en) = false := decide_eq_false (by omega)
              have HE := Kept.mk (decide_eq_false (show ¬ (i < m ∧ m < en) from fun h => r2 h.2))
              clear r1 r2
              go_wp2_with fail
              go_meet
              exact ⟨by rw [HB1.out, HE.out], HDD.out, HK.out⟩
          · have r1' : decide ((i : Int) < (m : Int)) = false := decide_eq_false (by omega)
            have r1'n : decide (i < m) = false := decide_eq_false (by omega)
            have HE := Kept.mk (decide_eq_false (show ¬ (i < m ∧ m < en) from fun h => r1 h.1))
            clear r1
            go_wp2_with fail
            go_meet
            exact ⟨by rw [HB1.out, HE.out], HDD.out, HK.out⟩
        case rest =>
          obtain ⟨rfl, hDx, hKx⟩ := hcut
          clear HDD HK
          have HDD := Kept.mk hDx
          have HK := Kept.mk hKx
          clear hDx hKx
          go_upto_if 185 with fail
          go_cut [18] from 178 to 191 (fun s wx => s = .int .i64 mid ∧ DB wx g n D1 ∧ Kp g (g + 1) w wx)
          case first =>
            by_cases hr : i < m ∧ m < en
            · have hbv : b1x = true := HB1.out.trans (decide_eq_true hr)
              rw [hbv]
              clear hbv
              have HR := Kept.mk (rot_any (cap := cap) HDD.out hn (a := i) (m := m) (b := en) hr.1 hr.2 (by omega) (cmpV bx))
              clear hr
              go_wp2_with fail
              refine HR.out.mono ?_
              rintro e w5 ⟨rfl, hD5, hK5⟩
              rw [← HD1.out] at hD5
              have HK5 := Kept.mk (HK.out.trans hK5)
              clear hK5
              go_wp2_with fail
              go_meet
              exact ⟨rfl, hD5, HK5.out⟩
            · have hbv : b1x = false := HB1.out.trans (decide_eq_false hr)
              rw [hbv]
              clear hbv
              have e := rotF_id (D := D) (s := i) (m := m) (e := en) im hle (by omega)
              rw [← HD1.out] at e
              have HE := Kept.mk e
              clear e hr
              go_wp2_with fail
              go_meet
              exact ⟨rfl, by rw [HE.out]; exact HDD.out, HK.out⟩
          case rest =>
            obtain ⟨rfl, hD5, hK5⟩ := hcut
            clear HDD HK HD1 hle
            have HD5 := Kept.mk hD5
            have HK5 := Kept.mk hK5
            clear hD5 hK5
            go_upto_region 41 with fail
            obtain ⟨b2x, hb2x⟩ : ∃ bb : Bool, bb = decide (a < i ∧ i < mid) := ⟨_, rfl⟩
            have HB2 := Kept.mk hb2x
            clear hb2x
            go_cut [199] from 192 to 199 (fun s wx => s = .bool b2x ∧ DB wx g n D1 ∧ Kp g (g + 1) w wx)
            case first =>
              by_cases r1 : a < i
              · have r1' : (a : Int) < (i : Int) := by omega
                by_cases r2 : i < mid
                · have r2' : (i : Int) < (mid : Int) := by omega
                  have HE := Kept.mk (decide_eq_true (show a < i ∧ i < mid from ⟨r1, r2⟩))
                  clear r1 r2
                  go_wp2_with fail
                  go_meet
                  exact ⟨by rw [HB2.out, HE.out], HD5.out, HK5.out⟩
                · have r2' : decide ((i : Int) < (mid : Int)) = false := decide_eq_false (by omega)
                  have r2'n : decide (i < mid) = false := decide_eq_false (by omega)
                  have HE := Kept.mk (decide_eq_false (show ¬ (a < i ∧ i < mid) from fun h => r2 h.2))
                  clear r1 r2
                  go_wp2_with fail
                  go_meet
                  exact ⟨by rw [HB2.out, HE.out], HD5.out, HK5.out⟩
              · have r1' : decide ((a : Int) < (i : Int)) = false := decide_eq_false (by omega)
                have r1'n : decide (a < i) = false := decide_eq_false (by omega)
                have HE := Kept.mk (decide_eq_false (show ¬ (a < i ∧ i < mid) from fun h => r1 h.1))
                clear r1
                go_wp2_with fail
                go_meet
                exact ⟨by rw [HB2.out, HE.out], HD5.out, HK5.out⟩
            case rest =>
              obtain ⟨rfl, hDx, hKx⟩ := hcut
              clear HD5 HK5
              have HD5 := Kept.mk hDx
              have HK5 := Kept.mk hKx
              clear hDx hKx
              go_upto_if 199 with fail
              go_cut [18] from 192 to 205 (fun s wx => s = .int .i64 mid ∧ (∃ D2, DB wx g n D2 ∧ Sam D1 D2 a mid ∧ srt A D2 a mid) ∧ Kp g (g + 1) w wx)
              case first =>
                by_cases hr : a < i ∧ i < mid
                · have hbv : b2x = true := HB2.out.trans (decide_eq_true hr)
                  rw [hbv]
                  clear hbv
                  have HR := Kept.mk (half_left (cap := cap) HI.out HH.out HK5.out HD5.out HA.out hb (by omega) hr.1 hr.2)
                  clear hr
                  go_wp2_with fail
                  refine HR.out.mono ?_
                  rintro e w6 ⟨rfl, hK6, hD6⟩
                  have HK6 := Kept.mk (HK5.out.trans hK6)
                  clear hK6
                  go_wp2_with fail
                  go_meet
                  exact ⟨rfl, hD6, HK6.out⟩
                · have hbv : b2x = false := HB2.out.trans (decide_eq_false hr)
                  rw [hbv]
                  clear hbv
                  have HE := Kept.mk (half_left_not HH.out ai imid hr)
                  clear hr
                  go_wp2_with fail
                  go_meet
                  exact ⟨rfl, ⟨D1, HD5.out, Sam.refl _ _ _, HE.out⟩, HK5.out⟩
              case rest =>
                clear HD5 HK5
                obtain ⟨rfl, ⟨D2, hD6, hS6, hs6⟩, hK6⟩ := hcut
                have HD6 := Kept.mk hD6
                have HK6 := Kept.mk hK6
                have HS6 := Kept.mk hS6
                have HT6 := Kept.mk hs6
                clear hD6 hK6 hS6 hs6
                by_cases hr : mid < en ∧ en < b
                · have r1 : (mid : Int) < (en : Int) := by omega
                  have r2 : (en : Int) < (b : Int) := by omega
                  have HR := Kept.mk (half_right (cap := cap) HI.out HH.out HS6.out HK6.out HD6.out HB.out hb (by omega) hr.1 hr.2)
                  clear hr
                  go_wp2_with fail
                  refine HR.out.mono ?_
                  rintro e w7 ⟨rfl, hK7, D3, hD7, hS7, hs7⟩
                  have hfin := HH.out.done (by omega) (by omega) HS6.out HT6.out hS7 hs7
                  go_wp2
                  go_end0
                  exact ⟨rfl, HK6.out.trans hK7, D3, hD7, hfin⟩
                · have hE := half_right_not HH.out HS6.out men hle5 hr
                  have HF := Kept.mk (HH.out.done (by omega) (by omega) HS6.out HT6.out (Sam.refl _ _ _) hE)
                  clear hE
                  by_cases r1 : mid < en
                  · have r1' : (mid : Int) < (en : Int) := by omega
                    have r2 : decide ((en : Int) < (b : Int)) = false := decide_eq_false (by omega)
                    have r2n : decide (en < b) = false := decide_eq_false (by omega)
                    go_wp2
                    go_end0
                    exact ⟨rfl, HK6.out, D2, HD6.out, HF.out⟩
                  · have r1' : decide ((mid : Int) < (en : Int)) = false := decide_eq_false (by omega)
                    have r1'n : decide (mid < en) = false := decide_eq_false (by omega)
                    go_wp2
                    go_end0
                    exact ⟨rfl, HK6.out, D2, HD6.out, HF.out⟩
theorem sym_all {w : World} {g n cap bx : Nat} {A : Nat → Nat} (hc : Cmp w g n bx A) (hn : n ≤ 4096) : ∀ L, symI w g n cap bx A L
  | 0 => fun W D a m b _ _ h => absurd h (by omega)
  | L + 1 => fun W D a m b hK hD hL ham hmb hb h1 h2 hcr => by
    have ih := sym_all (cap := cap) hc hn L
    have hc' := hc.next hK
    by_cases e1 : m = a + 1
    · exact sym_one hD hc' hn e1 hmb hb h2 hcr
    · by_cases e2 : b = m + 1
      · exact sym_last hD hc' hn e2 (by omega) hb h1 hcr
      · exact sym_step hD hc' hn (by omega) (by omega) hb h1 h2 hcr fun W' D' a' m' b' k1 k2 k3 => ih W' D' a' m' b' (hK.trans k1) k2 (by omega)
theorem sym_any {w : World} {g n cap bx : Nat} {A D : Nat → Nat} (h : DB w g n D) (hc : Cmp w g n bx A) (hn : n ≤ 4096) {a m b : Nat} (ham : a < m) (hmb : m < b) (hb : b ≤ n) (h1 : srt A D a m) (h2 : srt A D m b) (hcr : crs D a m b) :
    Calls Try.prog 115 #[.slice (some ⟨g, 0, none⟩) n cap, .int .i64 a, .int .i64 m, .int .i64 b, cmpV bx] w (Srt w g n A D a b) :=
  sym_all (cap := cap) hc hn (b - a + 1) w D a m b (Kp.refl _ _ _) h (by omega) ham hmb hb h1 h2 hcr
end Go.Proofs.Ytcchmkpodfjhcaa
