/-
  The stable sort: blocks, merged; the walks of stableCmpFunc and SortStableFunc.
-/
import Derived.Test.YtcchmkpodfjhcaaS5
namespace Go.Proofs.Ytcchmkpodfjhcaa
open Go.RowKit
set_option linter.unusedVariables false
theorem Sam.crs' {D D' : Nat → Nat} {a b p n : Nat} (h : Sam D D' a b) (hc : crs D 0 p n) (hp : p ≤ a ∨ b ≤ p) (hb : b ≤ n) : crs D' 0 p n := by
  intro i j _ h2 h3 h4
  have hi : ∃ i', i' < p ∧ D' i = D i' := by
    by_cases e : a ≤ i ∧ i < b
    · obtain ⟨i', g1, g2, g3⟩ := h.to i e.1 e.2
      exact ⟨i', by omega, g3⟩
    · exact ⟨i, h2, h.out i e⟩
  have hj : ∃ j', p ≤ j' ∧ j' < n ∧ D' j = D j' := by
    by_cases e : a ≤ j ∧ j < b
    · obtain ⟨j', g1, g2, g3⟩ := h.to j e.1 e.2
      exact ⟨j', by omega, by omega, g3⟩
    · exact ⟨j, h3, h4, h.out j e⟩
  obtain ⟨i', f1, f2⟩ := hi
  obtain ⟨j', f3, f4, f5⟩ := hj
  rw [f2, f5]
  exact hc i' j' (Nat.zero_le _) f1 f3 f4
theorem Sam.srt' {A D D' : Nat → Nat} {a b p q : Nat} (h : Sam D D' a b) (hs : srt A D p q) (hp : q ≤ a ∨ b ≤ p) : srt A D' p q := by
  intro i j h1 h2 h3
  rw [h.out i (by omega), h.out j (by omega)]
  exact hs i j h1 h2 h3
/-- Blocks of s numbers, each in order; what stands ahead is less as a number. -/
def Blk (A D : Nat → Nat) (s n : Nat) : Prop := ∀ k, srt A D (k * s) (min ((k + 1) * s) n) ∧ crs D 0 (k * s) n
structure IsI (A D : Nat → Nat) (c n : Nat) : Prop where
  a : ∀ k, k < c → srt A D (k * 20) ((k + 1) * 20)
  b : ∀ k, k ≤ c → crs D 0 (k * 20) n
  i : ∀ i, c * 20 ≤ i → i < n → D i = i
  s : Sam (fun k => k) D 0 n
theorem IsI.first (A : Nat → Nat) (n : Nat) : IsI A (fun k => k) 0 n := ⟨fun k h => absurd h (by omega), fun k _ i j _ h2 h3 _ => by show i < j; omega, fun _ _ _ => rfl, Sam.refl _ _ _⟩
theorem IsI.up {A D : Nat → Nat} {c n : Nat} (h : IsI A D c n) : ∀ i j, c * 20 ≤ i → i < j → j < n → D i < D j := fun i j h1 h2 h3 => by
  rw [h.i i h1 (by omega), h.i j (by omega) h3]; exact h2
theorem IsI.step {A D D' : Nat → Nat} {c n : Nat} (h : IsI A D c n) (hn : (c + 1) * 20 ≤ n) (hs : Sam D D' (c * 20) ((c + 1) * 20)) (hd : srt A D' (c * 20) ((c + 1) * 20)) : IsI A D' (c + 1) n := by
  refine ⟨fun k hk => ?_, fun k hk => ?_, fun i h1 h2 => ?_, h.s.trans (hs.wide (Nat.zero_le _) hn)⟩
  · by_cases e : k = c
    · subst e; exact hd
    · exact hs.srt' (h.a k (by omega)) (.inl (by omega))
  · by_cases e : k ≤ c
    · exact hs.crs' (h.b k e) (.inl (by omega)) hn
    · have e' : k = c + 1 := by omega
      subst e'
      refine hs.crs' (fun i j _ g2 g3 g4 => ?_) (.inr (Nat.le_refl _)) hn
      by_cases e : i < c * 20
      · exact h.b c (Nat.le_refl _) i j (Nat.zero_le _) e (by omega) g4
      · exact h.up i j (by omega) (by omega) g4
  · rw [hs.out i (by omega)]
    exact h.i i (by omega) h2
theorem IsI.last {A D D' : Nat → Nat} {c n : Nat} (h : IsI A D c n) (hc : c * 20 ≤ n) (hn : n < (c + 1) * 20) (hs : Sam D D' (c * 20) n) (hd : srt A D' (c * 20) n) : Blk A D' 20 n ∧ Sam (fun k => k) D' 0 n := by
  refine ⟨fun k => ⟨?_, ?_⟩, h.s.trans (hs.wide (Nat.zero_le _) (Nat.le_refl _))⟩
  · by_cases e : k < c
    · rw [show min ((k + 1) * 20) n = (k + 1) * 20 by omega]
      exact hs.srt' (h.a k e) (.inl (by omega))
    · by_cases e' : k = c
      · subst e'
        rw [show min ((k + 1) * 20) n = n by omega]
        exact hd
      · intro i j h1 h2 h3
        omega
  · by_cases e : k ≤ c
    · exact hs.crs' (h.b k e) (.inl (by omega)) (Nat.le_refl _)
    · intro i j _ h2 h3 h4
      omega
structure IsM (A D : Nat → Nat) (s c n : Nat) : Prop where
  a : ∀ k, k < c → srt A D (k * (2 * s)) ((k + 1) * (2 * s))
  b : ∀ k, crs D 0 (k * (2 * s)) n
  r : ∀ k, 2 * c ≤ k → srt A D (k * s) (min ((k + 1) * s) n) ∧ crs D 0 (k * s) n
  s : Sam (fun k => k) D 0 n
theorem mul_2 (k s : Nat) : k * (2 * s) = 2 * k * s := by rw [Nat.mul_left_comm, Nat.mul_assoc]
theorem IsM.first {A D : Nat → Nat} {s n : Nat} (h : Blk A D s n) (hs : Sam (fun k => k) D 0 n) : IsM A D s 0 n :=
  ⟨fun k h => absurd h (by omega), fun k => by rw [mul_2]; exact (h (2 * k)).2, fun k _ => h k, hs⟩
/-- The next pair of blocks. -/
theorem IsM.pair {A D : Nat → Nat} {s c n : Nat} (h : IsM A D s c n) (hs : c * (2 * s) + s ≤ n) :
    srt A D (c * (2 * s)) (c * (2 * s) + s) ∧ srt A D (c * (2 * s) + s) (min (c * (2 * s) + 2 * s) n) ∧ crs D (c * (2 * s)) (c * (2 * s) + s) n := by
  have h1 := h.r (2 * c) (Nat.le_refl _)
  have h2 := h.r (2 * c + 1) (by omega)
  have a1 : 2 * c * s = c * (2 * s) := (mul_2 c s).symm
  have a2 : (2 * c + 1) * s = c * (2 * s) + s := by rw [Nat.succ_mul, a1]
  have a3 : (2 * c + 1 + 1) * s = c * (2 * s) + 2 * s := by rw [Nat.succ_mul, a2]; omega
  rw [a1, a2, show min (c * (2 * s) + s) n = c * (2 * s) + s by omega] at h1
  rw [a2, a3] at h2
  exact ⟨h1.1, h2.1, fun i j g1 g2 g3 g4 => h2.2 i j (Nat.zero_le _) g2 g3 g4⟩
theorem IsM.step {A D D' : Nat → Nat} {s c n : Nat} (h : IsM A D s c n) (hn : c * (2 * s) + 2 * s ≤ n) (hs : Sam D D' (c * (2 * s)) (c * (2 * s) + 2 * s)) (hd : srt A D' (c * (2 * s)) (c * (2 * s) + 2 * s)) : IsM A D' s (c + 1) n := by
  have e1 : (c + 1) * (2 * s) = c * (2 * s) + 2 * s := Nat.succ_mul _ _
  refine ⟨fun k hk => ?_, fun k => ?_, fun k hk => ?_, h.s.trans (hs.wide (Nat.zero_le _) hn)⟩
  · by_cases e : k = c
    · subst e; rw [e1]; exact hd
    · have := Nat.mul_le_mul_right (2 * s) (show k + 1 ≤ c by omega)
      exact hs.srt' (h.a k (by omega)) (.inl this)
  · refine hs.crs' (h.b k) ?_ hn
    by_cases e : k ≤ c
    · exact .inl (Nat.mul_le_mul_right (2 * s) e)
    · have := Nat.mul_le_mul_right (2 * s) (show c + 1 ≤ k by omega)
      exact .inr (by omega)
  · have g := h.r k (by omega)
    have := Nat.mul_le_mul_right s (show 2 * (c + 1) ≤ k by omega)
    rw [← mul_2, e1] at this
    exact ⟨hs.srt' g.1 (.inr this), hs.crs' g.2 (.inr this) hn⟩
theorem IsM.last {A D D' : Nat → Nat} {s c n : Nat} (h : IsM A D s c n) (hc : c * (2 * s) ≤ n) (hn : n < c * (2 * s) + 2 * s) (hs : Sam D D' (c * (2 * s)) n) (hd : srt A D' (c * (2 * s)) n) : Blk A D' (2 * s) n ∧ Sam (fun k => k) D' 0 n := by
  have e1 : (c + 1) * (2 * s) = c * (2 * s) + 2 * s := Nat.succ_mul _ _
  refine ⟨fun k => ⟨?_, ?_⟩, h.s.trans (hs.wide (Nat.zero_le _) (Nat.le_refl _))⟩
  · by_cases e : k < c
    · have := Nat.mul_le_mul_right (2 * s) (show k + 1 ≤ c by omega)
      rw [show min ((k + 1) * (2 * s)) n = (k + 1) * (2 * s) by omega]
      exact hs.srt' (h.a k e) (.inl this)
    · by_cases e' : k = c
      · subst e'
        rw [show min ((k + 1) * (2 * s)) n = n by omega]
        exact hd
      · have := Nat.mul_le_mul_right (2 * s) (show c + 1 ≤ k by omega)
        intro i j h1 h2 h3
        omega
  · by_cases e : k ≤ c
    · exact hs.crs' (h.b k) (.inl (Nat.mul_le_mul_right (2 * s) e)) (Nat.le_refl _)
    · have := Nat.mul_le_mul_right (2 * s) (show c + 1 ≤ k by omega)
      intro i j _ h2 h3 h4
      omega
theorem IsM.last_not {A D : Nat → Nat} {s c n : Nat} (h : IsM A D s c n) (hn : n ≤ c * (2 * s) + s) : srt A D (c * (2 * s)) n := by
  have h1 := (h.r (2 * c) (Nat.le_refl _)).1
  have a1 : 2 * c * s = c * (2 * s) := (mul_2 c s).symm
  have a2 : (2 * c + 1) * s = c * (2 * s) + s := by rw [Nat.succ_mul, a1]
  rw [a1, a2] at h1
  rwa [show min (c * (2 * s) + s) n = n by omega] at h1
theorem Blk.all {A D : Nat → Nat} {s n : Nat} (h : Blk A D s n) (hs : n ≤ s) : srt A D 0 n := by
  have := (h 0).1
  rwa [Nat.zero_mul, Nat.zero_add, Nat.one_mul, Nat.min_eq_right hs] at this
set_option maxRecDepth 100000 in
set_option maxHeartbeats 16000000 in
theorem stable_any {w : World} {g n cap bx : Nat} {A : Nat → Nat} (h : DB w g n (fun k => k)) (hc : Cmp w g n bx A) (hn : n ≤ 4096) :
    Calls Try.prog 112 #[.slice (some ⟨g, 0, none⟩) n cap, .int .i64 n, cmpV bx] w (Srt w g n A (fun k => k) 0 n) := by
  have HD := Kept.mk h
  have HC := Kept.mk hc
  clear h hc
  go_enter Try.func112, Try.ntmps112
  go_wp2
  go_loopw [7, 8] (fun t u wr => ∃ (c a : Nat) (D : Nat → Nat), Kept (a = c * 20) ∧ a ≤ n ∧ t = .int .i64 a ∧ u = .int .i64 ((a : Int) + 20) ∧ DB wr g n D ∧ Kept (IsI A D c n) ∧ Kp g (g + 1) w wr) (fun t _ _ => n - (intOf t).toNat)
  case atStart => exact ⟨0, 0, fun k => k, ⟨rfl⟩, Nat.zero_le _, rfl, rfl, HD.out, ⟨IsI.first A n⟩, Kp.refl _ _ _⟩
  case round =>
    obtain ⟨c, a, D, hca, han, rfl, rfl, hD, hI, hK⟩ := hrel
    by_cases hlt : a + 20 ≤ n
    · have hlt' : (a : Int) + 20 ≤ (n : Int) := by omega
      have e1 : (a : Int) + 20 = ((a + 20 : Nat) : Int) := by omega
      have HI' := Kept.mk (ins_any (cap := cap) (A := A) hD (HC.out.next hK) hn (a := a) (b := a + 20) (by omega) hlt (fun i j g1 g2 g3 => hI.out.up i j (by have := hca.out; omega) g2 (by omega)))
      obtain ⟨p, hp⟩ : ∃ p, p = a + 20 := ⟨_, rfl⟩
      rw [← hp] at e1 HI'
      have HK := Kept.mk hK
      have HP := Kept.mk hp
      clear hp hD hK
      go_wp2_with fail
      refine HI'.out.mono ?_
      rintro e w2 ⟨rfl, hK2, D2, hD2, hS2, hs2⟩
      have hn2 : IsI A D2 (c + 1) n := by
        have g1 := hca.out
        have g2 := HP.out
        refine hI.out.step (by omega) ?_ ?_
        · rw [← g1, show (c + 1) * 20 = p by omega]; exact hS2
        · rw [← g1, show (c + 1) * 20 = p by omega]; exact hs2
      have HN := Kept.mk hn2
      clear hn2 hS2 hs2 hI HI'
      go_wp2
      go_roundw
      case rel => exact ⟨c + 1, p, D2, ⟨by have := hca.out; have := HP.out; omega⟩, by omega, rfl, rfl, hD2, ⟨HN.out⟩, HK.out.trans hK2⟩
      case measure => simp [intOf]; omega
    · have hlt' : ¬ (a : Int) + 20 ≤ (n : Int) := by omega
      have HI' := Kept.mk (ins_any (cap := cap) (A := A) hD (HC.out.next hK) hn (a := a) (b := n) (by omega) (Nat.le_refl _) (fun i j g1 g2 g3 => hI.out.up i j (by have := hca.out; omega) g2 (by omega)))
      have HK := Kept.mk hK
      clear hD hK
      go_wp2_with fail
      refine HI'.out.mono ?_
      rintro e w2 ⟨rfl, hK2, D2, hD2, hS2, hs2⟩
      have hb : Blk A D2 20 n ∧ Sam (fun k => k) D2 0 n := by
        have g1 := hca.out
        refine hI.out.last (by omega) (by omega) ?_ ?_
        · rw [← g1]; exact hS2
        · rw [← g1]; exact hs2
      have HB := Kept.mk hb
      have HD2 := Kept.mk hD2
      have HK2 := Kept.mk (HK.out.trans hK2)
      clear hb hS2 hs2 hI HI' hD2 hK2 hca HK
      go_wp2_with fail
      go_loopw [6] (fun t wr => ∃ (s : Nat) (D : Nat → Nat), 0 < s ∧ s ≤ 8192 ∧ t = .int .i64 s ∧ DB wr g n D ∧ Kept (Blk A D s n ∧ Sam (fun k => k) D 0 n) ∧ Kp g (g + 1) w wr) (fun t _ => 8193 - (intOf t).toNat)
      case atStart => exact ⟨20, D2, by omega, by omega, rfl, HD2.out, HB, HK2.out⟩
      case round =>
        clear HD2 HK2 HB
        obtain ⟨s, D, hs0, hs1, rfl, hD, hB, hK⟩ := hrel
        by_cases hsn : s < n
        · have hsn' : (s : Int) < (n : Int) := by omega
          have HD := Kept.mk hD
          have HK := Kept.mk hK
          clear hD hK
          go_wp2_with fail
          go_loopw [7, 8] (fun t u wr => ∃ (c a : Nat) (D : Nat → Nat), Kept (a = c * (2 * s)) ∧ a ≤ n ∧ t = .int .i64 a ∧ u = .int .i64 ((a : Int) + 2 * (s : Int)) ∧ DB wr g n D ∧ Kept (IsM A D s c n) ∧ Kp g (g + 1) w wr) (fun t _ _ => n - (intOf t).toNat)
          case atStart => exact ⟨0, 0, D, ⟨by simp⟩, Nat.zero_le _, rfl, by simp, HD.out, ⟨IsM.first hB.out.1 hB.out.2⟩, HK.out⟩
          case round =>
            clear HD HK hB
            obtain ⟨c, a, D, hca, han, rfl, rfl, hD, hI, hK⟩ := hrel
            by_cases hlt2 : a + 2 * s ≤ n
            · have hlt2' : (a : Int) + 2 * (s : Int) ≤ (n : Int) := by omega
              have hpair := hI.out.pair (by have := hca.out; omega)
              rw [← hca.out, Nat.min_eq_left hlt2] at hpair
              obtain ⟨p, hp⟩ : ∃ p, p = a + 2 * s := ⟨_, rfl⟩
              obtain ⟨q, hq⟩ : ∃ q, q = a + s := ⟨_, rfl⟩
              have e1 : (a : Int) + 2 * (s : Int) = (p : Int) := by omega
              have e2 : (a : Int) + (s : Int) = (q : Int) := by omega
              rw [← hp, ← hq] at hpair
              have HI' := Kept.mk (sym_any (cap := cap) (A := A) hD (HC.out.next hK) hn (a := a) (m := q) (b := p) (by omega) (by omega) (by omega) hpair.1 hpair.2.1 (fun i j g1 g2 g3 g4 => hpair.2.2 i j g1 g2 g3 (by omega)))
              have HK := Kept.mk hK
              have HP := Kept.mk hp
              clear hp hq hD hK hpair
              go_wp2_with fail
              refine HI'.out.mono ?_
              rintro e w2 ⟨rfl, hK2, D2, hD2, hS2, hs2⟩
              have hn2 : IsM A D2 s (c + 1) n := by
                have g1 := hca.out
                have g2 := HP.out
                refine hI.out.step (by omega) ?_ ?_
                · rw [← g1, ← g2]; exact hS2
                · rw [← g1, ← g2]; exact hs2
              have HN := Kept.mk hn2
              clear hn2 hS2 hs2 hI HI'
              go_wp2
              go_roundw
              case rel => exact ⟨c + 1, p, D2, ⟨by rw [Nat.succ_mul, ← hca.out]; exact HP.out⟩, by omega, rfl, by simp, hD2, ⟨HN.out⟩, HK.out.trans hK2⟩
              case measure => simp [intOf]; omega
            · have hlt2' : ¬ (a : Int) + 2 * (s : Int) ≤ (n : Int) := by omega
              obtain ⟨q, hq⟩ : ∃ q, q = a + s := ⟨_, rfl⟩
              have e2 : (a : Int) + (s : Int) = (q : Int) := by omega
              by_cases hqn : q < n
              · have hqn' : (q : Int) < (n : Int) := by omega
                have hpair := hI.out.pair (by have := hca.out; omega)
                rw [← hca.out, Nat.min_eq_right (by omega), ← hq] at hpair
                have HI' := Kept.mk (sym_any (cap := cap) (A := A) hD (HC.out.next hK) hn (a := a) (m := q) (b := n) (by omega) hqn (Nat.le_refl _) hpair.1 hpair.2.1 hpair.2.2)
                have HK := Kept.mk hK
                clear hq hD hK hpair
                go_wp2_with fail
                refine HI'.out.mono ?_
                rintro e w2 ⟨rfl, hK2, D2, hD2, hS2, hs2⟩
                have hn2 : Blk A D2 (2 * s) n ∧ Sam (fun k => k) D2 0 n := by
                  have g1 := hca.out
                  refine hI.out.last (by omega) (by omega) ?_ ?_
                  · rw [← g1]; exact hS2
                  · rw [← g1]; exact hs2
                have HN := Kept.mk hn2
                clear hn2 hS2 hs2 hI HI'
                go_wp2
                go_roundw
                case rel => exact ⟨2 * s, D2, by omega, by omega, by go_num, hD2, HN, HK.out.trans hK2⟩
                case measure => simp [intOf]; omega
              · have hqn' : ¬ (q : Int) < (n : Int) := by omega
                have hn2 : Blk A D (2 * s) n ∧ Sam (fun k => k) D 0 n := by
                  have g1 := hca.out
                  exact hI.out.last (by omega) (by omega) (Sam.refl _ _ _) (hI.out.last_not (by omega))
                have HN := Kept.mk hn2
                have HD := Kept.mk hD
                have HK := Kept.mk hK
                clear hn2 hI hq hD hK
                go_wp2
                go_roundw
                case rel => exact ⟨2 * s, D, by omega, by omega, by go_num, HD.out, HN, HK.out⟩
                case measure => simp [intOf]; omega
        · have hsn' : ¬ (s : Int) < (n : Int) := by omega
          have hf := hB.out.1.all (by omega)
          go_wp2
          go_end0
          exact ⟨rfl, hK, D, hD, hB.out.2, hf⟩
theorem sort_any {w : World} {g n cap bx : Nat} {A : Nat → Nat} (h : DB w g n (fun k => k)) (hc : Cmp w g n bx A) (hn : n ≤ 4096) :
    Calls Try.prog 106 #[.slice (some ⟨g, 0, none⟩) n cap, cmpV bx] w (Srt w g n A (fun k => k) 0 n) := by
  have HS := Kept.mk (stable_any (cap := cap) h hc hn)
  clear h hc
  go_enter Try.func106, Try.ntmps106
  go_wp2_with fail
  refine HS.out.mono ?_
  rintro e w2 ⟨rfl, h2⟩
  go_wp2
  go_end0
  exact ⟨rfl, h2⟩
end Go.Proofs.Ytcchmkpodfjhcaa
