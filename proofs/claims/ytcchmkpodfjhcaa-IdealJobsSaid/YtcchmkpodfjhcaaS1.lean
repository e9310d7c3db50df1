/-
  The walks of the stable sort: cmp.Compare, exchange, rotation, insertion.
-/
import Derived.Test.YtcchmkpodfjhcaaIM
import Derived.Test.YtcchmkpodfjhcaaP0
import Derived.BigRegion
namespace Go.Proofs.Ytcchmkpodfjhcaa
open Go.RowKit
set_option linter.unusedVariables false
def cmpI (a b : Int) : Int := if a < b then -1 else if b < a then 1 else 0
theorem nan_any (a : Int) (w : World) : Calls Try.prog 113 #[.int .i64 a] w fun e w' => e = .returned (.bool false) ∧ w = w' := by
  go_enter Try.func113, Try.ntmps113
  go_wp2
  go_ret
  exact ⟨by simp, rfl⟩
theorem cmp_any (a b : Int) (w : World) : Calls Try.prog 108 #[.int .i64 a, .int .i64 b] w fun e w' => e = .returned (.int .i64 (cmpI a b)) ∧ w' = w := by
  by_cases h1 : a < b
  · have e : cmpI a b = -1 := by unfold cmpI; rw [if_pos h1]
    rw [e]
    clear e
    go_enter Try.func108, Try.ntmps108
    go_wp2_with (first | (go_at_call 113; refine (nan_any _ _).mono ?_; rintro e w' ⟨rfl, rfl⟩))
    go_ret
    exact ⟨rfl, rfl⟩
  · by_cases h2 : b < a
    · have e : cmpI a b = 1 := by unfold cmpI; rw [if_neg h1, if_pos h2]
      rw [e]
      clear e
      go_enter Try.func108, Try.ntmps108
      go_wp2_with (first | (go_at_call 113; refine (nan_any _ _).mono ?_; rintro e w' ⟨rfl, rfl⟩))
      go_ret
      exact ⟨rfl, rfl⟩
    · have e : cmpI a b = 0 := by unfold cmpI; rw [if_neg h1, if_neg h2]
      rw [e]
      clear e
      go_enter Try.func108, Try.ntmps108
      go_wp2_with (first | (go_at_call 113; refine (nan_any _ _).mono ?_; rintro e w' ⟨rfl, rfl⟩))
      go_ret
      exact ⟨rfl, rfl⟩
/-- How two numbers are compared: by their keys. -/
def cmpA (A : Nat → Nat) (x y : Nat) : Int := cmpI (A x) (A y)
theorem cmpA_neg {A : Nat → Nat} {x y : Nat} : cmpA A x y < 0 ↔ A x < A y := by
  unfold cmpA cmpI
  split
  · constructor <;> intro _ <;> omega
  · split
    · constructor <;> intro _ <;> omega
    · constructor <;> intro _ <;> omega
structure Cmp (w : World) (g N bx : Nat) (A : Nat → Nat) : Prop where
  call : ∀ W, Kp g (g + 1) w W → ∀ x y : Nat, x < N → y < N → Calls Try.prog 107 #[.int .i64 x, .int .i64 y, .pointer (some ⟨bx, 0, none⟩)] W fun e w' => e = .returned (.int .i64 (cmpA A x y)) ∧ ∃ m, w' = W.drewN m
theorem Cmp.next {w w' : World} {g N bx : Nat} {A : Nat → Nat} (h : Cmp w g N bx A) (hk : Kp g (g + 1) w w') : Cmp w' g N bx A := ⟨fun W hW => h.call W (hk.trans hW)⟩
/-- A block of numbers that are places. -/
structure DB (w : World) (g n : Nat) (D : Nat → Nat) : Prop where
  nb : NB w g n (fun k => (D k : Int))
  lt : ∀ k, k < n → D k < n
theorem DB.swap {W : World} {g n : Nat} {D : Nat → Nat} (h : DB W g n D) {i j : Nat} (hi : i < n) (hj : j < n) :
    DB ((W.setCell ⟨g, i, none⟩ (.int .i64 (D j : Int))).setCell ⟨g, j, none⟩ (.int .i64 (D i : Int))) g n (up2 D i j) := by
  refine ⟨?_, fun k hk => ?_⟩
  · have h2 := (h.nb.set hi (D j : Int)).set hj (D i : Int)
    refine ⟨fun k hk => ?_, h2.f⟩
    rw [h2.c k hk]
    congr 2
    unfold upd up2
    by_cases e1 : k = j
    · subst e1
      by_cases e2 : k = i
      · subst e2; simp
      · simp [e2]
    · by_cases e2 : k = i
      · subst e2; simp [e1]
      · simp [e1, e2]
  · unfold up2
    split
    · exact h.lt _ hj
    · split
      · exact h.lt _ hi
      · exact h.lt _ hk
theorem Kp.swap {lo w W : World} {g i j : Nat} {u v : Value} (h : Kp g (g + 1) w W) : Kp g (g + 1) w ((W.setCell ⟨g, i, none⟩ u).setCell ⟨g, j, none⟩ v) :=
  (h.set (p := ⟨g, i, none⟩) (Nat.le_refl _) (Nat.lt_succ_self _) u).set (p := ⟨g, j, none⟩) (Nat.le_refl _) (Nat.lt_succ_self _) v
theorem DB.drewN {W : World} {g n : Nat} {D : Nat → Nat} (h : DB W g n D) (m : Nat) : DB (W.drewN m) g n D := ⟨⟨h.nb.c, h.nb.f⟩, h.lt⟩
/-- What the sort's functions leave. -/
def SRes (w : World) (g n : Nat) (D' : Nat → Nat) (e : Ending) (w' : World) : Prop := e = .returned (.tuple #[]) ∧ DB w' g n D' ∧ Kp g (g + 1) w w'
set_option maxRecDepth 100000 in
set_option maxHeartbeats 4000000 in
theorem swapr_any {w : World} {g n cap : Nat} {D : Nat → Nat} (h : DB w g n D) (hn : n ≤ 4096) {a b m : Nat} (ha : a + m ≤ n) (hb : b + m ≤ n) (hab : a + m ≤ b) (fv : Value) :
    Calls Try.prog 117 #[.slice (some ⟨g, 0, none⟩) n cap, .int .i64 a, .int .i64 b, .int .i64 m, fv] w (SRes w g n (swF D a b m)) := by
  have HD := Kept.mk h
  clear h
  go_enter Try.func117, Try.ntmps117
  go_wp2
  go_loopw [10] (fun t wr => ∃ k : Nat, k ≤ m ∧ t = .int .i64 k ∧ DB wr g n (swF D a b k) ∧ Kp g (g + 1) w wr) (fun t _ => m - (intOf t).toNat)
  case atStart => exact ⟨0, by omega, rfl, by rw [swF_zero]; exact HD.out, Kp.refl _ _ _⟩
  case round =>
    obtain ⟨k, hk, rfl, hD, hK⟩ := hrel
    by_cases hlt : k < m
    · have c1 := hD.nb.c (a + k) (by omega)
      have c2 := hD.nb.c (b + k) (by omega)
      have f1 := hD.nb.f (a + k)
      have f2 := hD.nb.f (b + k)
      have HS := Kept.mk (hD.swap (i := a + k) (j := b + k) (by omega) (by omega))
      have HKS := Kept.mk (fun u v => Kp.swap (lo := w) (i := a + k) (j := b + k) (u := u) (v := v) hK)
      obtain ⟨x, hx⟩ : ∃ x : Int, x = (swF D a b k (a + k) : Int) := ⟨_, rfl⟩
      obtain ⟨y, hy⟩ : ∃ y : Int, y = (swF D a b k (b + k) : Int) := ⟨_, rfl⟩
      simp only [← hx, ← hy] at c1 c2 HS
      have ik : (k : Int) < (m : Int) := by omega
      have e1 : (a : Int) + (k : Int) = ((a + k : Nat) : Int) := by omega
      have e2 : (b : Int) + (k : Int) = ((b + k : Nat) : Int) := by omega
      obtain ⟨p, hp⟩ : ∃ p, p = a + k := ⟨_, rfl⟩
      obtain ⟨q, hq⟩ : ∃ q, q = b + k := ⟨_, rfl⟩
      rw [← hp] at c1 f1 HS HKS e1
      rw [← hq] at c2 f2 HS HKS e2
      have i1 : (p : Int) < (n : Int) := by omega
      have i2 : (q : Int) < (n : Int) := by omega
      have hpq : p ≠ q := by omega
      have HST := Kept.mk (show up2 (swF D a b k) p q = swF D a b (k + 1) by rw [hp, hq]; exact swF_succ D a b k (by omega))
      clear hD hK hx hy hp hq
      go_wp2
      go_region
      all_goals go_wp2
      go_roundw
      case rel => exact ⟨k + 1, by omega, by go_num, by rw [← HST.out]; exact HS.out.drewN 1, (HKS.out _ _).drewN 1⟩
      case measure => simp [intOf]; omega
    · have hke : k = m := by omega
      subst hke
      go_wp2
      go_end0
      exact ⟨rfl, hD, hK⟩
theorem rotF_id {D : Nat → Nat} {s m e : Nat} (h1 : s ≤ m) (h2 : m ≤ e) (h : s = m ∨ m = e) : rotF D s m e = D := by
  funext k
  unfold rotF
  by_cases c1 : s ≤ k ∧ k < s + (e - m)
  · rw [if_pos c1]; congr 1; omega
  · rw [if_neg c1]
    by_cases c2 : s + (e - m) ≤ k ∧ k < e
    · rw [if_pos c2]; congr 1; omega
    · rw [if_neg c2]
set_option maxRecDepth 100000 in
set_option maxHeartbeats 4000000 in
theorem rot_any {w : World} {g n cap : Nat} {D : Nat → Nat} (h : DB w g n D) (hn : n ≤ 4096) {a m b : Nat} (ha : a < m) (hb : m < b) (hbn : b ≤ n) (fv : Value) :
    Calls Try.prog 116 #[.slice (some ⟨g, 0, none⟩) n cap, .int .i64 a, .int .i64 m, .int .i64 b, fv] w (SRes w g n (rotF D a m b)) := by
  have HD := Kept.mk h
  clear h
  go_enter Try.func116, Try.ntmps116
  go_wp2
  go_loopw [10, 11] (fun t u wr => ∃ (i j : Nat) (D' : Nat → Nat), 0 < i ∧ 0 < j ∧ i ≤ m ∧ m + j ≤ n ∧ t = .int .i64 i ∧ u = .int .i64 j ∧ DB wr g n D' ∧ rotF D' (m - i) m (m + j) = rotF D a m b ∧ Kp g (g + 1) w wr) (fun t u _ => (intOf t).toNat + (intOf u).toNat)
  case atStart => exact ⟨m - a, b - m, D, by omega, by omega, by omega, by omega, by go_num, by go_num, HD.out, by congr 1 <;> omega, Kp.refl _ _ _⟩
  case round =>
    obtain ⟨i, j, D', h1, h2, h3, h4, rfl, rfl, hD, hR, hK⟩ := hrel
    have HD' := Kept.mk hD
    have HR := Kept.mk hR
    clear hD hR
    rcases Nat.lt_trichotomy i j with hij | hij | hij
    · -- j is greater
      have e1 : (m : Int) - (i : Int) = ((m - i : Nat) : Int) := by omega
      have e2 : (m : Int) + (j : Int) - (i : Int) = ((m + j - i : Nat) : Int) := by omega
      have ne : ((i : Int) == (j : Int)) = false := by simp; omega
      have ng : ¬ ((j : Int) < (i : Int)) := by omega
      have HC := Kept.mk (swapr_any (cap := cap) HD'.out hn (a := m - i) (b := m + j - i) (m := i) (by omega) (by omega) (by omega) fv)
      obtain ⟨p, hp⟩ : ∃ p, p = m - i := ⟨_, rfl⟩
      obtain ⟨q, hq⟩ : ∃ q, q = m + j - i := ⟨_, rfl⟩
      rw [← hp] at e1 HC
      rw [← hq] at e2 HC
      have HN := Kept.mk (show rotF (swF D' p q i) (m - i) m (m + (j - i)) = rotF D a m b by rw [hp, hq, rotF_right D' m i j h3 hij]; exact HR.out)
      clear hp hq
      go_wp2_with fail
      refine HC.out.mono ?_
      rintro e w2 ⟨rfl, hD2, hK2⟩
      go_wp2
      go_roundw
      case rel => exact ⟨i, j - i, _, h1, by omega, h3, by omega, rfl, by go_num, hD2, HN.out, hK.trans hK2⟩
      case measure => simp [intOf]; omega
    · -- they are one
      subst hij
      have e1 : (m : Int) - (i : Int) = ((m - i : Nat) : Int) := by omega
      have HC := Kept.mk (swapr_any (cap := cap) HD'.out hn (a := m - i) (b := m) (m := i) (by omega) (by omega) (by omega) fv)
      obtain ⟨p, hp⟩ : ∃ p, p = m - i := ⟨_, rfl⟩
      rw [← hp] at e1 HC
      have HN := Kept.mk (show swF D' p m i = rotF D a m b by rw [hp, rotF_eq D' m i h3]; exact HR.out)
      clear hp
      go_wp2_with fail
      refine HC.out.mono ?_
      rintro e w2 ⟨rfl, hD2, hK2⟩
      rw [HN.out] at hD2
      go_wp2
      go_end0
      exact ⟨rfl, hD2, hK.trans hK2⟩
    · -- i is greater
      have e1 : (m : Int) - (i : Int) = ((m - i : Nat) : Int) := by omega
      have ne : ((i : Int) == (j : Int)) = false := by simp; omega
      have ng : (j : Int) < (i : Int) := by omega
      have HC := Kept.mk (swapr_any (cap := cap) HD'.out hn (a := m - i) (b := m) (m := j) (by omega) (by omega) (by omega) fv)
      obtain ⟨p, hp⟩ : ∃ p, p = m - i := ⟨_, rfl⟩
      rw [← hp] at e1 HC
      have HN := Kept.mk (show rotF (swF D' p m j) (m - (i - j)) m (m + j) = rotF D a m b by rw [hp, rotF_left D' m i j h3 hij]; exact HR.out)
      clear hp
      go_wp2_with fail
      refine HC.out.mono ?_
      rintro e w2 ⟨rfl, hD2, hK2⟩
      go_wp2
      go_roundw
      case rel => exact ⟨i - j, j, _, by omega, h2, by omega, h4, by go_num, rfl, hD2, HN.out, hK.trans hK2⟩
      case measure => simp [intOf]; omega
end Go.Proofs.Ytcchmkpodfjhcaa
