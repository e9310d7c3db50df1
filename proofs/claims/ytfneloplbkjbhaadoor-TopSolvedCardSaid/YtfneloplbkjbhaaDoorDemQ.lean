/-
  The plain laws of demand: more in a longer stretch; of two lists as much as of both; what is used bounds it.
-/
import Derived.Test.YtfneloplbkjbhaaDoorGD
import Derived.Test.YtfneloplbkjbhaaDoorGC
namespace Go.Proofs.YtfneloplbkjbhaaDoor
open Go.RowKit
set_option linter.unusedVariables false

/-- What jitter brings of a load, and one cost. -/
def mostOf (x : Q4) : Int := x.d + upD x.b x.a * x.d
def mostP (l : List Q4) : Int := l.foldl (fun c x => c + mostOf x) 0
theorem mostP_snoc (l : List Q4) (x : Q4) : mostP (l ++ [x]) = mostP l + mostOf x := by simp [mostP]

theorem elem_use {x : Q4} (h : ldB x = true) {w : Int} (h0 : 0 ≤ w) : moV x.a x.b x.c w * x.d * 1000000 ≤ mostOf x * 1000000 + w * upD (x.d * 1000000) x.a := by
  obtain ⟨h1, h2, h3, h4, h5, h6, h7, h8, h9⟩ := ldB_parts h
  have hU : 0 ≤ upD (x.d * 1000000) x.a := up_nonneg h1 (by omega)
  have hk2 : 0 ≤ upD x.b x.a := up_nonneg h1 h3
  have hg := up_ge (x := x.d * 1000000) (q := x.a) h1
  have hwU : 0 ≤ w * upD (x.d * 1000000) x.a := Int.mul_nonneg h0 hU
  have hkd : 0 ≤ upD x.b x.a * x.d := Int.mul_nonneg hk2 h7
  unfold mostOf
  by_cases hw : 1 ≤ w ∧ w ≤ 4503599627370496
  · have hm : moV x.a x.b x.c w ≤ upD w x.a + upD x.b x.a := by
      have e : moV x.a x.b x.c w = min (upD (w + x.b) x.a) (upD w x.c) := by unfold moV; rw [if_neg (by omega), if_pos hw]
      have := up_add (x := w) (y := x.b) h1
      omega
    have hk1 : 1 ≤ upD w x.a := by
      have := (up_lt_iff (x := w) (q := x.a) (m := 1) h1)
      simp only [Int.sub_self, Int.zero_mul] at this
      omega
    have hlow : (upD w x.a - 1) * x.a ≤ w := by
      have := (up_lt_iff (x := w) (q := x.a) (m := upD w x.a) h1)
      omega
    have s1 : moV x.a x.b x.c w * (x.d * 1000000) ≤ (upD w x.a + upD x.b x.a) * (x.d * 1000000) := Int.mul_le_mul_of_nonneg_right hm (by omega)
    have s2 : (upD w x.a - 1) * (x.d * 1000000) ≤ (upD w x.a - 1) * (upD (x.d * 1000000) x.a * x.a) := Int.mul_le_mul_of_nonneg_left hg (by omega)
    have s3 : upD (x.d * 1000000) x.a * ((upD w x.a - 1) * x.a) ≤ upD (x.d * 1000000) x.a * w := Int.mul_le_mul_of_nonneg_left hlow hU
    have s4 : (upD w x.a - 1) * (upD (x.d * 1000000) x.a * x.a) = upD (x.d * 1000000) x.a * ((upD w x.a - 1) * x.a) := by
      rw [← Int.mul_assoc, Int.mul_comm (upD w x.a - 1) _, Int.mul_assoc]
    have s5 : upD (x.d * 1000000) x.a * w = w * upD (x.d * 1000000) x.a := Int.mul_comm _ _
    have s6 : (upD w x.a + upD x.b x.a) * (x.d * 1000000) = (upD w x.a - 1) * (x.d * 1000000) + x.d * 1000000 + upD x.b x.a * x.d * 1000000 := by
      rw [Int.add_mul, Int.sub_mul, Int.one_mul, Int.mul_assoc (upD x.b x.a)]; omega
    have s7 : moV x.a x.b x.c w * x.d * 1000000 = moV x.a x.b x.c w * (x.d * 1000000) := Int.mul_assoc _ _ _
    have s8 : (x.d + upD x.b x.a * x.d) * 1000000 = x.d * 1000000 + upD x.b x.a * x.d * 1000000 := Int.add_mul _ _ _
    omega
  · have e : moV x.a x.b x.c w = 0 := by unfold moV; rw [if_neg (by omega), if_neg hw]
    rw [e]
    have : 0 ≤ (x.d + upD x.b x.a * x.d) * 1000000 := by omega
    omega

theorem fold_use {w : Int} (h0 : 0 ≤ w) : ∀ (l : List Q4) (s t a b c : Int), (∀ x ∈ l, ldB x = true) → (l.map (arrOf w)).foldl addP (some s) = some t → l.foldl addU (some a) = some b →
    (t - s) * 1000000 ≤ (l.foldl (fun c x => c + mostOf x) c - c) * 1000000 + w * (b - a)
  | [], s, t, a, b, c, _, h1, h2 => by
    simp only [List.map_nil, List.foldl_nil, Option.some.injEq] at h1 h2
    subst h1; subst h2
    simp
  | x :: r, s, t, a, b, c, hl, h1, h2 => by
    rw [List.map_cons, List.foldl_cons, addP_some] at h1
    rw [List.foldl_cons, addU_some] at h2
    by_cases k1 : 0 < (arrOf w x).2 ∧ (4503599627370496 - s) / (arrOf w x).2 < (arrOf w x).1
    · rw [if_pos k1, foldP_none] at h1; cases h1
    · rw [if_neg k1] at h1
      by_cases k2 : 4503599627370496 < a + upD (x.d * 1000000) x.a
      · rw [if_pos k2, foldU_none] at h2; cases h2
      · rw [if_neg k2] at h2
        have ih := fold_use h0 r _ t _ b (c + mostOf x) (fun y hy => hl y (by simp [hy])) h1 h2
        have he := elem_use (hl x (by simp)) h0
        rw [List.foldl_cons]
        simp only [arrOf] at ih
        have e1 : w * (b - a) = w * (b - (a + upD (x.d * 1000000) x.a)) + w * upD (x.d * 1000000) x.a := by rw [← Int.mul_add]; congr 1; omega
        omega

theorem use_law {xs : List Q4} {w n u : Int} (h : ldsE xs = 0) (h0 : 0 ≤ w) (hn : sumP (xs.map (arrOf w)) = some n) (hu : sumU xs = some u) : n ≤ mostP xs + (w * u + 999999) / 1000000 := by
  have hb := (lds_parts h).2
  have := fold_use h0 xs 0 n 0 u 0 (fun x hx => by obtain ⟨k, hk⟩ := List.getElem?_of_mem hx; exact hb k x hk) hn hu
  simp only [Int.sub_zero] at this
  unfold mostP
  omega

/-! ### more -/
theorem moV_mono {x : Q4} (h : ldB x = true) {w v : Int} (h0 : 0 ≤ w) (hv : 0 ≤ v) (h1 : w + v ≤ 4503599627370496) : moV x.a x.b x.c w ≤ moV x.a x.b x.c (w + v) := by
  obtain ⟨a1, a2, a3, a4, a5, a6, a7, a8, a9⟩ := ldB_parts h
  by_cases hw : w = 0
  · subst hw
    have e : moV x.a x.b x.c 0 = 0 := by unfold moV; rw [if_neg (by omega), if_neg (by omega)]
    rw [e]
    exact (moV_bd h _).1
  · have e1 : moV x.a x.b x.c w = min (upD (w + x.b) x.a) (upD w x.c) := by unfold moV; rw [if_neg (by omega), if_pos (by omega)]
    have e2 : moV x.a x.b x.c (w + v) = min (upD (w + v + x.b) x.a) (upD (w + v) x.c) := by unfold moV; rw [if_neg (by omega), if_pos (by omega)]
    have m1 := up_mono (x := w + x.b) (y := w + v + x.b) a1 (by omega)
    have m2 := up_mono (x := w) (y := w + v) a5 (by omega)
    omega

/-- With no less of each there is no less of all. -/
theorem fold_mono {w v : Int} (h0 : 0 ≤ w) (hv : 0 ≤ v) (h1 : w + v ≤ 4503599627370496) : ∀ (l : List Q4) (s s' t : Int), (∀ x ∈ l, ldB x = true) → 0 ≤ s → s ≤ s' → s' ≤ 4503599627370496 → (l.map (arrOf (w + v))).foldl addP (some s') = some t →
    ∃ t0, (l.map (arrOf w)).foldl addP (some s) = some t0 ∧ t0 ≤ t
  | [], s, s', t, _, _, hs, _, h => by
    simp only [List.map_nil, List.foldl_nil, Option.some.injEq] at h
    exact ⟨s, rfl, by omega⟩
  | x :: r, s, s', t, hl, hs0, hs, hs1, h => by
    rw [List.map_cons, List.foldl_cons, addP_some] at h
    rw [List.map_cons, List.foldl_cons, addP_some]
    have hx := hl x (by simp)
    have hm := moV_mono hx h0 hv h1
    have hd := (ldB_parts hx).2.2.2.2.2.2.1
    have hn := (moV_bd hx (w + v)).1
    have hn0 := (moV_bd hx w).1
    by_cases k1 : 0 < (arrOf (w + v) x).2 ∧ (4503599627370496 - s') / (arrOf (w + v) x).2 < (arrOf (w + v) x).1
    · rw [if_pos k1, foldP_none] at h; cases h
    · rw [if_neg k1] at h
      simp only [arrOf] at k1 h
      have hb := addP_bd (s := s') (by omega) hs1 hn hd k1
      have hmul : moV x.a x.b x.c w * x.d ≤ moV x.a x.b x.c (w + v) * x.d := Int.mul_le_mul_of_nonneg_right hm hd
      have k2 : ¬ (0 < x.d ∧ (4503599627370496 - s) / x.d < moV x.a x.b x.c w) := by
        rintro ⟨hd1, hlt⟩
        have : (4503599627370496 - s') / x.d ≤ (4503599627370496 - s) / x.d := Int.ediv_le_ediv hd1 (by omega)
        omega
      rw [if_neg (show ¬ (0 < (arrOf w x).2 ∧ (4503599627370496 - s) / (arrOf w x).2 < (arrOf w x).1) from k2)]
      exact fold_mono h0 hv h1 r (s + moV x.a x.b x.c w * x.d) (s' + moV x.a x.b x.c (w + v) * x.d) t (fun y hy => hl y (by simp [hy])) (by have := Int.mul_nonneg hn0 hd; omega) (by omega) (by omega) h
theorem sum_mono {xs : List Q4} {w v t : Int} (h : ldsE xs = 0) (h0 : 0 ≤ w) (hv : 0 ≤ v) (h1 : w + v ≤ 4503599627370496) (ht : sumP (xs.map (arrOf (w + v))) = some t) : ∃ t0, sumP (xs.map (arrOf w)) = some t0 ∧ t0 ≤ t :=
  fold_mono h0 hv h1 xs 0 0 t (fun x hx => by obtain ⟨k, hk⟩ := List.getElem?_of_mem hx; exact (lds_parts h).2 k x hk) (by omega) (by omega) (by omega) ht

theorem list_snoc_ind {α : Type} {P : List α → Prop} (nil : P []) (snoc : ∀ (l : List α) (x : α), P l → P (l ++ [x])) (l : List α) : P l := by
  rw [← List.reverse_reverse l]
  induction l.reverse with
  | nil => exact nil
  | cons x r ih => rw [List.reverse_cons]; exact snoc _ _ ih

/-- A sum that starts later. -/
theorem fold_shift : ∀ (l : List (Int × Int)) (s : Int), (∀ x ∈ l, 0 ≤ x.1 ∧ 0 ≤ x.2) → 0 ≤ s → s ≤ 4503599627370496 →
    (∀ t, l.foldl addP (some s) = some t → ∃ t0, l.foldl addP (some 0) = some t0 ∧ t = s + t0) ∧ (∀ t0, l.foldl addP (some 0) = some t0 → s + t0 ≤ 4503599627370496 → l.foldl addP (some s) = some (s + t0)) := by
  intro l
  induction l using list_snoc_ind with
  | nil => intro s _ h0 h1; exact ⟨fun t ht => ⟨0, rfl, by simp at ht; omega⟩, fun t0 ht _ => by simp at ht; subst ht; simp⟩
  | snoc l x ih =>
    intro s hl h0 h1
    obtain ⟨i1, i2⟩ := ih s (fun y hy => hl y (by simp [hy])) h0 h1
    have hx := hl x (by simp)
    simp only [List.foldl_append, List.foldl_cons, List.foldl_nil]
    refine ⟨fun t ht => ?_, fun t0 ht hle => ?_⟩
    · cases e : l.foldl addP (some s) with
      | none => rw [e] at ht; cases ht
      | some q =>
        obtain ⟨q0, e0, rfl⟩ := i1 q e
        rw [e, addP_some] at ht
        rw [e0, addP_some]
        have hq0 := foldP_bd l 0 q0 (fun y hy => hl y (by simp [hy])) (by omega) (by omega) e0
        by_cases k : 0 < x.2 ∧ (4503599627370496 - (s + q0)) / x.2 < x.1
        · rw [if_pos k] at ht; cases ht
        · rw [if_neg k] at ht
          have k2 : ¬ (0 < x.2 ∧ (4503599627370496 - q0) / x.2 < x.1) := by
            rintro ⟨hd1, hlt⟩
            have : (4503599627370496 - (s + q0)) / x.2 ≤ (4503599627370496 - q0) / x.2 := Int.ediv_le_ediv hd1 (by omega)
            omega
          rw [if_neg k2]
          simp only [Option.some.injEq] at ht
          exact ⟨_, rfl, by omega⟩
    · cases e0 : l.foldl addP (some 0) with
      | none => rw [e0] at ht; cases ht
      | some q0 =>
        have hq0 := foldP_bd l 0 q0 (fun y hy => hl y (by simp [hy])) (by omega) (by omega) e0
        rw [e0, addP_some] at ht
        by_cases k : 0 < x.2 ∧ (4503599627370496 - q0) / x.2 < x.1
        · rw [if_pos k] at ht; cases ht
        · rw [if_neg k] at ht
          simp only [Option.some.injEq] at ht
          have hm := Int.mul_nonneg hx.1 hx.2
          have e := i2 q0 e0 (by omega)
          rw [e, addP_some]
          have k2 : ¬ (0 < x.2 ∧ (4503599627370496 - (s + q0)) / x.2 < x.1) := by
            rintro ⟨hd1, hlt⟩
            have : x.1 ≤ (4503599627370496 - (s + q0)) / x.2 := by
              rw [Int.le_ediv_iff_mul_le hd1]; omega
            omega
          rw [if_neg k2]
          congr 1
          omega
end Go.Proofs.YtfneloplbkjbhaaDoor
