/-
  The plain law of schedules, and of the stable sort.
-/
import Derived.Test.YtcchmkpodfjhcaaVk
namespace Go.Proofs.Ytcchmkpodfjhcaa
open Go.RowKit
set_option linter.unusedVariables false
/-- Pieces: how many, their priorities, when they come, what they take. -/
structure Pcs where
  n : Nat
  P : Nat → Nat
  A : Nat → Nat
  C : Nat → Nat
def bef (s : Pcs) (i j : Nat) : Prop := s.P j < s.P i ∨ (s.P i = s.P j ∧ (s.A i < s.A j ∨ (s.A i = s.A j ∧ i < j)))
instance (s : Pcs) (i j : Nat) : Decidable (bef s i j) := by unfold bef; infer_instance
theorem bef_irrefl (s : Pcs) (i : Nat) : ¬ bef s i i := by unfold bef; omega
theorem bef_trans {s : Pcs} {i j k : Nat} (h : bef s i j) (h' : bef s j k) : bef s i k := by unfold bef at *; omega
theorem bef_asymm {s : Pcs} {i j : Nat} (h : bef s i j) : ¬ bef s j i := by unfold bef at *; omega
theorem bef_total (s : Pcs) {i j : Nat} (h : i ≠ j) : bef s i j ∨ bef s j i := by unfold bef; omega
/-- The piece that goes, among the first k. -/
def pk (s : Pcs) (l : Nat → Nat) (now : Nat) : Nat → Option Nat
  | 0 => none
  | k + 1 => if now < s.A k ∨ l k = 0 then pk s l now k else match pk s l now k with
    | none => some k
    | some b => if s.P b < s.P k ∨ (s.P k = s.P b ∧ s.A k < s.A b) then some k else some b
theorem pk_spec (s : Pcs) (l : Nat → Nat) (now : Nat) : ∀ k, match pk s l now k with
    | none => ∀ j, j < k → now < s.A j ∨ l j = 0
    | some b => b < k ∧ s.A b ≤ now ∧ 0 < l b ∧ ∀ j, j < k → s.A j ≤ now → 0 < l j → j = b ∨ bef s b j
  | 0 => fun j h => absurd h (by omega)
  | k + 1 => by
    have ih := pk_spec s l now k
    unfold pk
    by_cases hc : now < s.A k ∨ l k = 0
    · rw [if_pos hc]
      cases e : pk s l now k with
      | none =>
        rw [e] at ih
        intro j hj
        by_cases hjk : j = k
        · subst hjk; exact hc
        · exact ih j (by omega)
      | some b =>
        rw [e] at ih
        obtain ⟨h1, h2, h3, h4⟩ := ih
        refine ⟨by omega, h2, h3, fun j hj ha hl => ?_⟩
        by_cases hjk : j = k
        · subst hjk; omega
        · exact h4 j (by omega) ha hl
    · rw [if_neg hc]
      cases e : pk s l now k with
      | none =>
        rw [e] at ih
        refine ⟨by omega, by omega, by omega, fun j hj ha hl => ?_⟩
        by_cases hjk : j = k
        · exact .inl hjk
        · have := ih j (by omega); omega
      | some b =>
        rw [e] at ih
        obtain ⟨h1, h2, h3, h4⟩ := ih
        by_cases hb : s.P b < s.P k ∨ (s.P k = s.P b ∧ s.A k < s.A b)
        · simp only [if_pos hb]
          refine ⟨by omega, by omega, by omega, fun j hj ha hl => ?_⟩
          by_cases hjk : j = k
          · exact .inl hjk
          · right
            rcases h4 j (by omega) ha hl with rfl | h5
            · unfold bef; omega
            · exact bef_trans (by unfold bef; omega) h5
        · simp only [if_neg hb]
          refine ⟨by omega, h2, h3, fun j hj ha hl => ?_⟩
          by_cases hjk : j = k
          · right; subst hjk; unfold bef; omega
          · exact h4 j (by omega) ha hl
theorem pk_none {s : Pcs} {l : Nat → Nat} {now k : Nat} (h : pk s l now k = none) : ∀ j, j < k → now < s.A j ∨ l j = 0 := by
  have := pk_spec s l now k
  rw [h] at this
  exact this
theorem pk_some {s : Pcs} {l : Nat → Nat} {now k b : Nat} (h : pk s l now k = some b) : b < k ∧ s.A b ≤ now ∧ 0 < l b ∧ ∀ j, j < k → s.A j ≤ now → 0 < l j → j = b ∨ bef s b j := by
  have := pk_spec s l now k
  rw [h] at this
  exact this
/-- Whoever is pending and ahead of all others is picked. -/
theorem pk_is {s : Pcs} {l : Nat → Nat} {now k b : Nat} (h1 : b < k) (h2 : s.A b ≤ now) (h3 : 0 < l b) (h4 : ∀ j, j < k → s.A j ≤ now → 0 < l j → j = b ∨ bef s b j) : pk s l now k = some b := by
  cases e : pk s l now k with
  | none => have := pk_none e b h1; omega
  | some c =>
    obtain ⟨g1, g2, g3, g4⟩ := pk_some e
    rcases h4 c g1 g2 g3 with rfl | h5
    · rfl
    · rcases g4 b h1 h2 h3 with rfl | h6
      · rfl
      · exact absurd h6 (bef_asymm h5)
theorem pk_congr {s : Pcs} {l l' : Nat → Nat} {t t' : Nat} : ∀ {k : Nat}, (∀ j, j < k → ((t < s.A j ∨ l j = 0) ↔ (t' < s.A j ∨ l' j = 0))) → pk s l t k = pk s l' t' k
  | 0, _ => rfl
  | k + 1, h => by
    unfold pk
    rw [pk_congr (k := k) fun j hj => h j (by omega)]
    by_cases hc : t < s.A k ∨ l k = 0
    · rw [if_pos hc, if_pos ((h k (by omega)).1 hc)]
    · rw [if_neg hc, if_neg (fun h' => hc ((h k (by omega)).2 h'))]
/-- The first time above now at which one of the first k comes. -/
def nxt (s : Pcs) (now : Nat) : Nat → Option Nat
  | 0 => none
  | k + 1 => match nxt s now k with
    | none => if now < s.A k then some (s.A k) else none
    | some t => if now < s.A k ∧ s.A k < t then some (s.A k) else some t
theorem nxt_spec (s : Pcs) (now : Nat) : ∀ k, match nxt s now k with
    | none => ∀ j, j < k → s.A j ≤ now
    | some t => now < t ∧ (∃ j, j < k ∧ s.A j = t) ∧ ∀ j, j < k → now < s.A j → t ≤ s.A j
  | 0 => fun j h => absurd h (by omega)
  | k + 1 => by
    have ih := nxt_spec s now k
    unfold nxt
    cases e : nxt s now k with
    | none =>
      rw [e] at ih
      by_cases hc : now < s.A k
      · simp only [if_pos hc]
        refine ⟨hc, ⟨k, by omega, rfl⟩, fun j hj ha => ?_⟩
        by_cases hjk : j = k
        · subst hjk; omega
        · have := ih j (by omega); omega
      · simp only [if_neg hc]
        intro j hj
        by_cases hjk : j = k
        · subst hjk; omega
        · exact ih j (by omega)
    | some t =>
      rw [e] at ih
      obtain ⟨h1, ⟨j0, h2, h3⟩, h4⟩ := ih
      by_cases hc : now < s.A k ∧ s.A k < t
      · simp only [if_pos hc]
        refine ⟨hc.1, ⟨k, by omega, rfl⟩, fun j hj ha => ?_⟩
        by_cases hjk : j = k
        · subst hjk; omega
        · have := h4 j (by omega) ha; omega
      · simp only [if_neg hc]
        refine ⟨h1, ⟨j0, by omega, h3⟩, fun j hj ha => ?_⟩
        by_cases hjk : j = k
        · subst hjk; omega
        · exact h4 j (by omega) ha
theorem nxt_none {s : Pcs} {now k : Nat} (h : nxt s now k = none) : ∀ j, j < k → s.A j ≤ now := by
  have := nxt_spec s now k
  rw [h] at this
  exact this
theorem nxt_some {s : Pcs} {now k t : Nat} (h : nxt s now k = some t) : now < t ∧ (∃ j, j < k ∧ s.A j = t) ∧ ∀ j, j < k → now < s.A j → t ≤ s.A j := by
  have := nxt_spec s now k
  rw [h] at this
  exact this
theorem nxt_is_none {s : Pcs} {now k : Nat} (h : ∀ j, j < k → s.A j ≤ now) : nxt s now k = none := by
  cases e : nxt s now k with
  | none => rfl
  | some t => obtain ⟨h1, ⟨j, h2, h3⟩, _⟩ := nxt_some e; have := h j h2; omega
theorem nxt_is {s : Pcs} {now k i : Nat} (h1 : now < s.A i) (h2 : i < k) (h3 : ∀ j, j < k → now < s.A j → s.A i ≤ s.A j) : nxt s now k = some (s.A i) := by
  cases e : nxt s now k with
  | none => have := nxt_none e i h2; omega
  | some t =>
    obtain ⟨g1, ⟨j, g2, g3⟩, g4⟩ := nxt_some e
    have a := g4 i h2 h1
    have b := h3 j g2 (by omega)
    congr 1; omega
def upf (l : Nat → Nat) (i v : Nat) : Nat → Nat := fun j => if j = i then v else l j
theorem upf_same (l : Nat → Nat) (i v : Nat) : upf l i v i = v := by simp [upf]
theorem upf_other (l : Nat → Nat) {i j : Nat} (v : Nat) (h : j ≠ i) : upf l i v j = l j := by simp [upf, h]
/-- The stretches in which pieces go, with one more of n cycles from now on. -/
def ext (b : List (Nat × Nat)) (now n : Nat) : List (Nat × Nat) := match b.getLast? with
  | none => [(now, now + n)]
  | some x => if x.2 = now then b.dropLast ++ [(x.1, x.2 + n)] else b ++ [(now, now + n)]
structure Sch where
  left : Nat → Nat
  done : Nat → Nat
  busy : List (Nat × Nat)
  now : Nat
def sch0 (s : Pcs) : Sch := ⟨s.C, fun _ => 0, [], 0⟩
/-- For how long a piece goes. -/
def goN (st : Sch) (i : Nat) : Option Nat → Nat
  | none => st.left i
  | some t => min (st.left i) (t - st.now)
def go (st : Sch) (i n : Nat) : Sch := ⟨upf st.left i (st.left i - n), upf st.done i (st.now + n), ext st.busy st.now n, st.now + n⟩
def rstep (s : Pcs) (st : Sch) : Option Sch := match pk s st.left st.now s.n, nxt s st.now s.n with
  | none, none => none
  | none, some t => some { st with now := t }
  | some i, o => some (go st i (goN st i o))
/-- The unit of time. -/
def U (s : Pcs) : Nat → Nat → Nat
  | 0 => s.C
  | t + 1 => match pk s (U s t) t s.n with
    | none => U s t
    | some i => upf (U s t) i (U s t i - 1)
theorem U_le (s : Pcs) (t i : Nat) : U s (t + 1) i ≤ U s t i ∧ U s t i ≤ U s (t + 1) i + 1 := by
  rw [U]
  cases e : pk s (U s t) t s.n with
  | none => simp
  | some b =>
    dsimp only
    by_cases h : i = b
    · subst h; rw [upf_same]; omega
    · rw [upf_other _ _ h]; omega
theorem U_mono (s : Pcs) (i : Nat) {t : Nat} : ∀ {m : Nat}, U s (t + m) i ≤ U s t i
  | 0 => Nat.le_refl _
  | m + 1 => Nat.le_trans (U_le s (t + m) i).1 (U_mono s i)
theorem U_mono' (s : Pcs) (i : Nat) {t t' : Nat} (h : t ≤ t') : U s t' i ≤ U s t i := by
  obtain ⟨m, rfl⟩ : ∃ m, t' = t + m := ⟨t' - t, by omega⟩
  exact U_mono s i
/-- Ahead of its time nothing of a piece is done. -/
theorem U_early (s : Pcs) (i : Nat) : ∀ {t : Nat}, t ≤ s.A i → U s t i = s.C i
  | 0, _ => rfl
  | t + 1, h => by
    rw [U]
    cases e : pk s (U s t) t s.n with
    | none => exact U_early s i (by omega)
    | some b =>
      obtain ⟨_, h2, _⟩ := pk_some e
      dsimp only
      by_cases h' : i = b
      · subst h'; omega
      · rw [upf_other _ _ h']; exact U_early s i (by omega)
theorem U_slow (s : Pcs) (i : Nat) : ∀ m, s.C i ≤ U s (s.A i + m) i + m
  | 0 => by rw [Nat.add_zero, Nat.add_zero, U_early s i (Nat.le_refl _)]; exact Nat.le_refl _
  | m + 1 => by
    have := U_slow s i m
    have := (U_le s (s.A i + m) i).2
    show _ ≤ U s (s.A i + m + 1) i + (m + 1)
    omega
/-- A piece goes alone for a while. -/
theorem U_go {s : Pcs} {t i : Nat} (hp : pk s (U s t) t s.n = some i) : ∀ {m : Nat}, m ≤ U s t i → (∀ j, j < s.n → t < s.A j → t + m ≤ s.A j) → U s (t + m) = upf (U s t) i (U s t i - m)
  | 0, _, _ => by funext j; unfold upf; split <;> simp_all
  | m + 1, hm, hn => by
    have ih := U_go hp (m := m) (by omega) (fun j hj h => by have := hn j hj h; omega)
    have hpk : pk s (U s (t + m)) (t + m) s.n = some i := by
      rw [← hp]
      refine pk_congr fun j hj => ?_
      rw [ih]
      have h1 := hn j hj
      by_cases h : j = i
      · subst h; rw [upf_same]; have := (pk_some hp).2.1; omega
      · rw [upf_other _ _ h]; omega
    rw [← Nat.add_assoc, U, hpk]
    dsimp only
    rw [ih, upf_same]
    funext j
    by_cases h : j = i
    · subst h; rw [upf_same, upf_same]; omega
    · rw [upf_other _ _ h, upf_other _ _ h, upf_other _ _ h]
theorem U_idle {s : Pcs} {t : Nat} (hp : pk s (U s t) t s.n = none) : ∀ {m : Nat}, (∀ j, j < s.n → t < s.A j → t + m ≤ s.A j) → U s (t + m) = U s t
  | 0, _ => rfl
  | m + 1, hn => by
    have ih := U_idle hp (m := m) (fun j hj h => by have := hn j hj h; omega)
    have hpk : pk s (U s (t + m)) (t + m) s.n = none := by
      rw [← hp]
      refine pk_congr fun j hj => ?_
      rw [ih]
      have h1 := hn j hj
      omega
    rw [← Nat.add_assoc, U, hpk]
    exact ih
/-- A piece is done at a time. -/
def Fin' (s : Pcs) (i T : Nat) : Prop := 0 < T ∧ U s T i = 0 ∧ 0 < U s (T - 1) i
theorem Fin'.late {s : Pcs} {i T : Nat} (h : Fin' s i T) : s.A i + s.C i ≤ T ∧ s.A i < T := by
  obtain ⟨h0, h1, h2⟩ := h
  have hA : s.A i < T := by
    by_cases h : T ≤ s.A i
    · rw [U_early s i h] at h1; rw [U_early s i (by omega)] at h2; omega
    · omega
  obtain ⟨m, rfl⟩ : ∃ m, T = s.A i + m := ⟨T - s.A i, by omega⟩
  have := U_slow s i m
  omega
theorem Fin'.uniq {s : Pcs} {i T T' : Nat} (h : Fin' s i T) (h' : Fin' s i T') : T = T' := by
  obtain ⟨a0, a1, a2⟩ := h
  obtain ⟨b0, b1, b2⟩ := h'
  rcases Nat.lt_trichotomy T T' with h | h | h
  · have := U_mono' s i (show T ≤ T' - 1 by omega); omega
  · exact h
  · have := U_mono' s i (show T' ≤ T - 1 by omega); omega
end Go.Proofs.Ytcchmkpodfjhcaa
namespace Go.Proofs.Ytcchmkpodfjhcaa
open Go.RowKit
set_option linter.unusedVariables false
/-- The sum over the first k. -/
def sm (f : Nat → Nat) : Nat → Nat
  | 0 => 0
  | k + 1 => sm f k + f k
theorem sm_congr {f g : Nat → Nat} : ∀ {k : Nat}, (∀ j, j < k → f j = g j) → sm f k = sm g k
  | 0, _ => rfl
  | k + 1, h => by rw [sm, sm, sm_congr fun j hj => h j (by omega), h k (by omega)]
theorem sm_le {f g : Nat → Nat} : ∀ {k : Nat}, (∀ j, j < k → f j ≤ g j) → sm f k ≤ sm g k
  | 0, _ => Nat.le_refl _
  | k + 1, h => by
    have a := sm_le (k := k) fun j hj => h j (by omega)
    have b := h k (by omega)
    rw [sm, sm]; omega
theorem sm_add (f g : Nat → Nat) : ∀ k, sm (fun j => f j + g j) k = sm f k + sm g k
  | 0 => rfl
  | k + 1 => by rw [sm, sm, sm, sm_add]; omega
theorem sm_zero {f : Nat → Nat} {k : Nat} (h : ∀ j, j < k → f j = 0) : sm f k = 0 := by
  induction k with
  | zero => rfl
  | succ k ih => rw [sm, ih fun j hj => h j (by omega), h k (by omega)]
theorem sm_zero_at {f : Nat → Nat} : ∀ {k : Nat}, sm f k = 0 → ∀ j, j < k → f j = 0
  | 0, _, j, h => absurd h (by omega)
  | k + 1, h, j, hj => by
    rw [sm] at h
    by_cases e : j = k
    · subst e; omega
    · exact sm_zero_at (k := k) (by omega) j (by omega)
/-- One summand is less by d. -/
theorem sm_one {f g : Nat → Nat} {i d : Nat} : ∀ {k : Nat}, i < k → f i = g i + d → (∀ j, j < k → j ≠ i → f j = g j) → sm f k = sm g k + d
  | 0, h, _, _ => absurd h (by omega)
  | k + 1, h, h1, h2 => by
    rw [sm, sm]
    by_cases e : i = k
    · subst e
      rw [sm_congr (f := f) (g := g) fun j hj => h2 j (by omega) (by omega), h1]; omega
    · rw [sm_one (k := k) (by omega) h1 fun j hj hne => h2 j (by omega) hne, h2 k (by omega) (fun e' => e e'.symm)]; omega
/-- What comes at a time, of those in H. -/
def arr (s : Pcs) (H : Nat → Bool) (t : Nat) : Nat := sm (fun j => if H j = true ∧ s.A j = t then s.C j else 0) s.n
/-- What is pending, of what came ahead of a time. -/
def pend (s : Pcs) (H : Nat → Bool) (t : Nat) : Nat := sm (fun j => if H j = true ∧ s.A j < t then U s t j else 0) s.n
def vol (a : Nat → Nat) : Nat → Nat
  | 0 => 0
  | t + 1 => vol a t + a t - 1
theorem vol_le {a b : Nat → Nat} (h : ∀ t, a t ≤ b t) : ∀ t, vol a t ≤ vol b t
  | 0 => Nat.le_refl _
  | t + 1 => by
    have := vol_le h t
    have := h t
    rw [vol, vol]; omega
def upc (s : Pcs) (H : Nat → Bool) : Prop := ∀ i j, i < s.n → j < s.n → H j = true → bef s i j → H i = true
theorem pend_now (s : Pcs) (H : Nat → Bool) (t : Nat) : sm (fun j => if H j = true ∧ s.A j ≤ t then U s t j else 0) s.n = pend s H t + arr s H t := by
  unfold pend arr
  rw [← sm_add]
  refine sm_congr fun j hj => ?_
  by_cases h : H j = true
  · by_cases h1 : s.A j < t
    · rw [if_pos ⟨h, by omega⟩, if_pos ⟨h, h1⟩, if_neg (by omega)]; rfl
    · by_cases h2 : s.A j = t
      · rw [if_pos ⟨h, by omega⟩, if_neg (by omega), if_pos ⟨h, h2⟩, U_early s j (by omega)]; omega
      · rw [if_neg (by omega), if_neg (by omega), if_neg (by omega)]
  · rw [if_neg (fun x => h x.1), if_neg (fun x => h x.1), if_neg (fun x => h x.1)]
theorem pend_vol {s : Pcs} {H : Nat → Bool} (hu : upc s H) : ∀ t, pend s H t = vol (arr s H) t
  | 0 => by
    unfold pend vol
    exact sm_zero fun j hj => by rw [if_neg (by omega)]
  | t + 1 => by
    rw [vol, ← pend_vol hu t, ← pend_now]
    unfold pend
    rw [sm_congr (f := fun j => if H j = true ∧ s.A j < t + 1 then U s (t + 1) j else 0) (g := fun j => if H j = true ∧ s.A j ≤ t then U s (t + 1) j else 0) fun j hj => by
      by_cases h : H j = true ∧ s.A j ≤ t
      · rw [if_pos h, if_pos ⟨h.1, by omega⟩]
      · rw [if_neg h, if_neg (fun x => h ⟨x.1, by omega⟩)]]
    rw [U]
    cases e : pk s (U s t) t s.n with
    | none =>
      have hz : sm (fun j => if H j = true ∧ s.A j ≤ t then U s t j else 0) s.n = 0 := sm_zero fun j hj => by
        have := pk_none e j hj
        by_cases h : H j = true ∧ s.A j ≤ t
        · rw [if_pos h]; omega
        · rw [if_neg h]
      show sm (fun j => if H j = true ∧ s.A j ≤ t then U s t j else 0) s.n = _
      rw [hz]
    | some i =>
      obtain ⟨h1, h2, h3, h4⟩ := pk_some e
      dsimp only
      by_cases hi : H i = true
      · have := sm_one (f := fun j => if H j = true ∧ s.A j ≤ t then U s t j else 0) (g := fun j => if H j = true ∧ s.A j ≤ t then upf (U s t) i (U s t i - 1) j else 0) (i := i) (d := 1) h1
          (by rw [if_pos ⟨hi, h2⟩, if_pos ⟨hi, h2⟩, upf_same]; omega)
          (fun j hj hne => by rw [upf_other _ _ hne])
        omega
      · have hz : ∀ j, j < s.n → (if H j = true ∧ s.A j ≤ t then U s t j else 0) = 0 := fun j hj => by
          by_cases h : H j = true ∧ s.A j ≤ t
          · rw [if_pos h]
            refine Nat.eq_zero_of_not_pos fun hp => ?_
            rcases h4 j hj h.2 hp with rfl | h5
            · exact hi h.1
            · exact hi (hu i j h1 hj h.1 h5)
          · rw [if_neg h]
        rw [sm_zero hz]
        have : sm (fun j => if H j = true ∧ s.A j ≤ t then upf (U s t) i (U s t i - 1) j else 0) s.n = 0 := sm_zero fun j hj => by
          by_cases h : H j = true ∧ s.A j ≤ t
          · rw [if_pos h]
            have hne : j ≠ i := fun x => hi (x ▸ h.1)
            have := hz j hj
            rw [if_pos h] at this
            rw [upf_other _ _ hne, this]
          · rw [if_neg h]
        rw [this]
/-- Those that are at least as urgent as a piece. -/
def Hof (s : Pcs) (i : Nat) (j : Nat) : Bool := decide (j = i ∨ bef s j i)
theorem Hof_upc (s : Pcs) (i : Nat) : upc s (Hof s i) := fun a b ha hb h hab => by
  unfold Hof at *
  rw [decide_eq_true_eq] at *
  right
  rcases h with rfl | h
  · exact hab
  · exact bef_trans hab h
/-- When a piece is done nothing that is as urgent is pending. -/
theorem Fin'.vol {s : Pcs} {i T : Nat} (hi : i < s.n) (h : Fin' s i T) : vol (arr s (Hof s i)) T = 0 := by
  rw [← pend_vol (Hof_upc s i)]
  obtain ⟨h0, h1, h2⟩ := h
  obtain ⟨t, rfl⟩ : ∃ t, T = t + 1 := ⟨T - 1, by omega⟩
  rw [Nat.add_sub_cancel] at h2
  have hp : pk s (U s t) t s.n = some i := by
    rw [U] at h1
    cases e : pk s (U s t) t s.n with
    | none => rw [e] at h1; dsimp only at h1; omega
    | some b =>
      rw [e] at h1
      dsimp only at h1
      by_cases hb : i = b
      · rw [hb]
      · rw [upf_other _ _ hb] at h1; omega
  obtain ⟨g1, g2, g3, g4⟩ := pk_some hp
  unfold pend
  refine sm_zero fun j hj => ?_
  by_cases hH : Hof s i j = true ∧ s.A j < t + 1
  · rw [if_pos hH]
    by_cases hji : j = i
    · rw [hji]; exact h1
    · have hb : bef s j i := by
        have := hH.1
        unfold Hof at this
        rw [decide_eq_true_eq] at this
        rcases this with h | h
        · exact absurd h hji
        · exact h
      refine Nat.eq_zero_of_not_pos fun hp => ?_
      have hp' : 0 < U s t j := Nat.lt_of_lt_of_le hp (U_le s t j).1
      rcases g4 j hj (by omega) hp' with h | h
      · exact hji h
      · exact bef_asymm hb h
  · rw [if_neg hH]
/-- Where nothing that is as urgent is pending, a piece that came is done. -/
theorem Fin'.least {s : Pcs} {i T t : Nat} (hi : i < s.n) (h : Fin' s i T) (ht : s.A i < t) (hv : Go.Proofs.Ytcchmkpodfjhcaa.vol (arr s (Hof s i)) t = 0) : T ≤ t := by
  rw [← pend_vol (Hof_upc s i)] at hv
  have := sm_zero_at hv i hi
  rw [if_pos ⟨by simp [Hof], ht⟩] at this
  by_cases hlt : T ≤ t
  · exact hlt
  · have a := h.2.2
    have b := U_mono' s i (show t ≤ T - 1 by omega)
    omega
/-- With no less that is as urgent no piece is done sooner. -/
theorem fin_le {s s' : Pcs} {i i' T T' : Nat} (hi : i < s.n) (hi' : i' < s'.n) (h : Fin' s i T) (h' : Fin' s' i' T') (hA : s.A i = s'.A i') (ha : ∀ t, arr s (Hof s i) t ≤ arr s' (Hof s' i') t) : T ≤ T' := by
  refine h.least hi (by have := h'.late; omega) ?_
  have a := vol_le ha T'
  have b := h'.vol hi'
  omega
theorem fin_eq {s s' : Pcs} {i i' T T' : Nat} (hi : i < s.n) (hi' : i' < s'.n) (h : Fin' s i T) (h' : Fin' s' i' T') (hA : s.A i = s'.A i') (ha : ∀ t, arr s (Hof s i) t = arr s' (Hof s' i') t) : T = T' :=
  Nat.le_antisymm (fin_le hi hi' h h' hA fun t => Nat.le_of_eq (ha t)) (fin_le hi' hi h' h hA.symm fun t => Nat.le_of_eq (ha t).symm)
/-- A part of the pieces, in their order: numbers that rise. -/
structure Sub (s s' : Pcs) (f : Nat → Nat) : Prop where
  inc : ∀ a b, a < s.n → b < s.n → a < b → f a < f b
  lt : ∀ a, a < s.n → f a < s'.n
  P : ∀ a, a < s.n → s.P a = s'.P (f a)
  A : ∀ a, a < s.n → s.A a = s'.A (f a)
  C : ∀ a, a < s.n → s.C a ≤ s'.C (f a)
theorem Sub.inj {s s' : Pcs} {f : Nat → Nat} (h : Sub s s' f) {a b : Nat} (ha : a < s.n) (hb : b < s.n) (e : f a = f b) : a = b := by
  rcases Nat.lt_trichotomy a b with g | g | g
  · have := h.inc a b ha hb g; omega
  · exact g
  · have := h.inc b a hb ha g; omega
theorem Sub.bef {s s' : Pcs} {f : Nat → Nat} (h : Sub s s' f) {a b : Nat} (ha : a < s.n) (hb : b < s.n) : Go.Proofs.Ytcchmkpodfjhcaa.bef s a b ↔ Go.Proofs.Ytcchmkpodfjhcaa.bef s' (f a) (f b) := by
  unfold Go.Proofs.Ytcchmkpodfjhcaa.bef
  rw [h.P a ha, h.P b hb, h.A a ha, h.A b hb]
  have : a < b ↔ f a < f b := by
    constructor
    · exact h.inc a b ha hb
    · intro g
      rcases Nat.lt_trichotomy a b with g' | g' | g'
      · exact g'
      · subst g'; omega
      · have := h.inc b a hb ha g'; omega
  omega
/-- A sum over a part is no more. -/
theorem sm_sub {f : Nat → Nat} {x y : Nat → Nat} {N : Nat} : ∀ {n : Nat}, (∀ a b, a < n → b < n → a < b → f a < f b) → (∀ a, a < n → f a < N) → (∀ a, a < n → x a ≤ y (f a)) → sm x n ≤ sm y N := by
  intro n
  induction n generalizing N with
  | zero => intro _ _ _; exact Nat.zero_le _
  | succ n ih =>
    intro hi hl hx
    have hl' := hl n (by omega)
    have a : sm x n ≤ sm y (f n) := ih (fun a b ha hb h => hi a b (by omega) (by omega) h) (fun a ha => hi a n (by omega) (by omega) ha) (fun a ha => hx a (by omega))
    have b := hx n (by omega)
    have c : ∀ k, f n < k → sm y (f n) + y (f n) ≤ sm y k := fun k => by
      induction k with
      | zero => intro h; omega
      | succ k ihk =>
        intro h
        rw [sm]
        by_cases e : f n = k
        · rw [e]; exact Nat.le_refl _
        · have := ihk (by omega); omega
    have d := c N hl'
    rw [sm]; omega
theorem Sub.fin {s s' : Pcs} {f : Nat → Nat} (h : Sub s s' f) {i T T' : Nat} (hi : i < s.n) (h1 : Fin' s i T) (h2 : Fin' s' (f i) T') : T ≤ T' := by
  refine fin_le hi (h.lt i hi) h1 h2 (h.A i hi) fun t => ?_
  refine sm_sub (f := f) h.inc h.lt fun a ha => ?_
  by_cases hc : Hof s i a = true ∧ s.A a = t
  · rw [if_pos hc, if_pos ?_]
    · exact h.C a ha
    · refine ⟨?_, by rw [← h.A a ha]; exact hc.2⟩
      have := hc.1
      unfold Hof at *
      rw [decide_eq_true_eq] at *
      rcases this with rfl | g
      · exact .inl rfl
      · exact .inr ((h.bef ha hi).1 g)
  · rw [if_neg hc]; exact Nat.zero_le _
/-- A part that holds all that is as urgent changes nothing. -/
theorem Sub.fin_eq {s s' : Pcs} {f : Nat → Nat} (h : Sub s s' f) (hC : ∀ a, a < s.n → s.C a = s'.C (f a)) {i T T' : Nat} (hi : i < s.n) (h1 : Fin' s i T) (h2 : Fin' s' (f i) T') (hon : ∀ j, j < s'.n → Hof s' (f i) j = true → ∃ a, a < s.n ∧ f a = j) : T = T' := by
  refine Nat.le_antisymm (h.fin hi h1 h2) ?_
  refine fin_le (h.lt i hi) hi h2 h1 (h.A i hi).symm fun t => ?_
  unfold arr
  -- both sums are one
  have key : ∀ n N, (∀ a b, a < n → b < n → a < b → f a < f b) → (∀ a, a < n → f a < N) → n ≤ s.n → ∀ y x : Nat → Nat, (∀ a, a < n → y (f a) ≤ x a) → (∀ j, j < N → (∀ a, a < n → f a ≠ j) → y j = 0) → sm y N ≤ sm x n := by
    intro n
    induction n with
    | zero =>
      intro N _ _ _ y x _ h0
      rw [sm_zero fun j hj => h0 j hj fun a ha => absurd ha (by omega)]
      exact Nat.zero_le _
    | succ n ih =>
      intro N hinc hlt hn y x hyx h0
      have hl' := hlt n (by omega)
      have a := ih (f n) (fun a b ha hb h => hinc a b (by omega) (by omega) h) (fun a ha => hinc a n (by omega) (by omega) ha) (by omega) y x (fun a ha => hyx a (by omega)) (fun j hj hne => h0 j (by omega) fun a ha => by
        by_cases e : a = n
        · subst e; omega
        · exact hne a (by omega))
      have b := hyx n (by omega)
      have c : ∀ k, f n < k → k ≤ N → sm y k = sm y (f n) + y (f n) := fun k => by
        induction k with
        | zero => intro h; omega
        | succ k ihk =>
          intro h1 h2
          rw [sm]
          by_cases e : f n = k
          · rw [e]
          · rw [ihk (by omega) (by omega), h0 k (by omega) fun a ha => by
              by_cases e' : a = n
              · subst e'; exact e
              · have := hinc a n (by omega) (by omega) (by omega); omega]
            rfl
      rw [c N hl' (Nat.le_refl _), sm]
      omega
  refine key s.n s'.n h.inc h.lt (Nat.le_refl _) _ _ (fun a ha => ?_) (fun j hj hne => ?_)
  · by_cases hc : Hof s' (f i) (f a) = true ∧ s'.A (f a) = t
    · rw [if_pos hc, if_pos ?_]
      · exact Nat.le_of_eq (hC a ha).symm
      · refine ⟨?_, by rw [h.A a ha]; exact hc.2⟩
        have := hc.1
        unfold Hof at *
        rw [decide_eq_true_eq] at *
        rcases this with g | g
        · exact .inl (h.inj ha hi g)
        · exact .inr ((h.bef ha hi).2 g)
    · rw [if_neg hc]; exact Nat.zero_le _
  · rw [if_neg]
    rintro ⟨h3, _⟩
    obtain ⟨a, ha, e⟩ := hon j hj h3
    exact hne a ha e
end Go.Proofs.Ytcchmkpodfjhcaa
namespace Go.Proofs.Ytcchmkpodfjhcaa
open Go.RowKit
set_option linter.unusedVariables false
theorem ext_nil (now n : Nat) : ext [] now n = [(now, now + n)] := rfl
theorem ext_same (b : List (Nat × Nat)) (f t n : Nat) : ext (b ++ [(f, t)]) t n = b ++ [(f, t + n)] := by
  simp [ext]
theorem ext_new (b : List (Nat × Nat)) (f t now n : Nat) (h : t ≠ now) : ext (b ++ [(f, t)]) now n = b ++ [(f, t)] ++ [(now, now + n)] := by
  simp [ext, h]
/-- How long stretches are together. -/
def lenB (b : List (Nat × Nat)) : Nat := (b.map fun x => x.2 - x.1).sum
theorem lenB_snoc (b : List (Nat × Nat)) (x : Nat × Nat) : lenB (b ++ [x]) = lenB b + (x.2 - x.1) := by
  simp [lenB]
/-- Stretches, one behind the other. -/
def okB (e : Int) : List (Nat × Nat) → Prop
  | [] => True
  | x :: r => e < (x.1 : Int) ∧ x.1 < x.2 ∧ okB (x.2 : Int) r
def endB (e : Int) : List (Nat × Nat) → Int
  | [] => e
  | x :: r => endB (x.2 : Int) r
theorem endB_snoc : ∀ (b : List (Nat × Nat)) (e : Int) (x : Nat × Nat), endB e (b ++ [x]) = (x.2 : Int)
  | [], _, _ => rfl
  | y :: r, e, x => endB_snoc r _ x
theorem okB_snoc : ∀ (b : List (Nat × Nat)) (e : Int) (x : Nat × Nat), okB e (b ++ [x]) ↔ okB e b ∧ endB e b < (x.1 : Int) ∧ x.1 < x.2
  | [], e, x => by simp [okB, endB]
  | y :: r, e, x => by
    show (e < (y.1 : Int) ∧ y.1 < y.2 ∧ okB (y.2 : Int) (r ++ [x])) ↔ (e < (y.1 : Int) ∧ y.1 < y.2 ∧ okB (y.2 : Int) r) ∧ endB (y.2 : Int) r < (x.1 : Int) ∧ x.1 < x.2
    rw [okB_snoc r]
    constructor
    · rintro ⟨h1, h2, h3, h4⟩; exact ⟨⟨h1, h2, h3⟩, h4⟩
    · rintro ⟨⟨h1, h2, h3⟩, h4⟩; exact ⟨h1, h2, h3, h4⟩
/-- What of a piece was done. -/
def used (s : Pcs) (l : Nat → Nat) (i : Nat) : Nat := s.C i - l i
/-- The last stretch ends when the last piece went. -/
def endsOk (s : Pcs) (st : Sch) : Prop :=
  (st.busy = [] ∧ ∀ i, i < s.n → st.left i = s.C i) ∨
  (∃ b f t, st.busy = b ++ [(f, t)] ∧ t ≤ st.now ∧ (∀ i, i < s.n → st.left i < s.C i → st.done i ≤ t) ∧ ∃ i, i < s.n ∧ st.left i < s.C i ∧ st.done i = t)
structure SI (s : Pcs) (M : Nat) (st : Sch) : Prop where
  U : st.left = U s st.now
  fin : ∀ i, i < s.n → st.left i = 0 → Fin' s i (st.done i)
  sum : lenB st.busy = sm (used s st.left) s.n
  ok : okB (-1) st.busy
  ends : endsOk s st
  now : st.now ≤ M + sm (used s st.left) s.n
theorem SI.le {s : Pcs} {M : Nat} {st : Sch} (h : SI s M st) (i : Nat) : st.left i ≤ s.C i := by
  rw [h.U]; exact U_mono' s i (Nat.zero_le _)
theorem SI.first {s : Pcs} (hC : ∀ i, i < s.n → 0 < s.C i) (M : Nat) : SI s M (sch0 s) := by
  refine ⟨rfl, fun i hi h => ?_, ?_, trivial, .inl ⟨rfl, fun _ _ => rfl⟩, Nat.zero_le _⟩
  · have : s.C i = 0 := h
    have := hC i hi
    omega
  · show 0 = _
    rw [sm_zero fun j hj => ?_]
    show s.C j - s.C j = 0
    omega
theorem goN_le {s : Pcs} {st : Sch} {i : Nat} : ∀ o, nxt s st.now s.n = o → 0 < st.left i → 0 < goN st i o ∧ goN st i o ≤ st.left i ∧ ∀ j, j < s.n → st.now < s.A j → st.now + goN st i o ≤ s.A j
  | none, h, h0 => ⟨h0, Nat.le_refl _, fun j hj ha => by have := nxt_none h j hj; omega⟩
  | some t, h, h0 => by
    obtain ⟨h1, _, h3⟩ := nxt_some h
    show 0 < min (st.left i) (t - st.now) ∧ min (st.left i) (t - st.now) ≤ st.left i ∧ ∀ j, j < s.n → st.now < s.A j → st.now + min (st.left i) (t - st.now) ≤ s.A j
    exact ⟨by omega, by omega, fun j hj ha => by have := h3 j hj ha; omega⟩
/-- A piece goes for n cycles. -/
theorem SI.go {s : Pcs} {M : Nat} {st : Sch} (h : SI s M st) {i n : Nat} (hp : pk s st.left st.now s.n = some i) (h0 : 0 < n) (hn : n ≤ st.left i) (hf : ∀ j, j < s.n → st.now < s.A j → st.now + n ≤ s.A j) : SI s M (go st i n) := by
  obtain ⟨g1, g2, g3, g4⟩ := pk_some hp
  have hle := h.le
  have hU := h.U
  have hp' := hp
  rw [hU] at hp' hn
  have hu : sm (used s (upf st.left i (st.left i - n))) s.n = sm (used s st.left) s.n + n := by
    refine sm_one g1 ?_ fun j hj hne => ?_
    · unfold used; rw [upf_same]; have := hle i; rw [← hU] at hn; omega
    · unfold used; rw [upf_other _ _ hne]
  refine ⟨?_, fun j hj hz => ?_, ?_, ?_, ?_, ?_⟩
  · show upf st.left i (st.left i - n) = _
    rw [hU]
    exact (U_go hp' hn hf).symm
  · show Fin' s j (upf st.done i (st.now + n) j)
    have hz' : upf st.left i (st.left i - n) j = 0 := hz
    by_cases e : j = i
    · subst e
      rw [upf_same] at hz' ⊢
      refine ⟨by omega, ?_, ?_⟩
      · rw [U_go hp' hn hf, upf_same, ← hU]; exact hz'
      · rw [show st.now + n - 1 = st.now + (n - 1) by omega, U_go hp' (by omega) (fun k hk ha => by have := hf k hk ha; omega), upf_same]; omega
    · rw [upf_other _ _ e] at hz' ⊢
      exact h.fin j hj hz'
  · show lenB (ext st.busy st.now n) = sm (used s (upf st.left i (st.left i - n))) s.n
    rw [hu, ← h.sum]
    rcases h.ends with ⟨hb, _⟩ | ⟨b, f, t, hb, ht, _⟩
    · rw [hb, ext_nil]; simp [lenB]
    · by_cases e : t = st.now
      · have hok := h.ok
        rw [hb, okB_snoc] at hok
        rw [hb, ← e, ext_same, lenB_snoc, lenB_snoc]
        have := hok.2.2
        dsimp only at this ⊢
        omega
      · rw [hb, ext_new _ _ _ _ _ e, lenB_snoc]
        dsimp only
        omega
  · show okB (-1) (ext st.busy st.now n)
    have hok := h.ok
    rcases h.ends with ⟨hb, _⟩ | ⟨b, f, t, hb, ht, _⟩
    · rw [hb, ext_nil]
      exact ⟨by omega, by dsimp only; omega, trivial⟩
    · rw [hb] at hok ⊢
      by_cases e : t = st.now
      · rw [okB_snoc] at hok
        rw [← e, ext_same, okB_snoc]
        exact ⟨hok.1, hok.2.1, by have := hok.2.2; dsimp only at this ⊢; omega⟩
      · rw [ext_new _ _ _ _ _ e, okB_snoc, endB_snoc]
        exact ⟨hok, by dsimp only; omega, by dsimp only; omega⟩
  · right
    have hlast : ∃ b f, ext st.busy st.now n = b ++ [(f, st.now + n)] := by
      rcases h.ends with ⟨hb, _⟩ | ⟨b, f, t, hb, ht, _⟩
      · rw [hb, ext_nil]; exact ⟨[], _, rfl⟩
      · by_cases e : t = st.now
        · rw [hb, ← e, ext_same]; exact ⟨_, _, rfl⟩
        · rw [hb, ext_new _ _ _ _ _ e]; exact ⟨_, _, rfl⟩
    obtain ⟨b, f, hb⟩ := hlast
    refine ⟨b, f, st.now + n, hb, Nat.le_refl _, fun j hj hl => ?_, i, g1, ?_, ?_⟩
    · show upf st.done i (st.now + n) j ≤ _
      have hl' : upf st.left i (st.left i - n) j < s.C j := hl
      by_cases e : j = i
      · subst e; rw [upf_same]; exact Nat.le_refl _
      · rw [upf_other _ _ e] at hl' ⊢
        rcases h.ends with ⟨_, h2⟩ | ⟨b, f, t, _, ht, h2, _⟩
        · have := h2 j hj; omega
        · have := h2 j hj hl'; omega
    · show upf st.left i (st.left i - n) i < s.C i
      rw [upf_same]; have := hle i; rw [← hU] at hn; omega
    · show upf st.done i (st.now + n) i = _
      rw [upf_same]
  · show st.now + n ≤ M + sm (used s (upf st.left i (st.left i - n))) s.n
    have := h.now
    omega
/-- Nothing goes up to a time. -/
theorem SI.idle {s : Pcs} {M : Nat} {st : Sch} (h : SI s M st) {t : Nat} (hp : pk s st.left st.now s.n = none) (hn : nxt s st.now s.n = some t) (hM : ∀ j, j < s.n → s.A j ≤ M) : SI s M { st with now := t } := by
  obtain ⟨h1, ⟨j, h2, h3⟩, h4⟩ := nxt_some hn
  have hp' := hp
  rw [h.U] at hp'
  obtain ⟨m, rfl⟩ : ∃ m, t = st.now + m := ⟨t - st.now, by omega⟩
  refine ⟨?_, h.fin, h.sum, h.ok, ?_, ?_⟩
  · rw [h.U]
    exact (U_idle hp' h4).symm
  · rcases h.ends with h5 | ⟨b, f, t, hb, ht, h6⟩
    · exact .inl h5
    · exact .inr ⟨b, f, t, hb, Nat.le_trans ht (Nat.le_add_right _ _), h6⟩
  · have := hM j h2
    show st.now + m ≤ _
    omega
theorem SI.step {s : Pcs} {M : Nat} {st st' : Sch} (h : SI s M st) (hM : ∀ j, j < s.n → s.A j ≤ M) (e : rstep s st = some st') : SI s M st' ∧ st.now < st'.now := by
  unfold rstep at e
  cases hp : pk s st.left st.now s.n with
  | none =>
    cases hn : nxt s st.now s.n with
    | none => rw [hp, hn] at e; cases e
    | some t =>
      rw [hp, hn] at e
      cases e
      exact ⟨h.idle hp hn hM, (nxt_some hn).1⟩
  | some i =>
    rw [hp] at e
    have e' : some (Go.Proofs.Ytcchmkpodfjhcaa.go st i (goN st i (nxt s st.now s.n))) = some st' := by
      cases hn : nxt s st.now s.n <;> rw [hn] at e <;> exact e
    cases e'
    obtain ⟨a, b, c⟩ := goN_le (s := s) (st := st) (i := i) _ rfl (pk_some hp).2.2.1
    exact ⟨h.go hp a b c, by show st.now < st.now + _; omega⟩
/-- From one state to another one. -/
inductive Goes (s : Pcs) : Sch → Sch → Prop
  | refl (a : Sch) : Goes s a a
  | step {a b c : Sch} : Goes s a b → rstep s b = some c → Goes s a c
theorem Goes.si {s : Pcs} {M : Nat} {a b : Sch} (h : Goes s a b) (hM : ∀ j, j < s.n → s.A j ≤ M) (ha : SI s M a) : SI s M b := by
  induction h with
  | refl => exact ha
  | step _ e ih => exact (ih.step hM e).1
theorem Goes.lin {s : Pcs} {a b c : Sch} (h : Goes s a b) (h' : Goes s a c) : Goes s b c ∨ Goes s c b := by
  induction h with
  | refl => exact .inl h'
  | step g e ih =>
    rename_i b' b
    rcases ih with h | h
    · -- b' goes to c
      have : c = b' ∨ Goes s b c := by
        clear h' g
        induction h with
        | refl => exact .inl rfl
        | step g' e' ih' =>
          rcases ih' with rfl | h
          · rw [e] at e'; cases e'; exact .inr (.refl _)
          · exact .inr (.step h e')
      rcases this with rfl | h
      · exact .inr (.step (.refl _) e)
      · exact .inl h
    · exact .inr (.step h e)
theorem Goes.stuck {s : Pcs} {a b : Sch} (h : Goes s a b) (e : rstep s a = none) : b = a := by
  induction h with
  | refl => rfl
  | step g e' ih => rw [ih, e] at e'; cases e'
/-- The end is one. -/
theorem Goes.end {s : Pcs} {a b c : Sch} (h : Goes s a b) (h' : Goes s a c) (eb : rstep s b = none) (ec : rstep s c = none) : b = c := by
  rcases h.lin h' with g | g
  · exact (g.stuck eb).symm
  · exact g.stuck ec
/-- At the end all is done. -/
structure Ended (s : Pcs) (st : Sch) : Prop where
  left : ∀ i, i < s.n → st.left i = 0
  fin : ∀ i, i < s.n → Fin' s i (st.done i)
  sum : lenB st.busy = sm s.C s.n
  ok : okB (-1) st.busy
  ends : (st.busy = [] ∧ s.n = 0) ∨ (∃ b f t, st.busy = b ++ [(f, t)] ∧ (∀ i, i < s.n → st.done i ≤ t) ∧ ∃ i, i < s.n ∧ st.done i = t)
theorem SI.ended {s : Pcs} {M : Nat} {st : Sch} (hC : ∀ i, i < s.n → 0 < s.C i) (h : SI s M st) (e : rstep s st = none) : Ended s st := by
  have hz : ∀ i, i < s.n → st.left i = 0 := by
    unfold rstep at e
    cases hp : pk s st.left st.now s.n with
    | some i => rw [hp] at e; cases hn : nxt s st.now s.n <;> rw [hn] at e <;> cases e
    | none =>
      cases hn : nxt s st.now s.n with
      | some t => rw [hp, hn] at e; cases e
      | none =>
        intro i hi
        have a := pk_none hp i hi
        have b := nxt_none hn i hi
        omega
  refine ⟨hz, fun i hi => h.fin i hi (hz i hi), ?_, h.ok, ?_⟩
  · rw [h.sum]
    exact sm_congr fun j hj => by unfold used; rw [hz j hj]; omega
  · rcases h.ends with ⟨h1, h2⟩ | ⟨b, f, t, h1, _, h2, i, h3, h4, h5⟩
    · left
      refine ⟨h1, Nat.eq_zero_of_not_pos fun hp => ?_⟩
      have := h2 0 hp
      have := hz 0 hp
      have := hC 0 hp
      omega
    · exact .inr ⟨b, f, t, h1, fun j hj => h2 j hj (by have := hz j hj; have := hC j hj; omega), i, h3, h5⟩
end Go.Proofs.Ytcchmkpodfjhcaa
namespace Go.Proofs.Ytcchmkpodfjhcaa
open Go.RowKit
set_option linter.unusedVariables false
def ltA (A : Nat → Nat) (x y : Nat) : Prop := A x < A y ∨ (A x = A y ∧ x < y)
theorem ltA_trans {A : Nat → Nat} {x y z : Nat} (h : ltA A x y) (h' : ltA A y z) : ltA A x z := by unfold ltA at *; omega
theorem ltA_irrefl {A : Nat → Nat} {x : Nat} : ¬ ltA A x x := by unfold ltA; omega
def srt (A : Nat → Nat) (D : Nat → Nat) (a b : Nat) : Prop := ∀ i j, a ≤ i → i < j → j < b → ltA A (D i) (D j)
def crs (D : Nat → Nat) (a m b : Nat) : Prop := ∀ i j, a ≤ i → i < m → m ≤ j → j < b → D i < D j
/-- The numbers in a stretch are the same. -/
structure Sam (D D' : Nat → Nat) (a b : Nat) : Prop where
  out : ∀ i, ¬ (a ≤ i ∧ i < b) → D' i = D i
  to : ∀ i, a ≤ i → i < b → ∃ j, a ≤ j ∧ j < b ∧ D' i = D j
  of : ∀ j, a ≤ j → j < b → ∃ i, a ≤ i ∧ i < b ∧ D' i = D j
theorem Sam.refl (D : Nat → Nat) (a b : Nat) : Sam D D a b := ⟨fun _ _ => rfl, fun i h h' => ⟨i, h, h', rfl⟩, fun i h h' => ⟨i, h, h', rfl⟩⟩
theorem Sam.trans {D D' D'' : Nat → Nat} {a b : Nat} (h : Sam D D' a b) (h' : Sam D' D'' a b) : Sam D D'' a b := by
  refine ⟨fun i hi => (h'.out i hi).trans (h.out i hi), fun i h1 h2 => ?_, fun j h1 h2 => ?_⟩
  · obtain ⟨j, g1, g2, g3⟩ := h'.to i h1 h2
    obtain ⟨k, f1, f2, f3⟩ := h.to j g1 g2
    exact ⟨k, f1, f2, g3.trans f3⟩
  · obtain ⟨k, f1, f2, f3⟩ := h.of j h1 h2
    obtain ⟨i, g1, g2, g3⟩ := h'.of k f1 f2
    exact ⟨i, g1, g2, g3.trans f3⟩
/-- A part of a stretch. -/
theorem Sam.wide {D D' : Nat → Nat} {a b a' b' : Nat} (h : Sam D D' a b) (ha : a' ≤ a) (hb : b ≤ b') : Sam D D' a' b' := by
  refine ⟨fun i hi => h.out i (by omega), fun i h1 h2 => ?_, fun j h1 h2 => ?_⟩
  · by_cases hi : a ≤ i ∧ i < b
    · obtain ⟨j, g1, g2, g3⟩ := h.to i hi.1 hi.2
      exact ⟨j, by omega, by omega, g3⟩
    · exact ⟨i, h1, h2, h.out i hi⟩
  · by_cases hi : a ≤ j ∧ j < b
    · obtain ⟨i, g1, g2, g3⟩ := h.of j hi.1 hi.2
      exact ⟨i, by omega, by omega, g3⟩
    · exact ⟨j, h1, h2, h.out j hi⟩
def swF (D : Nat → Nat) (a b n : Nat) : Nat → Nat := fun k => if a ≤ k ∧ k < a + n then D (b + (k - a)) else if b ≤ k ∧ k < b + n then D (a + (k - b)) else D k
theorem swF_zero (D : Nat → Nat) (a b : Nat) : swF D a b 0 = D := by
  funext k; unfold swF; rw [if_neg (by omega), if_neg (by omega)]
def up2 (D : Nat → Nat) (i j : Nat) : Nat → Nat := fun k => if k = i then D j else if k = j then D i else D k
theorem swF_succ (D : Nat → Nat) (a b n : Nat) (h : a + (n + 1) ≤ b) : up2 (swF D a b n) (a + n) (b + n) = swF D a b (n + 1) := by
  funext k
  unfold up2 swF
  by_cases h1 : k = a + n
  · subst h1
    rw [if_pos rfl, if_neg (by omega), if_neg (by omega), if_pos (by omega)]; congr 1; omega
  · rw [if_neg h1]
    by_cases h2 : k = b + n
    · subst h2
      rw [if_pos rfl, if_neg (by omega), if_neg (by omega), if_neg (by omega), if_pos (by omega)]; congr 1; omega
    · rw [if_neg h2]
      by_cases h3 : a ≤ k ∧ k < a + n
      · rw [if_pos h3, if_pos (by omega)]
      · rw [if_neg h3, if_neg (show ¬ (a ≤ k ∧ k < a + (n + 1)) by omega)]
        by_cases h4 : b ≤ k ∧ k < b + n
        · rw [if_pos h4, if_pos (by omega)]
        · rw [if_neg h4, if_neg (by omega)]
def rotF (D : Nat → Nat) (s m e : Nat) : Nat → Nat := fun k => if s ≤ k ∧ k < s + (e - m) then D (m + (k - s)) else if s + (e - m) ≤ k ∧ k < e then D (s + (k - (s + (e - m)))) else D k
theorem rotF_eq (D : Nat → Nat) (m i : Nat) (h : i ≤ m) : swF D (m - i) m i = rotF D (m - i) m (m + i) := by
  funext k
  unfold swF rotF
  by_cases h1 : m - i ≤ k ∧ k < m - i + i
  · rw [if_pos h1, if_pos (show m - i ≤ k ∧ k < m - i + (m + i - m) by omega)]
  · rw [if_neg h1, if_neg (show ¬ (m - i ≤ k ∧ k < m - i + (m + i - m)) by omega)]
    by_cases h2 : m ≤ k ∧ k < m + i
    · rw [if_pos h2, if_pos (show m - i + (m + i - m) ≤ k ∧ k < m + i by omega)]; congr 1; omega
    · rw [if_neg h2, if_neg (show ¬ (m - i + (m + i - m) ≤ k ∧ k < m + i) by omega)]
theorem rotF_left (D : Nat → Nat) (m i j : Nat) (h : i ≤ m) (hj : j < i) : rotF (swF D (m - i) m j) (m - (i - j)) m (m + j) = rotF D (m - i) m (m + j) := by
  funext k
  unfold swF rotF
  dsimp only
  by_cases h1 : m - i ≤ k ∧ k < m - i + j
  · rw [if_neg (show ¬ (m - (i - j) ≤ k ∧ k < m - (i - j) + (m + j - m)) by omega), if_neg (show ¬ (m - (i - j) + (m + j - m) ≤ k ∧ k < m + j) by omega), if_pos h1, if_pos (show m - i ≤ k ∧ k < m - i + (m + j - m) by omega)]
  · by_cases h2 : m - (i - j) ≤ k ∧ k < m - (i - j) + (m + j - m)
    · rw [if_pos h2, if_neg (show ¬ (m - i ≤ m + (k - (m - (i - j))) ∧ m + (k - (m - (i - j))) < m - i + j) by omega), if_pos (show m ≤ m + (k - (m - (i - j))) ∧ m + (k - (m - (i - j))) < m + j by omega), if_neg (show ¬ (m - i ≤ k ∧ k < m - i + (m + j - m)) by omega), if_pos (show m - i + (m + j - m) ≤ k ∧ k < m + j by omega)]
      congr 1; omega
    · by_cases h3 : m - (i - j) + (m + j - m) ≤ k ∧ k < m + j
      · rw [if_neg h2, if_pos h3, if_neg (show ¬ (m - i ≤ m - (i - j) + (k - (m - (i - j) + (m + j - m))) ∧ m - (i - j) + (k - (m - (i - j) + (m + j - m))) < m - i + j) by omega), if_neg (show ¬ (m ≤ m - (i - j) + (k - (m - (i - j) + (m + j - m))) ∧ m - (i - j) + (k - (m - (i - j) + (m + j - m))) < m + j) by omega), if_neg (show ¬ (m - i ≤ k ∧ k < m - i + (m + j - m)) by omega), if_pos (show m - i + (m + j - m) ≤ k ∧ k < m + j by omega)]
        congr 1; omega
      · rw [if_neg h2, if_neg h3, if_neg h1, if_neg (show ¬ (m ≤ k ∧ k < m + j) by omega), if_neg (show ¬ (m - i ≤ k ∧ k < m - i + (m + j - m)) by omega), if_neg (show ¬ (m - i + (m + j - m) ≤ k ∧ k < m + j) by omega)]
theorem rotF_right (D : Nat → Nat) (m i j : Nat) (h : i ≤ m) (hj : i < j) : rotF (swF D (m - i) (m + j - i) i) (m - i) m (m + (j - i)) = rotF D (m - i) m (m + j) := by
  funext k
  unfold swF rotF
  dsimp only
  by_cases h1 : m + j - i ≤ k ∧ k < m + j - i + i
  · rw [if_neg (show ¬ (m - i ≤ k ∧ k < m - i + (m + (j - i) - m)) by omega), if_neg (show ¬ (m - i + (m + (j - i) - m) ≤ k ∧ k < m + (j - i)) by omega), if_neg (show ¬ (m - i ≤ k ∧ k < m - i + i) by omega), if_pos h1, if_neg (show ¬ (m - i ≤ k ∧ k < m - i + (m + j - m)) by omega), if_pos (show m - i + (m + j - m) ≤ k ∧ k < m + j by omega)]
    congr 1; omega
  · by_cases h2 : m - i ≤ k ∧ k < m - i + (m + (j - i) - m)
    · rw [if_pos h2, if_neg (show ¬ (m - i ≤ m + (k - (m - i)) ∧ m + (k - (m - i)) < m - i + i) by omega), if_neg (show ¬ (m + j - i ≤ m + (k - (m - i)) ∧ m + (k - (m - i)) < m + j - i + i) by omega), if_pos (show m - i ≤ k ∧ k < m - i + (m + j - m) by omega)]
    · by_cases h3 : m - i + (m + (j - i) - m) ≤ k ∧ k < m + (j - i)
      · rw [if_neg h2, if_pos h3, if_pos (show m - i ≤ m - i + (k - (m - i + (m + (j - i) - m))) ∧ m - i + (k - (m - i + (m + (j - i) - m))) < m - i + i by omega), if_pos (show m - i ≤ k ∧ k < m - i + (m + j - m) by omega)]
        congr 1; omega
      · rw [if_neg h2, if_neg h3, if_neg (show ¬ (m - i ≤ k ∧ k < m - i + i) by omega), if_neg h1, if_neg (show ¬ (m - i ≤ k ∧ k < m - i + (m + j - m)) by omega), if_neg (show ¬ (m - i + (m + j - m) ≤ k ∧ k < m + j) by omega)]
theorem rotF_sam (D : Nat → Nat) {s m e : Nat} (h1 : s ≤ m) (h2 : m ≤ e) : Sam D (rotF D s m e) s e := by
  refine ⟨fun i hi => ?_, fun i g1 g2 => ?_, fun j g1 g2 => ?_⟩
  · unfold rotF; rw [if_neg (by omega), if_neg (by omega)]
  · unfold rotF
    by_cases h : s ≤ i ∧ i < s + (e - m)
    · exact ⟨m + (i - s), by omega, by omega, by rw [if_pos h]⟩
    · exact ⟨s + (i - (s + (e - m))), by omega, by omega, by rw [if_neg h, if_pos (by omega)]⟩
  · unfold rotF
    by_cases h : j < m
    · refine ⟨j + (e - m), by omega, by omega, ?_⟩
      rw [if_neg (by omega), if_pos (by omega)]; congr 1; omega
    · refine ⟨s + (j - m), by omega, by omega, ?_⟩
      rw [if_pos (by omega)]; congr 1; omega
theorem rotF_lo (D : Nat → Nat) {s m e k : Nat} (h : s ≤ k) (h' : k < s + (e - m)) : rotF D s m e k = D (m + (k - s)) := by unfold rotF; rw [if_pos ⟨h, h'⟩]
theorem rotF_hi (D : Nat → Nat) {s m e k : Nat} (h : s + (e - m) ≤ k) (h' : k < e) : rotF D s m e k = D (s + (k - (s + (e - m)))) := by unfold rotF; rw [if_neg (by omega), if_pos ⟨h, h'⟩]
theorem rotF_out (D : Nat → Nat) {s m e k : Nat} (h1 : s ≤ m) (h2 : m ≤ e) (h : k < s ∨ e ≤ k) : rotF D s m e k = D k := by unfold rotF; rw [if_neg (by omega), if_neg (by omega)]
/-- Between the halves of a merge. -/
structure Half (A : Nat → Nat) (D D' : Nat → Nat) (a m b start mid en : Nat) : Prop where
  sam : Sam D D' a b
  s1 : srt A D' a start
  s2 : srt A D' start mid
  s3 : srt A D' mid en
  s4 : srt A D' en b
  c1 : crs D' a start mid
  c2 : crs D' mid en b
  lt : ∀ i j, a ≤ i → i < mid → mid ≤ j → j < b → ltA A (D' i) (D' j)
/-- What the search for the middle has found. -/
structure Cut (A : Nat → Nat) (D : Nat → Nat) (a m b start : Nat) : Prop where
  le1 : a ≤ start
  le2 : start ≤ m
  le3 : start ≤ (a + b) / 2
  le4 : m ≤ (a + b) / 2 + m - start
  le5 : (a + b) / 2 + m - start ≤ b
  lo : start = a ∨ (a + b) / 2 + m - start = b ∨ ltA A (D (start - 1)) (D ((a + b) / 2 + m - start))
  hi : start = m ∨ (a + b) / 2 + m - start = m ∨ ltA A (D ((a + b) / 2 + m - start - 1)) (D start)
theorem srt_le {A D : Nat → Nat} {a b : Nat} (h : srt A D a b) {i j : Nat} (h1 : a ≤ i) (h2 : i ≤ j) (h3 : j < b) : D i = D j ∨ ltA A (D i) (D j) := by
  by_cases e : i = j
  · subst e; exact .inl rfl
  · exact .inr (h i j h1 (by omega) h3)
theorem le_lt {A : Nat → Nat} {x y z : Nat} (h : x = y ∨ ltA A x y) (h' : ltA A y z) : ltA A x z := by
  rcases h with rfl | h
  · exact h'
  · exact ltA_trans h h'
theorem lt_le {A : Nat → Nat} {x y z : Nat} (h : ltA A x y) (h' : y = z ∨ ltA A y z) : ltA A x z := by
  rcases h' with rfl | h'
  · exact h
  · exact ltA_trans h h'
theorem Cut.half {A D : Nat → Nat} {a m b start : Nat} (h1 : srt A D a m) (h2 : srt A D m b) (hc : crs D a m b) (ham : a < m) (hmb : m < b) (h : Cut A D a m b start) :
    Half A D (rotF D start m ((a + b) / 2 + m - start)) a m b start ((a + b) / 2) ((a + b) / 2 + m - start) := by
  obtain ⟨l1, l2, l3, l4, l5, lo, hi⟩ := h
  obtain ⟨mid, hmid⟩ : ∃ k, k = (a + b) / 2 := ⟨_, rfl⟩
  rw [← hmid] at l3 l4 l5 lo hi ⊢
  obtain ⟨en, hen⟩ : ∃ k, k = mid + m - start := ⟨_, rfl⟩
  rw [← hen] at l4 l5 lo hi ⊢
  have em : start + (en - m) = mid := by omega
  have q1 : ∀ k, k < start → rotF D start m en k = D k := fun k hk => rotF_out D l2 l4 (.inl hk)
  have q2 : ∀ k, start ≤ k → k < mid → rotF D start m en k = D (m + (k - start)) := fun k h h' => rotF_lo D h (by omega)
  have q3 : ∀ k, mid ≤ k → k < en → rotF D start m en k = D (start + (k - mid)) := fun k h h' => by rw [rotF_hi D (by omega) h', em]
  have q4 : ∀ k, en ≤ k → rotF D start m en k = D k := fun k hk => rotF_out D l2 l4 (.inr hk)
  refine ⟨(rotF_sam D l2 l4).wide l1 l5, ?_, ?_, ?_, ?_, ?_, ?_, ?_⟩
  · intro i j g1 g2 g3
    rw [q1 i (by omega), q1 j (by omega)]
    exact h1 i j g1 g2 (by omega)
  · intro i j g1 g2 g3
    rw [q2 i g1 (by omega), q2 j (by omega) g3]
    exact h2 _ _ (by omega) (by omega) (by omega)
  · intro i j g1 g2 g3
    rw [q3 i g1 (by omega), q3 j (by omega) g3]
    exact h1 _ _ (by omega) (by omega) (by omega)
  · intro i j g1 g2 g3
    rw [q4 i g1, q4 j (by omega)]
    exact h2 i j (by omega) g2 g3
  · intro i j g1 g2 g3 g4
    rw [q1 i (by omega), q2 j g3 g4]
    exact hc _ _ g1 (by omega) (by omega) (by omega)
  · intro i j g1 g2 g3 g4
    rw [q3 i g1 g2, q4 j g3]
    exact hc _ _ (by omega) (by omega) (by omega) g4
  · intro i j g1 g2 g3 g4
    by_cases hi1 : i < start
    · rw [q1 i hi1]
      by_cases hj1 : j < en
      · rw [q3 j g3 hj1]
        exact h1 _ _ g1 (by omega) (by omega)
      · rw [q4 j (by omega)]
        rcases lo with e | e | e
        · omega
        · omega
        · exact le_lt (srt_le h1 g1 (by omega) (by omega)) (lt_le e (srt_le h2 (by omega) (by omega) g4))
    · rw [q2 i (by omega) g2]
      by_cases hj1 : j < en
      · rw [q3 j g3 hj1]
        rcases hi with e | e | e
        · omega
        · omega
        · exact le_lt (srt_le h2 (by omega) (by omega) (by omega)) (lt_le e (srt_le h1 (by omega) (by omega) (by omega)))
      · rw [q4 j (by omega)]
        exact h2 _ _ (by omega) (by omega) g4
/-- Both halves merged, all is. -/
theorem Half.done {A D D1 D2 D3 : Nat → Nat} {a m b start mid en : Nat} (h : Half A D D1 a m b start mid en) (ha : a ≤ mid) (hb : mid ≤ b) (e1 : Sam D1 D2 a mid) (s1 : srt A D2 a mid) (e2 : Sam D2 D3 mid b) (s2 : srt A D3 mid b) : Sam D D3 a b ∧ srt A D3 a b := by
  refine ⟨h.sam.trans ((e1.wide (Nat.le_refl _) hb).trans (e2.wide ha (Nat.le_refl _))), fun i j g1 g2 g3 => ?_⟩
  by_cases hj : j < mid
  · rw [e2.out i (by omega), e2.out j (by omega)]
    exact s1 i j g1 g2 hj
  · by_cases hi : mid ≤ i
    · exact s2 i j hi g2 g3
    · rw [e2.out i (by omega)]
      obtain ⟨i', f1, f2, f3⟩ := e1.to i g1 (by omega)
      obtain ⟨j', f4, f5, f6⟩ := e2.to j (by omega) g3
      rw [f3, f6, e1.out j' (by omega)]
      exact h.lt i' j' f1 f2 f4 f5
/-- The first one comes to its place among the others. -/
def insL (D : Nat → Nat) (a i : Nat) : Nat → Nat := fun k => if a ≤ k ∧ k + 1 < i then D (k + 1) else if k + 1 = i then D a else D k
theorem insL_zero (D : Nat → Nat) (a : Nat) : insL D a (a + 1) = D := by
  funext k; unfold insL
  by_cases h : a ≤ k ∧ k + 1 < a + 1
  · omega
  · rw [if_neg h]
    by_cases h' : k + 1 = a + 1
    · rw [if_pos h']; congr 1; omega
    · rw [if_neg h']
theorem insL_succ (D : Nat → Nat) (a i : Nat) (h : a < i) : up2 (insL D a i) (i - 1) i = insL D a (i + 1) := by
  funext k
  unfold up2 insL
  by_cases h1 : k = i - 1
  · subst h1
    rw [if_pos rfl, if_neg (by omega), if_neg (by omega), if_pos (by omega)]; congr 1; omega
  · rw [if_neg h1]
    by_cases h2 : k = i
    · subst h2
      rw [if_pos rfl, if_neg (by omega), if_pos (by omega), if_neg (by omega), if_pos (by omega)]
    · rw [if_neg h2]
      by_cases h3 : a ≤ k ∧ k + 1 < i
      · rw [if_pos h3, if_pos (by omega)]
      · rw [if_neg h3, if_neg (by omega), if_neg (by omega), if_neg (by omega)]
theorem insL_done {A D : Nat → Nat} {a b i : Nat} (h2 : srt A D (a + 1) b) (hc : crs D a (a + 1) b) (hi : a + 1 ≤ i) (hib : i ≤ b) (hlo : ∀ k, a + 1 ≤ k → k < i → A (D k) < A (D a)) (hhi : ∀ k, i ≤ k → k < b → ¬ A (D k) < A (D a)) :
    Sam D (insL D a i) a b ∧ srt A (insL D a i) a b := by
  have q1 : ∀ k, a ≤ k → k + 1 < i → insL D a i k = D (k + 1) := fun k h h' => by unfold insL; rw [if_pos ⟨h, h'⟩]
  have q2 : insL D a i (i - 1) = D a := by unfold insL; rw [if_neg (by omega), if_pos (by omega)]
  have q3 : ∀ k, i ≤ k → insL D a i k = D k := fun k h => by unfold insL; rw [if_neg (by omega), if_neg (by omega)]
  refine ⟨⟨fun k hk => ?_, fun k g1 g2 => ?_, fun k g1 g2 => ?_⟩, fun x y g1 g2 g3 => ?_⟩
  · unfold insL; rw [if_neg (by omega), if_neg (by omega)]
  · by_cases h : k + 1 < i
    · exact ⟨k + 1, by omega, by omega, q1 k g1 h⟩
    · by_cases h' : k = i - 1
      · subst h'; exact ⟨a, by omega, by omega, q2⟩
      · exact ⟨k, g1, g2, q3 k (by omega)⟩
  · by_cases h : k = a
    · subst h; exact ⟨i - 1, by omega, by omega, q2⟩
    · by_cases h' : k < i
      · exact ⟨k - 1, by omega, by omega, by rw [q1 _ (by omega) (by omega)]; congr 1; omega⟩
      · exact ⟨k, g1, g2, q3 k (by omega)⟩
  · by_cases hx : x + 1 < i
    · rw [q1 x g1 hx]
      by_cases hy : y + 1 < i
      · rw [q1 y (by omega) hy]; exact h2 _ _ (by omega) (by omega) (by omega)
      · by_cases hy' : y = i - 1
        · subst hy'; rw [q2]; exact .inl (hlo _ (by omega) hx)
        · rw [q3 y (by omega)]; exact h2 _ _ (by omega) (by omega) (by omega)
    · by_cases hx' : x = i - 1
      · subst hx'
        rw [q2, q3 y (by omega)]
        have a1 := hhi y (by omega) g3
        have a2 := hc a y (Nat.le_refl _) (by omega) (by omega) g3
        unfold ltA; omega
      · rw [q3 x (by omega), q3 y (by omega)]; exact h2 _ _ (by omega) g2 g3
/-- The last one comes to its place among the others. -/
def insR (D : Nat → Nat) (m i : Nat) : Nat → Nat := fun k => if k = i then D m else if i < k ∧ k ≤ m then D (k - 1) else D k
theorem insR_zero (D : Nat → Nat) (m : Nat) : insR D m m = D := by
  funext k; unfold insR
  by_cases h : k = m
  · rw [if_pos h, h]
  · rw [if_neg h, if_neg (by omega)]
theorem insR_succ (D : Nat → Nat) (m i : Nat) (h : i < m) : up2 (insR D m (i + 1)) (i + 1) i = insR D m i := by
  funext k
  unfold up2 insR
  by_cases h1 : k = i + 1
  · subst h1
    rw [if_pos rfl, if_neg (by omega), if_neg (by omega), if_neg (by omega), if_pos (by omega)]; congr 1
  · rw [if_neg h1]
    by_cases h2 : k = i
    · subst h2
      rw [if_pos rfl, if_pos rfl, if_pos rfl]
    · rw [if_neg h2, if_neg h1, if_neg h2]
      by_cases h3 : i + 1 < k ∧ k ≤ m
      · rw [if_pos h3, if_pos (by omega)]
      · rw [if_neg h3, if_neg (by omega)]
theorem insR_done {A D : Nat → Nat} {a m i : Nat} (h1 : srt A D a m) (hc : ∀ k, a ≤ k → k < m → D k < D m) (hi : a ≤ i) (him : i ≤ m) (hlo : ∀ k, a ≤ k → k < i → ¬ A (D m) < A (D k)) (hhi : ∀ k, i ≤ k → k < m → A (D m) < A (D k)) :
    Sam D (insR D m i) a (m + 1) ∧ srt A (insR D m i) a (m + 1) := by
  have q1 : ∀ k, k < i → insR D m i k = D k := fun k h => by unfold insR; rw [if_neg (by omega), if_neg (by omega)]
  have q2 : insR D m i i = D m := by unfold insR; rw [if_pos rfl]
  have q3 : ∀ k, i < k → k ≤ m → insR D m i k = D (k - 1) := fun k h h' => by unfold insR; rw [if_neg (by omega), if_pos ⟨h, h'⟩]
  refine ⟨⟨fun k hk => ?_, fun k g1 g2 => ?_, fun k g1 g2 => ?_⟩, fun x y g1 g2 g3 => ?_⟩
  · unfold insR; rw [if_neg (by omega), if_neg (by omega)]
  · by_cases h : k < i
    · exact ⟨k, g1, g2, q1 k h⟩
    · by_cases h' : k = i
      · subst h'; exact ⟨m, by omega, by omega, q2⟩
      · exact ⟨k - 1, by omega, by omega, q3 k (by omega) (by omega)⟩
  · by_cases h : k < i
    · exact ⟨k, g1, g2, q1 k h⟩
    · by_cases h' : k = m
      · subst h'; exact ⟨i, by omega, by omega, q2⟩
      · exact ⟨k + 1, by omega, by omega, q3 _ (by omega) (by omega)⟩
  · by_cases hx : x < i
    · rw [q1 x hx]
      by_cases hy : y < i
      · rw [q1 y hy]; exact h1 _ _ g1 g2 (by omega)
      · by_cases hy' : y = i
        · subst hy'
          rw [q2]
          have a1 := hlo x g1 hx
          have a2 := hc x g1 (by omega)
          unfold ltA; omega
        · rw [q3 y (by omega) (by omega)]; exact h1 _ _ g1 (by omega) (by omega)
    · by_cases hx' : x = i
      · subst hx'
        rw [q2, q3 y (by omega) (by omega)]
        exact .inl (hhi _ (by omega) (by omega))
      · rw [q3 x (by omega) (by omega), q3 y (by omega) (by omega)]; exact h1 _ _ (by omega) (by omega) (by omega)
end Go.Proofs.Ytcchmkpodfjhcaa
