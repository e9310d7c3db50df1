/-
  The plain law of schedules: the queue of those that came tells who goes; the end is there; the stretches are few.
-/
import Derived.Test.YtcchmkpodfjhcaaIM
import Derived.Test.YtcchmkpodfjhcaaL11p
import Derived.Test.YtcchmkpodfjhcaaV3
namespace Go.Proofs.Ytcchmkpodfjhcaa
open Go.RowKit
set_option linter.unusedVariables false
def pcs (xs : List Q3) : Pcs := ⟨xs.length, fun i => (xs[i]?.getD default).a.toNat, fun i => (xs[i]?.getD default).b.toNat, fun i => (xs[i]?.getD default).c.toNat⟩
structure Ord40 (s : Pcs) (D : Nat → Nat) : Prop where
  sam : Sam (fun k => k) D 0 s.n
  srt : srt s.A D 0 s.n
theorem Ord40.lt {s : Pcs} {D : Nat → Nat} (h : Ord40 s D) {k : Nat} (hk : k < s.n) : D k < s.n := by
  obtain ⟨j, _, h2, h3⟩ := h.sam.to k (Nat.zero_le _) hk
  omega
theorem Ord40.on {s : Pcs} {D : Nat → Nat} (h : Ord40 s D) {i : Nat} (hi : i < s.n) : ∃ j, j < s.n ∧ D j = i := by
  obtain ⟨j, _, h2, h3⟩ := h.sam.of i (Nat.zero_le _) hi
  exact ⟨j, h2, h3⟩
theorem Ord40.ne {s : Pcs} {D : Nat → Nat} (h : Ord40 s D) {i j : Nat} (hij : i < j) (hj : j < s.n) : D i ≠ D j := fun e => by
  have := h.srt i j (Nat.zero_le _) hij hj
  rw [e] at this
  exact ltA_irrefl this
theorem Ord40.inj {s : Pcs} {D : Nat → Nat} (h : Ord40 s D) {i j : Nat} (hi : i < s.n) (hj : j < s.n) (e : D i = D j) : i = j := by
  rcases Nat.lt_trichotomy i j with g | g | g
  · exact absurd e (h.ne g hj)
  · exact g
  · exact absurd e.symm (h.ne g hi)
def Qs (s : Pcs) (D l : Nat → Nat) : Nat → QL
  | 0 => []
  | k + 1 => Qs s D l k ++ if 0 < l (D k) then [((D k : Int), s.P (D k))] else []
theorem Qs_mem {s : Pcs} {D l : Nat → Nat} {y : Int × Nat} : ∀ {k : Nat}, y ∈ Qs s D l k ↔ ∃ j, j < k ∧ 0 < l (D j) ∧ y = ((D j : Int), s.P (D j))
  | 0 => by simp [Qs]
  | k + 1 => by
    rw [Qs, List.mem_append, Qs_mem]
    constructor
    · rintro (⟨j, h1, h2⟩ | h)
      · exact ⟨j, by omega, h2⟩
      · split at h
        · rename_i hc; simp at h; exact ⟨k, by omega, hc, h⟩
        · cases h
    · rintro ⟨j, h1, h2, h3⟩
      by_cases e : j = k
      · subst e; right; rw [if_pos h2]; simp [h3]
      · exact .inl ⟨j, by omega, h2, h3⟩
theorem Qs_len {s : Pcs} {D l : Nat → Nat} : ∀ k : Nat, (Qs s D l k).length ≤ k
  | 0 => Nat.le_refl _
  | k + 1 => by
    have := Qs_len (s := s) (D := D) (l := l) k
    rw [Qs, List.length_append]
    split <;> simp <;> omega
theorem Qs_push {s : Pcs} {D l : Nat → Nat} {k N : Nat} (h : Ord40 s D) (hk : k < s.n) (hN : s.n ≤ N) (hP : ∀ i, i < s.n → s.P i < 64) (hl : 0 < l (D k)) : qPush N (Qs s D l k) (D k : Int) (s.P (D k) : Int) = (0, Qs s D l (k + 1)) := by
  have h1 : (D k : Int) ∉ (Qs s D l k).ids := fun hm => by
    obtain ⟨y, hy, e⟩ := List.mem_map.1 hm
    obtain ⟨j, g1, _, g3⟩ := Qs_mem.1 hy
    subst g3
    have e' : D j = D k := by simp only at e; omega
    exact h.ne g1 hk e'
  have h2 := Qs_len (s := s) (D := D) (l := l) k
  have h3 := hP _ (h.lt hk)
  unfold qPush
  rw [if_neg (by omega), if_neg h1, if_neg (by omega), Qs, if_pos hl]
  simp
theorem Qs_rem {s : Pcs} {D l : Nat → Nat} (h : Ord40 s D) {i : Nat} : ∀ {k : Nat}, k ≤ s.n → Qs s D (upf l i 0) k = (Qs s D l k).rem i
  | 0, _ => rfl
  | k + 1, hk => by
    rw [Qs, Qs, Qs_rem h (by omega)]
    unfold QL.rem
    rw [List.filter_append]
    congr 1
    by_cases e : D k = i
    · rw [e, upf_same, if_neg (by omega)]
      split <;> simp
    · rw [upf_other _ _ e]
      split
      · have : ((D k : Int)) ≠ (i : Int) := by omega
        simp [this]
      · rfl
theorem Qs_same {s : Pcs} {D l : Nat → Nat} {i v : Nat} (h1 : 0 < l i) (h2 : 0 < v) : ∀ {k : Nat}, Qs s D (upf l i v) k = Qs s D l k
  | 0 => rfl
  | k + 1 => by
    rw [Qs, Qs, Qs_same h1 h2]
    congr 1
    by_cases e : D k = i
    · rw [e, upf_same, if_pos h2, if_pos h1]
    · rw [upf_other _ _ e]
theorem Qs_pr {s : Pcs} {D l : Nat → Nat} (h : Ord40 s D) (hP : ∀ i, i < s.n → s.P i < 64) {k : Nat} (hk : k ≤ s.n) : ∀ x ∈ Qs s D l k, x.2 < 64 := fun x hx => by
  obtain ⟨j, g1, _, g3⟩ := Qs_mem.1 hx
  subst g3
  exact hP _ (h.lt (by omega))
def qR (s : Pcs) (a b : Int) : Prop := ltA s.A a.toNat b.toNat
theorem Qs_pair {s : Pcs} {D l : Nat → Nat} (h : Ord40 s D) : ∀ {k : Nat}, k ≤ s.n → (Qs s D l k).Pairwise fun a b => qR s a.1 b.1
  | 0, _ => List.Pairwise.nil
  | k + 1, hk => by
    rw [Qs, List.pairwise_append]
    refine ⟨Qs_pair h (by omega), ?_, fun a ha b hb => ?_⟩
    · split <;> simp
    · obtain ⟨j, g1, _, g3⟩ := Qs_mem.1 ha
      split at hb
      · simp at hb
        subst hb
        subst g3
        unfold qR
        simp only [Int.toNat_natCast]
        exact h.srt j k (Nat.zero_le _) g1 (by omega)
      · cases hb
theorem head_first {R : Int → Int → Prop} : ∀ {l : List Int} {a b : Int}, l.Pairwise R → l.head? = some a → b ∈ l → b = a ∨ R a b
  | [], _, _, _, h, _ => by cases h
  | x :: r, a, b, hp, h, hb => by
    simp at h
    subst h
    rw [List.pairwise_cons] at hp
    rcases List.mem_cons.1 hb with rfl | hb
    · exact .inl rfl
    · exact .inr (hp.1 b hb)
/-- The queue's first one is the piece that goes. -/
theorem Qs_top {s : Pcs} {D l : Nat → Nat} {k now : Nat} (h : Ord40 s D) (hP : ∀ i, i < s.n → s.P i < 64) (hk : k ≤ s.n) (h1 : ∀ j, j < k → s.A (D j) ≤ now) (h2 : ∀ j, k ≤ j → j < s.n → now < s.A (D j)) :
    match qTop (Qs s D l k) with
    | none => pk s l now s.n = none
    | some (id, p) => ∃ i : Nat, id = (i : Int) ∧ i < s.n ∧ 0 < l i ∧ s.A i ≤ now ∧ pk s l now s.n = some i := by
  have came : ∀ i, i < s.n → s.A i ≤ now → ∃ j, j < k ∧ D j = i := fun i hi ha => by
    obtain ⟨j, g1, g2⟩ := h.on hi
    refine ⟨j, ?_, g2⟩
    rcases Nat.lt_or_ge j k with g | g
    · exact g
    · have := h2 j g g1
      rw [g2] at this
      omega
  have hpr := Qs_pr (l := l) h hP hk
  cases e : qTop (Qs s D l k) with
  | none =>
    have hq : Qs s D l k = [] := by
      by_cases hq : Qs s D l k = []
      · exact hq
      · obtain ⟨id, p, h3, _⟩ := top_some hpr hq
        rw [h3] at e; cases e
    show pk s l now s.n = none
    cases ep : pk s l now s.n with
    | none => rfl
    | some b =>
      obtain ⟨g1, g2, g3, _⟩ := pk_some ep
      obtain ⟨j, g4, g5⟩ := came b g1 g2
      have : ((D j : Int), s.P (D j)) ∈ Qs s D l k := Qs_mem.2 ⟨j, g4, by rw [g5]; exact g3, rfl⟩
      rw [hq] at this
      cases this
  | some a =>
    obtain ⟨id, p⟩ := a
    have ht := top_is hpr
    rw [e] at ht
    obtain ⟨t1, t2, t3⟩ := ht
    have hm : (id, p) ∈ Qs s D l k := of_mem.1 (List.mem_of_mem_head? t2)
    obtain ⟨j, g1, g2, g3⟩ := Qs_mem.1 hm
    injection g3 with g3 g4
    subst g3 g4
    refine ⟨D j, rfl, h.lt (by omega), g2, h1 j g1, pk_is (h.lt (by omega)) (h1 j g1) g2 fun i hi ha hl => ?_⟩
    obtain ⟨j', f1, f2⟩ := came i hi ha
    subst f2
    have hm' : ((D j' : Int), s.P (D j')) ∈ Qs s D l k := Qs_mem.2 ⟨j', f1, hl, rfl⟩
    by_cases hgt : s.P (D j) < s.P (D j')
    · have := t3 _ hgt (hpr _ hm')
      have hx := of_mem.2 hm'
      rw [this] at hx
      cases hx
    · by_cases heq : s.P (D j') = s.P (D j)
      · have hx := of_mem.2 hm'
        rw [heq] at hx
        have hpw : (QL.of (Qs s D l k) (s.P (D j))).Pairwise (qR s) := by
          unfold QL.of
          rw [List.pairwise_map]
          exact (Qs_pair (l := l) h hk).sublist List.filter_sublist
        rcases head_first hpw t2 hx with e1 | e1
        · exact .inl (by omega)
        · right
          unfold qR ltA at e1
          simp only [Int.toNat_natCast] at e1
          unfold bef
          omega
      · right
        unfold bef
        omega
/-- When the next one comes. -/
theorem Qs_next {s : Pcs} {D : Nat → Nat} {k now : Nat} (h : Ord40 s D) (h1 : ∀ j, j < k → s.A (D j) ≤ now) (h2 : ∀ j, k ≤ j → j < s.n → now < s.A (D j)) :
    nxt s now s.n = if k < s.n then some (s.A (D k)) else none := by
  by_cases hk : k < s.n
  · rw [if_pos hk]
    refine nxt_is (h2 k (Nat.le_refl _) hk) (h.lt hk) fun i hi ha => ?_
    obtain ⟨j, g1, g2⟩ := h.on hi
    subst g2
    rcases Nat.lt_or_ge j k with g | g
    · have := h1 j g; omega
    · by_cases e : j = k
      · subst e; exact Nat.le_refl _
      · have := h.srt k j (Nat.zero_le _) (by omega) g1
        unfold ltA at this; omega
  · rw [if_neg hk]
    refine nxt_is_none fun i hi => ?_
    obtain ⟨j, g1, g2⟩ := h.on hi
    subst g2
    exact h1 j (by omega)
theorem used_le (s : Pcs) (l : Nat → Nat) (k : Nat) : sm (used s l) k ≤ sm s.C k := sm_le fun j _ => Nat.sub_le _ _
theorem SI.bound {s : Pcs} {M : Nat} {st : Sch} (h : SI s M st) : st.now ≤ M + sm s.C s.n := Nat.le_trans h.now (Nat.add_le_add_left (used_le _ _ _) _)
theorem goes_trans {s : Pcs} {a b c : Sch} (h : Goes s a b) (h' : Goes s b c) : Goes s a c := by
  induction h' with
  | refl => exact h
  | step _ e ih => exact .step ih e
theorem ends_from {s : Pcs} {M : Nat} (hM : ∀ j, j < s.n → s.A j ≤ M) : ∀ (m : Nat) (st : Sch), SI s M st → M + sm s.C s.n - st.now ≤ m → ∃ st', Goes s st st' ∧ rstep s st' = none
  | 0, st, h, hm => by
    cases e : rstep s st with
    | none => exact ⟨st, .refl _, e⟩
    | some st' =>
      obtain ⟨h1, h2⟩ := h.step hM e
      have := h1.bound
      omega
  | m + 1, st, h, hm => by
    cases e : rstep s st with
    | none => exact ⟨st, .refl _, e⟩
    | some st' =>
      obtain ⟨h1, h2⟩ := h.step hM e
      have := h1.bound
      obtain ⟨st'', g1, g2⟩ := ends_from hM m st' h1 (by omega)
      exact ⟨st'', goes_trans (.step (.refl _) e) g1, g2⟩
/-- The stretches begin when pieces come. -/
structure Fr (s : Pcs) (st : Sch) : Prop where
  b : ∀ x ∈ st.busy, ∃ j, j < s.n ∧ s.A j = x.1
  n : st.now = 0 ∨ (∃ j, j < s.n ∧ s.A j = st.now) ∨ ∃ b f, st.busy = b ++ [(f, st.now)]
theorem ext_last (b : List (Nat × Nat)) (now n : Nat) : ∃ c f, ext b now n = c ++ [(f, now + n)] := by
  unfold ext
  cases e : b.getLast? with
  | none => exact ⟨[], now, rfl⟩
  | some x =>
    dsimp only
    split
    · rename_i h; exact ⟨_, x.1, by rw [h]⟩
    · exact ⟨b, now, rfl⟩
theorem ext_mem {b : List (Nat × Nat)} {now n : Nat} {y : Nat × Nat} (h : y ∈ ext b now n) : (∃ x ∈ b, x.1 = y.1) ∨ (y.1 = now ∧ ∀ c f, b = c ++ [(f, now)] → False) := by
  unfold ext at h
  cases e : b.getLast? with
  | none =>
    rw [e] at h
    simp at h
    subst h
    refine .inr ⟨rfl, fun c f hb => ?_⟩
    rw [hb] at e; simp at e
  | some x =>
    rw [e] at h
    dsimp only at h
    split at h
    · rcases List.mem_append.1 h with h | h
      · exact .inl ⟨y, (List.dropLast_sublist b).subset h, rfl⟩
      · simp at h
        subst h
        exact .inl ⟨x, List.mem_of_getLast? e, rfl⟩
    · rename_i hne
      rcases List.mem_append.1 h with h | h
      · exact .inl ⟨y, h, rfl⟩
      · simp at h
        subst h
        refine .inr ⟨rfl, fun c f hb => ?_⟩
        rw [hb] at e
        simp at e
        subst e
        exact hne rfl
theorem Fr.first (s : Pcs) : Fr s (sch0 s) := ⟨fun x hx => (by cases hx), .inl rfl⟩
theorem Fr.step {s : Pcs} {st st' : Sch} (h : Fr s st) (e : rstep s st = some st') : Fr s st' := by
  unfold rstep at e
  cases hp : pk s st.left st.now s.n with
  | none =>
    cases hn : nxt s st.now s.n with
    | none => rw [hp, hn] at e; cases e
    | some t =>
      rw [hp, hn] at e
      cases e
      obtain ⟨_, ⟨j, h2, h3⟩, _⟩ := nxt_some hn
      exact ⟨h.b, .inr (.inl ⟨j, h2, h3⟩)⟩
  | some i =>
    rw [hp] at e
    have e' : some (go st i (goN st i (nxt s st.now s.n))) = some st' := by
      cases hn : nxt s st.now s.n <;> rw [hn] at e <;> exact e
    cases e'
    refine ⟨fun y hy => ?_, .inr (.inr (ext_last _ _ _))⟩
    rcases ext_mem hy with ⟨x, hx, ex⟩ | ⟨ey, hno⟩
    · rw [← ex]; exact h.b x hx
    · rw [ey]
      rcases h.n with g | g | ⟨b, f, g⟩
      · obtain ⟨g1, g2, _⟩ := pk_some hp
        exact ⟨i, g1, by omega⟩
      · exact g
      · exact absurd g (fun g => hno b f g)
theorem Goes.fr {s : Pcs} {a b : Sch} (h : Goes s a b) (ha : Fr s a) : Fr s b := by
  induction h with
  | refl => exact ha
  | step _ e ih => exact ih.step e
theorem len_ne : ∀ {l : List Nat} (v : Nat), l.Pairwise (· < ·) → l.length ≤ (l.filter fun x => decide (x ≠ v)).length + 1
  | [], _, _ => by simp
  | x :: r, v, h => by
    rw [List.pairwise_cons] at h
    by_cases e : x = v
    · have : r.filter (fun x => decide (x ≠ v)) = r := List.filter_eq_self.2 fun y hy => by have := h.1 y hy; simp; omega
      rw [List.filter_cons_of_neg (by simp [e]), this]; simp
    · have := len_ne v h.2
      rw [List.filter_cons_of_pos (by simp [e])]
      simp only [List.length_cons]; omega
theorem inc_len {A : Nat → Nat} : ∀ {n : Nat} {l : List Nat}, l.Pairwise (· < ·) → (∀ v ∈ l, ∃ j, j < n ∧ A j = v) → l.length ≤ n
  | 0, [], _, _ => Nat.le_refl _
  | 0, x :: r, _, h => by obtain ⟨j, hj, _⟩ := h x (List.mem_cons_self ..); omega
  | n + 1, l, hp, h => by
    have a := len_ne (A n) hp
    have b := inc_len (A := A) (n := n) (l := l.filter fun x => decide (x ≠ A n)) (hp.sublist List.filter_sublist) fun v hv => by
      obtain ⟨h1, h2⟩ := List.mem_filter.1 hv
      obtain ⟨j, h3, h4⟩ := h v h1
      refine ⟨j, ?_, h4⟩
      by_cases e : j = n
      · subst e; simp at h2; exact absurd h4.symm h2
      · omega
    omega
theorem okB_inc : ∀ {b : List (Nat × Nat)} {e : Int}, okB e b → (∀ x ∈ b, e < (x.1 : Int)) ∧ (b.map (·.1)).Pairwise (· < ·)
  | [], _, _ => ⟨fun x hx => by (cases hx), List.Pairwise.nil⟩
  | y :: r, e, h => by
    obtain ⟨h1, h2, h3⟩ := h
    obtain ⟨g1, g2⟩ := okB_inc h3
    refine ⟨fun x hx => ?_, ?_⟩
    · rcases List.mem_cons.1 hx with rfl | hx
      · exact h1
      · have := g1 x hx; omega
    · rw [List.map_cons, List.pairwise_cons]
      refine ⟨fun v hv => ?_, g2⟩
      obtain ⟨x, hx, rfl⟩ := List.mem_map.1 hv
      have := g1 x hx
      omega
theorem Fr.len {s : Pcs} {st : Sch} {M : Nat} (h : Fr s st) (hs : SI s M st) : st.busy.length ≤ s.n := by
  have := inc_len (A := s.A) (n := s.n) (okB_inc hs.ok).2 fun v hv => by
    obtain ⟨x, hx, rfl⟩ := List.mem_map.1 hv
    exact h.b x hx
  simpa using this
end Go.Proofs.Ytcchmkpodfjhcaa
