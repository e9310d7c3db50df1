/-
  The pool's plain law: entries in a pile or in lists, told by the links' and the ends' numbers. No program in sight.
-/
import Derived.Test.YtcchmkpodfjhcaaVk
namespace Go.Proofs.Ytcchmkpodfjhcaa
set_option linter.unusedVariables false

def upd (f : Nat → Int) (o : Nat) (v : Int) (j : Nat) : Int := if j = o then v else f j
theorem upd_same {f : Nat → Int} {o : Nat} {v : Int} : upd f o v o = v := by simp [upd]
theorem upd_ne {f : Nat → Int} {o j : Nat} {v : Int} (h : j ≠ o) : upd f o v j = f j := by simp [upd, h]
def optI : Option Nat → Int
  | some x => (x : Int)
  | none => -1
theorem optI_neg {o : Option Nat} : optI o = -1 ↔ o = none := by
  cases o with
  | none => simp [optI]
  | some x => simp [optI]

/-- A pool: the pile, the top one last, and the lists. -/
structure PS where
  pile : List Nat
  lists : List (List Nat)
/-- The links' numbers F, the ends' numbers G tell the pile and the lists. -/
structure Rep (n m : Nat) (S : PS) (F G : Nat → Int) : Prop where
  len : S.lists.length = m
  plt : ∀ x ∈ S.pile, x < n
  llt : ∀ (k : Nat) (l : List Nat), S.lists[k]? = some l → ∀ x ∈ l, x < n
  pnd : S.pile.Nodup
  lnd : ∀ (k : Nat) (l : List Nat), S.lists[k]? = some l → l.Nodup
  ends : ∀ (k : Nat) (l : List Nat), S.lists[k]? = some l → G (k * 2) = optI l.head? ∧ G (k * 2 + 1) = optI l.getLast?
  link : ∀ (k : Nat) (l : List Nat), S.lists[k]? = some l → ∀ (a : List Nat) (i : Nat) (b : List Nat), l = a ++ i :: b → F (i * 3) = k ∧ F (i * 3 + 1) = optI a.getLast? ∧ F (i * 3 + 2) = optI b.head?
  free : ∀ (a : List Nat) (i : Nat) (b : List Nat), S.pile = a ++ i :: b → F (i * 3) = -1 ∧ F (i * 3 + 2) = optI a.getLast?
def All (n : Nat) (S : PS) : Prop := ∀ i, i < n → i ∈ S.pile ∨ ∃ (k : Nat) (l : List Nat), S.lists[k]? = some l ∧ i ∈ l
/-- An entry that stands nowhere. -/
def Out (S : PS) (i : Nat) : Prop := i ∉ S.pile ∧ ∀ (k : Nat) (l : List Nat), S.lists[k]? = some l → i ∉ l

theorem Rep.num {n m : Nat} {S : PS} {F G : Nat → Int} (h : Rep n m S F G) {k : Nat} {l : List Nat} (hk : S.lists[k]? = some l) {i : Nat} (hi : i ∈ l) : F (i * 3) = k := by
  obtain ⟨a, b, e⟩ := List.append_of_mem hi
  exact (h.link k l hk a i b e).1
theorem Rep.numP {n m : Nat} {S : PS} {F G : Nat → Int} (h : Rep n m S F G) {i : Nat} (hi : i ∈ S.pile) : F (i * 3) = -1 := by
  obtain ⟨a, b, e⟩ := List.append_of_mem hi
  exact (h.free a i b e).1
theorem Rep.one {n m : Nat} {S : PS} {F G : Nat → Int} (h : Rep n m S F G) {k k' : Nat} {l l' : List Nat} (hk : S.lists[k]? = some l) (hk' : S.lists[k']? = some l') {i : Nat} (hi : i ∈ l) (hi' : i ∈ l') : k = k' ∧ l = l' := by
  have := (h.num hk hi).symm.trans (h.num hk' hi')
  have e : k = k' := by omega
  subst e
  rw [hk] at hk'
  exact ⟨rfl, Option.some.inj hk'⟩
theorem Rep.notP {n m : Nat} {S : PS} {F G : Nat → Int} (h : Rep n m S F G) {k : Nat} {l : List Nat} (hk : S.lists[k]? = some l) {i : Nat} (hi : i ∈ l) : i ∉ S.pile := fun hp => by
  have := (h.num hk hi).symm.trans (h.numP hp)
  omega

/-! ### new -/
def newF (n : Nat) (o : Nat) : Int := if o % 3 = 2 then (if o / 3 + 1 = n then -1 else (o / 3 + 1 : Nat)) else -1
def newS (n m : Nat) : PS := ⟨(List.range n).reverse, List.replicate m []⟩
theorem newF_0 (n i : Nat) : newF n (i * 3) = -1 := by unfold newF; rw [if_neg (by omega)]
theorem newF_2 (n i : Nat) : newF n (i * 3 + 2) = if i + 1 = n then -1 else ((i + 1 : Nat) : Int) := by
  unfold newF
  rw [if_pos (by omega), show (i * 3 + 2) / 3 = i by omega]
theorem rev_range_split {n i : Nat} {a b : List Nat} (h : (List.range n).reverse = a ++ i :: b) : a.getLast? = if i + 1 = n then none else some (i + 1) := by
  have hl := congrArg List.length h
  simp at hl
  have hi : ((List.range n).reverse)[a.length]? = some i := by rw [h]; simp
  rw [List.getElem?_reverse (by simp; omega)] at hi
  simp only [List.length_range] at hi
  rw [List.getElem?_range (by omega)] at hi
  have hi' : n - 1 - a.length = i := Option.some.inj hi
  rw [List.getLast?_eq_getElem?]
  split
  · have : a.length = 0 := by omega
    rw [List.eq_nil_of_length_eq_zero this]; simp
  · have hg : ((List.range n).reverse)[a.length - 1]? = a[a.length - 1]? := by rw [h, List.getElem?_append_left (by omega)]
    rw [← hg, List.getElem?_reverse (by simp; omega)]
    simp only [List.length_range]
    rw [List.getElem?_range (by omega)]
    congr 1
    omega
theorem rep_new (n m : Nat) : Rep n m (newS n m) (newF n) (fun _ => -1) := by
  have hrep : ∀ (k : Nat) (l : List Nat), (newS n m).lists[k]? = some l → l = [] := by
    intro k l h
    simp only [newS] at h
    rw [List.getElem?_replicate] at h
    split at h
    · exact (Option.some.inj h).symm
    · cases h
  refine ⟨by simp [newS], fun x hx => ?_, fun k l h x hx => ?_, ?_, fun k l h => ?_, fun k l h => ?_, fun k l h a i b e => ?_, fun a i b e => ?_⟩
  · simpa [newS] using hx
  · rw [hrep k l h] at hx; cases hx
  · exact List.pairwise_reverse.2 (List.nodup_range.imp fun h => h.symm)
  · rw [hrep k l h]; exact List.nodup_nil
  · rw [hrep k l h]; exact ⟨rfl, rfl⟩
  · rw [hrep k l h] at e; simp at e
  · refine ⟨newF_0 n i, ?_⟩
    rw [newF_2, rev_range_split e]
    split <;> simp [optI]
theorem all_new (n m : Nat) : All n (newS n m) := fun i hi => .inl (by simp [newS, hi])

/-! ### put -/
def putF (F G : Nat → Int) (i k : Nat) : Nat → Int :=
  let F1 := upd (upd (upd F (i * 3) k) (i * 3 + 1) (G (k * 2 + 1))) (i * 3 + 2) (-1)
  if G (k * 2 + 1) = -1 then F1 else upd F1 ((G (k * 2 + 1)).toNat * 3 + 2) i
def putG (G : Nat → Int) (i k : Nat) : Nat → Int :=
  upd (if G (k * 2 + 1) = -1 then upd G (k * 2) i else G) (k * 2 + 1) i
def PS.put (S : PS) (i k : Nat) : PS := ⟨S.pile, S.lists.modify k (· ++ [i])⟩

theorem snoc_split {l a b : List Nat} {i x : Nat} (h : l ++ [i] = a ++ x :: b) : (b = [] ∧ a = l ∧ x = i) ∨ ∃ b', b = b' ++ [i] ∧ l = a ++ x :: b' := by
  rcases List.eq_nil_or_concat b with rfl | ⟨b', y, rfl⟩
  · have := List.append_inj' h rfl
    simp at this
    exact .inl ⟨rfl, this.1.symm, this.2.symm⟩
  · right
    rw [List.concat_eq_append] at h ⊢
    rw [← List.cons_append, ← List.append_assoc] at h
    have := List.append_inj' h rfl
    simp at this
    exact ⟨b', by rw [this.2], this.1⟩

theorem rep_put {n m : Nat} {S : PS} {F G : Nat → Int} (h : Rep n m S F G) {i k : Nat} (hi : i < n) (hk : k < m) (ho : Out S i) : Rep n m (S.put i k) (putF F G i k) (putG G i k) := by
  obtain ⟨l0, hl0⟩ : ∃ l, S.lists[k]? = some l := ⟨S.lists[k]'(by rw [h.len]; exact hk), List.getElem?_eq_getElem _⟩
  have hend := h.ends k l0 hl0
  have hm : ∀ (k' : Nat) (l' : List Nat), (S.put i k).lists[k']? = some l' → (k' = k ∧ l' = l0 ++ [i]) ∨ (k' ≠ k ∧ S.lists[k']? = some l') := by
    intro k' l' h'
    simp only [PS.put] at h'
    rw [List.getElem?_modify] at h'
    by_cases e : k = k'
    · subst e
      rw [hl0] at h'
      simp at h'
      exact .inl ⟨rfl, h'.symm⟩
    · simp [e] at h'
      exact .inr ⟨fun h => e h.symm, h'⟩
  -- the last one of the list, where there is one
  have hlast : ∀ z, l0.getLast? = some z → G (k * 2 + 1) = z ∧ ∃ c, l0 = c ++ [z] := by
    intro z hz
    refine ⟨by rw [hend.2, hz]; rfl, ?_⟩
    obtain ⟨c, hc⟩ := List.getLast?_eq_some_iff.1 hz
    exact ⟨c, hc⟩
  have hFo : ∀ x o, x ≠ i → o < 3 → (o = 2 → l0.getLast? ≠ some x) → putF F G i k (x * 3 + o) = F (x * 3 + o) := by
    intro x o hx hlt hz
    unfold putF
    have e1 : ∀ v, upd (upd (upd F (i * 3) v) (i * 3 + 1) (G (k * 2 + 1))) (i * 3 + 2) (-1) (x * 3 + o) = F (x * 3 + o) := fun v => by
      rw [upd_ne (by omega), upd_ne (by omega), upd_ne (by omega)]
    split
    · exact e1 _
    · rename_i hne
      rw [hend.2] at hne ⊢
      cases hq : l0.getLast? with
      | none => rw [hq] at hne; exact absurd rfl hne
      | some z =>
        rw [upd_ne, ← hq, ← hend.2]
        · exact e1 _
        · simp only [optI, Int.toNat_natCast]
          intro he
          have h2 : o = 2 := by omega
          have h3 : x = z := by omega
          exact hz h2 (by rw [hq, h3])
  have hFi : putF F G i k (i * 3) = k ∧ putF F G i k (i * 3 + 1) = optI l0.getLast? ∧ putF F G i k (i * 3 + 2) = -1 := by
    have hne : G (k * 2 + 1) ≠ -1 → (G (k * 2 + 1)).toNat ≠ i := by
      intro hne he
      rw [hend.2] at hne he
      cases hq : l0.getLast? with
      | none => rw [hq] at hne; exact hne rfl
      | some z =>
        rw [hq] at he
        simp only [optI, Int.toNat_natCast] at he
        subst he
        exact ho.2 k l0 hl0 (List.mem_of_getLast? hq)
    unfold putF
    split
    · refine ⟨?_, ?_, ?_⟩
      · rw [upd_ne (by omega), upd_ne (by omega), upd_same]
      · rw [upd_ne (by omega), upd_same, hend.2]
      · rw [upd_same]
    · rename_i hq
      have := hne hq
      refine ⟨?_, ?_, ?_⟩
      · rw [upd_ne (by omega), upd_ne (by omega), upd_ne (by omega), upd_same]
      · rw [upd_ne (by omega), upd_ne (by omega), upd_same, hend.2]
      · rw [upd_ne (by omega), upd_same]
  refine ⟨by simp [PS.put, h.len], h.plt, fun k' l' h' x hx => ?_, h.pnd, fun k' l' h' => ?_, fun k' l' h' => ?_, fun k' l' h' a x b e => ?_, fun a x b e => ?_⟩
  · rcases hm k' l' h' with ⟨rfl, rfl⟩ | ⟨_, h2⟩
    · rcases List.mem_append.1 hx with hx | hx
      · exact h.llt _ _ hl0 x hx
      · simp at hx; omega
    · exact h.llt _ _ h2 x hx
  · rcases hm k' l' h' with ⟨rfl, rfl⟩ | ⟨_, h2⟩
    · rw [List.nodup_append]
      refine ⟨h.lnd _ _ hl0, by simp, fun a ha b hb => ?_⟩
      simp at hb
      subst hb
      rintro rfl
      exact ho.2 _ _ hl0 ha
    · exact h.lnd _ _ h2
  · rcases hm k' l' h' with ⟨rfl, rfl⟩ | ⟨hne, h2⟩
    · unfold putG
      refine ⟨?_, by rw [upd_same]; simp [optI]⟩
      rw [upd_ne (by omega)]
      split
      · rename_i hq
        rw [upd_same]
        rw [hend.2, optI_neg] at hq
        rw [List.getLast?_eq_none_iff.1 hq]
        rfl
      · rename_i hq
        rw [hend.1]
        rw [hend.2, optI_neg] at hq
        cases l0 with
        | nil => simp at hq
        | cons y r => rfl
    · unfold putG
      have := h.ends _ _ h2
      refine ⟨?_, ?_⟩
      · rw [upd_ne (by omega)]
        split
        · rw [upd_ne (by omega), this.1]
        · exact this.1
      · rw [upd_ne (by omega)]
        split
        · rw [upd_ne (by omega), this.2]
        · exact this.2
  · rcases hm k' l' h' with ⟨rfl, rfl⟩ | ⟨hne, h2⟩
    · rcases snoc_split e with ⟨rfl, rfl, rfl⟩ | ⟨b', rfl, e2⟩
      · exact ⟨hFi.1, hFi.2.1, hFi.2.2⟩
      · have hx : x ∈ l0 := by rw [e2]; simp
        have hxi : x ≠ i := by rintro rfl; exact ho.2 _ _ hl0 hx
        obtain ⟨q1, q2, q3⟩ := h.link _ _ hl0 a x b' e2
        refine ⟨?_, ?_, ?_⟩
        · have := hFo x 0 hxi (by omega) (by omega)
          simp only [Nat.add_zero] at this
          rw [this, q1]
        · rw [hFo x 1 hxi (by omega) (by omega), q2]
        · cases b' with
          | cons y r =>
            rw [hFo x 2 hxi (by omega) (fun _ hz => ?_), q3]
            · rfl
            · rw [e2] at hz
              have hnd := h.lnd _ _ hl0
              rw [e2, List.nodup_append] at hnd
              have hnd2 := (List.nodup_cons.1 hnd.2.1).1
              have : (y :: r).getLast? = some x := by
                rw [List.getLast?_append] at hz
                simpa using hz
              exact hnd2 (List.mem_of_getLast? this)
          | nil =>
            have hz : l0.getLast? = some x := by rw [e2]; simp
            obtain ⟨g1, _⟩ := hlast x hz
            unfold putF
            rw [if_neg (by rw [g1]; omega), g1]
            simp only [Int.toNat_natCast]
            rw [upd_same]
            rfl
    · have hx : x ∈ l' := by rw [e]; simp
      have hxi : x ≠ i := by rintro rfl; exact ho.2 _ _ h2 hx
      have hz : l0.getLast? ≠ some x := fun hz => by
        have := h.one hl0 h2 (List.mem_of_getLast? hz) hx
        omega
      obtain ⟨q1, q2, q3⟩ := h.link _ _ h2 a x b e
      refine ⟨?_, ?_, ?_⟩
      · have := hFo x 0 hxi (by omega) (by omega)
        simp only [Nat.add_zero] at this
        rw [this, q1]
      · rw [hFo x 1 hxi (by omega) (by omega), q2]
      · rw [hFo x 2 hxi (by omega) (fun _ => hz), q3]
  · have hx : x ∈ S.pile := by
      have e' : S.pile = a ++ x :: b := e
      rw [e']; simp
    have hxi : x ≠ i := by rintro rfl; exact ho.1 hx
    have hz : l0.getLast? ≠ some x := fun hz => h.notP hl0 (List.mem_of_getLast? hz) hx
    obtain ⟨q1, q2⟩ := h.free a x b e
    refine ⟨?_, ?_⟩
    · have := hFo x 0 hxi (by omega) (by omega)
      simp only [Nat.add_zero] at this
      rw [this, q1]
    · rw [hFo x 2 hxi (by omega) (fun _ => hz), q2]
end Go.Proofs.Ytcchmkpodfjhcaa
