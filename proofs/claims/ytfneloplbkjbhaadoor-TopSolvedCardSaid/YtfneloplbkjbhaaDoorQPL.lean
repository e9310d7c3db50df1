/-
  The plain law of the pool, and of the queue.
-/
import Derived.Test.YtfneloplbkjbhaaDoorVk
namespace Go.Proofs.YtfneloplbkjbhaaDoor
set_option linter.unusedVariables false

def upd (f : Nat → Int) (o : Nat) (v : Int) (j : Nat) : Int := if j = o then v else f j
theorem upd_same {f : Nat → Int} {o : Nat} {v : Int} : upd f o v o = v := by simp [upd]
theorem upd_ne {f : Nat → Int} {o j : Nat} {v : Int} (h : j ≠ o) : upd f o v j = f j := by simp [upd, h]
def optI : Option Nat → Int
  | some x => (x : Int)
  | none => -1
theorem optI_neg {o : Option Nat} : optI o = -1 ↔ o = none := by
  cases o with
  | none => simp [optI]
  | some x => simp [optI]

/-- A pool: the pile, the top one last, and the lists. -/
structure PS where
  pile : List Nat
  lists : List (List Nat)
/-- The links' numbers F, the ends' numbers G tell the pile and the lists. -/
structure Rep (n m : Nat) (S : PS) (F G : Nat → Int) : Prop where
  len : S.lists.length = m
  plt : ∀ x ∈ S.pile, x < n
  llt : ∀ (k : Nat) (l : List Nat), S.lists[k]? = some l → ∀ x ∈ l, x < n
  pnd : S.pile.Nodup
  lnd : ∀ (k : Nat) (l : List Nat), S.lists[k]? = some l → l.Nodup
  ends : ∀ (k : Nat) (l : List Nat), S.lists[k]? = some l → G (k * 2) = optI l.head? ∧ G (k * 2 + 1) = optI l.getLast?
  link : ∀ (k : Nat) (l : List Nat), S.lists[k]? = some l → ∀ (a : List Nat) (i : Nat) (b : List Nat), l = a ++ i :: b → F (i * 3) = k ∧ F (i * 3 + 1) = optI a.getLast? ∧ F (i * 3 + 2) = optI b.head?
  free : ∀ (a : List Nat) (i : Nat) (b : List Nat), S.pile = a ++ i :: b → F (i * 3) = -1 ∧ F (i * 3 + 2) = optI a.getLast?
def All (n : Nat) (S : PS) : Prop := ∀ i, i < n → i ∈ S.pile ∨ ∃ (k : Nat) (l : List Nat), S.lists[k]? = some l ∧ i ∈ l
/-- An entry that stands nowhere. -/
def Out (S : PS) (i : Nat) : Prop := i ∉ S.pile ∧ ∀ (k : Nat) (l : List Nat), S.lists[k]? = some l → i ∉ l

theorem Rep.num {n m : Nat} {S : PS} {F G : Nat → Int} (h : Rep n m S F G) {k : Nat} {l : List Nat} (hk : S.lists[k]? = some l) {i : Nat} (hi : i ∈ l) : F (i * 3) = k := by
  obtain ⟨a, b, e⟩ := List.append_of_mem hi
  exact (h.link k l hk a i b e).1
theorem Rep.numP {n m : Nat} {S : PS} {F G : Nat → Int} (h : Rep n m S F G) {i : Nat} (hi : i ∈ S.pile) : F (i * 3) = -1 := by
  obtain ⟨a, b, e⟩ := List.append_of_mem hi
  exact (h.free a i b e).1
theorem Rep.one {n m : Nat} {S : PS} {F G : Nat → Int} (h : Rep n m S F G) {k k' : Nat} {l l' : List Nat} (hk : S.lists[k]? = some l) (hk' : S.lists[k']? = some l') {i : Nat} (hi : i ∈ l) (hi' : i ∈ l') : k = k' ∧ l = l' := by
  have := (h.num hk hi).symm.trans (h.num hk' hi')
  have e : k = k' := by omega
  subst e
  rw [hk] at hk'
  exact ⟨rfl, Option.some.inj hk'⟩
theorem Rep.notP {n m : Nat} {S : PS} {F G : Nat → Int} (h : Rep n m S F G) {k : Nat} {l : List Nat} (hk : S.lists[k]? = some l) {i : Nat} (hi : i ∈ l) : i ∉ S.pile := fun hp => by
  have := (h.num hk hi).symm.trans (h.numP hp)
  omega

/-! ### new -/
def newF (n : Nat) (o : Nat) : Int := if o % 3 = 2 then (if o / 3 + 1 = n then -1 else (o / 3 + 1 : Nat)) else -1
def newS (n m : Nat) : PS := ⟨(List.range n).reverse, List.replicate m []⟩
theorem newF_0 (n i : Nat) : newF n (i * 3) = -1 := by unfold newF; rw [if_neg (by omega)]
theorem newF_2 (n i : Nat) : newF n (i * 3 + 2) = if i + 1 = n then -1 else ((i + 1 : Nat) : Int) := by
  unfold newF
  rw [if_pos (by omega), show (i * 3 + 2) / 3 = i by omega]
theorem rev_range_split {n i : Nat} {a b : List Nat} (h : (List.range n).reverse = a ++ i :: b) : a.getLast? = if i + 1 = n then none else some (i + 1) := by
  have hl := congrArg List.length h
  simp at hl
  have hi : ((List.range n).reverse)[a.length]? = some i := by rw [h]; simp
  rw [List.getElem?_reverse (by simp; omega)] at hi
  simp only [List.length_range] at hi
  rw [List.getElem?_range (by omega)] at hi
  have hi' : n - 1 - a.length = i := Option.some.inj hi
  rw [List.getLast?_eq_getElem?]
  split
  · have : a.length = 0 := by omega
    rw [List.eq_nil_of_length_eq_zero this]; simp
  · have hg : ((List.range n).reverse)[a.length - 1]? = a[a.length - 1]? := by rw [h, List.getElem?_append_left (by omega)]
    rw [← hg, List.getElem?_reverse (by simp; omega)]
    simp only [List.length_range]
    rw [List.getElem?_range (by omega)]
    congr 1
    omega
theorem rep_new (n m : Nat) : Rep n m (newS n m) (newF n) (fun _ => -1) := by
  have hrep : ∀ (k : Nat) (l : List Nat), (newS n m).lists[k]? = some l → l = [] := by
    intro k l h
    simp only [newS] at h
    rw [List.getElem?_replicate] at h
    split at h
    · exact (Option.some.inj h).symm
    · cases h
  refine ⟨by simp [newS], fun x hx => ?_, fun k l h x hx => ?_, ?_, fun k l h => ?_, fun k l h => ?_, fun k l h a i b e => ?_, fun a i b e => ?_⟩
  · simpa [newS] using hx
  · rw [hrep k l h] at hx; cases hx
  · exact List.pairwise_reverse.2 (List.nodup_range.imp fun h => h.symm)
  · rw [hrep k l h]; exact List.nodup_nil
  · rw [hrep k l h]; exact ⟨rfl, rfl⟩
  · rw [hrep k l h] at e; simp at e
  · refine ⟨newF_0 n i, ?_⟩
    rw [newF_2, rev_range_split e]
    split <;> simp [optI]
theorem all_new (n m : Nat) : All n (newS n m) := fun i hi => .inl (by simp [newS, hi])

/-! ### put -/
def putF (F G : Nat → Int) (i k : Nat) : Nat → Int :=
  let F1 := upd (upd (upd F (i * 3) k) (i * 3 + 1) (G (k * 2 + 1))) (i * 3 + 2) (-1)
  if G (k * 2 + 1) = -1 then F1 else upd F1 ((G (k * 2 + 1)).toNat * 3 + 2) i
def putG (G : Nat → Int) (i k : Nat) : Nat → Int :=
  upd (if G (k * 2 + 1) = -1 then upd G (k * 2) i else G) (k * 2 + 1) i
def PS.put (S : PS) (i k : Nat) : PS := ⟨S.pile, S.lists.modify k (· ++ [i])⟩

theorem snoc_split {l a b : List Nat} {i x : Nat} (h : l ++ [i] = a ++ x :: b) : (b = [] ∧ a = l ∧ x = i) ∨ ∃ b', b = b' ++ [i] ∧ l = a ++ x :: b' := by
  rcases List.eq_nil_or_concat b with rfl | ⟨b', y, rfl⟩
  · have := List.append_inj' h rfl
    simp at this
    exact .inl ⟨rfl, this.1.symm, this.2.symm⟩
  · right
    rw [List.concat_eq_append] at h ⊢
    rw [← List.cons_append, ← List.append_assoc] at h
    have := List.append_inj' h rfl
    simp at this
    exact ⟨b', by rw [this.2], this.1⟩

theorem rep_put {n m : Nat} {S : PS} {F G : Nat → Int} (h : Rep n m S F G) {i k : Nat} (hi : i < n) (hk : k < m) (ho : Out S i) : Rep n m (S.put i k) (putF F G i k) (putG G i k) := by
  obtain ⟨l0, hl0⟩ : ∃ l, S.lists[k]? = some l := ⟨S.lists[k]'(by rw [h.len]; exact hk), List.getElem?_eq_getElem _⟩
  have hend := h.ends k l0 hl0
  have hm : ∀ (k' : Nat) (l' : List Nat), (S.put i k).lists[k']? = some l' → (k' = k ∧ l' = l0 ++ [i]) ∨ (k' ≠ k ∧ S.lists[k']? = some l') := by
    intro k' l' h'
    simp only [PS.put] at h'
    rw [List.getElem?_modify] at h'
    by_cases e : k = k'
    · subst e
      rw [hl0] at h'
      simp at h'
      exact .inl ⟨rfl, h'.symm⟩
    · simp [e] at h'
      exact .inr ⟨fun h => e h.symm, h'⟩
  -- the last one of the list, where there is one
  have hlast : ∀ z, l0.getLast? = some z → G (k * 2 + 1) = z ∧ ∃ c, l0 = c ++ [z] := by
    intro z hz
    refine ⟨by rw [hend.2, hz]; rfl, ?_⟩
    obtain ⟨c, hc⟩ := List.getLast?_eq_some_iff.1 hz
    exact ⟨c, hc⟩
  have hFo : ∀ x o, x ≠ i → o < 3 → (o = 2 → l0.getLast? ≠ some x) → putF F G i k (x * 3 + o) = F (x * 3 + o) := by
    intro x o hx hlt hz
    unfold putF
    have e1 : ∀ v, upd (upd (upd F (i * 3) v) (i * 3 + 1) (G (k * 2 + 1))) (i * 3 + 2) (-1) (x * 3 + o) = F (x * 3 + o) := fun v => by
      rw [upd_ne (by omega), upd_ne (by omega), upd_ne (by omega)]
    split
    · exact e1 _
    · rename_i hne
      rw [hend.2] at hne ⊢
      cases hq : l0.getLast? with
      | none => rw [hq] at hne; exact absurd rfl hne
      | some z =>
        rw [upd_ne, ← hq, ← hend.2]
        · exact e1 _
        · simp only [optI, Int.toNat_natCast]
          intro he
          have h2 : o = 2 := by omega
          have h3 : x = z := by omega
          exact hz h2 (by rw [hq, h3])
  have hFi : putF F G i k (i * 3) = k ∧ putF F G i k (i * 3 + 1) = optI l0.getLast? ∧ putF F G i k (i * 3 + 2) = -1 := by
    have hne : G (k * 2 + 1) ≠ -1 → (G (k * 2 + 1)).toNat ≠ i := by
      intro hne he
      rw [hend.2] at hne he
      cases hq : l0.getLast? with
      | none => rw [hq] at hne; exact hne rfl
      | some z =>
        rw [hq] at he
        simp only [optI, Int.toNat_natCast] at he
        subst he
        exact ho.2 k l0 hl0 (List.mem_of_getLast? hq)
    unfold putF
    split
    · refine ⟨?_, ?_, ?_⟩
      · rw [upd_ne (by omega), upd_ne (by omega), upd_same]
      · rw [upd_ne (by omega), upd_same, hend.2]
      · rw [upd_same]
    · rename_i hq
      have := hne hq
      refine ⟨?_, ?_, ?_⟩
      · rw [upd_ne (by omega), upd_ne (by omega), upd_ne (by omega), upd_same]
      · rw [upd_ne (by omega), upd_ne (by omega), upd_same, hend.2]
      · rw [upd_ne (by omega), upd_same]
  refine ⟨by simp [PS.put, h.len], h.plt, fun k' l' h' x hx => ?_, h.pnd, fun k' l' h' => ?_, fun k' l' h' => ?_, fun k' l' h' a x b e => ?_, fun a x b e => ?_⟩
  · rcases hm k' l' h' with ⟨rfl, rfl⟩ | ⟨_, h2⟩
    · rcases List.mem_append.1 hx with hx | hx
      · exact h.llt _ _ hl0 x hx
      · simp at hx; omega
    · exact h.llt _ _ h2 x hx
  · rcases hm k' l' h' with ⟨rfl, rfl⟩ | ⟨_, h2⟩
    · rw [List.nodup_append]
      refine ⟨h.lnd _ _ hl0, by simp, fun a ha b hb => ?_⟩
      simp at hb
      subst hb
      rintro rfl
      exact ho.2 _ _ hl0 ha
    · exact h.lnd _ _ h2
  · rcases hm k' l' h' with ⟨rfl, rfl⟩ | ⟨hne, h2⟩
    · unfold putG
      refine ⟨?_, by rw [upd_same]; simp [optI]⟩
      rw [upd_ne (by omega)]
      split
      · rename_i hq
        rw [upd_same]
        rw [hend.2, optI_neg] at hq
        rw [List.getLast?_eq_none_iff.1 hq]
        rfl
      · rename_i hq
        rw [hend.1]
        rw [hend.2, optI_neg] at hq
        cases l0 with
        | nil => simp at hq
        | cons y r => rfl
    · unfold putG
      have := h.ends _ _ h2
      refine ⟨?_, ?_⟩
      · rw [upd_ne (by omega)]
        split
        · rw [upd_ne (by omega), this.1]
        · exact this.1
      · rw [upd_ne (by omega)]
        split
        · rw [upd_ne (by omega), this.2]
        · exact this.2
  · rcases hm k' l' h' with ⟨rfl, rfl⟩ | ⟨hne, h2⟩
    · rcases snoc_split e with ⟨rfl, rfl, rfl⟩ | ⟨b', rfl, e2⟩
      · exact ⟨hFi.1, hFi.2.1, hFi.2.2⟩
      · have hx : x ∈ l0 := by rw [e2]; simp
        have hxi : x ≠ i := by rintro rfl; exact ho.2 _ _ hl0 hx
        obtain ⟨q1, q2, q3⟩ := h.link _ _ hl0 a x b' e2
        refine ⟨?_, ?_, ?_⟩
        · have := hFo x 0 hxi (by omega) (by omega)
          simp only [Nat.add_zero] at this
          rw [this, q1]
        · rw [hFo x 1 hxi (by omega) (by omega), q2]
        · cases b' with
          | cons y r =>
            rw [hFo x 2 hxi (by omega) (fun _ hz => ?_), q3]
            · rfl
            · rw [e2] at hz
              have hnd := h.lnd _ _ hl0
              rw [e2, List.nodup_append] at hnd
              have hnd2 := (List.nodup_cons.1 hnd.2.1).1
              have : (y :: r).getLast? = some x := by
                rw [List.getLast?_append] at hz
                simpa using hz
              exact hnd2 (List.mem_of_getLast? this)
          | nil =>
            have hz : l0.getLast? = some x := by rw [e2]; simp
            obtain ⟨g1, _⟩ := hlast x hz
            unfold putF
            rw [if_neg (by rw [g1]; omega), g1]
            simp only [Int.toNat_natCast]
            rw [upd_same]
            rfl
    · have hx : x ∈ l' := by rw [e]; simp
      have hxi : x ≠ i := by rintro rfl; exact ho.2 _ _ h2 hx
      have hz : l0.getLast? ≠ some x := fun hz => by
        have := h.one hl0 h2 (List.mem_of_getLast? hz) hx
        omega
      obtain ⟨q1, q2, q3⟩ := h.link _ _ h2 a x b e
      refine ⟨?_, ?_, ?_⟩
      · have := hFo x 0 hxi (by omega) (by omega)
        simp only [Nat.add_zero] at this
        rw [this, q1]
      · rw [hFo x 1 hxi (by omega) (by omega), q2]
      · rw [hFo x 2 hxi (by omega) (fun _ => hz), q3]
  · have hx : x ∈ S.pile := by
      have e' : S.pile = a ++ x :: b := e
      rw [e']; simp
    have hxi : x ≠ i := by rintro rfl; exact ho.1 hx
    have hz : l0.getLast? ≠ some x := fun hz => h.notP hl0 (List.mem_of_getLast? hz) hx
    obtain ⟨q1, q2⟩ := h.free a x b e
    refine ⟨?_, ?_⟩
    · have := hFo x 0 hxi (by omega) (by omega)
      simp only [Nat.add_zero] at this
      rw [this, q1]
    · rw [hFo x 2 hxi (by omega) (fun _ => hz), q2]
end Go.Proofs.YtfneloplbkjbhaaDoor
namespace Go.Proofs.YtfneloplbkjbhaaDoor
set_option linter.unusedVariables false

def outF (F : Nat → Int) (i : Nat) : Nat → Int :=
  let F1 := if F (i * 3 + 1) = -1 then F else upd F ((F (i * 3 + 1)).toNat * 3 + 2) (F (i * 3 + 2))
  if F (i * 3 + 2) = -1 then F1 else upd F1 ((F (i * 3 + 2)).toNat * 3 + 1) (F (i * 3 + 1))
def outG (F G : Nat → Int) (i : Nat) : Nat → Int :=
  let G1 := if F (i * 3 + 1) = -1 then upd G ((F (i * 3)).toNat * 2) (F (i * 3 + 2)) else G
  if F (i * 3 + 2) = -1 then upd G1 ((F (i * 3)).toNat * 2 + 1) (F (i * 3 + 1)) else G1
def PS.out (S : PS) (i : Nat) : PS := ⟨S.pile, S.lists.map (List.filter fun x => decide (x ≠ i))⟩

theorem filter_notin {l : List Nat} {i : Nat} (h : i ∉ l) : l.filter (fun x => decide (x ≠ i)) = l :=
  List.filter_eq_self.2 fun x hx => decide_eq_true (by rintro rfl; exact h hx)
theorem filter_split {a b : List Nat} {i : Nat} (h : (a ++ i :: b).Nodup) : (a ++ i :: b).filter (fun x => decide (x ≠ i)) = a ++ b := by
  obtain ⟨_, h2, h3⟩ := List.nodup_append.1 h
  have hb := (List.nodup_cons.1 h2).1
  have ha : i ∉ a := fun ha => h3 i ha i (by simp) rfl
  rw [List.filter_append, List.filter_cons_of_neg (by simp), filter_notin ha, filter_notin hb]
theorem outF_0 (F : Nat → Int) (i x : Nat) : outF F i (x * 3) = F (x * 3) := by
  unfold outF
  split <;> split <;> simp only [upd_ne (show x * 3 ≠ (F (i * 3 + 2)).toNat * 3 + 1 by omega), upd_ne (show x * 3 ≠ (F (i * 3 + 1)).toNat * 3 + 2 by omega)]
theorem outF_1 {F : Nat → Int} {i : Nat} {p q : Option Nat} (h1 : F (i * 3 + 1) = optI p) (h2 : F (i * 3 + 2) = optI q) (x : Nat) : outF F i (x * 3 + 1) = if q = some x then optI p else F (x * 3 + 1) := by
  unfold outF
  simp only [h1, h2]
  have e : (if optI p = -1 then F else upd F ((optI p).toNat * 3 + 2) (optI q)) (x * 3 + 1) = F (x * 3 + 1) := by
    split
    · rfl
    · rw [upd_ne (by omega)]
  cases q with
  | none => rw [if_pos (show optI none = -1 from rfl), e, if_neg (by simp)]
  | some y =>
    rw [if_neg (by simp [optI])]
    by_cases hy : y = x
    · subst hy
      rw [show (optI (some y)).toNat = y from rfl, upd_same, if_pos rfl]
    · simp only [optI, Int.toNat_natCast]
      rw [upd_ne (by omega), if_neg (by simpa using hy)]
      exact e
theorem outF_2 {F : Nat → Int} {i : Nat} {p q : Option Nat} (h1 : F (i * 3 + 1) = optI p) (h2 : F (i * 3 + 2) = optI q) (x : Nat) : outF F i (x * 3 + 2) = if p = some x then optI q else F (x * 3 + 2) := by
  unfold outF
  simp only [h1, h2]
  have e : (if optI p = -1 then F else upd F ((optI p).toNat * 3 + 2) (optI q)) (x * 3 + 2) = if p = some x then optI q else F (x * 3 + 2) := by
    cases p with
    | none => rw [if_pos (show optI none = -1 from rfl), if_neg (by simp)]
    | some y =>
      rw [if_neg (by simp [optI])]
      by_cases hy : y = x
      · subst hy
        rw [show (optI (some y)).toNat = y from rfl, upd_same, if_pos rfl]
      · simp only [optI, Int.toNat_natCast]
        rw [upd_ne (by omega), if_neg (by simpa using hy)]
  split
  · exact e
  · rw [upd_ne (by omega)]
    exact e

theorem rep_out {n m : Nat} {S : PS} {F G : Nat → Int} (h : Rep n m S F G) {i k : Nat} {l : List Nat} (hl : S.lists[k]? = some l) (hi : i ∈ l) :
    Rep n m (S.out i) (outF F i) (outG F G i) ∧ Out (S.out i) i := by
  obtain ⟨a, b, e⟩ := List.append_of_mem hi
  obtain ⟨f0, f1, f2⟩ := h.link k l hl a i b e
  have hnd := h.lnd k l hl
  have hfl : l.filter (fun x => decide (x ≠ i)) = a ++ b := by rw [e] at hnd ⊢; exact filter_split hnd
  have hin : ∀ (k' : Nat) (l' : List Nat), S.lists[k']? = some l' → k' ≠ k → i ∉ l' := fun k' l' h' hne hx => hne (h.one h' hl hx hi).1
  have hm : ∀ (k' : Nat) (l' : List Nat), (S.out i).lists[k']? = some l' → (k' = k ∧ l' = a ++ b) ∨ (k' ≠ k ∧ S.lists[k']? = some l') := by
    intro k' l' h'
    simp only [PS.out, List.getElem?_map, Option.map_eq_some_iff] at h'
    obtain ⟨l2, h2, rfl⟩ := h'
    by_cases hk : k' = k
    · subst hk
      rw [hl] at h2
      cases h2
      exact .inl ⟨rfl, hfl⟩
    · exact .inr ⟨hk, by rw [filter_notin (hin k' l2 h2 hk)]; exact h2⟩
  have hsub : ∀ x, x ∈ a ++ b → x ∈ l := fun x hx => by rw [e]; rcases List.mem_append.1 hx with h | h <;> simp [h]
  have hnd2 : (a ++ b).Nodup := by rw [← hfl]; exact List.Nodup.sublist List.filter_sublist hnd
  obtain ⟨na, nb, nab⟩ := List.nodup_append.1 hnd2
  have hne : ∀ k', k' ≠ k → (∀ (l' : List Nat), S.lists[k']? = some l' → ∀ x ∈ l', b.head? ≠ some x ∧ a.getLast? ≠ some x) := fun k' hk l' h' x hx => by
    refine ⟨fun hz => ?_, fun hz => ?_⟩
    · exact hk (h.one h' hl hx (hsub x (List.mem_append.2 (.inr (List.mem_of_head? hz))))).1
    · exact hk (h.one h' hl hx (hsub x (List.mem_append.2 (.inl (List.mem_of_getLast? hz))))).1
  have hkt : (F (i * 3)).toNat = k := by rw [f0]; simp
  have hgt : ∀ j, outG F G i j = if j = k * 2 ∧ a = [] then optI b.head? else if j = k * 2 + 1 ∧ b = [] then optI a.getLast? else G j := by
    intro j
    unfold outG
    simp only [f1, f2, hkt, optI_neg, List.getLast?_eq_none_iff, List.head?_eq_none_iff]
    by_cases ha : a = [] <;> by_cases hb : b = []
    · simp only [ha, hb, if_true, and_true]
      by_cases h1 : j = k * 2 + 1
      · rw [h1, upd_same, if_neg (by omega), if_pos rfl]
      · rw [upd_ne h1]
        by_cases h0 : j = k * 2
        · rw [h0, upd_same, if_pos rfl]
        · rw [upd_ne h0, if_neg h0, if_neg h1]
    · simp only [ha, hb, if_true, if_false, and_true, and_false]
      by_cases h0 : j = k * 2
      · rw [h0, upd_same, if_pos rfl]
      · rw [upd_ne h0, if_neg h0]
    · simp only [ha, hb, if_true, if_false, and_true, and_false]
      by_cases h1 : j = k * 2 + 1
      · rw [h1, upd_same, if_pos rfl]
      · rw [upd_ne h1, if_neg h1]
    · simp only [ha, hb, if_false, and_false]
  refine ⟨⟨by simp [PS.out, h.len], h.plt, fun k' l' h' x hx => ?_, h.pnd, fun k' l' h' => ?_, fun k' l' h' => ?_, fun k' l' h' a' x b' e' => ?_, fun a' x b' e' => ?_⟩, ?_, ?_⟩
  · rcases hm k' l' h' with ⟨rfl, rfl⟩ | ⟨_, h2⟩
    · exact h.llt _ _ hl x (hsub x hx)
    · exact h.llt _ _ h2 x hx
  · rcases hm k' l' h' with ⟨rfl, rfl⟩ | ⟨_, h2⟩
    · exact hnd2
    · exact h.lnd _ _ h2
  · rcases hm k' l' h' with ⟨rfl, rfl⟩ | ⟨hk, h2⟩
    · have hg := h.ends _ _ hl
      rw [hgt, hgt]
      refine ⟨?_, ?_⟩
      · by_cases ha : a = []
        · rw [if_pos ⟨rfl, ha⟩, ha]; rfl
        · rw [if_neg (by simp [ha]), if_neg (by omega), hg.1, e]
          cases a with
          | nil => exact absurd rfl ha
          | cons y r => rfl
      · rw [if_neg (by omega)]
        by_cases hb : b = []
        · rw [if_pos ⟨rfl, hb⟩, hb, List.append_nil]
        · rw [if_neg (by simp [hb]), hg.2, e]
          rw [List.getLast?_append, List.getLast?_append]
          cases b with
          | nil => exact absurd rfl hb
          | cons y r => rw [List.getLast?_cons_cons]
    · rw [hgt, hgt, if_neg (by omega), if_neg (by omega), if_neg (by omega), if_neg (by omega)]
      exact h.ends _ _ h2
  · rcases hm k' l' h' with ⟨rfl, rfl⟩ | ⟨hk, h2⟩
    · have hx : x ∈ a ++ b := by rw [e']; simp
      refine ⟨by rw [outF_0]; exact h.num hl (hsub x hx), ?_⟩
      rw [outF_1 f1 f2, outF_2 f1 f2]
      rcases List.append_eq_append_iff.1 e' with ⟨c, hc1, hc2⟩ | ⟨c, hc1, hc2⟩
      · have hxb : x ∈ b := by rw [hc2]; simp
        have e2 : l = (a ++ i :: c) ++ x :: b' := by rw [e, hc2]; simp
        obtain ⟨q0, q1, q2⟩ := h.link _ _ hl _ _ _ e2
        refine ⟨?_, ?_⟩
        · cases c with
          | nil =>
            rw [if_pos (by rw [hc2]; rfl), hc1, List.append_nil]
          | cons y r =>
            rw [if_neg, q1, hc1, List.getLast?_append, List.getLast?_append, List.getLast?_cons_cons]
            rw [hc2]
            simp only [List.cons_append, List.head?_cons, Option.some.injEq]
            rintro rfl
            rw [hc2] at nb
            simp at nb
        · rw [if_neg, q2]
          intro hz
          exact nab x (List.mem_of_getLast? hz) x hxb rfl
      · cases c with
        | nil =>
          simp only [List.nil_append, List.append_nil] at hc1 hc2
          have hxb : x ∈ b := by rw [← hc2]; simp
          have e2 : l = (a ++ [i]) ++ x :: b' := by rw [e, ← hc2]; simp
          obtain ⟨q0, q1, q2⟩ := h.link _ _ hl _ _ _ e2
          refine ⟨?_, ?_⟩
          · rw [if_pos (by rw [← hc2]; rfl), hc1]
          · rw [if_neg, q2]
            intro hz
            exact nab x (List.mem_of_getLast? hz) x hxb rfl
        | cons y r =>
          simp only [List.cons_append, List.cons.injEq] at hc2
          obtain ⟨rfl, rfl⟩ := hc2
          have hxa : x ∈ a := by rw [hc1]; simp
          have e2 : l = a' ++ x :: (r ++ i :: b) := by rw [e, hc1]; simp
          obtain ⟨q0, q1, q2⟩ := h.link _ _ hl _ _ _ e2
          refine ⟨?_, ?_⟩
          · rw [if_neg, q1]
            intro hz
            exact nab x hxa x (List.mem_of_head? hz) rfl
          · cases r with
            | nil =>
              rw [if_pos (by rw [hc1]; simp)]; rfl
            | cons z r =>
              rw [if_neg, q2]
              · rfl
              · intro hz
                rw [hc1, List.getLast?_append] at hz
                rw [hc1, List.nodup_append] at na
                have hq : (z :: r).getLast? = some x := by simpa using hz
                exact (List.nodup_cons.1 na.2.1).1 (List.mem_of_getLast? hq)
    · have hx : x ∈ l' := by rw [e']; simp
      obtain ⟨n1, n2⟩ := hne k' hk l' h2 x hx
      rw [outF_0, outF_1 f1 f2, outF_2 f1 f2, if_neg n1, if_neg n2]
      exact h.link _ _ h2 _ _ _ e'
  · have e2 : S.pile = a' ++ x :: b' := e'
    have hx : x ∈ S.pile := by rw [e2]; simp
    have n2 : a.getLast? ≠ some x := fun hz => h.notP hl (hsub x (List.mem_append.2 (.inl (List.mem_of_getLast? hz)))) hx
    rw [outF_0, outF_2 f1 f2, if_neg n2]
    exact h.free _ _ _ e2
  · exact fun hp => h.notP hl hi hp
  · intro k' l' h'
    rcases hm k' l' h' with ⟨rfl, rfl⟩ | ⟨hk, h2⟩
    · rw [← hfl]; simp
    · exact hin _ _ h2 hk

/-! ### the pile -/
def pushF (F : Nat → Int) (i : Nat) (t : Int) : Nat → Int := upd (upd (upd F (i * 3) (-1)) (i * 3 + 1) (-1)) (i * 3 + 2) t
theorem rep_push {n m : Nat} {S : PS} {F G : Nat → Int} (h : Rep n m S F G) {i : Nat} (hi : i < n) (ho : Out S i) :
    Rep n m ⟨S.pile ++ [i], S.lists⟩ (pushF F i (optI S.pile.getLast?)) G := by
  have hF : ∀ x o, x ≠ i → o < 3 → pushF F i (optI S.pile.getLast?) (x * 3 + o) = F (x * 3 + o) := fun x o hx hlt => by
    unfold pushF
    rw [upd_ne (by omega), upd_ne (by omega), upd_ne (by omega)]
  have hF0 : ∀ x, x ≠ i → pushF F i (optI S.pile.getLast?) (x * 3) = F (x * 3) := fun x hx => hF x 0 hx (by omega)
  refine ⟨h.len, fun x hx => ?_, h.llt, ?_, h.lnd, h.ends, fun k' l' h' a x b e => ?_, fun a x b e => ?_⟩
  · rcases List.mem_append.1 hx with hx | hx
    · exact h.plt x hx
    · simp at hx; omega
  · rw [List.nodup_append]
    refine ⟨h.pnd, by simp, fun a ha b hb => ?_⟩
    simp at hb
    subst hb
    rintro rfl
    exact ho.1 ha
  · have hx : x ∈ l' := by rw [e]; simp
    have hxi : x ≠ i := by rintro rfl; exact ho.2 _ _ h' hx
    rw [hF0 x hxi, hF x 1 hxi (by omega), hF x 2 hxi (by omega)]
    exact h.link _ _ h' _ _ _ e
  · rcases snoc_split e with ⟨rfl, rfl, rfl⟩ | ⟨b', rfl, e2⟩
    · unfold pushF
      refine ⟨?_, by rw [upd_same]⟩
      rw [upd_ne (by omega), upd_ne (by omega), upd_same]
    · have hx : x ∈ S.pile := by rw [e2]; simp
      have hxi : x ≠ i := by rintro rfl; exact ho.1 hx
      rw [hF0 x hxi, hF x 2 hxi (by omega)]
      exact h.free _ _ _ e2
theorem rep_pop {n m : Nat} {P : List Nat} {L : List (List Nat)} {F G : Nat → Int} {i : Nat} (h : Rep n m ⟨P ++ [i], L⟩ F G) : Rep n m ⟨P, L⟩ F G ∧ Out ⟨P, L⟩ i ∧ i < n ∧ F (i * 3 + 2) = optI P.getLast? := by
  refine ⟨⟨h.len, fun x hx => h.plt x (by simp [show x ∈ P from hx]), h.llt, ?_, h.lnd, h.ends, h.link, fun a x b e => ?_⟩, ⟨?_, fun k l hl hx => ?_⟩, h.plt i (by simp), (h.free P i [] (by simp)).2⟩
  · exact (List.nodup_append.1 h.pnd).1
  · have e' : P = a ++ x :: b := e
    exact h.free a x (b ++ [i]) (by rw [e']; simp)
  · intro hp
    exact (List.nodup_append.1 h.pnd).2.2 i hp i (by simp) rfl
  · exact h.notP hl hx (by simp)

/-! ### whole acts -/
def PS.take (S : PS) (i k : Nat) : PS := PS.put ⟨S.pile.dropLast, S.lists⟩ i k
def PS.give (S : PS) (i : Nat) : PS := ⟨S.pile ++ [i], (S.out i).lists⟩
def PS.move (S : PS) (i k : Nat) : PS := (S.out i).put i k
structure Good (n m : Nat) (S : PS) (F G : Nat → Int) : Prop where
  rep : Rep n m S F G
  all : All n S
theorem good_new (n m : Nat) : Good n m (newS n m) (newF n) (fun _ => -1) := ⟨rep_new n m, all_new n m⟩
theorem mem_out {S : PS} {i x : Nat} (h : ∃ (k : Nat) (l : List Nat), S.lists[k]? = some l ∧ x ∈ l) (hx : x ≠ i) : ∃ (k : Nat) (l : List Nat), (S.out i).lists[k]? = some l ∧ x ∈ l := by
  obtain ⟨k, l, hl, hm⟩ := h
  exact ⟨k, l.filter (fun x => decide (x ≠ i)), by simp [PS.out, hl], List.mem_filter.2 ⟨hm, decide_eq_true hx⟩⟩
theorem mem_put {S : PS} {i k x : Nat} (h : ∃ (k : Nat) (l : List Nat), S.lists[k]? = some l ∧ x ∈ l) : ∃ (k' : Nat) (l : List Nat), (S.put i k).lists[k']? = some l ∧ x ∈ l := by
  obtain ⟨k', l, hl, hm⟩ := h
  by_cases e : k = k'
  · exact ⟨k', l ++ [i], by simp [PS.put, e, hl], by simp [hm]⟩
  · exact ⟨k', l, by simp [PS.put, e, hl], hm⟩
theorem mem_put_self {S : PS} {i k : Nat} (hk : k < S.lists.length) : ∃ (k' : Nat) (l : List Nat), (S.put i k).lists[k']? = some l ∧ i ∈ l :=
  ⟨k, S.lists[k] ++ [i], by simp [PS.put, List.getElem?_eq_getElem hk], by simp⟩
theorem good_take {n m : Nat} {P : List Nat} {L : List (List Nat)} {F G : Nat → Int} {i k : Nat} (h : Good n m ⟨P ++ [i], L⟩ F G) (hk : k < m) : Good n m (PS.take ⟨P ++ [i], L⟩ i k) (putF F G i k) (putG G i k) := by
  obtain ⟨h1, h2, h3, _⟩ := rep_pop h.rep
  have e : PS.take ⟨P ++ [i], L⟩ i k = PS.put ⟨P, L⟩ i k := by simp [PS.take]
  rw [e]
  refine ⟨rep_put h1 h3 hk h2, fun x hx => ?_⟩
  rcases h.all x hx with hp | hl
  · rcases List.mem_append.1 (show x ∈ P ++ [i] from hp) with hp | hp
    · exact .inl hp
    · simp at hp
      subst hp
      exact .inr (mem_put_self (by rw [h1.len]; exact hk))
  · exact .inr (mem_put hl)
theorem good_give {n m : Nat} {S : PS} {F G : Nat → Int} (h : Good n m S F G) {i k : Nat} {l : List Nat} (hl : S.lists[k]? = some l) (hi : i ∈ l) :
    Good n m (S.give i) (pushF (outF F i) i (optI S.pile.getLast?)) (outG F G i) := by
  obtain ⟨h1, h2⟩ := rep_out h.rep hl hi
  refine ⟨rep_push h1 (h.rep.llt k l hl i hi) h2, fun x hx => ?_⟩
  by_cases e : x = i
  · exact .inl (by simp [PS.give, e])
  · rcases h.all x hx with hp | hq
    · exact .inl (by simp [PS.give, hp])
    · exact .inr (mem_out hq e)
theorem good_move {n m : Nat} {S : PS} {F G : Nat → Int} (h : Good n m S F G) {i k k' : Nat} {l : List Nat} (hl : S.lists[k]? = some l) (hi : i ∈ l) (hk : k' < m) :
    Good n m (S.move i k') (putF (outF F i) (outG F G i) i k') (putG (outG F G i) i k') := by
  obtain ⟨h1, h2⟩ := rep_out h.rep hl hi
  refine ⟨rep_put h1 (h.rep.llt k l hl i hi) hk h2, fun x hx => ?_⟩
  by_cases e : x = i
  · subst e
    exact .inr (mem_put_self (by rw [h1.len]; exact hk))
  · rcases h.all x hx with hp | hq
    · exact .inl hp
    · exact .inr (mem_put (mem_out hq e))
end Go.Proofs.YtfneloplbkjbhaaDoor
namespace Go.Proofs.YtfneloplbkjbhaaDoor
set_option linter.unusedVariables false

def PS.loc (S : PS) (i : Nat) : Option Nat := S.lists.findIdx? (fun l => decide (i ∈ l))
def wh (n : Nat) (S : PS) (i : Int) : Int × Int := if i < 0 ∨ (n : Int) ≤ i then (0, 1) else match S.loc i.toNat with | none => (0, 3) | some k => ((k : Nat), 0)
def tk (m : Nat) (S : PS) (k : Int) : Int × Int × PS := if ¬ (0 ≤ k ∧ k < (m : Int)) then (0, 1, S) else match S.pile.getLast? with | none => (0, 5, S) | some i => (i, 0, S.take i k.toNat)
def gv (n : Nat) (S : PS) (i : Int) : Int × PS := if (wh n S i).2 = 0 then (0, S.give i.toNat) else ((wh n S i).2, S)
def mv (n m : Nat) (S : PS) (i k : Int) : Int × PS := if (wh n S i).2 = 1 ∨ ¬ (0 ≤ k ∧ k < (m : Int)) then (1, S) else if (wh n S i).2 = 0 then (0, S.move i.toNat k.toNat) else ((wh n S i).2, S)
/-- A list; none where there is no such one. -/
def PS.list (S : PS) (k : Int) : List Nat := if 0 ≤ k then S.lists[k.toNat]?.getD [] else []
/-- The one behind an entry in a list. -/
def behind (l : List Nat) (i : Nat) : Option Nat := ((l.dropWhile (fun x => decide (x ≠ i))).drop 1).head?
def nx (n : Nat) (S : PS) (i : Int) : Option Nat := if i < 0 ∨ (n : Int) ≤ i then none else match S.loc i.toNat with | none => none | some k => behind (S.list k) i.toNat

theorem loc_some {S : PS} {i k : Nat} (h : S.loc i = some k) : ∃ l, S.lists[k]? = some l ∧ i ∈ l := by
  unfold PS.loc at h
  rw [List.findIdx?_eq_some_iff_getElem] at h
  obtain ⟨hk, h1, _⟩ := h
  exact ⟨_, List.getElem?_eq_getElem hk, of_decide_eq_true h1⟩
theorem loc_none {S : PS} {i : Nat} (h : S.loc i = none) : ∀ (k : Nat) (l : List Nat), S.lists[k]? = some l → i ∉ l := by
  intro k l hl
  unfold PS.loc at h
  rw [List.findIdx?_eq_none_iff] at h
  exact of_decide_eq_false (h l (List.mem_of_getElem? hl))
theorem Rep.loc {n m : Nat} {S : PS} {F G : Nat → Int} (h : Rep n m S F G) {i k : Nat} {l : List Nat} (hl : S.lists[k]? = some l) (hi : i ∈ l) : S.loc i = some k := by
  cases e : S.loc i with
  | none => exact absurd hi (loc_none e k l hl)
  | some k' =>
    obtain ⟨l', hl', hi'⟩ := loc_some e
    rw [(h.one hl hl' hi hi').1]
theorem behind_split {a b : List Nat} {i : Nat} (h : i ∉ a) : behind (a ++ i :: b) i = b.head? := by
  unfold behind
  rw [List.dropWhile_append_of_pos (fun x hx => decide_eq_true (by rintro rfl; exact h hx)), List.dropWhile_cons_of_neg (by simp)]
  simp
/-- What the links tell of an entry. -/
theorem Good.link {n m : Nat} {S : PS} {F G : Nat → Int} (h : Good n m S F G) {i : Nat} (hi : i < n) :
    (S.loc i = none ∧ i ∈ S.pile ∧ F (i * 3) = -1) ∨
    (∃ k l a b, S.loc i = some k ∧ S.lists[k]? = some l ∧ i ∈ l ∧ k < m ∧ F (i * 3) = (k : Nat) ∧ F (i * 3 + 1) = optI a ∧ F (i * 3 + 2) = optI b ∧ b = behind l i ∧ (∀ x, a = some x → x < n) ∧ (∀ x, b = some x → x < n)) := by
  rcases h.all i hi with hp | ⟨k, l, hl, hm⟩
  · left
    refine ⟨?_, hp, h.rep.numP hp⟩
    cases e : S.loc i with
    | none => rfl
    | some k' =>
      obtain ⟨l', hl', hi'⟩ := loc_some e
      exact absurd hp (h.rep.notP hl' hi')
  · right
    obtain ⟨a, b, e⟩ := List.append_of_mem hm
    obtain ⟨f0, f1, f2⟩ := h.rep.link k l hl a i b e
    have hnd := h.rep.lnd k l hl
    have ha : i ∉ a := by
      rw [e] at hnd
      exact fun ha => (List.nodup_append.1 hnd).2.2 i ha i (by simp) rfl
    have hlt := h.rep.llt k l hl
    refine ⟨k, l, a.getLast?, b.head?, h.rep.loc hl hm, hl, hm, ?_, f0, f1, f2, by rw [e, behind_split ha], fun x hx => hlt x ?_, fun x hx => hlt x ?_⟩
    · have := (List.getElem?_eq_some_iff.1 hl).1
      rw [h.rep.len] at this
      exact this
    · rw [e]; simp [List.mem_of_getLast? hx]
    · rw [e]; simp [List.mem_of_head? hx]
theorem Good.list {n m : Nat} {S : PS} {F G : Nat → Int} (h : Good n m S F G) {k : Nat} (hk : k < m) : S.lists[k]? = some (S.list k) ∧ G (k * 2) = optI (S.list k).head? ∧ G (k * 2 + 1) = optI (S.list k).getLast? ∧ ∀ x ∈ S.list k, x < n := by
  have hl : S.lists[k]? = some (S.list k) := by
    unfold PS.list
    rw [if_pos (by omega), Int.toNat_natCast, List.getElem?_eq_getElem (by rw [h.rep.len]; exact hk)]
    rfl
  exact ⟨hl, (h.rep.ends k _ hl).1, (h.rep.ends k _ hl).2, h.rep.llt k _ hl⟩
theorem list_out {n m : Nat} {S : PS} {F G : Nat → Int} (h : Good n m S F G) {k : Int} (hk : ¬ (0 ≤ k ∧ k < (m : Int))) : S.list k = [] := by
  unfold PS.list
  split
  · rw [List.getElem?_eq_none (by rw [h.rep.len]; omega)]; rfl
  · rfl
end Go.Proofs.YtfneloplbkjbhaaDoor
namespace Go.Proofs.YtfneloplbkjbhaaDoor
set_option linter.unusedVariables false
/-- Ids, each with its priority, as they came. -/
abbrev QL := List (Int × Nat)
def QL.ids (L : QL) : List Int := L.map (·.1)
def QL.of (L : QL) (p : Nat) : List Int := (L.filter fun x => decide (x.2 = p)).map (·.1)
def QL.rem (L : QL) (id : Int) : QL := L.filter fun x => decide (x.1 ≠ id)
structure Con (n : Nat) (S : PS) (ids : Nat → Int) (L : QL) : Prop where
  lists : ∀ p : Nat, p < 64 → (S.list (p : Int)).map ids = L.of p
  nd : L.ids.Nodup
  pr : ∀ x ∈ L, x.2 < 64
  len : S.pile.length + L.length = n
theorem nodup_pair : ∀ {L : QL}, L.ids.Nodup → ∀ {a : Int} {p q : Nat}, (a, p) ∈ L → (a, q) ∈ L → p = q
  | [], _, a, p, q, h, _ => by cases h
  | x :: r, h, a, p, q, h1, h2 => by
    unfold QL.ids at h
    rw [List.map_cons, List.nodup_cons] at h
    rcases List.mem_cons.1 h1 with e1 | h1 <;> rcases List.mem_cons.1 h2 with e2 | h2
    · have := e1.trans e2.symm
      exact (Prod.mk.inj this).2
    · exact absurd (List.mem_map.2 ⟨(a, q), h2, by rw [← e1]⟩) h.1
    · exact absurd (List.mem_map.2 ⟨(a, p), h1, by rw [← e2]⟩) h.1
    · exact nodup_pair h.2 h1 h2
theorem of_mem {L : QL} {p : Nat} {a : Int} : a ∈ L.of p ↔ (a, p) ∈ L := by
  unfold QL.of
  rw [List.mem_map]
  constructor
  · rintro ⟨⟨b, q⟩, h1, rfl⟩
    rw [List.mem_filter] at h1
    have : q = p := of_decide_eq_true h1.2
    rw [← this]; exact h1.1
  · intro h
    exact ⟨(a, p), List.mem_filter.2 ⟨h, decide_eq_true rfl⟩, rfl⟩
theorem of_nodup {L : QL} (h : L.ids.Nodup) (p : Nat) : (L.of p).Nodup := h.sublist (List.filter_sublist.map _)
theorem of_app (L : QL) (id : Int) (q p : Nat) : QL.of (L ++ [(id, q)]) p = L.of p ++ if q = p then [id] else [] := by
  unfold QL.of
  rw [List.filter_append, List.map_append]
  congr 1
  by_cases h : q = p <;> simp [h]
theorem of_rem (L : QL) (id : Int) (p : Nat) : (L.rem id).of p = (L.of p).filter fun a => decide (a ≠ id) := by
  unfold QL.of QL.rem
  rw [List.filter_map, List.filter_filter, List.filter_filter]
  congr 1
  apply List.filter_congr
  intro x _
  simp only [Function.comp]
  exact Bool.and_comm _ _
theorem rem_ids (L : QL) (id : Int) : (L.rem id).ids = L.ids.filter fun a => decide (a ≠ id) := by
  unfold QL.ids QL.rem
  rw [List.filter_map]
  rfl
theorem rem_len {L : QL} (h : L.ids.Nodup) {id : Int} (hm : id ∈ L.ids) : (L.rem id).length + 1 = L.length := by
  have e1 : (L.rem id).length = (L.rem id).ids.length := by unfold QL.ids; rw [List.length_map]
  have e2 : L.length = L.ids.length := by unfold QL.ids; rw [List.length_map]
  rw [e1, e2, rem_ids]
  generalize L.ids = l at h hm
  induction l with
  | nil => cases hm
  | cons y r ih =>
    rw [List.nodup_cons] at h
    rcases List.mem_cons.1 hm with rfl | hm
    · rw [List.filter_cons_of_neg (by simp), List.filter_eq_self.2 fun x hx => decide_eq_true (by rintro rfl; exact h.1 hx)]
      rfl
    · have hy : y ≠ id := by rintro rfl; exact h.1 hm
      rw [List.filter_cons_of_pos (by simpa using hy), List.length_cons, List.length_cons, ih h.2 hm]
theorem Con.mem {n : Nat} {S : PS} {ids : Nat → Int} {L : QL} (h : Con n S ids L) {p x : Nat} (hp : p < 64) (hx : x ∈ S.list (p : Int)) : (ids x, p) ∈ L := by
  rw [← of_mem, ← h.lists p hp]
  exact List.mem_map.2 ⟨x, hx, rfl⟩
theorem Con.of {n : Nat} {S : PS} {ids : Nat → Int} {L : QL} (h : Con n S ids L) {a : Int} {p : Nat} (hm : (a, p) ∈ L) : ∃ x, x ∈ S.list (p : Int) ∧ ids x = a := by
  have hp : p < 64 := h.pr _ hm
  have := of_mem.2 hm
  rw [← h.lists p hp] at this
  obtain ⟨x, hx, e⟩ := List.mem_map.1 this
  exact ⟨x, hx, e⟩
theorem map_inj {f : Nat → Int} : ∀ {l : List Nat}, (l.map f).Nodup → ∀ {x y : Nat}, x ∈ l → y ∈ l → f x = f y → x = y
  | [], _, x, y, hx, _, _ => by cases hx
  | z :: r, h, x, y, hx, hy, e => by
    rw [List.map_cons, List.nodup_cons] at h
    rcases List.mem_cons.1 hx with e1 | hx' <;> rcases List.mem_cons.1 hy with e2 | hy'
    · rw [e1, e2]
    · exact absurd (List.mem_map.2 ⟨y, hy', by rw [← e, e1]⟩) h.1
    · exact absurd (List.mem_map.2 ⟨x, hx', by rw [e, e2]⟩) h.1
    · exact map_inj h.2 hx' hy' e
theorem Con.inj {n : Nat} {S : PS} {ids : Nat → Int} {L : QL} (h : Con n S ids L) {p q x y : Nat} (hp : p < 64) (hq : q < 64) (hx : x ∈ S.list (p : Int)) (hy : y ∈ S.list (q : Int)) (e : ids x = ids y) : x = y := by
  have h1 := h.mem hp hx
  have h2 := h.mem hq hy
  rw [e] at h1
  have epq := nodup_pair h.nd h1 h2
  subst epq
  exact map_inj (by rw [h.lists p hp]; exact of_nodup h.nd p) hx hy e
/-! ### what a pool's act does to a list -/
theorem list_put {S : PS} {i k : Nat} (hk : k < S.lists.length) (q : Nat) : (S.put i k).list (q : Int) = S.list (q : Int) ++ if k = q then [i] else [] := by
  unfold PS.list PS.put
  rw [if_pos (by omega), if_pos (by omega), Int.toNat_natCast, List.getElem?_modify]
  by_cases e : k = q
  · subst e
    rw [if_pos rfl, List.getElem?_eq_getElem hk]
    simp
  · rw [if_neg e]
    cases S.lists[q]? <;> simp [e]
theorem list_outq (S : PS) (i q : Nat) : (S.out i).list (q : Int) = (S.list (q : Int)).filter fun x => decide (x ≠ i) := by
  unfold PS.list PS.out
  rw [if_pos (by omega), if_pos (by omega), Int.toNat_natCast, List.getElem?_map]
  cases S.lists[q]? <;> simp
theorem map_upd {f : Nat → Int} {i : Nat} {v : Int} {l : List Nat} (h : i ∉ l) : l.map (upd f i v) = l.map f :=
  List.map_congr_left fun x hx => upd_ne (by rintro rfl; exact h hx)
theorem map_filter_inj {f : Nat → Int} {l : List Nat} {x : Nat} (h : ∀ y ∈ l, f y = f x → y = x) : (l.filter fun y => decide (y ≠ x)).map f = (l.map f).filter fun a => decide (a ≠ f x) := by
  rw [List.filter_map]
  congr 1
  apply List.filter_congr
  intro y hy
  simp only [Function.comp]
  exact decide_eq_decide.2 ⟨fun h1 h2 => h1 (h y hy h2), fun h1 h2 => h1 (by rw [h2])⟩
theorem not_listed {n m : Nat} {S : PS} {F G : Nat → Int} (h : Good n m S F G) {i : Nat} (hp : i ∈ S.pile) (q : Nat) : i ∉ S.list (q : Int) := by
  intro hx
  unfold PS.list at hx
  rw [if_pos (by omega), Int.toNat_natCast] at hx
  cases e : S.lists[q]? with
  | none => rw [e] at hx; cases hx
  | some l => rw [e] at hx; exact h.rep.notP e hx hp
theorem con_new (n : Nat) (ids : Nat → Int) : Con n (newS n 64) ids [] := by
  refine ⟨fun p hp => ?_, List.nodup_nil, fun x hx => (by cases hx), by simp [newS]⟩
  have : (newS n 64).list (p : Int) = [] := by
    unfold PS.list newS
    rw [if_pos (by omega), Int.toNat_natCast, List.getElem?_replicate, if_pos hp]
    rfl
  rw [this]
  rfl
theorem con_push {n : Nat} {S : PS} {F G ids : Nat → Int} {L : QL} (hg : Good n 64 S F G) (h : Con n S ids L) {i : Nat} (hi : S.pile.getLast? = some i) {id : Int} {p : Nat} (hp : p < 64) (hid : id ∉ L.ids) :
    Con n (S.take i p) (upd ids i id) (L ++ [(id, p)]) := by
  have hip : i ∈ S.pile := List.mem_of_getLast? hi
  have hlen : (PS.mk S.pile.dropLast S.lists).lists.length = 64 := hg.rep.len
  refine ⟨fun q hq => ?_, ?_, fun x hx => ?_, ?_⟩
  · have e : (S.take i p).list (q : Int) = S.list (q : Int) ++ if p = q then [i] else [] := by
      unfold PS.take
      rw [list_put (by rw [hlen]; exact hp)]
      rfl
    rw [e, List.map_append, map_upd (not_listed hg hip q), h.lists q hq, of_app]
    congr 1
    split <;> simp [upd_same]
  · unfold QL.ids at *
    rw [List.map_append, List.nodup_append]
    refine ⟨h.nd, by simp, fun a ha b hb => ?_⟩
    simp at hb
    subst hb
    rintro rfl
    exact hid ha
  · rcases List.mem_append.1 hx with hx | hx
    · exact h.pr x hx
    · simp at hx; subst hx; exact hp
  · have h1 := h.len
    have h2 : S.pile.length ≠ 0 := by
      intro e
      rw [List.eq_nil_of_length_eq_zero e] at hi
      simp at hi
    show S.pile.dropLast.length + _ = n
    simp
    omega
theorem Con.filter {n m : Nat} {S : PS} {F G ids : Nat → Int} {L : QL} (hg : Good n 64 S F G) (h : Con n S ids L) {x p : Nat} (hp : p < 64) (hx : x ∈ S.list (p : Int)) (q : Nat) (hq : q < 64) :
    ((S.out x).list (q : Int)).map ids = (L.rem (ids x)).of q := by
  rw [list_outq, of_rem, ← h.lists q hq]
  exact map_filter_inj fun y hy e => h.inj hq hp hy hx e
theorem rem_nodup {L : QL} (h : L.ids.Nodup) (id : Int) : (L.rem id).ids.Nodup := by rw [rem_ids]; exact h.sublist List.filter_sublist
theorem con_give {n : Nat} {S : PS} {F G ids : Nat → Int} {L : QL} (hg : Good n 64 S F G) (h : Con n S ids L) {x p : Nat} (hp : p < 64) (hx : x ∈ S.list (p : Int)) : Con n (S.give x) ids (L.rem (ids x)) := by
  refine ⟨fun q hq => ?_, rem_nodup h.nd _, fun y hy => h.pr y (List.mem_filter.1 hy).1, ?_⟩
  · show ((S.out x).list (q : Int)).map ids = _
    exact Con.filter (m := 0) hg h hp hx q hq
  · have h1 := h.len
    have h2 := rem_len h.nd (id := ids x) (List.mem_map.2 ⟨_, h.mem hp hx, rfl⟩)
    show (S.pile ++ [x]).length + _ = n
    simp
    omega
theorem con_move {n : Nat} {S : PS} {F G ids : Nat → Int} {L : QL} (hg : Good n 64 S F G) (h : Con n S ids L) {x p k : Nat} (hp : p < 64) (hx : x ∈ S.list (p : Int)) (hk : k < 64) : Con n (S.move x k) ids (L.rem (ids x) ++ [(ids x, k)]) := by
  have hlen : (S.out x).lists.length = 64 := by unfold PS.out; rw [List.length_map]; exact hg.rep.len
  have hmem : ids x ∈ L.ids := List.mem_map.2 ⟨_, h.mem hp hx, rfl⟩
  refine ⟨fun q hq => ?_, ?_, fun y hy => ?_, ?_⟩
  · show (((S.out x).put x k).list (q : Int)).map ids = _
    rw [list_put (by rw [hlen]; exact hk), List.map_append, Con.filter (m := 0) hg h hp hx q hq, of_app]
    congr 1
    split <;> rfl
  · show (L.rem (ids x) ++ [(ids x, k)]).ids.Nodup
    unfold QL.ids
    rw [List.map_append, List.nodup_append]
    refine ⟨rem_nodup h.nd _, by simp, fun a ha b hb => ?_⟩
    simp at hb
    subst hb
    rintro rfl
    have ha' : ids x ∈ (L.rem (ids x)).ids := ha
    rw [rem_ids] at ha'
    simp at ha'
  · rcases List.mem_append.1 hy with hy | hy
    · exact h.pr y (List.mem_filter.1 hy).1
    · simp at hy; subst hy; exact hk
  · have h1 := h.len
    have h2 := rem_len h.nd hmem
    show S.pile.length + _ = n
    simp
    omega
end Go.Proofs.YtfneloplbkjbhaaDoor
