/-
  The pool's plain law, second part: an entry leaves its list; the pile grows and shrinks.
-/
import Derived.Test.YtcchmkpodfjhcaaPQ
namespace Go.Proofs.Ytcchmkpodfjhcaa
set_option linter.unusedVariables false

def outF (F : Nat → Int) (i : Nat) : Nat → Int :=
  let F1 := if F (i * 3 + 1) = -1 then F else upd F ((F (i * 3 + 1)).toNat * 3 + 2) (F (i * 3 + 2))
  if F (i * 3 + 2) = -1 then F1 else upd F1 ((F (i * 3 + 2)).toNat * 3 + 1) (F (i * 3 + 1))
def outG (F G : Nat → Int) (i : Nat) : Nat → Int :=
  let G1 := if F (i * 3 + 1) = -1 then upd G ((F (i * 3)).toNat * 2) (F (i * 3 + 2)) else G
  if F (i * 3 + 2) = -1 then upd G1 ((F (i * 3)).toNat * 2 + 1) (F (i * 3 + 1)) else G1
def PS.out (S : PS) (i : Nat) : PS := ⟨S.pile, S.lists.map (List.filter fun x => decide (x ≠ i))⟩

theorem filter_notin {l : List Nat} {i : Nat} (h : i ∉ l) : l.filter (fun x => decide (x ≠ i)) = l :=
  List.filter_eq_self.2 fun x hx => decide_eq_true (by rintro rfl; exact h hx)
theorem filter_split {a b : List Nat} {i : Nat} (h : (a ++ i :: b).Nodup) : (a ++ i :: b).filter (fun x => decide (x ≠ i)) = a ++ b := by
  obtain ⟨_, h2, h3⟩ := List.nodup_append.1 h
  have hb := (List.nodup_cons.1 h2).1
  have ha : i ∉ a := fun ha => h3 i ha i (by simp) rfl
  rw [List.filter_append, List.filter_cons_of_neg (by simp), filter_notin ha, filter_notin hb]
theorem outF_0 (F : Nat → Int) (i x : Nat) : outF F i (x * 3) = F (x * 3) := by
  unfold outF
  split <;> split <;> simp only [upd_ne (show x * 3 ≠ (F (i * 3 + 2)).toNat * 3 + 1 by omega), upd_ne (show x * 3 ≠ (F (i * 3 + 1)).toNat * 3 + 2 by omega)]
theorem outF_1 {F : Nat → Int} {i : Nat} {p q : Option Nat} (h1 : F (i * 3 + 1) = optI p) (h2 : F (i * 3 + 2) = optI q) (x : Nat) : outF F i (x * 3 + 1) = if q = some x then optI p else F (x * 3 + 1) := by
  unfold outF
  simp only [h1, h2]
  have e : (if optI p = -1 then F else upd F ((optI p).toNat * 3 + 2) (optI q)) (x * 3 + 1) = F (x * 3 + 1) := by
    split
    · rfl
    · rw [upd_ne (by omega)]
  cases q with
  | none => rw [if_pos (show optI none = -1 from rfl), e, if_neg (by simp)]
  | some y =>
    rw [if_neg (by simp [optI])]
    by_cases hy : y = x
    · subst hy
      rw [show (optI (some y)).toNat = y from rfl, upd_same, if_pos rfl]
    · simp only [optI, Int.toNat_natCast]
      rw [upd_ne (by omega), if_neg (by simpa using hy)]
      exact e
theorem outF_2 {F : Nat → Int} {i : Nat} {p q : Option Nat} (h1 : F (i * 3 + 1) = optI p) (h2 : F (i * 3 + 2) = optI q) (x : Nat) : outF F i (x * 3 + 2) = if p = some x then optI q else F (x * 3 + 2) := by
  unfold outF
  simp only [h1, h2]
  have e : (if optI p = -1 then F else upd F ((optI p).toNat * 3 + 2) (optI q)) (x * 3 + 2) = if p = some x then optI q else F (x * 3 + 2) := by
    cases p with
    | none => rw [if_pos (show optI none = -1 from rfl), if_neg (by simp)]
    | some y =>
      rw [if_neg (by simp [optI])]
      by_cases hy : y = x
      · subst hy
        rw [show (optI (some y)).toNat = y from rfl, upd_same, if_pos rfl]
      · simp only [optI, Int.toNat_natCast]
        rw [upd_ne (by omega), if_neg (by simpa using hy)]
  split
  · exact e
  · rw [upd_ne (by omega)]
    exact e

theorem rep_out {n m : Nat} {S : PS} {F G : Nat → Int} (h : Rep n m S F G) {i k : Nat} {l : List Nat} (hl : S.lists[k]? = some l) (hi : i ∈ l) :
    Rep n m (S.out i) (outF F i) (outG F G i) ∧ Out (S.out i) i := by
  obtain ⟨a, b, e⟩ := List.append_of_mem hi
  obtain ⟨f0, f1, f2⟩ := h.link k l hl a i b e
  have hnd := h.lnd k l hl
  have hfl : l.filter (fun x => decide (x ≠ i)) = a ++ b := by rw [e] at hnd ⊢; exact filter_split hnd
  have hin : ∀ (k' : Nat) (l' : List Nat), S.lists[k']? = some l' → k' ≠ k → i ∉ l' := fun k' l' h' hne hx => hne (h.one h' hl hx hi).1
  have hm : ∀ (k' : Nat) (l' : List Nat), (S.out i).lists[k']? = some l' → (k' = k ∧ l' = a ++ b) ∨ (k' ≠ k ∧ S.lists[k']? = some l') := by
    intro k' l' h'
    simp only [PS.out, List.getElem?_map, Option.map_eq_some_iff] at h'
    obtain ⟨l2, h2, rfl⟩ := h'
    by_cases hk : k' = k
    · subst hk
      rw [hl] at h2
      cases h2
      exact .inl ⟨rfl, hfl⟩
    · exact .inr ⟨hk, by rw [filter_notin (hin k' l2 h2 hk)]; exact h2⟩
  have hsub : ∀ x, x ∈ a ++ b → x ∈ l := fun x hx => by rw [e]; rcases List.mem_append.1 hx with h | h <;> simp [h]
  have hnd2 : (a ++ b).Nodup := by rw [← hfl]; exact List.Nodup.sublist List.filter_sublist hnd
  obtain ⟨na, nb, nab⟩ := List.nodup_append.1 hnd2
  have hne : ∀ k', k' ≠ k → (∀ (l' : List Nat), S.lists[k']? = some l' → ∀ x ∈ l', b.head? ≠ some x ∧ a.getLast? ≠ some x) := fun k' hk l' h' x hx => by
    refine ⟨fun hz => ?_, fun hz => ?_⟩
    · exact hk (h.one h' hl hx (hsub x (List.mem_append.2 (.inr (List.mem_of_head? hz))))).1
    · exact hk (h.one h' hl hx (hsub x (List.mem_append.2 (.inl (List.mem_of_getLast? hz))))).1
  have hkt : (F (i * 3)).toNat = k := by rw [f0]; simp
  have hgt : ∀ j, outG F G i j = if j = k * 2 ∧ a = [] then optI b.head? else if j = k * 2 + 1 ∧ b = [] then optI a.getLast? else G j := by
    intro j
    unfold outG
    simp only [f1, f2, hkt, optI_neg, List.getLast?_eq_none_iff, List.head?_eq_none_iff]
    by_cases ha : a = [] <;> by_cases hb : b = []
    · simp only [ha, hb, if_true, and_true]
      by_cases h1 : j = k * 2 + 1
      · rw [h1, upd_same, if_neg (by omega), if_pos rfl]
      · rw [upd_ne h1]
        by_cases h0 : j = k * 2
        · rw [h0, upd_same, if_pos rfl]
        · rw [upd_ne h0, if_neg h0, if_neg h1]
    · simp only [ha, hb, if_true, if_false, and_true, and_false]
      by_cases h0 : j = k * 2
      · rw [h0, upd_same, if_pos rfl]
      · rw [upd_ne h0, if_neg h0]
    · simp only [ha, hb, if_true, if_false, and_true, and_false]
      by_cases h1 : j = k * 2 + 1
      · rw [h1, upd_same, if_pos rfl]
      · rw [upd_ne h1, if_neg h1]
    · simp only [ha, hb, if_false, and_false]
  refine ⟨⟨by simp [PS.out, h.len], h.plt, fun k' l' h' x hx => ?_, h.pnd, fun k' l' h' => ?_, fun k' l' h' => ?_, fun k' l' h' a' x b' e' => ?_, fun a' x b' e' => ?_⟩, ?_, ?_⟩
  · rcases hm k' l' h' with ⟨rfl, rfl⟩ | ⟨_, h2⟩
    · exact h.llt _ _ hl x (hsub x hx)
    · exact h.llt _ _ h2 x hx
  · rcases hm k' l' h' with ⟨rfl, rfl⟩ | ⟨_, h2⟩
    · exact hnd2
    · exact h.lnd _ _ h2
  · rcases hm k' l' h' with ⟨rfl, rfl⟩ | ⟨hk, h2⟩
    · have hg := h.ends _ _ hl
      rw [hgt, hgt]
      refine ⟨?_, ?_⟩
      · by_cases ha : a = []
        · rw [if_pos ⟨rfl, ha⟩, ha]; rfl
        · rw [if_neg (by simp [ha]), if_neg (by omega), hg.1, e]
          cases a with
          | nil => exact absurd rfl ha
          | cons y r => rfl
      · rw [if_neg (by omega)]
        by_cases hb : b = []
        · rw [if_pos ⟨rfl, hb⟩, hb, List.append_nil]
        · rw [if_neg (by simp [hb]), hg.2, e]
          rw [List.getLast?_append, List.getLast?_append]
          cases b with
          | nil => exact absurd rfl hb
          | cons y r => rw [List.getLast?_cons_cons]
    · rw [hgt, hgt, if_neg (by omega), if_neg (by omega), if_neg (by omega), if_neg (by omega)]
      exact h.ends _ _ h2
  · rcases hm k' l' h' with ⟨rfl, rfl⟩ | ⟨hk, h2⟩
    · have hx : x ∈ a ++ b := by rw [e']; simp
      refine ⟨by rw [outF_0]; exact h.num hl (hsub x hx), ?_⟩
      rw [outF_1 f1 f2, outF_2 f1 f2]
      rcases List.append_eq_append_iff.1 e' with ⟨c, hc1, hc2⟩ | ⟨c, hc1, hc2⟩
      · have hxb : x ∈ b := by rw [hc2]; simp
        have e2 : l = (a ++ i :: c) ++ x :: b' := by rw [e, hc2]; simp
        obtain ⟨q0, q1, q2⟩ := h.link _ _ hl _ _ _ e2
        refine ⟨?_, ?_⟩
        · cases c with
          | nil =>
            rw [if_pos (by rw [hc2]; rfl), hc1, List.append_nil]
          | cons y r =>
            rw [if_neg, q1, hc1, List.getLast?_append, List.getLast?_append, List.getLast?_cons_cons]
            rw [hc2]
            simp only [List.cons_append, List.head?_cons, Option.some.injEq]
            rintro rfl
            rw [hc2] at nb
            simp at nb
        · rw [if_neg, q2]
          intro hz
          exact nab x (List.mem_of_getLast? hz) x hxb rfl
      · cases c with
        | nil =>
          simp only [List.nil_append, List.append_nil] at hc1 hc2
          have hxb : x ∈ b := by rw [← hc2]; simp
          have e2 : l = (a ++ [i]) ++ x :: b' := by rw [e, ← hc2]; simp
          obtain ⟨q0, q1, q2⟩ := h.link _ _ hl _ _ _ e2
          refine ⟨?_, ?_⟩
          · rw [if_pos (by rw [← hc2]; rfl), hc1]
          · rw [if_neg, q2]
            intro hz
            exact nab x (List.mem_of_getLast? hz) x hxb rfl
        | cons y r =>
          simp only [List.cons_append, List.cons.injEq] at hc2
          obtain ⟨rfl, rfl⟩ := hc2
          have hxa : x ∈ a := by rw [hc1]; simp
          have e2 : l = a' ++ x :: (r ++ i :: b) := by rw [e, hc1]; simp
          obtain ⟨q0, q1, q2⟩ := h.link _ _ hl _ _ _ e2
          refine ⟨?_, ?_⟩
          · rw [if_neg, q1]
            intro hz
            exact nab x hxa x (List.mem_of_head? hz) rfl
          · cases r with
            | nil =>
              rw [if_pos (by rw [hc1]; simp)]; rfl
            | cons z r =>
              rw [if_neg, q2]
              · rfl
              · intro hz
                rw [hc1, List.getLast?_append] at hz
                rw [hc1, List.nodup_append] at na
                have hq : (z :: r).getLast? = some x := by simpa using hz
                exact (List.nodup_cons.1 na.2.1).1 (List.mem_of_getLast? hq)
    · have hx : x ∈ l' := by rw [e']; simp
      obtain ⟨n1, n2⟩ := hne k' hk l' h2 x hx
      rw [outF_0, outF_1 f1 f2, outF_2 f1 f2, if_neg n1, if_neg n2]
      exact h.link _ _ h2 _ _ _ e'
  · have e2 : S.pile = a' ++ x :: b' := e'
    have hx : x ∈ S.pile := by rw [e2]; simp
    have n2 : a.getLast? ≠ some x := fun hz => h.notP hl (hsub x (List.mem_append.2 (.inl (List.mem_of_getLast? hz)))) hx
    rw [outF_0, outF_2 f1 f2, if_neg n2]
    exact h.free _ _ _ e2
  · exact fun hp => h.notP hl hi hp
  · intro k' l' h'
    rcases hm k' l' h' with ⟨rfl, rfl⟩ | ⟨hk, h2⟩
    · rw [← hfl]; simp
    · exact hin _ _ h2 hk

/-! ### the pile -/
def pushF (F : Nat → Int) (i : Nat) (t : Int) : Nat → Int := upd (upd (upd F (i * 3) (-1)) (i * 3 + 1) (-1)) (i * 3 + 2) t
theorem rep_push {n m : Nat} {S : PS} {F G : Nat → Int} (h : Rep n m S F G) {i : Nat} (hi : i < n) (ho : Out S i) :
    Rep n m ⟨S.pile ++ [i], S.lists⟩ (pushF F i (optI S.pile.getLast?)) G := by
  have hF : ∀ x o, x ≠ i → o < 3 → pushF F i (optI S.pile.getLast?) (x * 3 + o) = F (x * 3 + o) := fun x o hx hlt => by
    unfold pushF
    rw [upd_ne (by omega), upd_ne (by omega), upd_ne (by omega)]
  have hF0 : ∀ x, x ≠ i → pushF F i (optI S.pile.getLast?) (x * 3) = F (x * 3) := fun x hx => hF x 0 hx (by omega)
  refine ⟨h.len, fun x hx => ?_, h.llt, ?_, h.lnd, h.ends, fun k' l' h' a x b e => ?_, fun a x b e => ?_⟩
  · rcases List.mem_append.1 hx with hx | hx
    · exact h.plt x hx
    · simp at hx; omega
  · rw [List.nodup_append]
    refine ⟨h.pnd, by simp, fun a ha b hb => ?_⟩
    simp at hb
    subst hb
    rintro rfl
    exact ho.1 ha
  · have hx : x ∈ l' := by rw [e]; simp
    have hxi : x ≠ i := by rintro rfl; exact ho.2 _ _ h' hx
    rw [hF0 x hxi, hF x 1 hxi (by omega), hF x 2 hxi (by omega)]
    exact h.link _ _ h' _ _ _ e
  · rcases snoc_split e with ⟨rfl, rfl, rfl⟩ | ⟨b', rfl, e2⟩
    · unfold pushF
      refine ⟨?_, by rw [upd_same]⟩
      rw [upd_ne (by omega), upd_ne (by omega), upd_same]
    · have hx : x ∈ S.pile := by rw [e2]; simp
      have hxi : x ≠ i := by rintro rfl; exact ho.1 hx
      rw [hF0 x hxi, hF x 2 hxi (by omega)]
      exact h.free _ _ _ e2
theorem rep_pop {n m : Nat} {P : List Nat} {L : List (List Nat)} {F G : Nat → Int} {i : Nat} (h : Rep n m ⟨P ++ [i], L⟩ F G) : Rep n m ⟨P, L⟩ F G ∧ Out ⟨P, L⟩ i ∧ i < n ∧ F (i * 3 + 2) = optI P.getLast? := by
  refine ⟨⟨h.len, fun x hx => h.plt x (by simp [show x ∈ P from hx]), h.llt, ?_, h.lnd, h.ends, h.link, fun a x b e => ?_⟩, ⟨?_, fun k l hl hx => ?_⟩, h.plt i (by simp), (h.free P i [] (by simp)).2⟩
  · exact (List.nodup_append.1 h.pnd).1
  · have e' : P = a ++ x :: b := e
    exact h.free a x (b ++ [i]) (by rw [e']; simp)
  · intro hp
    exact (List.nodup_append.1 h.pnd).2.2 i hp i (by simp) rfl
  · exact h.notP hl hx (by simp)

/-! ### whole acts -/
def PS.take (S : PS) (i k : Nat) : PS := PS.put ⟨S.pile.dropLast, S.lists⟩ i k
def PS.give (S : PS) (i : Nat) : PS := ⟨S.pile ++ [i], (S.out i).lists⟩
def PS.move (S : PS) (i k : Nat) : PS := (S.out i).put i k
structure Good (n m : Nat) (S : PS) (F G : Nat → Int) : Prop where
  rep : Rep n m S F G
  all : All n S
theorem good_new (n m : Nat) : Good n m (newS n m) (newF n) (fun _ => -1) := ⟨rep_new n m, all_new n m⟩
theorem mem_out {S : PS} {i x : Nat} (h : ∃ (k : Nat) (l : List Nat), S.lists[k]? = some l ∧ x ∈ l) (hx : x ≠ i) : ∃ (k : Nat) (l : List Nat), (S.out i).lists[k]? = some l ∧ x ∈ l := by
  obtain ⟨k, l, hl, hm⟩ := h
  exact ⟨k, l.filter (fun x => decide (x ≠ i)), by simp [PS.out, hl], List.mem_filter.2 ⟨hm, decide_eq_true hx⟩⟩
theorem mem_put {S : PS} {i k x : Nat} (h : ∃ (k : Nat) (l : List Nat), S.lists[k]? = some l ∧ x ∈ l) : ∃ (k' : Nat) (l : List Nat), (S.put i k).lists[k']? = some l ∧ x ∈ l := by
  obtain ⟨k', l, hl, hm⟩ := h
  by_cases e : k = k'
  · exact ⟨k', l ++ [i], by simp [PS.put, e, hl], by simp [hm]⟩
  · exact ⟨k', l, by simp [PS.put, e, hl], hm⟩
theorem mem_put_self {S : PS} {i k : Nat} (hk : k < S.lists.length) : ∃ (k' : Nat) (l : List Nat), (S.put i k).lists[k']? = some l ∧ i ∈ l :=
  ⟨k, S.lists[k] ++ [i], by simp [PS.put, List.getElem?_eq_getElem hk], by simp⟩
theorem good_take {n m : Nat} {P : List Nat} {L : List (List Nat)} {F G : Nat → Int} {i k : Nat} (h : Good n m ⟨P ++ [i], L⟩ F G) (hk : k < m) : Good n m (PS.take ⟨P ++ [i], L⟩ i k) (putF F G i k) (putG G i k) := by
  obtain ⟨h1, h2, h3, _⟩ := rep_pop h.rep
  have e : PS.take ⟨P ++ [i], L⟩ i k = PS.put ⟨P, L⟩ i k := by simp [PS.take]
  rw [e]
  refine ⟨rep_put h1 h3 hk h2, fun x hx => ?_⟩
  rcases h.all x hx with hp | hl
  · rcases List.mem_append.1 (show x ∈ P ++ [i] from hp) with hp | hp
    · exact .inl hp
    · simp at hp
      subst hp
      exact .inr (mem_put_self (by rw [h1.len]; exact hk))
  · exact .inr (mem_put hl)
theorem good_give {n m : Nat} {S : PS} {F G : Nat → Int} (h : Good n m S F G) {i k : Nat} {l : List Nat} (hl : S.lists[k]? = some l) (hi : i ∈ l) :
    Good n m (S.give i) (pushF (outF F i) i (optI S.pile.getLast?)) (outG F G i) := by
  obtain ⟨h1, h2⟩ := rep_out h.rep hl hi
  refine ⟨rep_push h1 (h.rep.llt k l hl i hi) h2, fun x hx => ?_⟩
  by_cases e : x = i
  · exact .inl (by simp [PS.give, e])
  · rcases h.all x hx with hp | hq
    · exact .inl (by simp [PS.give, hp])
    · exact .inr (mem_out hq e)
theorem good_move {n m : Nat} {S : PS} {F G : Nat → Int} (h : Good n m S F G) {i k k' : Nat} {l : List Nat} (hl : S.lists[k]? = some l) (hi : i ∈ l) (hk : k' < m) :
    Good n m (S.move i k') (putF (outF F i) (outG F G i) i k') (putG (outG F G i) i k') := by
  obtain ⟨h1, h2⟩ := rep_out h.rep hl hi
  refine ⟨rep_put h1 (h.rep.llt k l hl i hi) hk h2, fun x hx => ?_⟩
  by_cases e : x = i
  · subst e
    exact .inr (mem_put_self (by rw [h1.len]; exact hk))
  · rcases h.all x hx with hp | hq
    · exact .inl hp
    · exact .inr (mem_put (mem_out hq e))
end Go.Proofs.Ytcchmkpodfjhcaa
