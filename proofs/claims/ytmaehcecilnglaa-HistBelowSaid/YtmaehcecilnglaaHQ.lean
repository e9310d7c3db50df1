/-
  The plain law of HistParts: of two lists of numbers, counted by their lengths in bits, the counts joined are the counts of both.
-/
import Derived.Test.YtmaehcecilnglaaH7
namespace Go.Proofs.Ytmaehcecilnglaa
set_option linter.unusedVariables false

def sm : List Int → Int
  | [] => 0
  | x :: r => x + sm r
theorem addT_sm : ∀ (V : List Int) (s : Int), (∀ x ∈ V, 0 ≤ x) → 0 ≤ s → s + sm V ≤ 4503599627370496 → V.foldl addT (some s) = some (s + sm V)
  | [], s, _, _, _ => by simp [sm]
  | x :: r, s, h, hs, hm => by
    have hx := h x (by simp)
    have hr : ∀ y ∈ r, 0 ≤ y := fun y hy => h y (by simp [hy])
    have h0 : 0 ≤ sm r := by
      clear hm h
      induction r with
      | nil => simp [sm]
      | cons y r ih => have := hr y (by simp); have := ih fun z hz => hr z (by simp [hz]); simp only [sm]; omega
    simp only [sm] at hm ⊢
    rw [List.foldl_cons, addT_ok hx (by omega) (by omega), addT_sm r (s + x) hr (by omega) (by omega)]
    congr 1
    omega
structure OkV (V : List Int) (s : Int) : Prop where
  len : V.length = 54
  pos : ∀ x ∈ V, 0 ≤ x
  sum : sm V = s
  le : s ≤ 4503599627370496
theorem OkV.tot {V : List Int} {s : Int} (h : OkV V s) : totE V = 0 ∧ totV V = s := by
  have e : totO V = some s := by
    unfold totO
    rw [addT_sm V 0 h.pos (by omega) (by rw [h.sum]; have := h.le; omega), h.sum]
    simp
  unfold totE totV
  rw [e]
  exact ⟨rfl, rfl⟩
theorem sm_set : ∀ (V : List Int) (k : Nat) (x y : Int), V[k]? = some x → sm (V.set k y) = sm V - x + y
  | [], k, x, y, h => by simp at h
  | a :: r, 0, x, y, h => by
    simp only [List.getElem?_cons_zero, Option.some.injEq] at h
    subst h
    simp only [List.set_cons_zero, sm]; omega
  | a :: r, k + 1, x, y, h => by
    simp only [List.getElem?_cons_succ] at h
    simp only [List.set_cons_succ, sm, sm_set r k x y h]; omega
def cV (l : List Int) : List Int := (List.range 54).map fun j => ((l.countP fun n => bl n == j : Nat) : Int)
theorem cV_len (l : List Int) : (cV l).length = 54 := by simp [cV]
theorem addL_at {A B : List Int} {j : Nat} (ha : j < A.length) (hb : j < B.length) : (addL A B)[j]? = some (A[j] + B[j]) := by
  unfold addL
  rw [List.getElem?_zipWith, List.getElem?_eq_getElem ha, List.getElem?_eq_getElem hb]
theorem cV_at (l : List Int) {j : Nat} (h : j < (cV l).length) : (cV l)[j] = ((l.countP fun n => bl n == j : Nat) : Int) := by simp [cV]
theorem list54 {A B : List Int} (ha : A.length = 54) (hb : B.length = 54) (h : ∀ j (h1 : j < A.length) (h2 : j < B.length), A[j] = B[j]) : A = B :=
  List.ext_getElem (by omega) h
theorem addL_get {A B : List Int} (ha : A.length = 54) (hb : B.length = 54) {j : Nat} (hj : j < (addL A B).length) (h1 : j < A.length) (h2 : j < B.length) : (addL A B)[j] = A[j] + B[j] := by
  have := addL_at h1 h2
  rw [List.getElem?_eq_getElem hj] at this
  exact Option.some.inj this
theorem addL_cV {V l m : List Int} (hV : V.length = 54) : addL (addL V (cV l)) (cV m) = addL V (cV (l ++ m)) := by
  have l1 := addL_len hV (cV_len l)
  refine list54 (addL_len l1 (cV_len m)) (addL_len hV (cV_len _)) fun j h1 h2 => ?_
  have hj : j < 54 := by rw [addL_len l1 (cV_len m)] at h1; exact h1
  rw [addL_get l1 (cV_len m) h1 (by omega) (by rw [cV_len]; omega), addL_get hV (cV_len _) h2 (by omega) (by rw [cV_len]; omega),
    addL_get hV (cV_len l) (by omega) (by omega) (by rw [cV_len]; omega), cV_at, cV_at, cV_at, List.countP_append]
  omega
theorem addL_nil {V : List Int} (hV : V.length = 54) : addL V (cV []) = V := by
  refine list54 (addL_len hV (cV_len _)) hV fun j h1 h2 => ?_
  rw [addL_get hV (cV_len _) h1 h2 (by rw [cV_len]; omega), cV_at]
  simp
theorem addL_hZ {B : List Int} (hB : B.length = 54) : addL hZ B = B := by
  refine list54 (addL_len hZ_len hB) hB fun j h1 h2 => ?_
  have h3 : j < hZ.length := by rw [hZ_len]; omega
  have hz : hZ[j] = 0 := by unfold hZ; exact List.getElem_replicate _
  rw [addL_get hZ_len hB h1 h3 h2, hz]
  omega
theorem addL_comm {A B : List Int} (hA : A.length = 54) (hB : B.length = 54) : addL A B = addL B A := by
  refine list54 (addL_len hA hB) (addL_len hB hA) fun j h1 h2 => ?_
  have l1 := addL_len hA hB
  rw [addL_get hA hB h1 (by omega) (by omega), addL_get hB hA h2 (by omega) (by omega)]
  omega
theorem bl_lt {n : Int} (h : timeB n = true) : bl n < 54 := by
  unfold timeB at h
  have h := of_decide_eq_true h
  unfold bl
  have := len_le (m := n.toNat) (by omega)
  omega
theorem ad_ok {V : List Int} {s n : Int} (h : OkV V s) (hs : s + 1 ≤ 4503599627370496) (ht : timeB n = true) : adE V n = 0 ∧ adV V n = addL V (cV [n]) ∧ OkV (adV V n) (s + 1) := by
  obtain ⟨t1, t2⟩ := h.tot
  have hk := bl_lt ht
  have hkl : bl n < V.length := by rw [h.len]; exact hk
  have hg : V[bl n]? = some V[bl n] := List.getElem?_eq_getElem hkl
  have e : adV V n = V.set (bl n) (V[bl n] + 1) := by
    unfold adV
    rw [if_neg (by omega), if_neg (by rw [t2, ht]; simp; omega), hg]
    rfl
  refine ⟨?_, ?_, ?_⟩
  · unfold adE
    rw [if_neg (by omega), if_neg (by rw [ht]; simp), if_neg (by omega)]
  · rw [e]
    refine list54 (by simp [h.len]) (addL_len h.len (cV_len _)) fun j h1 h2 => ?_
    have hj : j < V.length := by simpa using h1
    rw [addL_get h.len (cV_len _) h2 hj (by rw [cV_len]; have := h.len; omega), cV_at, List.getElem_set]
    by_cases hjk : bl n = j
    · subst hjk
      simp
    · rw [if_neg hjk]
      simp [hjk]
  · rw [e]
    refine ⟨by simp [h.len], ?_, ?_, hs⟩
    · intro x hx
      rcases List.mem_or_eq_of_mem_set hx with hx | rfl
      · exact h.pos x hx
      · have := h.pos _ (List.getElem_mem hkl); omega
    · rw [sm_set V (bl n) _ _ hg, h.sum]
      omega
theorem sm_all : ∀ (r V : List Int) (s : Int), OkV V s → s + r.length ≤ 4503599627370496 →
    (r.all timeB = true → smF V r = (addL V (cV r), 0) ∧ OkV (addL V (cV r)) (s + r.length)) ∧ (r.all timeB = false → smF V r = (hZ, 1))
  | [], V, s, h, hs => ⟨fun _ => by rw [addL_nil h.len]; exact ⟨rfl, by simpa using h⟩, fun h => by simp at h⟩
  | n :: r, V, s, h, hs => by
    simp only [List.length_cons, Int.natCast_add, Int.cast_ofNat_Int] at hs
    cases ht : timeB n with
    | false =>
      refine ⟨fun h => by simp [ht] at h, fun _ => ?_⟩
      have e : adE V n = 1 := by unfold adE; rw [if_neg (by rw [h.tot.1]; simp), if_pos ht]
      rw [smF, if_pos (by omega), e]
    | true =>
      obtain ⟨e1, e2, e3⟩ := ad_ok h (by omega) ht
      have ih := sm_all r (adV V n) (s + 1) e3 (by omega)
      have hst : smF V (n :: r) = smF (adV V n) r := by rw [smF, if_neg (by omega)]
      rw [hst, List.all_cons, ht, Bool.true_and]
      refine ⟨fun ha => ?_, ih.2⟩
      obtain ⟨i1, i2⟩ := ih.1 ha
      rw [e2, addL_cV h.len] at i1 i2
      rw [e2]
      refine ⟨i1, ?_⟩
      have : s + 1 + (r.length : Int) = s + ((n :: r).length : Int) := by simp only [List.length_cons, Int.natCast_add, Int.cast_ofNat_Int]; omega
      rw [← this]
      exact i2
theorem okZ : OkV hZ 0 := ⟨hZ_len, fun x hx => by simp [hZ] at hx; omega, by decide, by decide⟩
theorem parts_law (l m : List Int) (hb : l.length + m.length ≤ 2097152) :
    ((smF hZ l).2 = 0 ∧ (smF hZ m).2 = 0 ∧ (smF hZ (l ++ m)).2 = 0 ∧ jnE (smF hZ l).1 (smF hZ m).1 = 0 ∧ jnE (smF hZ m).1 (smF hZ l).1 = 0 ∧
      jnV (smF hZ l).1 (smF hZ m).1 = (smF hZ (l ++ m)).1 ∧ jnV (smF hZ m).1 (smF hZ l).1 = (smF hZ (l ++ m)).1 ∧ totE (smF hZ (l ++ m)).1 = 0 ∧ totV (smF hZ (l ++ m)).1 = (l.length : Int) + (m.length : Int)) ∨
    ((smF hZ l).2 = 1 ∨ ((smF hZ l).2 = 0 ∧ (smF hZ m).2 = 1)) ∧ (smF hZ (l ++ m)).2 = 1 := by
  have a1 := sm_all l hZ 0 okZ (by omega)
  have a2 := sm_all m hZ 0 okZ (by omega)
  have a3 := sm_all (l ++ m) hZ 0 okZ (by simp only [List.length_append]; omega)
  rw [List.all_append] at a3
  cases h1 : l.all timeB with
  | false =>
    right
    rw [h1, Bool.false_and] at a3
    exact ⟨.inl (by rw [a1.2 h1]), by rw [a3.2 rfl]⟩
  | true =>
    rw [h1, Bool.true_and] at a3
    obtain ⟨b1, c1⟩ := a1.1 h1
    cases h2 : m.all timeB with
    | false =>
      right
      rw [h2] at a3
      exact ⟨.inr ⟨by rw [b1], by rw [a2.2 h2]⟩, by rw [a3.2 rfl]⟩
    | true =>
      left
      rw [h2] at a3
      obtain ⟨b2, c2⟩ := a2.1 h2
      obtain ⟨b3, c3⟩ := a3.1 rfl
      rw [addL_hZ (cV_len _)] at b1 c1 b2 c2 b3 c3
      rw [b1, b2, b3]
      have j1 : jnE (cV l) (cV m) = 0 := by
        unfold jnE
        rw [if_neg (by rw [c1.tot.1, c2.tot.1]; simp), if_neg (by rw [c1.tot.2, c2.tot.2]; omega)]
      have j2 : jnE (cV m) (cV l) = 0 := by
        unfold jnE
        rw [if_neg (by rw [c1.tot.1, c2.tot.1]; simp), if_neg (by rw [c1.tot.2, c2.tot.2]; omega)]
      have e1 : addL (cV l) (cV m) = cV (l ++ m) := by
        have := addL_cV (l := l) (m := m) hZ_len
        rwa [addL_hZ (cV_len _), addL_hZ (cV_len _)] at this
      refine ⟨rfl, rfl, rfl, j1, j2, ?_, ?_, c3.tot.1, ?_⟩
      · unfold jnV; rw [if_pos j1]; exact e1
      · unfold jnV; rw [if_pos j2, addL_comm (cV_len _) (cV_len _)]; exact e1
      · show totV (cV (l ++ m)) = _
        rw [c3.tot.2, List.length_append]
        omega
end Go.Proofs.Ytmaehcecilnglaa
