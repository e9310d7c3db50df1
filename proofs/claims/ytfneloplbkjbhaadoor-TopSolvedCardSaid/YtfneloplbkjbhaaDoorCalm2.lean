/-
  A region that draws its order, inside a fence: what is held of the world is held till the late operations come up.
-/
import Derived.Test.YtfneloplbkjbhaaDoorCalm
import Derived.Test.YtfneloplbkjbhaaDoorP0
namespace Go.Proofs.YtfneloplbkjbhaaDoor
open Go.RowKit
set_option linter.unusedVariables false
section
variable {F : Fence} {n : Nat} {P : Program} {ops : Array Oper} {Q : Exit → Act → World → Prop} {md : Region.Mode} {S : World → Prop} {T : Nat → Bool}
/-- Whatever comes up; S is held as long as nothing late has come up. -/
def wpAnyT (P : Program) (md : Region.Mode) (ops : Array Oper) (Q : Exit → Act → World → Prop) (S : World → Prop) (T : Nat → Bool) : Nat → Array Bool → Act → World → Prop
  | 0, listed, a, w => Region.ready md ops listed = [] ∧ Q .normal a w
  | fuel + 1, listed, a, w => (Region.ready md ops listed = [] → Q .normal a w) ∧
    ∀ i ∈ Region.ready md ops listed, wpOp P ops Q i (fun a' w' => (T i = false → S w') ∧ wpAnyT P md ops Q S T fuel (listed.setIfInBounds i true) a' w') a w
theorem wpAny_of_T : ∀ (fuel : Nat) (listed : Array Bool) (a : Act) (w : World), wpAnyT P md ops Q S T fuel listed a w → wpAny P md ops Q fuel listed a w
  | 0, _, _, _, h => h
  | fuel + 1, _, _, _, h => ⟨h.1, fun i hi => wpOp_mono (fun a' w' h' => wpAny_of_T fuel _ a' w' h'.2) (h.2 i hi)⟩
/-- These have not come up, and none of them can as long as this one has not; the late ones are of them. -/
def stuckB (md : Region.Mode) (ops : Array Oper) (T : Nat → Bool) (listed : Array Bool) (i : Nat) (B : List Nat) : Bool :=
  (B.all fun j => (!listed.getD j true) && (j == i || (match ops[j]? with | none => false | some o => o.after.any fun e => Region.binds md e && B.contains e.on))) &&
  (List.range ops.size).all fun j => !T j || B.contains j
theorem stuckB_spec {listed : Array Bool} {i : Nat} {B : List Nat} (h : stuckB md ops T listed i B = true) :
    (∀ j ∈ B, listed.getD j true = false) ∧ (∀ j ∈ B, j ≠ i → ∀ o, ops[j]? = some o → ∃ e ∈ o.after, Region.binds md e = true ∧ e.on ∈ B) ∧ (∀ j o, ops[j]? = some o → T j = true → j ∈ B) := by
  unfold stuckB at h
  rw [Bool.and_eq_true, List.all_eq_true, List.all_eq_true] at h
  obtain ⟨h1, h2⟩ := h
  refine ⟨fun j hj => ?_, fun j hj hne o ho => ?_, fun j o ho hT => ?_⟩
  · have := h1 j hj
    rw [Bool.and_eq_true, Bool.not_eq_true'] at this
    exact this.1
  · have := h1 j hj
    rw [Bool.and_eq_true, ho] at this
    have h3 := this.2
    rw [Bool.or_eq_true] at h3
    rcases h3 with h3 | h3
    · exact absurd (beq_iff_eq.1 h3) hne
    · simp only [Array.any_eq_true, Bool.and_eq_true, List.contains_iff_mem] at h3
      obtain ⟨k, hk, h4, h5⟩ := h3
      exact ⟨_, Array.getElem_mem hk, h4, h5⟩
  · have := h2 j (List.mem_range.2 (Array.getElem?_eq_some_iff.1 ho).1)
    rw [hT] at this
    simpa using this
theorem wpAnyT_first {i : Nat} {oi : Oper} {v : Value} (B : List Nat) (hT : ∀ j o, ops[j]? = some o → T j = true → j ∈ B) (hB : ∀ j ∈ B, j ≠ i → ∀ o, ops[j]? = some o → ∃ e ∈ o.after, Region.binds md e = true ∧ e.on ∈ B) (hi : ops[i]? = some oi) (hsel : ∀ (j : Nat) (o : Oper) cs b, ops[j]? = some o → o.op ≠ .select cs b)
    (hQ : ∀ c a w, Q (.panic c) (a.put oi.dst v) w → Q (.panic c) a w) :
    ∀ (fuel : Nat) (listed : Array Bool) (a : Act) (w : World),
      (∀ j ∈ B, listed.getD j true = false) →
      (∀ j oj, ops[j]? = some oj → j ≠ i → listed.getD j true = false → (∀ e ∈ oj.after, Region.binds md e = true → e.on ≠ i) → oi.apart ops oj = true) →
      i ∈ Region.ready md ops listed → YieldsIf P ops S oi v a → S w →
      wpAnyT P md ops Q S T fuel (listed.setIfInBounds i true) (a.put oi.dst v) w → wpAnyT P md ops Q S T (fuel + 1) listed a w := by
  intro fuel
  induction fuel with
  | zero =>
    intro listed a w _ _ hr hy hS H
    refine ⟨fun h => (by rw [h] at hr; cases hr), fun j hj => ?_⟩
    by_cases hji : j = i
    · subst hji; exact hy.wpOp hi hS ⟨fun _ => hS, H⟩
    · have := ready_mono hj hji
      rw [H.1] at this
      cases this
  | succ fuel ih =>
    intro listed a w hlate hfree hr hy hS H
    refine ⟨fun h => (by rw [h] at hr; cases hr), fun j hj => ?_⟩
    by_cases hji : j = i
    · subst hji; exact hy.wpOp hi hS ⟨fun _ => hS, H⟩
    · have h1 := H.2 j (ready_mono hj hji)
      obtain ⟨hjun, oj, hoj, hall⟩ := mem_ready.1 hj
      have hiun := (mem_ready.1 hr).1
      have hnot : ∀ e ∈ oj.after, Region.binds md e = true → e.on ≠ i := fun e he hb heq => by
        have h2 := hall e he hb
        rw [heq] at h2
        rcases Nat.lt_or_ge i listed.size with h' | h'
        · simp [h'] at hiun h2; rw [hiun] at h2; cases h2
        · simp [Array.getElem?_eq_none h'] at h2
      have hjB : j ∉ B := fun hm => by
        obtain ⟨e, he, hb, hon⟩ := hB j hm hji oj hoj
        have h2 := hall e he hb
        have h3 := hlate e.on hon
        rcases Nat.lt_or_ge e.on listed.size with h' | h'
        · simp [h'] at h3 h2; rw [h3] at h2; cases h2
        · simp [Array.getElem?_eq_none h'] at h2
      have hTj : T j = false := by
        cases hTT : T j with
        | false => rfl
        | true => exact absurd (hT j oj hoj hTT) hjB
      have h2 := wpOp_putIf hoj (hfree j oj hoj hji hjun hnot) (fun cs b => hsel i oi cs b hi) (fun cs b => hsel j oj cs b hoj) hQ hy h1
      have sub : ∀ k, (listed.setIfInBounds j true).getD k true = false → listed.getD k true = false := fun k hun => by
        by_cases hjk : j = k
        · subst hjk; exact hjun
        · rw [getD_set_ne true hjk] at hun; exact hun
      refine wpOp_mono (fun a' w' h3 => ⟨fun _ => h3.2.1 hTj, ih (listed.setIfInBounds j true) a' w' (fun k hk => (getD_set_ne true (fun (e : j = k) => hjB (by rw [e]; exact hk))).trans (hlate k hk)) (fun k ok hk hki hun hno => hfree k ok hk hki (sub k hun) hno) (ready_mono hr (Ne.symm hji)) h3.1 (h3.2.1 hTj) ?_⟩) h2
      rw [Array.setIfInBounds_comm _ _ hji]
      exact h3.2.2
theorem wpAnyT_take {i : Nat} {oi : Oper} {v : Value} {fuel : Nat} {listed : Array Bool} {a : Act} {w : World} (B : List Nat) (hi : ops[i]? = some oi)
    (hs : Region.noSelect ops = true) (hf : Region.free md ops listed i = true) (hr : (Region.ready md ops listed).contains i = true) (hl : stuckB md ops T listed i B = true)
    (hQ : ∀ c a w, Q (.panic c) (a.put oi.dst v) w → Q (.panic c) a w) (hy : YieldsIf P ops S oi v a) (hS : S w)
    (h : wpAnyT P md ops Q S T fuel (listed.setIfInBounds i true) (a.put oi.dst v) w) : wpAnyT P md ops Q S T (fuel + 1) listed a w :=
  wpAnyT_first B (stuckB_spec hl).2.2 (stuckB_spec hl).2.1 hi (Region.noSelect_spec hs) hQ fuel listed a w (stuckB_spec hl).1 (Region.free_spec hi hf) (by simpa using hr) hy hS h
/-- One step, on the operation as it stands. -/
def StepT (P : Program) (md : Region.Mode) (ops : Array Oper) (Q : Exit → Act → World → Prop) (S : World → Prop) (T : Nat → Bool) (fuel : Nat) (listed : Array Bool) (a : Act) (w : World) (i : Nat) (o : Oper) : Prop :=
  ∀ K : Act → World → Prop, Kept (∀ a' w', (T i = false → S w') → wpAnyT P md ops Q S T fuel (listed.setIfInBounds i true) a' w' → K a' w') →
    if Region.wanted o (yielded ops a.tmps) = true then Oper.wp P o a w K Q else K (a.put o.dst undef) w
theorem StepT.op {fuel : Nat} {listed : Array Bool} {a : Act} {w : World} {i : Nat} {o : Oper} (hi : ops[i]? = some o) (h : StepT P md ops Q S T fuel listed a w i o) :
    wpOp P ops Q i (fun a' w' => (T i = false → S w') ∧ wpAnyT P md ops Q S T fuel (listed.setIfInBounds i true) a' w') a w := by
  have h1 := h _ ⟨fun a' w' h1 h2 => (⟨h1, h2⟩ : (T i = false → S w') ∧ wpAnyT P md ops Q S T fuel (listed.setIfInBounds i true) a' w')⟩
  unfold wpOp
  rw [hi]
  dsimp only
  by_cases hw : Region.wanted o (yielded ops a.tmps) = true
  · rw [if_pos hw] at h1 ⊢; exact .inl h1
  · rw [if_neg hw] at h1 ⊢; exact h1
theorem wpAnyT_one {fuel : Nat} {listed : Array Bool} {a : Act} {w : World} (i : Nat) {o : Oper} (hr : Region.ready md ops listed = [i]) (hi : ops[i]? = some o) (h : StepT P md ops Q S T fuel listed a w i o) : wpAnyT P md ops Q S T (fuel + 1) listed a w := by
  refine ⟨fun e => (by rw [hr] at e; cases e), fun j hj => ?_⟩
  rw [hr, List.mem_singleton] at hj
  subst hj
  exact h.op hi
theorem wpAnyT_two {fuel : Nat} {listed : Array Bool} {a : Act} {w : World} (i j : Nat) {o p : Oper} (hr : Region.ready md ops listed = [i, j]) (hi : ops[i]? = some o) (hj : ops[j]? = some p) (h : StepT P md ops Q S T fuel listed a w i o) (h' : StepT P md ops Q S T fuel listed a w j p) : wpAnyT P md ops Q S T (fuel + 1) listed a w := by
  refine ⟨fun e => (by rw [hr] at e; cases e), fun k hk => ?_⟩
  rw [hr] at hk
  simp only [List.mem_cons, List.not_mem_nil, or_false] at hk
  rcases hk with rfl | rfl
  · exact h.op hi
  · exact h'.op hj
theorem wpAnyT_done {listed : Array Bool} {a : Act} {w : World} (hr : Region.ready md ops listed = []) (h : Q .normal a w) : ∀ fuel, wpAnyT P md ops Q S T fuel listed a w
  | 0 => ⟨hr, h⟩
  | _ + 1 => ⟨fun _ => h, by rw [hr]; simp⟩
/-- The beginning. -/
theorem wpIn_region_late {id : Nat} {a : Act} {w : World} (S : World → Prop) (T : Nat → Bool) (hm : P.follows .mixedOrders = true) (hops : ops.all calmB = true)
    (h : wpAnyT P .any ops (EndN Q) S T ops.size (Array.replicate ops.size false) a w.drew) : (Code.region id ops true).wpIn F n P Q a w := by
  refine wpIn_mono (wpIn_region_any hm (calm_any (fun i o ho => ?_) ?_ _ _ _ _ (wpAny_of_T _ _ _ _ h))) fun e a w hq => ?_
  · exact Array.all_eq_true'.1 hops o (Array.mem_of_getElem? ho)
  · rintro ⟨a, w, h⟩; exact h
  · cases e <;> first | exact hq | exact hq.elim
end
end Go.Proofs.YtfneloplbkjbhaaDoor
