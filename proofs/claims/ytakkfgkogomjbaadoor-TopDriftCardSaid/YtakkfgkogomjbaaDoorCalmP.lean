/-
  A region that draws its order, with late operations: pure operations may come wherever they like.
-/
import Derived.Test.YtakkfgkogomjbaaDoorCalm2
namespace Go.Proofs.YtakkfgkogomjbaaDoor
open Go.RowKit
set_option linter.unusedVariables false
variable {P : Program} {md : Region.Mode} {ops : Array Oper} {Q : Exit → Act → World → Prop} {S : World → Prop} {T : Nat → Bool}
/-- An operation that leaves the world as it is. -/
def pureB (o : Oper) : Bool := o.guard.isNone && match o.op with
  | .extract .. => true
  | .move .. => true
  | _ => false
theorem pure_wp {o : Oper} (hp : pureB o = true) {a : Act} {w : World} {K : Act → World → Prop} (h : o.wp P a w K Q) : o.wp P a w (fun a' w' => w' = w ∧ K a' w') Q := by
  unfold pureB at hp
  rw [Bool.and_eq_true] at hp
  have hp := hp.2
  unfold Oper.wp execOp at h ⊢
  cases ho : o.op <;> rw [ho] at hp h <;> simp only [Bool.false_eq_true] at hp
  · simp at h ⊢
    exact ⟨rfl, h⟩
  · unfold Instr.extract at h ⊢
    simp only at h ⊢
    split at h
    · split at h
      · simp [Oper.upon] at h ⊢
        exact h
      · simp [stuck, Oper.upon] at h
    · simp [stuck, Oper.upon] at h
theorem pure_op {i : Nat} {o : Oper} (hi : ops[i]? = some o) (hp : pureB o = true) {K : Act → World → Prop} {a : Act} {w : World} (h : wpOp P ops Q i K a w) : wpOp P ops Q i (fun a' w' => w' = w ∧ K a' w') a w := by
  unfold wpOp at h ⊢
  rw [hi] at h ⊢
  dsimp only at h ⊢
  split at h
  · rename_i hw
    rw [if_pos hw]
    rcases h with h | h
    · exact .inl (pure_wp hp h)
    · exact .inr h
  · rename_i hw
    rw [if_neg hw]
    exact ⟨rfl, h⟩
/-- These have not come up, and none of them can as long as this one has not; the late ones that have not come up are of them, or pure. -/
def stuckP (md : Region.Mode) (ops : Array Oper) (T : Nat → Bool) (listed : Array Bool) (i : Nat) (B : List Nat) : Bool :=
  (B.all fun j => (!listed.getD j true) && (j == i || (match ops[j]? with | none => false | some o => o.after.any fun e => Region.binds md e && B.contains e.on))) &&
  (List.range ops.size).all fun j => !T j || B.contains j || listed.getD j true || (match ops[j]? with | none => true | some o => pureB o)
theorem stuckP_spec {listed : Array Bool} {i : Nat} {B : List Nat} (h : stuckP md ops T listed i B = true) :
    (∀ j ∈ B, listed.getD j true = false) ∧ (∀ j ∈ B, j ≠ i → ∀ o, ops[j]? = some o → ∃ e ∈ o.after, Region.binds md e = true ∧ e.on ∈ B) ∧ (∀ j o, ops[j]? = some o → T j = true → listed.getD j true = false → j ∈ B ∨ pureB o = true) := by
  unfold stuckP at h
  rw [Bool.and_eq_true, List.all_eq_true, List.all_eq_true] at h
  obtain ⟨h1, h2⟩ := h
  refine ⟨fun j hj => ?_, fun j hj hne o ho => ?_, fun j o ho hT hl => ?_⟩
  · have := h1 j hj
    rw [Bool.and_eq_true, Bool.not_eq_true'] at this
    exact this.1
  · have := h1 j hj
    rw [Bool.and_eq_true, ho] at this
    have h3 := this.2
    rw [Bool.or_eq_true] at h3
    rcases h3 with h3 | h3
    · exact absurd (beq_iff_eq.1 h3) hne
    · simp only [Array.any_eq_true, Bool.and_eq_true, List.contains_iff_mem] at h3
      obtain ⟨k, hk, h4, h5⟩ := h3
      exact ⟨_, Array.getElem_mem hk, h4, h5⟩
  · have := h2 j (List.mem_range.2 (Array.getElem?_eq_some_iff.1 ho).1)
    rw [hT, hl, ho] at this
    simp at this
    exact this
/-- As wpAnyT_first, where pure operations may be late. -/
theorem wpAnyP_first {i : Nat} {oi : Oper} {v : Value} (B : List Nat) (hB : ∀ j ∈ B, j ≠ i → ∀ o, ops[j]? = some o → ∃ e ∈ o.after, Region.binds md e = true ∧ e.on ∈ B) (hi : ops[i]? = some oi) (hsel : ∀ (j : Nat) (o : Oper) cs b, ops[j]? = some o → o.op ≠ .select cs b)
    (hQ : ∀ c a w, Q (.panic c) (a.put oi.dst v) w → Q (.panic c) a w) :
    ∀ (fuel : Nat) (listed : Array Bool) (a : Act) (w : World),
      (∀ j ∈ B, listed.getD j true = false) → (∀ j o, ops[j]? = some o → T j = true → listed.getD j true = false → j ∈ B ∨ pureB o = true) →
      (∀ j oj, ops[j]? = some oj → j ≠ i → listed.getD j true = false → (∀ e ∈ oj.after, Region.binds md e = true → e.on ≠ i) → oi.apart ops oj = true) →
      i ∈ Region.ready md ops listed → YieldsIf P ops S oi v a → S w →
      wpAnyT P md ops Q S T fuel (listed.setIfInBounds i true) (a.put oi.dst v) w → wpAnyT P md ops Q S T (fuel + 1) listed a w := by
  intro fuel
  induction fuel with
  | zero =>
    intro listed a w _ _ _ hr hy hS H
    refine ⟨fun h => (by rw [h] at hr; cases hr), fun j hj => ?_⟩
    by_cases hji : j = i
    · subst hji; exact hy.wpOp hi hS ⟨fun _ => hS, H⟩
    · have := ready_mono hj hji
      rw [H.1] at this
      cases this
  | succ fuel ih =>
    intro listed a w hlate hT hfree hr hy hS H
    refine ⟨fun h => (by rw [h] at hr; cases hr), fun j hj => ?_⟩
    by_cases hji : j = i
    · subst hji; exact hy.wpOp hi hS ⟨fun _ => hS, H⟩
    · have h1 := H.2 j (ready_mono hj hji)
      obtain ⟨hjun, oj, hoj, hall⟩ := mem_ready.1 hj
      have hiun := (mem_ready.1 hr).1
      have hnot : ∀ e ∈ oj.after, Region.binds md e = true → e.on ≠ i := fun e he hb heq => by
        have h2 := hall e he hb
        rw [heq] at h2
        rcases Nat.lt_or_ge i listed.size with h' | h'
        · simp [h'] at hiun h2; rw [hiun] at h2; cases h2
        · simp [Array.getElem?_eq_none h'] at h2
      have hjB : j ∉ B := fun hm => by
        obtain ⟨e, he, hb, hon⟩ := hB j hm hji oj hoj
        have h2 := hall e he hb
        have h3 := hlate e.on hon
        rcases Nat.lt_or_ge e.on listed.size with h' | h'
        · simp [h'] at h3 h2; rw [h3] at h2; cases h2
        · simp [Array.getElem?_eq_none h'] at h2
      have hS' : wpOp P ops Q j (fun a' w' => S w' ∧ wpAnyT P md ops Q S T fuel ((listed.setIfInBounds i true).setIfInBounds j true) a' w') (a.put oi.dst v) w := by
        cases hTT : T j with
        | false => exact wpOp_mono (fun a' w' h => ⟨h.1 hTT, h.2⟩) h1
        | true =>
          have hp := (hT j oj hoj hTT hjun).resolve_left hjB
          exact wpOp_mono (fun a' w' h => ⟨by rw [h.1]; exact hS, h.2.2⟩) (pure_op hoj hp h1)
      have h2 := wpOp_putIf hoj (hfree j oj hoj hji hjun hnot) (fun cs b => hsel i oi cs b hi) (fun cs b => hsel j oj cs b hoj) hQ hy hS'
      have sub : ∀ k, (listed.setIfInBounds j true).getD k true = false → listed.getD k true = false := fun k hun => by
        by_cases hjk : j = k
        · subst hjk; exact hjun
        · rw [getD_set_ne true hjk] at hun; exact hun
      refine wpOp_mono (fun a' w' h3 => ⟨fun _ => h3.2.1, ih (listed.setIfInBounds j true) a' w' (fun k hk => (getD_set_ne true (fun (e : j = k) => hjB (by rw [e]; exact hk))).trans (hlate k hk)) (fun k ok hk hTk hun => hT k ok hk hTk (sub k hun)) (fun k ok hk hki hun hno => hfree k ok hk hki (sub k hun) hno) (ready_mono hr (Ne.symm hji)) h3.1 h3.2.1 ?_⟩) h2
      rw [Array.setIfInBounds_comm _ _ hji]
      exact h3.2.2
theorem wpAnyP_take {i : Nat} {oi : Oper} {v : Value} {fuel : Nat} {listed : Array Bool} {a : Act} {w : World} (B : List Nat) (hi : ops[i]? = some oi)
    (hs : Region.noSelect ops = true) (hf : Region.free md ops listed i = true) (hr : (Region.ready md ops listed).contains i = true) (hl : stuckP md ops T listed i B = true)
    (hQ : ∀ c a w, Q (.panic c) (a.put oi.dst v) w → Q (.panic c) a w) (hy : YieldsIf P ops S oi v a) (hS : S w)
    (h : wpAnyT P md ops Q S T fuel (listed.setIfInBounds i true) (a.put oi.dst v) w) : wpAnyT P md ops Q S T (fuel + 1) listed a w :=
  wpAnyP_first B (stuckP_spec hl).2.1 hi (Region.noSelect_spec hs) hQ fuel listed a w (stuckP_spec hl).1 (stuckP_spec hl).2.2 (Region.free_spec hi hf) (by simpa using hr) hy hS h
/-- A late operation that yields in whatever world may come up first. -/
theorem wpAnyP_free_first {i : Nat} {oi : Oper} {v : Value} (hTi : T i = true) (hi : ops[i]? = some oi) (hsel : ∀ (j : Nat) (o : Oper) cs b, ops[j]? = some o → o.op ≠ .select cs b)
    (hQ : ∀ c a w, Q (.panic c) (a.put oi.dst v) w → Q (.panic c) a w) :
    ∀ (fuel : Nat) (listed : Array Bool) (a : Act) (w : World),
      (∀ j oj, ops[j]? = some oj → j ≠ i → listed.getD j true = false → (∀ e ∈ oj.after, Region.binds md e = true → e.on ≠ i) → oi.apart ops oj = true) →
      i ∈ Region.ready md ops listed → YieldsIf P ops (fun _ => True) oi v a →
      wpAnyT P md ops Q S T fuel (listed.setIfInBounds i true) (a.put oi.dst v) w → wpAnyT P md ops Q S T (fuel + 1) listed a w := by
  intro fuel
  induction fuel with
  | zero =>
    intro listed a w _ hr hy H
    refine ⟨fun h => (by rw [h] at hr; cases hr), fun j hj => ?_⟩
    by_cases hji : j = i
    · subst hji; exact hy.wpOp hi trivial ⟨fun h => (by rw [hTi] at h; cases h), H⟩
    · have := ready_mono hj hji
      rw [H.1] at this
      cases this
  | succ fuel ih =>
    intro listed a w hfree hr hy H
    refine ⟨fun h => (by rw [h] at hr; cases hr), fun j hj => ?_⟩
    by_cases hji : j = i
    · subst hji; exact hy.wpOp hi trivial ⟨fun h => (by rw [hTi] at h; cases h), H⟩
    · have h1 := H.2 j (ready_mono hj hji)
      obtain ⟨hjun, oj, hoj, hall⟩ := mem_ready.1 hj
      have hiun := (mem_ready.1 hr).1
      have hnot : ∀ e ∈ oj.after, Region.binds md e = true → e.on ≠ i := fun e he hb heq => by
        have h2 := hall e he hb
        rw [heq] at h2
        rcases Nat.lt_or_ge i listed.size with h' | h'
        · simp [h'] at hiun h2; rw [hiun] at h2; cases h2
        · simp [Array.getElem?_eq_none h'] at h2
      have h2 := wpOp_putIf hoj (hfree j oj hoj hji hjun hnot) (fun cs b => hsel i oi cs b hi) (fun cs b => hsel j oj cs b hoj) hQ hy h1
      have sub : ∀ k, (listed.setIfInBounds j true).getD k true = false → listed.getD k true = false := fun k hun => by
        by_cases hjk : j = k
        · subst hjk; exact hjun
        · rw [getD_set_ne true hjk] at hun; exact hun
      refine wpOp_mono (fun a' w' h3 => ⟨h3.2.1, ih (listed.setIfInBounds j true) a' w' (fun k ok hk hki hun hno => hfree k ok hk hki (sub k hun) hno) (ready_mono hr (Ne.symm hji)) h3.1 ?_⟩) h2
      rw [Array.setIfInBounds_comm _ _ hji]
      exact h3.2.2
theorem wpAnyP_free {i : Nat} {oi : Oper} {v : Value} {fuel : Nat} {listed : Array Bool} {a : Act} {w : World} (hTi : T i = true) (hi : ops[i]? = some oi)
    (hs : Region.noSelect ops = true) (hf : Region.free md ops listed i = true) (hr : (Region.ready md ops listed).contains i = true)
    (hQ : ∀ c a w, Q (.panic c) (a.put oi.dst v) w → Q (.panic c) a w) (hy : YieldsIf P ops (fun _ => True) oi v a)
    (h : wpAnyT P md ops Q S T fuel (listed.setIfInBounds i true) (a.put oi.dst v) w) : wpAnyT P md ops Q S T (fuel + 1) listed a w :=
  wpAnyP_free_first hTi hi (Region.noSelect_spec hs) hQ fuel listed a w (Region.free_spec hi hf) (by simpa using hr) hy h
end Go.Proofs.YtakkfgkogomjbaaDoor
