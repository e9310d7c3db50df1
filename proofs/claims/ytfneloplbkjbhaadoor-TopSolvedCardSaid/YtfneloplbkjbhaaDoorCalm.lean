/-
  A region that draws its order and makes no call, inside a fence and inside a round: by the plain laws of Derived/OrdersHeld.lean.
-/
import Derived.Test.YtfneloplbkjbhaaDoorVk
import Derived.OrdersIn
import Derived.Deep.RegionHeld3
namespace Go.Proofs.YtfneloplbkjbhaaDoor
open Go.RowKit
set_option linter.unusedVariables false
def calmB (o : Oper) : Bool := match o.op with
  | .move .. | .assign .. | .load .. | .store .. | .nilCheck .. | .fieldAddr .. | .indexAddr .. | .binOp .. | .unOp .. | .extract .. | .buildSlice .. => true
  | .call c => match c.callee with
    | .builtin .append => true
    | _ => false
  | _ => false
theorem ok_of {α β : Type} {r : Result α} {f : α → World → Result β} {x : β} {w : World} (h : r.andThen f = .ok x w) : ∃ a w1, r = .ok a w1 ∧ f a w1 = .ok x w := by
  cases r with
  | ok a w1 => exact ⟨a, w1, rfl, h⟩
  | halt e w1 => simp [Result.andThen] at h
theorem run_v {s : Sem Value} {P : Program} {w w' : World} {x : Next} (h : (do pure (Next.value (← s)) : Sem Next).run P w = .ok x w') : (∃ v, x = .value v) ∨ x = .skip := by
  rw [Sem.run_bind] at h
  cases hs : s.run P w with
  | ok v w1 => rw [hs] at h; simp at h; exact .inl ⟨v, h.1.symm⟩
  | halt e w1 => rw [hs] at h; simp [Result.andThen] at h
theorem run_u {s : Sem Unit} {P : Program} {w w' : World} {x : Next} (h : (do s; pure Next.skip : Sem Next).run P w = .ok x w') : (∃ v, x = .value v) ∨ x = .skip := by
  rw [Sem.run_bind] at h
  cases hs : s.run P w with
  | ok v w1 => rw [hs] at h; simp at h; exact .inr h.1.symm
  | halt e w1 => rw [hs] at h; simp [Result.andThen] at h
theorem calm_call {o : Oper} {c : Call} (hc : calmB o = true) (ho : o.op = .call c) : c.callee = .builtin .append := by
  unfold calmB at hc
  rw [ho] at hc
  dsimp only at hc
  split at hc
  · assumption
  · cases hc
theorem calm_run {o : Oper} (hc : calmB o = true) {ρ : Operand → Value} {P : Program} {w w' : World} {x : Next} (h : (execOp ρ o).run P w = .ok x w') : (∃ v, x = .value v) ∨ x = .skip := by
  have hcall := fun c => calm_call (c := c) hc
  unfold execOp at h
  unfold calmB at hc
  cases ho : o.op <;> rw [ho] at h hc <;> simp only [Bool.false_eq_true] at hc <;> first
    | exact run_v h
    | (have hb := hcall _ ho; simp only [resolve, hb] at h; rw [Sem.run_bind, Sem.run_pure] at h; exact run_v h)
    | exact run_u h
    | (simp at h; exact .inl ⟨_, h.1.symm⟩)
    | skip
  dsimp only at h
  split at h
  · simp [runtimePanic] at h
  · simp [runtimePanic] at h
  · simp [runtimePanic] at h
  · split at h
    · simp [runtimePanic] at h
    · rw [Sem.run_bind] at h
      obtain ⟨p1, w1, h1, h⟩ := ok_of h
      rw [Sem.run_bind] at h
      obtain ⟨p2, w2, h2, h⟩ := ok_of h
      split at h
      · rw [Sem.run_bind] at h
        obtain ⟨p3, w3, h3, h⟩ := ok_of h
        simp at h
        exact .inl ⟨_, h.1.symm⟩
      · simp at h
        exact .inl ⟨_, h.1.symm⟩
    · simp at h; exact .inl ⟨_, h.1.symm⟩
  · simp at h; exact .inl ⟨_, h.1.symm⟩
variable {F : Fence} {n : Nat} {P : Program} {ops : Array Oper} {Q : Exit → Act → World → Prop} {md : Region.Mode}
theorem calm_about {o : Oper} (hc : calmB o = true) (ρ : Operand → Value) (w : World) : o.about P w ρ = none := by
  have hcall := fun c => calm_call (c := c) hc
  unfold calmB at hc
  unfold Oper.about
  cases ho : o.op <;> rw [ho] at hc <;> first | rfl | cases hc | skip
  have hb := hcall _ ho
  simp [resolve, hb, Target.leads, Sem.run_pure]
theorem calm_sem {o : Oper} (hc : calmB o = true) (ρ : Operand → Value) (l : Option Nat) : o.semAt l ρ = execOp ρ o := by
  refine Oper.semAt_eq l ρ o fun c ho => ?_
  unfold calmB at hc
  rw [ho] at hc
  cases hc
theorem calm_wp {o : Oper} (hc : calmB o = true) {a : Act} {w : World} {K : Act → World → Prop} (h : o.wp P a w K Q) : o.wpIn F n P a w K Q := by
  unfold Oper.wpIn
  refine ⟨fun f hf => (by rw [calm_about hc] at hf; cases hf), ?_⟩
  rw [calm_sem hc]
  unfold Oper.wp at h
  cases hr : (execOp a.eval o).run P w with
  | ok x w1 =>
    rw [hr] at h
    rcases calm_run hc hr with ⟨v, rfl⟩ | rfl
    · exact h
    · exact h
  | halt e w1 =>
    rw [hr] at h
    cases e <;> first | exact h | exact h.elim
theorem calm_op {i : Nat} {K : Act → World → Prop} {a : Act} {w : World} (hops : ∀ (i : Nat) (o : Oper), ops[i]? = some o → calmB o = true) (hQ : ¬ LetsOut Q) (h : wpOp P ops Q i K a w) : wpOpIn F n P ops Q i K a w := by
  unfold wpOp at h
  unfold wpOpIn
  cases ho : ops[i]? with
  | none => rw [ho] at h; exact h
  | some o =>
    rw [ho] at h
    dsimp only at h ⊢
    by_cases hw : Region.wanted o (yielded ops a.tmps) = true
    · rw [if_pos hw] at h ⊢
      exact calm_wp (hops i o ho) (h.resolve_right fun x => hQ x.2)
    · rw [if_neg hw] at h ⊢
      exact ⟨fun f hf => (by rw [calm_about (hops i o ho)] at hf; cases hf), h⟩
theorem calm_any (hops : ∀ (i : Nat) (o : Oper), ops[i]? = some o → calmB o = true) (hQ : ¬ LetsOut Q) : ∀ (fuel : Nat) (listed : Array Bool) (a : Act) (w : World), wpAny P md ops Q fuel listed a w → wpAnyIn F n P md ops Q fuel listed a w
  | 0, _, _, _, h => h
  | fuel + 1, listed, a, w, h => ⟨h.1, fun i hi => calm_op hops hQ (wpOp_mono (fun a' w' h' => calm_any hops hQ fuel _ a' w' h') (h.2 i hi))⟩
/-- Q, but 'False' where a statement does not end as statements end. -/
def EndN (Q : Exit → Act → World → Prop) : Exit → Act → World → Prop
  | .normal, a, w => Q .normal a w
  | _, _, _ => False
/-- **A region that draws its order and makes no call, inside a fence**: as the plain region, when it ends as a statement ends. -/
theorem wpIn_region_calm {id : Nat} {a : Act} {w : World} {S : World → Prop} (hm : P.follows .mixedOrders = true) (hops : ops.all calmB = true) (hS : S w.drew)
    (h : S w.drew → wpAnyH P .any ops (EndN Q) S ops.size (Array.replicate ops.size false) a w.drew) : (Code.region id ops true).wpIn F n P Q a w := by
  refine wpIn_mono (wpIn_region_any hm (calm_any (fun i o ho => ?_) ?_ _ _ _ _ (wpAny_of_held _ _ _ _ (h hS)))) fun e a w hq => ?_
  · exact Array.all_eq_true'.1 hops o (Array.mem_of_getElem? ho)
  · rintro ⟨a, w, h⟩; exact h
  · cases e <;> first | exact hq | exact hq.elim
end Go.Proofs.YtfneloplbkjbhaaDoor
