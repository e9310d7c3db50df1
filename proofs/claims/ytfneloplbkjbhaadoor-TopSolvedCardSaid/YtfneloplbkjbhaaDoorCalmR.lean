/-
  A region that draws its order and calls, inside a round of a range over a function: by the plain laws (wpAnyT).
-/
import Derived.Test.YtfneloplbkjbhaaDoorCalm2
import Derived.RangeFuncCalls
namespace Go.Proofs.YtfneloplbkjbhaaDoor
open Go.RowKit
set_option linter.unusedVariables false
def plainB (o : Oper) : Bool := match o.op with
  | .defer _ => false
  | _ => true
variable {n l : Nat} {P : Program} {ops : Array Oper} {Q : Exit → Act → World → Prop} {md : Region.Mode}
theorem round_wp {o : Oper} (hd : plainB o = true) {a : Act} {w : World} {K : Act → World → Prop} (h : o.wp P a w K Q) : o.wpIn (Fence.wide.inRound l) n P a w K Q := by
  have hd' : ∀ c, o.op ≠ .defer c := fun c hc => by unfold plainB at hd; rw [hc] at hd; cases hd
  unfold Oper.wpIn
  refine ⟨fun f _ => trivial, ?_⟩
  rw [Oper.semAt_eq _ _ _ hd']
  unfold Oper.wp at h
  cases hr : (execOp a.eval o).run P w with
  | ok x w1 =>
    rw [hr] at h
    cases x with
    | value v => exact h
    | skip => exact h
    | defer d => exact h
    | enter f args => exact ⟨fun h => (by cases h), CallsIn.inRound l (callsIn_wide.2 h)⟩
    | row r args => exact ⟨fun h => (by cases h), fun c cs _ => let ⟨v, w', r, s⟩ := h c cs; ⟨v, w', r, stepsIn_wide.2 s⟩⟩
    | _ => exact h.elim
  | halt e w1 =>
    rw [hr] at h
    cases e <;> first | exact h | exact h.elim
theorem round_op {i : Nat} {K : Act → World → Prop} {a : Act} {w : World} (hops : ∀ (i : Nat) (o : Oper), ops[i]? = some o → plainB o = true) (hQ : ¬ LetsOut Q) (h : wpOp P ops Q i K a w) : wpOpIn (Fence.wide.inRound l) n P ops Q i K a w := by
  unfold wpOp at h
  unfold wpOpIn
  cases ho : ops[i]? with
  | none => rw [ho] at h; exact h
  | some o =>
    rw [ho] at h
    dsimp only at h ⊢
    by_cases hw : Region.wanted o (yielded ops a.tmps) = true
    · rw [if_pos hw] at h ⊢
      exact round_wp (hops i o ho) (h.resolve_right fun x => hQ x.2)
    · rw [if_neg hw] at h ⊢
      exact ⟨fun f hf => trivial, h⟩
theorem round_anyR (hops : ∀ (i : Nat) (o : Oper), ops[i]? = some o → plainB o = true) (hQ : ¬ LetsOut Q) : ∀ (fuel : Nat) (listed : Array Bool) (a : Act) (w : World), wpAny P md ops Q fuel listed a w → wpAnyIn (Fence.wide.inRound l) n P md ops Q fuel listed a w
  | 0, _, _, _, h => h
  | fuel + 1, listed, a, w, h => ⟨h.1, fun i hi => round_op hops hQ (wpOp_mono (fun a' w' h' => round_anyR hops hQ fuel _ a' w' h') (h.2 i hi))⟩
/-- The beginning. -/
theorem wpIn_round_late {id : Nat} {a : Act} {w : World} (S : World → Prop) (T : Nat → Bool) (hm : P.follows .mixedOrders = true) (hops : ops.all plainB = true)
    (h : wpAnyT P .any ops (EndN Q) S T ops.size (Array.replicate ops.size false) a w.drew) : (Code.region id ops true).wpIn (Fence.wide.inRound l) n P Q a w := by
  refine wpIn_mono (wpIn_region_any hm (round_anyR (fun i o ho => ?_) ?_ _ _ _ _ (wpAny_of_T _ _ _ _ h))) fun e a w hq => ?_
  · exact Array.all_eq_true'.1 hops o (Array.mem_of_getElem? ho)
  · rintro ⟨a, w, h⟩; exact h
  · cases e <;> first | exact hq | exact hq.elim
end Go.Proofs.YtfneloplbkjbhaaDoor
