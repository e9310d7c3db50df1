/-
  Plain: the first one of the greatest priority, reckoned.
-/
import Derived.Test.YtcchmkpodfjhcaaQ9
namespace Go.Proofs.Ytcchmkpodfjhcaa
open Go.RowKit Go.Shelf
set_option linter.unusedVariables false
def best (o : Option (Int × Nat)) (x : Int × Nat) : Option (Int × Nat) := match o with
  | none => some x
  | some y => if y.2 < x.2 then some x else some y
def qTop (Q : QL) : Option (Int × Nat) := Q.foldl best none
theorem best_is {Q : QL} {o : Option (Int × Nat)} (h : IsTop Q o) {x : Int × Nat} (hx : x.2 < 64) : IsTop (Q ++ [x]) (best o x) := by
  obtain ⟨id, k⟩ := x
  simp only at hx
  cases o with
  | none =>
    refine ⟨hx, ?_, fun q h1 h2 => ?_⟩
    · rw [of_app, h k hx, if_pos rfl]; rfl
    · rw [of_app, h q h2, if_neg (by omega)]; rfl
  | some y =>
    obtain ⟨a, p⟩ := y
    obtain ⟨h1, h2, h3⟩ := h
    unfold best
    by_cases hlt : p < k
    · simp only [if_pos hlt]
      refine ⟨hx, ?_, fun q h4 h5 => ?_⟩
      · rw [of_app, h3 k hlt hx, if_pos rfl]; rfl
      · rw [of_app, h3 q (by omega) h5, if_neg (by omega)]; rfl
    · simp only [if_neg hlt]
      refine ⟨h1, ?_, fun q h4 h5 => ?_⟩
      · rw [of_app, List.head?_append, h2]; rfl
      · rw [of_app, h3 q h4 h5, if_neg (by omega)]; rfl
theorem top_from : ∀ (Q2 Q1 : QL) (o : Option (Int × Nat)), (∀ x ∈ Q2, x.2 < 64) → IsTop Q1 o → IsTop (Q1 ++ Q2) (Q2.foldl best o)
  | [], Q1, o, _, h => by simpa using h
  | x :: r, Q1, o, hx, h => by
    have := top_from r (Q1 ++ [x]) (best o x) (fun y hy => hx y (List.mem_cons_of_mem _ hy)) (best_is h (hx x (List.mem_cons_self ..)))
    simpa using this
theorem top_is {Q : QL} (h : ∀ x ∈ Q, x.2 < 64) : IsTop Q (qTop Q) := by
  have := top_from Q [] none h (fun q _ => rfl)
  rwa [List.nil_append] at this
theorem QAt.pr {w : World} {lo hi qb I M p L K n : Nat} {Q : QL} (h : QAt w lo hi qb I M p L K n Q) : ∀ x ∈ Q, x.2 < 64 := by
  obtain ⟨S, ids, f, b, h⟩ := h.of
  exact h.co.pr
theorem qtop_at {w : World} {lo hi qb I M p L K n : Nat} {Q : QL} (h : QAt w lo hi qb I M p L K n Q) :
    Calls Try.prog 40 #[.pointer (some ⟨qb, 0, none⟩)] w fun e w' => e = .returned (topV (qTop Q)) ∧ w = w' := by
  refine (qtop_any h).mono ?_
  rintro e w' ⟨⟨o, ho, rfl⟩, rfl⟩
  rw [ho.one (top_is h.pr)]
  exact ⟨rfl, rfl⟩
theorem qpop_at {w : World} {lo hi qb I M p L K n : Nat} {Q : QL} (h : QAt w lo hi qb I M p L K n Q) (hid : ∀ x ∈ Q, (Lit.int .i64 x.1).wf = true) :
    Calls Try.prog 46 #[.pointer (some ⟨qb, 0, none⟩)] w (QRes w lo hi qb I M p L K n (popQ Q (qTop Q)) (topV (qTop Q))) := by
  refine (qpop_any h hid).mono ?_
  rintro e w' ⟨o, ho, rfl, h1, h2⟩
  rw [ho.one (top_is h.pr)] at h1 ⊢
  exact ⟨rfl, h1, h2⟩
theorem push_at {w : World} {lo hi qb I M p L K n : Nat} {Q Q' : QL} {id k a : Int} (h : QAt w lo hi qb I M p L K n Q) (hid : (Lit.int .i64 id).wf = true) (e : qPush n Q id k = (a, Q')) :
    Calls Try.prog 35 #[.pointer (some ⟨qb, 0, none⟩), .int .i64 id, .int .i64 k] w (QRes w lo hi qb I M p L K n Q' (.int .i64 a)) := by
  have := qpush_any h hid k
  rwa [e] at this
theorem raise_at {w : World} {lo hi qb I M p L K n : Nat} {Q Q' : QL} {id k a : Int} (h : QAt w lo hi qb I M p L K n Q) (hid : (Lit.int .i64 id).wf = true) (e : qRaise Q id k = (a, Q')) :
    Calls Try.prog 38 #[.pointer (some ⟨qb, 0, none⟩), .int .i64 id, .int .i64 k] w (QRes w lo hi qb I M p L K n Q' (.int .i64 a)) := by
  have := qraise_any h hid k
  rwa [e] at this
theorem remove_at {w : World} {lo hi qb I M p L K n : Nat} {Q Q' : QL} {id a : Int} (h : QAt w lo hi qb I M p L K n Q) (hid : (Lit.int .i64 id).wf = true) (e : qRemove Q id = (a, Q')) :
    Calls Try.prog 48 #[.pointer (some ⟨qb, 0, none⟩), .int .i64 id] w (QRes w lo hi qb I M p L K n Q' (.int .i64 a)) := by
  have := qremove_any h hid
  rwa [e] at this
theorem turn_at {w : World} {lo hi qb I M p L K n : Nat} {Q Q' : QL} {k a : Int} (h : QAt w lo hi qb I M p L K n Q) (e : qTurn Q k = (a, Q')) :
    Calls Try.prog 51 #[.pointer (some ⟨qb, 0, none⟩), .int .i64 k] w (QRes w lo hi qb I M p L K n Q' (.int .i64 a)) := by
  have := qturn_any h k
  rwa [e] at this
theorem pop_at {w : World} {lo hi qb I M p L K n : Nat} {Q Q' : QL} {v : Value} (h : QAt w lo hi qb I M p L K n Q) (hid : ∀ x ∈ Q, (Lit.int .i64 x.1).wf = true) (e : topV (qTop Q) = v) (e' : popQ Q (qTop Q) = Q') :
    Calls Try.prog 46 #[.pointer (some ⟨qb, 0, none⟩)] w (QRes w lo hi qb I M p L K n Q' v) := by
  have := qpop_at h hid
  rwa [e, e'] at this
end Go.Proofs.Ytcchmkpodfjhcaa
