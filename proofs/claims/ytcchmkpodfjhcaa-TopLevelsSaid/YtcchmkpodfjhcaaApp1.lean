/-
  Appending a slice of ints, nil or not, to an own one; one-cell values appended inside a region that draws.
-/
import Derived.Test.YtcchmkpodfjhcaaVi
import Derived.Laws.AppendOwnNone
import Derived.Deep.RegionLaw
import Derived.Deep.RegionHeld3
namespace Go.Proofs.Ytcchmkpodfjhcaa
open Go.RowKit
set_option linter.unusedVariables false
theorem wp_appI {P : Program} {w : World} {o : Oper} {a : Act} {K : Act → World → Prop} {Q : Exit → Act → World → Prop} (s x : Operand) (t : TypeId)
    (ho : o.op = .call { callee := .builtin .append, args := #[s, x], argTypes := #[t, t] })
    (base : Nat) (e : TypeId) (i : TypeInfo) (z : Value) (bytes : Nat) (ht : P.underlying t = some (.slice e)) (hi : P.info? e = some i) (hz : i.zero = some z)
    (hsize : i.size = 1) (hby : i.bytes = bytes) (hzs : z.cells.size = 1)
    (v : Value) (n : Nat) (ys : List Int) (hs : a.eval s = v) (hown : w.ownsRow base e 1 v n (ys.map (Value.int .i64)))
    (A : Option Addr) (xs : List Int) (c B : Nat) (hx : a.eval x = .slice A xs.length c) (hR : Ints w B A xs) (hn : A = none → c = 0) (hmax : n + xs.length ≤ maxLen) (hlen : (n + xs.length) * bytes ≤ 140737488355328) (hbase : base ≤ w.heap.size)
    (h : ∀ v' w', w'.ownsRow base e 1 v' (n + xs.length) ((ys ++ xs).map (Value.int .i64)) → w.grownBy w' v.ownBlock → K (a.put o.dst v') w') : o.wp P a w K Q := by
  cases A with
  | none =>
    have h0 : xs.length = 0 := by
      rcases Nat.eq_zero_or_pos xs.length with h0 | h0
      · exact h0
      · obtain ⟨_, _, e, _⟩ := hR h0; cases e
    have : xs = [] := List.eq_nil_of_length_eq_zero h0
    subst this
    have hrun := run_append_owned_none (P := P) (w := w) base t o.type e i 1 ht hi v n _ hown
    have hx' : a.eval x = .slice none 0 0 := by rw [hx, hn rfl]; rfl
    unfold Oper.wp
    simp only [execOp, ho, resolve, invoke, builtin, Sem.run_bind, Sem.run_pure, Result.andThen_ok, List.map_toArray, List.map_cons, List.map_nil, hs, hx', hrun]
    exact h v w (by simpa using hown) ⟨rfl, rfl, rfl, Nat.le_refl _, fun _ _ _ => rfl⟩
  | some ad =>
    obtain ⟨b, off, ic⟩ := ad
    refine wp_append_own w s x t ho base e i z 1 bytes ht hi hz hsize hby hzs (by omega) v n _ hs hown ⟨b, off, ic⟩ xs.length c (xs.map (Value.int .i64)) hx (by simp) ?_ ?_ hmax hlen hbase ?_
    · intro j u hu
      have hj : j < xs.length := by
        have := (List.getElem?_eq_some_iff.1 hu).1
        simpa using this
      obtain ⟨b', off', e', hb, hc⟩ := hR (by omega)
      cases e'
      have hcj := hc j hj
      rw [show (⟨b, off, none⟩ : Addr).add j = ⟨b, off + j, none⟩ from by unfold Addr.add; split <;> simp_all, hcj]
      rw [List.getElem?_map, List.getElem?_eq_getElem hj] at hu
      rw [List.getElem?_eq_getElem hj]
      simpa using hu
    · intro u hu
      obtain ⟨x, _, rfl⟩ := List.mem_map.1 hu
      rfl
    · intro v' w' hw hg _
      exact h v' w' (by rw [List.map_append]; exact hw) hg
theorem step_of_wp {P : Program} {w : World} {ops : Array Oper} {o : Oper} {a : Act} {K : Act → World → Prop} {Q : Exit → Act → World → Prop} {E : Prop} (hg : o.guard = none) (h : o.wp P a w K Q) :
    if Region.wanted o (yielded ops a.tmps) = true then Oper.wp P o a w K Q else E := by
  rw [if_pos (by simp [Region.wanted, hg])]
  exact h
/-- A slice freshly made, empty. -/
theorem own_made {e : TypeId} {base : Nat} (w : World) (n : Nat) (hn : n = w.heap.size) (hb : base ≤ n) : (w.alloc (.cells #[] e)).ownsRow base e 1 (.slice (some ⟨n, 0, none⟩) 0 0) 0 (([] : List Int).map (Value.int .i64)) := by
  subst hn
  exact World.ownsRow_made w #[] 0 hb (by decide) rfl
theorem own_nil {w : World} {base : Nat} {e : TypeId} {sz n c : Nat} {xs : List Value} {A : Option Addr} (h : w.ownsRow base e sz (.slice A n c) n xs) : A = none → c = 0 := by
  rintro rfl
  rcases h.2 with ⟨h2, _⟩ | ⟨g, cap, cur, e1, h3, h4⟩
  · cases h2; rfl
  · cases e1
theorem own_mono {w : World} {base B : Nat} {e : TypeId} {sz n : Nat} {v : Value} {xs : List Value} (h : w.ownsRow base e sz v n xs) (hB : B ≤ base) : w.ownsRow B e sz v n xs := by
  obtain ⟨h1, h2⟩ := h
  refine ⟨h1, ?_⟩
  rcases h2 with h2 | ⟨g, cap, cur, e1, h3, h4⟩
  · exact .inl h2
  · exact .inr ⟨g, cap, cur, e1, Nat.le_trans hB h3, h4⟩
end Go.Proofs.Ytcchmkpodfjhcaa
