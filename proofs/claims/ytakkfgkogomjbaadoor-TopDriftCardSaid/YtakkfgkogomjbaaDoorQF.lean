/-
  Appending records of three numbers, a slice of unknown nil-ness, to an own one.
-/
import Derived.Test.YtakkfgkogomjbaaDoorV3
import Derived.Test.YtakkfgkogomjbaaDoorWL1
import Derived.Laws.AppendOwnNone
namespace Go.Proofs.YtakkfgkogomjbaaDoor
open Go.RowKit
set_option linter.unusedVariables false
theorem q3_onecell (xs : List Q3) : ∀ u ∈ xs.flatMap Q3.cells, u.oneCell' = true := by
  intro u hu
  obtain ⟨x, hx, hu⟩ := List.mem_flatMap.1 hu
  simp only [Q3.cells, List.mem_cons, List.not_mem_nil, or_false] at hu
  rcases hu with rfl | rfl | rfl <;> rfl
theorem r3_cells {w : World} {B b off : Nat} {xs : List Q3} (h : R3 w B (some ⟨b, off, none⟩) xs) : ∀ (j : Nat) (u : Value), (xs.flatMap Q3.cells)[j]? = some u → w.cell? ((⟨b, off, none⟩ : Addr).add j) = some u := by
  intro j u hu
  have hj : j < xs.length * 3 := by
    have := (List.getElem?_eq_some_iff.1 hu).1
    rwa [cells3_length] at this
  obtain ⟨b', off', e, hb, hc⟩ := h (by omega)
  cases e
  obtain ⟨x, hx⟩ := some3_at (xs := xs) (k := j / 3) (by omega)
  obtain ⟨c1, c2, c3⟩ := hc _ x hx
  have hs := cells3_at xs (j / 3) (j % 3) x hx (by omega)
  rw [show j / 3 * 3 + j % 3 = j from by omega, hu] at hs
  have ha : (⟨b, off, none⟩ : Addr).add j = ⟨b, off + j, none⟩ := by unfold Addr.add; split <;> simp_all
  rw [ha]
  have h3 : j % 3 = 0 ∨ j % 3 = 1 ∨ j % 3 = 2 := by omega
  rcases h3 with h3 | h3 | h3 <;> rw [h3] at hs <;> simp only [Q3.cells, List.getElem?_cons_zero, List.getElem?_cons_succ, Option.some.injEq] at hs <;> subst hs
  · rw [show off + j = off + j / 3 * 3 from by omega]; exact c1
  · rw [show off + j = off + j / 3 * 3 + 1 from by omega]; exact c2
  · rw [show off + j = off + j / 3 * 3 + 2 from by omega]; exact c3
theorem wp_app3 {P : Program} {w : World} {o : Oper} {a : Act} {K : Act → World → Prop} {Q : Exit → Act → World → Prop} (s x : Operand) (t : TypeId)
    (ho : o.op = .call { callee := .builtin .append, args := #[s, x], argTypes := #[t, t] })
    (base : Nat) (e : TypeId) (i : TypeInfo) (z : Value) (bytes : Nat) (ht : P.underlying t = some (.slice e)) (hi : P.info? e = some i) (hz : i.zero = some z)
    (hsize : i.size = 3) (hby : i.bytes = bytes) (hzs : z.cells.size = 3)
    (v : Value) (n : Nat) (ys : List Value) (hs : a.eval s = v) (hown : w.ownsRow base e 3 v n ys)
    (A : Option Addr) (xs : List Q3) (c B : Nat) (hx : a.eval x = .slice A xs.length c) (hR : R3 w B A xs) (hn : A = none → c = 0) (hmax : n + xs.length ≤ maxLen) (hlen : (n + xs.length) * bytes ≤ 140737488355328) (hbase : base ≤ w.heap.size)
    (h : ∀ v' w', w'.ownsRow base e 3 v' (n + xs.length) (ys ++ xs.flatMap Q3.cells) → w.grownBy w' v.ownBlock → K (a.put o.dst v') w') : o.wp P a w K Q := by
  cases A with
  | none =>
    have h0 : xs.length = 0 := by
      rcases Nat.eq_zero_or_pos xs.length with h0 | h0
      · exact h0
      · obtain ⟨_, _, e, _⟩ := hR h0; cases e
    have : xs = [] := List.eq_nil_of_length_eq_zero h0
    subst this
    have hrun := run_append_owned_none (P := P) (w := w) base t o.type e i 3 ht hi v n _ hown
    have hx' : a.eval x = .slice none 0 0 := by rw [hx, hn rfl]; rfl
    unfold Oper.wp
    simp only [execOp, ho, resolve, invoke, builtin, Sem.run_bind, Sem.run_pure, Result.andThen_ok, List.map_toArray, List.map_cons, List.map_nil, hs, hx', hrun]
    exact h v w (by simpa using hown) ⟨rfl, rfl, rfl, Nat.le_refl _, fun _ _ _ => rfl⟩
  | some ad =>
    obtain ⟨b, off, ic⟩ := ad
    refine wp_append_own w s x t ho base e i z 3 bytes ht hi hz hsize hby hzs (by omega) v n _ hs hown ⟨b, off, ic⟩ xs.length c (xs.flatMap Q3.cells) hx (cells3_length xs) ?_ (q3_onecell xs) hmax hlen hbase ?_
    · intro j u hu
      have hj : j < xs.length * 3 := by
        have := (List.getElem?_eq_some_iff.1 hu).1
        rwa [cells3_length] at this
      obtain ⟨b', off', e', hb, hc⟩ := hR (by omega)
      cases e'
      exact r3_cells hR j u hu
    · intro v' w' hw hg _
      exact h v' w' hw hg
theorem wpList_app3 {P : Program} {w : World} {ops : Array Oper} {rest : List Oper} {o : Oper} {a : Act} {Q : Exit → Act → World → Prop} (hgd : o.guard = none) (s x : Operand) (t : TypeId)
    (ho : o.op = .call { callee := .builtin .append, args := #[s, x], argTypes := #[t, t] })
    (base : Nat) (e : TypeId) (i : TypeInfo) (z : Value) (bytes : Nat) (ht : P.underlying t = some (.slice e)) (hi : P.info? e = some i) (hz : i.zero = some z)
    (hsize : i.size = 3) (hby : i.bytes = bytes) (hzs : z.cells.size = 3)
    (v : Value) (n : Nat) (ys : List Value) (hs : a.eval s = v) (hown : w.ownsRow base e 3 v n ys)
    (A : Option Addr) (xs : List Q3) (c B : Nat) (hx : a.eval x = .slice A xs.length c) (hR : R3 w B A xs) (hn : A = none → c = 0) (hmax : n + xs.length ≤ maxLen) (hlen : (n + xs.length) * bytes ≤ 140737488355328) (hbase : base ≤ w.heap.size)
    (h : ∀ v' w', w'.ownsRow base e 3 v' (n + xs.length) (ys ++ xs.flatMap Q3.cells) → w.grownBy w' v.ownBlock → wpList P ops Q rest (a.put o.dst v') w') : wpList P ops Q (o :: rest) a w :=
  wpList_plain hgd fun _ hK => wp_app3 s x t ho base e i z bytes ht hi hz hsize hby hzs v n ys hs hown A xs c B hx hR hn hmax hlen hbase fun v' w' h2 h3 => hK _ _ (h v' w' h2 h3)
theorem own_made3 {e : TypeId} {base : Nat} (w : World) (n : Nat) (hn : n = w.heap.size) (hb : base ≤ n) : (w.alloc (.cells #[] e)).ownsRow base e 3 (.slice (some ⟨n, 0, none⟩) 0 0) 0 [] := by
  subst hn
  exact World.ownsRow_made w #[] 0 hb (by decide) rfl
/-- What fires: from d on, each per, at the time T. -/
def firedL (d : Int) (per : Nat) (T : Int) (c : Nat) : List Q3 := (List.range c).map fun i : Nat => ⟨1, d + (i : Int) * (per : Int), T - (d + (i : Int) * (per : Int))⟩
theorem firedL_len (d : Int) (per : Nat) (T : Int) (c : Nat) : (firedL d per T c).length = c := by simp [firedL]
theorem firedL_succ (d : Int) (per : Nat) (T : Int) (c : Nat) : firedL d per T (c + 1) = firedL d per T c ++ [⟨1, d + (c : Int) * (per : Int), T - (d + (c : Int) * (per : Int))⟩] := by
  unfold firedL
  rw [List.range_succ, List.map_append]
  rfl
theorem firedL_at {d : Int} {per : Nat} {T : Int} {c i : Nat} (h : i < c) : (firedL d per T c)[i]? = some ⟨1, d + (i : Int) * (per : Int), T - (d + (i : Int) * (per : Int))⟩ := by
  unfold firedL
  rw [List.getElem?_map, List.getElem?_range h]
  rfl
end Go.Proofs.YtakkfgkogomjbaaDoor
