/-
  Appending records of ten cells (tasks).
-/
import Derived.Test.YtfneloplbkjbhaaNQ
namespace Go.Proofs.Ytfneloplbkjbhaa
open Go.RowKit
set_option linter.unusedVariables false
theorem cellsT_length (ts : List Tk) : (ts.flatMap Tk.cells).length = ts.length * 10 := by
  induction ts with
  | nil => rfl
  | cons t r ih => rw [List.flatMap_cons, List.length_append, ih, List.length_cons]; simp [Tk.cells]; omega
theorem cellsT_at : ∀ (ts : List Tk) (k o : Nat) (x : Tk), ts[k]? = some x → o < 10 → (ts.flatMap Tk.cells)[k * 10 + o]? = x.cells[o]?
  | [], k, o, x, h, ho => by simp at h
  | t :: r, 0, o, x, h, ho => by
    simp at h
    subst h
    rw [List.flatMap_cons, List.getElem?_append_left (by simp [Tk.cells]; omega)]
    simp
  | t :: r, k + 1, o, x, h, ho => by
    rw [List.flatMap_cons, List.getElem?_append_right (by simp [Tk.cells]; omega)]
    have := cellsT_at r k o x (by simpa using h) ho
    rw [← this]
    congr 1
    simp [Tk.cells]
    omega
theorem tk_onecell (ts : List Tk) : ∀ u ∈ ts.flatMap Tk.cells, u.oneCell' = true := by
  intro u hu
  obtain ⟨x, hx, hu⟩ := List.mem_flatMap.1 hu
  simp only [Tk.cells, List.mem_cons, List.not_mem_nil, or_false] at hu
  rcases hu with rfl | rfl | rfl | rfl | rfl | rfl | rfl | rfl | rfl | rfl <;> rfl
theorem rt_cells {w : World} {B b off : Nat} {ts : List Tk} (h : RT w B (some ⟨b, off, none⟩) ts) : ∀ (j : Nat) (u : Value), (ts.flatMap Tk.cells)[j]? = some u → w.cell? ((⟨b, off, none⟩ : Addr).add j) = some u := by
  intro j u hu
  have hj : j < ts.length * 10 := by
    have := (List.getElem?_eq_some_iff.1 hu).1
    rwa [cellsT_length] at this
  obtain ⟨b', off', e, hb, hc⟩ := h (by omega)
  cases e
  obtain ⟨x, hx⟩ : ∃ x, ts[j / 10]? = some x := ⟨_, List.getElem?_eq_getElem (by omega)⟩
  have hs := cellsT_at ts (j / 10) (j % 10) x hx (by omega)
  rw [show j / 10 * 10 + j % 10 = j from by omega, hu] at hs
  have ha : (⟨b, off, none⟩ : Addr).add j = ⟨b, off + j, none⟩ := by unfold Addr.add; split <;> simp_all
  rw [ha]
  have h2 := hc (j / 10) x (j % 10) u hx (by rw [hs]; simp [Tk.cells])
  rwa [show off + j / 10 * 10 + j % 10 = off + j from by omega] at h2
theorem wp_appT {P : Program} {w : World} {o : Oper} {a : Act} {K : Act → World → Prop} {Q : Exit → Act → World → Prop} (s x : Operand) (t : TypeId)
    (ho : o.op = .call { callee := .builtin .append, args := #[s, x], argTypes := #[t, t] })
    (base : Nat) (e : TypeId) (i : TypeInfo) (z : Value) (bytes : Nat) (ht : P.underlying t = some (.slice e)) (hi : P.info? e = some i) (hz : i.zero = some z)
    (hsize : i.size = 10) (hby : i.bytes = bytes) (hzs : z.cells.size = 10)
    (v : Value) (n : Nat) (ys : List Value) (hs : a.eval s = v) (hown : w.ownsRow base e 10 v n ys)
    (A : Option Addr) (xs : List Tk) (c B : Nat) (hx : a.eval x = .slice A xs.length c) (hR : RT w B A xs) (hn : A = none → c = 0) (hmax : n + xs.length ≤ maxLen) (hlen : (n + xs.length) * bytes ≤ 140737488355328) (hbase : base ≤ w.heap.size)
    (h : ∀ v' w', w'.ownsRow base e 10 v' (n + xs.length) (ys ++ xs.flatMap Tk.cells) → w.grownBy w' v.ownBlock → K (a.put o.dst v') w') : o.wp P a w K Q := by
  cases A with
  | none =>
    have h0 : xs.length = 0 := by
      rcases Nat.eq_zero_or_pos xs.length with h0 | h0
      · exact h0
      · obtain ⟨_, _, e, _⟩ := hR h0; cases e
    have : xs = [] := List.eq_nil_of_length_eq_zero h0
    subst this
    have hrun := run_append_owned_none (P := P) (w := w) base t o.type e i 10 ht hi v n _ hown
    have hx' : a.eval x = .slice none 0 0 := by rw [hx, hn rfl]; rfl
    unfold Oper.wp
    simp only [execOp, ho, resolve, invoke, builtin, Sem.run_bind, Sem.run_pure, Result.andThen_ok, List.map_toArray, List.map_cons, List.map_nil, hs, hx', hrun]
    exact h v w (by simpa using hown) ⟨rfl, rfl, rfl, Nat.le_refl _, fun _ _ _ => rfl⟩
  | some ad =>
    refine wp_append_own w s x t ho base e i z 10 bytes ht hi hz hsize hby hzs (by omega) v n ys hs hown ad xs.length c (xs.flatMap Tk.cells) hx (cellsT_length xs) ?_ (tk_onecell xs) hmax hlen hbase ?_
    · intro j u hu
      have hj : j < xs.length * 10 := by
        have := (List.getElem?_eq_some_iff.1 hu).1
        rwa [cellsT_length] at this
      obtain ⟨b', off', e', hb, hc⟩ := hR (by omega)
      cases e'
      exact rt_cells hR j u hu
    · intro v' w' hw hg _
      exact h v' w' hw hg
theorem step_wp {P : Program} {w : World} {ops : Array Oper} {o : Oper} {a : Act} {K : Act → World → Prop} {Q : Exit → Act → World → Prop} {E : Prop} (hg : o.guard = none) (h : o.wp P a w K Q) :
    if Region.wanted o (yielded ops a.tmps) = true then Oper.wp P o a w K Q else E := by
  rw [if_pos (by simp [Region.wanted, hg])]
  exact h
theorem wpList_appT {P : Program} {w : World} {ops : Array Oper} {rest : List Oper} {o : Oper} {a : Act} {Q : Exit → Act → World → Prop} (hgd : o.guard = none) (s x : Operand) (t : TypeId)
    (ho : o.op = .call { callee := .builtin .append, args := #[s, x], argTypes := #[t, t] })
    (base : Nat) (e : TypeId) (i : TypeInfo) (z : Value) (bytes : Nat) (ht : P.underlying t = some (.slice e)) (hi : P.info? e = some i) (hz : i.zero = some z)
    (hsize : i.size = 10) (hby : i.bytes = bytes) (hzs : z.cells.size = 10)
    (v : Value) (n : Nat) (ys : List Value) (hs : a.eval s = v) (hown : w.ownsRow base e 10 v n ys)
    (A : Option Addr) (xs : List Tk) (c B : Nat) (hx : a.eval x = .slice A xs.length c) (hR : RT w B A xs) (hn : A = none → c = 0) (hmax : n + xs.length ≤ maxLen) (hlen : (n + xs.length) * bytes ≤ 140737488355328) (hbase : base ≤ w.heap.size)
    (h : ∀ v' w', w'.ownsRow base e 10 v' (n + xs.length) (ys ++ xs.flatMap Tk.cells) → w.grownBy w' v.ownBlock → wpList P ops Q rest (a.put o.dst v') w') : wpList P ops Q (o :: rest) a w :=
  wpList_plain hgd fun _ hK => wp_appT s x t ho base e i z bytes ht hi hz hsize hby hzs v n ys hs hown A xs c B hx hR hn hmax hlen hbase fun v' w' h2 h3 => hK _ _ (h v' w' h2 h3)
theorem own_made10 {e : TypeId} {base : Nat} (w : World) (n : Nat) (hn : n = w.heap.size) (hb : base ≤ n) : (w.alloc (.cells #[] e)).ownsRow base e 10 (.slice (some ⟨n, 0, none⟩) 0 0) 0 [] := by
  subst hn
  exact World.ownsRow_made w #[] 0 hb (by decide) rfl
theorem RT.of_cells {w : World} {g off : Nat} {ts : List Tk} (hlt : g < w.heap.size) (h : ∀ (j : Nat) (u : Value), (ts.flatMap Tk.cells)[j]? = some u → w.cell? ⟨g, off + j, none⟩ = some u) : RT w w.heap.size (some ⟨g, off, none⟩) ts := fun h0 =>
  ⟨g, off, rfl, hlt, fun j x o u hj ho => by
    have ho' : o < 10 := by
      have := (Array.getElem?_eq_some_iff.1 ho).1
      simpa using this
    have := h (j * 10 + o) u (by rw [cellsT_at ts j o x hj ho']; simpa [Tk.cells] using ho)
    rwa [show off + (j * 10 + o) = off + j * 10 + o from by omega] at this⟩
theorem RT.of_own {w : World} {base : Nat} {e : TypeId} {v : Value} {n : Nat} {ts : List Tk} (h : w.ownsRow base e 10 v n (ts.flatMap Tk.cells)) : ∃ A c, v = .slice A ts.length c ∧ RT w w.heap.size A ts ∧ (A = none → c = 0) := by
  have hl := h.1
  rw [cellsT_length] at hl
  have hn : n = ts.length := by omega
  subst hn
  have h2 := h.2
  obtain ⟨A, c, rfl⟩ := own_slice h
  refine ⟨A, c, rfl, fun h0 => ?_, fun hA => ?_⟩
  · obtain ⟨g, cap, hv, _, hlt⟩ := h.form (by omega)
    have hA : A = some ⟨g, 0, none⟩ := by injection hv
    subst hA
    exact RT.of_cells hlt (fun i v hi => by
      have := h.cells (g := g) rfl i v hi
      rwa [add_at] at this) h0
  · subst hA
    rcases h2 with e | ⟨g, cap', cur, e1, _⟩
    · injection e.1
    · injection e1 with e1; cases e1
end Go.Proofs.Ytfneloplbkjbhaa
