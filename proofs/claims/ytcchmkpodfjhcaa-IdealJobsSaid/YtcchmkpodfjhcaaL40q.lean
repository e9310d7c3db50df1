/-
  Appending a slice of pieces, nil or not, to an own one; a slice's size from the form; more pieces: the plain law.
-/
import Derived.Test.YtcchmkpodfjhcaaL40
import Derived.Laws.AppendOwnNone
import Derived.SizedLaws
namespace Go.Proofs.Ytcchmkpodfjhcaa
open Go.RowKit
set_option linter.unusedVariables false
theorem q3_onecell (xs : List Q3) : ∀ u ∈ xs.flatMap Q3.cells, u.oneCell' = true := by
  intro u hu
  obtain ⟨x, hx, hu⟩ := List.mem_flatMap.1 hu
  simp only [Q3.cells, List.mem_cons, List.not_mem_nil, or_false] at hu
  rcases hu with rfl | rfl | rfl <;> rfl
theorem r3_cells {w : World} {B b off : Nat} {xs : List Q3} (h : R3 w B (some ⟨b, off, none⟩) xs) : ∀ (j : Nat) (u : Value), (xs.flatMap Q3.cells)[j]? = some u → w.cell? ((⟨b, off, none⟩ : Addr).add j) = some u := by
  intro j u hu
  have hj : j < xs.length * 3 := by
    have := (List.getElem?_eq_some_iff.1 hu).1
    rwa [cells3_length] at this
  obtain ⟨b', off', e, hb, hc⟩ := h (by omega)
  cases e
  obtain ⟨x, hx⟩ := some3_at (xs := xs) (k := j / 3) (by omega)
  obtain ⟨c1, c2, c3⟩ := hc _ x hx
  have hs := cells3_at xs (j / 3) (j % 3) x hx (by omega)
  rw [show j / 3 * 3 + j % 3 = j from by omega, hu] at hs
  have ha : (⟨b, off, none⟩ : Addr).add j = ⟨b, off + j, none⟩ := by unfold Addr.add; split <;> simp_all
  rw [ha]
  have h3 : j % 3 = 0 ∨ j % 3 = 1 ∨ j % 3 = 2 := by omega
  rcases h3 with h3 | h3 | h3 <;> rw [h3] at hs <;> simp only [Q3.cells, List.getElem?_cons_zero, List.getElem?_cons_succ, Option.some.injEq] at hs <;> subst hs
  · rw [show off + j = off + j / 3 * 3 from by omega]; exact c1
  · rw [show off + j = off + j / 3 * 3 + 1 from by omega]; exact c2
  · rw [show off + j = off + j / 3 * 3 + 2 from by omega]; exact c3
theorem wp_app3 {P : Program} {w : World} {o : Oper} {a : Act} {K : Act → World → Prop} {Q : Exit → Act → World → Prop} (s x : Operand) (t : TypeId)
    (ho : o.op = .call { callee := .builtin .append, args := #[s, x], argTypes := #[t, t] })
    (base : Nat) (e : TypeId) (i : TypeInfo) (z : Value) (bytes : Nat) (ht : P.underlying t = some (.slice e)) (hi : P.info? e = some i) (hz : i.zero = some z)
    (hsize : i.size = 3) (hby : i.bytes = bytes) (hzs : z.cells.size = 3)
    (v : Value) (n : Nat) (ys : List Value) (hs : a.eval s = v) (hown : w.ownsRow base e 3 v n ys)
    (A : Option Addr) (xs : List Q3) (c B : Nat) (hx : a.eval x = .slice A xs.length c) (hR : R3 w B A xs) (hn : A = none → c = 0) (hmax : n + xs.length ≤ maxLen) (hlen : (n + xs.length) * bytes ≤ 140737488355328) (hbase : base ≤ w.heap.size)
    (h : ∀ v' w', w'.ownsRow base e 3 v' (n + xs.length) (ys ++ xs.flatMap Q3.cells) → w.grownBy w' v.ownBlock → K (a.put o.dst v') w') : o.wp P a w K Q := by
  cases A with
  | none =>
    have h0 : xs.length = 0 := by
      rcases Nat.eq_zero_or_pos xs.length with h0 | h0
      · exact h0
      · obtain ⟨_, _, e, _⟩ := hR h0; cases e
    have : xs = [] := List.eq_nil_of_length_eq_zero h0
    subst this
    have hrun := run_append_owned_none (P := P) (w := w) base t o.type e i 3 ht hi v n _ hown
    have hx' : a.eval x = .slice none 0 0 := by rw [hx, hn rfl]; rfl
    unfold Oper.wp
    simp only [execOp, ho, resolve, invoke, builtin, Sem.run_bind, Sem.run_pure, Result.andThen_ok, List.map_toArray, List.map_cons, List.map_nil, hs, hx', hrun]
    exact h v w (by simpa using hown) ⟨rfl, rfl, rfl, Nat.le_refl _, fun _ _ _ => rfl⟩
  | some ad =>
    obtain ⟨b, off, ic⟩ := ad
    refine wp_append_own w s x t ho base e i z 3 bytes ht hi hz hsize hby hzs (by omega) v n _ hs hown ⟨b, off, ic⟩ xs.length c (xs.flatMap Q3.cells) hx (cells3_length xs) ?_ (q3_onecell xs) hmax hlen hbase ?_
    · intro j u hu
      have hj : j < xs.length * 3 := by
        have := (List.getElem?_eq_some_iff.1 hu).1
        rwa [cells3_length] at this
      obtain ⟨b', off', e', hb, hc⟩ := hR (by omega)
      cases e'
      exact r3_cells hR j u hu
    · intro v' w' hw hg _
      exact h v' w' hw hg
theorem step_wp {P : Program} {w : World} {ops : Array Oper} {o : Oper} {a : Act} {K : Act → World → Prop} {Q : Exit → Act → World → Prop} {E : Prop} (hg : o.guard = none) (h : o.wp P a w K Q) :
    if Region.wanted o (yielded ops a.tmps) = true then Oper.wp P o a w K Q else E := by
  rw [if_pos (by simp [Region.wanted, hg])]
  exact h
theorem wpList_app3 {P : Program} {w : World} {ops : Array Oper} {rest : List Oper} {o : Oper} {a : Act} {Q : Exit → Act → World → Prop} (hgd : o.guard = none) (s x : Operand) (t : TypeId)
    (ho : o.op = .call { callee := .builtin .append, args := #[s, x], argTypes := #[t, t] })
    (base : Nat) (e : TypeId) (i : TypeInfo) (z : Value) (bytes : Nat) (ht : P.underlying t = some (.slice e)) (hi : P.info? e = some i) (hz : i.zero = some z)
    (hsize : i.size = 3) (hby : i.bytes = bytes) (hzs : z.cells.size = 3)
    (v : Value) (n : Nat) (ys : List Value) (hs : a.eval s = v) (hown : w.ownsRow base e 3 v n ys)
    (A : Option Addr) (xs : List Q3) (c B : Nat) (hx : a.eval x = .slice A xs.length c) (hR : R3 w B A xs) (hn : A = none → c = 0) (hmax : n + xs.length ≤ maxLen) (hlen : (n + xs.length) * bytes ≤ 140737488355328) (hbase : base ≤ w.heap.size)
    (h : ∀ v' w', w'.ownsRow base e 3 v' (n + xs.length) (ys ++ xs.flatMap Q3.cells) → w.grownBy w' v.ownBlock → wpList P ops Q rest (a.put o.dst v') w') : wpList P ops Q (o :: rest) a w :=
  wpList_plain hgd fun _ hK => wp_app3 s x t ho base e i z bytes ht hi hz hsize hby hzs v n ys hs hown A xs c B hx hR hn hmax hlen hbase fun v' w' h2 h3 => hK _ _ (h v' w' h2 h3)
theorem own_made3 {e : TypeId} {base : Nat} (w : World) (n : Nat) (hn : n = w.heap.size) (hb : base ≤ n) : (w.alloc (.cells #[] e)).ownsRow base e 3 (.slice (some ⟨n, 0, none⟩) 0 0) 0 [] := by
  subst hn
  exact World.ownsRow_made w #[] 0 hb (by decide) rfl
theorem q3_set : ∀ (l : List Q3) (j : Nat) (x : Q3) (v : Int), l[j]? = some x → (l.flatMap Q3.cells).set (j * 3 + 2) (.int .i64 v) = (l.set j ⟨x.a, x.b, v⟩).flatMap Q3.cells
  | [], j, x, _, h => by simp at h
  | z :: r, 0, x, v, h => by
    simp only [List.getElem?_cons_zero, Option.some.injEq] at h
    subst h
    rw [List.set_cons_zero, List.flatMap_cons, List.flatMap_cons, Nat.zero_mul, Nat.zero_add, List.set_append_left _ _ (by simp [Q3.cells])]
    rfl
  | z :: r, j + 1, x, v, h => by
    have := q3_set r j x v (by simpa using h)
    rw [List.set_cons_succ, List.flatMap_cons, List.flatMap_cons, ← this, List.set_append_right _ _ (by simp [Q3.cells]; omega)]
    congr 2
    simp [Q3.cells]; omega
section
variable {H : Type} {enc : TypeId × Value → H} {P : Program} {w : World} {base : Nat} {spare : Nat → Bool} {held : Bool}
/-- A nil slice has no capacity. -/
theorem open_nilcap {t e : TypeId} {A : Option Addr} {n c : Nat} {d : DataW H} {p : List MemPlace} (ht : P.underlying t = some (.slice e))
    (h : DataW.Trod enc P w base spare held t (.slice A n c) d p) : A = none → c = 0 := by
  obtain ⟨fuel, hf⟩ := h
  have hf' : DataW.trod enc P w base spare held fuel t [.slice A n c] = some (d, p) := hf
  rcases Go.Deep.open_slice ht hf' with ⟨h1, _⟩ | ⟨a, len, cap, m, n', D, Pl, h1, _⟩
  · simp only [List.cons.injEq, and_true, Value.slice.injEq] at h1
    exact fun _ => h1.2.2
  · simp only [List.cons.injEq, and_true, Value.slice.injEq] at h1
    intro e; rw [e] at h1; cases h1.1
/-- A slice's bytes are within the reach of the form. -/
theorem open_small {t e : TypeId} {A : Option Addr} {n c k : Nat} {d : DataW H} {p : List MemPlace} (ht : P.underlying t = some (.slice e)) (hb : P.bytesOf e = k)
    (h : DataW.Trod enc P w base spare held t (.slice A n c) d p) {ts : List TypeId} {ds : List (DataW H)} (hsz : (DataW.weightsEach P ts ds).all (· ≤ reachBytes) = true) (j : Nat) (htj : ts[j]? = some t) (hdj : ds[j]? = some d) : n * k ≤ 140737488351232 := by
  obtain ⟨fuel, hf⟩ := h
  have hf' : DataW.trod enc P w base spare held fuel t [.slice A n c] = some (d, p) := hf
  rcases Go.Deep.open_slice ht hf' with ⟨h1, _⟩ | ⟨a, len, cap, m, n', D, Pl, h1, _, _, _, _, hx, _⟩
  · simp only [List.cons.injEq, and_true, Value.slice.injEq] at h1
    rw [h1.2.1]; omega
  · simp only [List.cons.injEq, and_true, Value.slice.injEq] at h1
    simp only [Prod.mk.injEq] at hx
    rw [hx.1] at hdj
    have := sized_slice hsz htj hdj ht
    rw [hb] at this
    simp only [List.length_map, List.length_range, reachBytes, Nat.add_mul] at this
    rw [h1.2.1]
    omega
end
/-- With more pieces, or pieces that take longer, none is done sooner. -/
theorem more {xs ys : List Q3} (hx : whyE xs = 0) (hy : whyE ys = 0) (hl : xs.length ≤ ys.length) (h : ∀ (k : Nat) (q : Q3), xs[k]? = some q → ∃ r, ys[k]? = some r ∧ r.a = q.a ∧ r.b = q.b ∧ q.c ≤ r.c) {k : Nat} (hk : k < xs.length) : (sE xs).done k ≤ (sE ys).done k := by
  have hRx : Rt xs := Rt.of (whyE_ok.1 hx).1
  have hRy : Rt ys := Rt.of (whyE_ok.1 hy).1
  have hS : Sub (pcs xs) (pcs ys) (fun a => a) := by
    have key : ∀ a, a < xs.length → (pcs xs).P a = (pcs ys).P a ∧ (pcs xs).A a = (pcs ys).A a ∧ (pcs xs).C a ≤ (pcs ys).C a := fun a ha => by
      obtain ⟨q, hq⟩ := some3_at ha
      obtain ⟨r, hr, e1, e2, e3⟩ := h a q hq
      unfold pcs
      dsimp only
      rw [hq, hr]
      simp only [Option.getD_some]
      refine ⟨by rw [e1], by rw [e2], by omega⟩
    exact ⟨fun a b _ _ hab => hab, fun a ha => Nat.lt_of_lt_of_le ha hl, fun a ha => (key a ha).1, fun a ha => (key a ha).2.1, fun a ha => (key a ha).2.2⟩
  exact hS.fin hk (hRx.ended.fin k hk) (hRy.ended.fin k (Nat.lt_of_lt_of_le hk hl))
end Go.Proofs.Ytcchmkpodfjhcaa
