/-
  Appending a slice of records of four integers, nil or not, to an own one.
-/
import Derived.Test.YtfneloplbkjbhaaDoorGD
import Derived.Test.YtfneloplbkjbhaaDoorDemQ
import Derived.Laws.AppendOwnNone
import Derived.SizedLaws
namespace Go.Proofs.YtfneloplbkjbhaaDoor
open Go.RowKit
set_option linter.unusedVariables false

theorem q4_onecell (xs : List Q4) : ∀ u ∈ xs.flatMap Q4.cells, u.oneCell' = true := by
  intro u hu
  obtain ⟨x, hx, hu⟩ := List.mem_flatMap.1 hu
  simp only [Q4.cells, List.mem_cons, List.not_mem_nil, or_false] at hu
  rcases hu with rfl | rfl | rfl | rfl <;> rfl
theorem r4_cells {w : World} {B b off : Nat} {xs : List Q4} (h : R4 w B (some ⟨b, off, none⟩) xs) : ∀ (j : Nat) (u : Value), (xs.flatMap Q4.cells)[j]? = some u → w.cell? ((⟨b, off, none⟩ : Addr).add j) = some u := by
  intro j u hu
  have hj : j < xs.length * 4 := by
    have := (List.getElem?_eq_some_iff.1 hu).1
    rwa [cells4_length] at this
  obtain ⟨b', off', e, hb, hc⟩ := h (by omega)
  cases e
  obtain ⟨x, hx⟩ := some_at (xs := xs) (k := j / 4) (by omega)
  obtain ⟨c1, c2, c3, c4⟩ := hc _ x hx
  have hs := cells4_at xs (j / 4) (j % 4) x hx (by omega)
  rw [show j / 4 * 4 + j % 4 = j from by omega, hu] at hs
  have ha : (⟨b, off, none⟩ : Addr).add j = ⟨b, off + j, none⟩ := by unfold Addr.add; split <;> simp_all
  rw [ha]
  have h4 : j % 4 = 0 ∨ j % 4 = 1 ∨ j % 4 = 2 ∨ j % 4 = 3 := by omega
  rcases h4 with h4 | h4 | h4 | h4 <;> rw [h4] at hs <;> simp only [Q4.cells, List.getElem?_cons_zero, List.getElem?_cons_succ, Option.some.injEq] at hs <;> subst hs
  · rw [show off + j = off + j / 4 * 4 from by omega]; exact c1
  · rw [show off + j = off + j / 4 * 4 + 1 from by omega]; exact c2
  · rw [show off + j = off + j / 4 * 4 + 2 from by omega]; exact c3
  · rw [show off + j = off + j / 4 * 4 + 3 from by omega]; exact c4
/-- The append of a slice of records. -/
theorem wpList_app4 {P : Program} {w : World} {ops : Array Oper} {rest : List Oper} {o : Oper} {a : Act} {Q : Exit → Act → World → Prop} (hgd : o.guard = none) (s x : Operand) (t : TypeId)
    (ho : o.op = .call { callee := .builtin .append, args := #[s, x], argTypes := #[t, t] })
    (base : Nat) (e : TypeId) (i : TypeInfo) (z : Value) (bytes : Nat) (ht : P.underlying t = some (.slice e)) (hi : P.info? e = some i) (hz : i.zero = some z)
    (hsize : i.size = 4) (hby : i.bytes = bytes) (hzs : z.cells.size = 4) (hbb : bytes ≤ 65536)
    (v : Value) (n : Nat) (ys : List Value) (hs : a.eval s = v) (hown : w.ownsRow base e 4 v n ys)
    (A : Option Addr) (xs : List Q4) (c B : Nat) (hx : a.eval x = .slice A xs.length c) (hR : R4 w B A xs) (hn : A = none → c = 0) (hlen : n + xs.length ≤ 2147483648) (hbase : base ≤ w.heap.size)
    (h : ∀ v' w', w'.ownsRow base e 4 v' (n + xs.length) (ys ++ xs.flatMap Q4.cells) → Below base w w' → wpList P ops Q rest (a.put o.dst v') w') : wpList P ops Q (o :: rest) a w := by
  cases A with
  | none =>
    have h0 : xs.length = 0 := by
      rcases Nat.eq_zero_or_pos xs.length with h0 | h0
      · exact h0
      · obtain ⟨_, _, e, _⟩ := hR h0; cases e
    have : xs = [] := List.eq_nil_of_length_eq_zero h0
    subst this
    refine wpList_append_own_none hgd s x t ho base e i 4 ht hi v n ys hs hown (by rw [hx, hn rfl]; rfl) ?_
    exact h v w (by simpa using hown) (Below.refl _ _)
  | some ad =>
    obtain ⟨b, off, ic⟩ := ad
    refine wpList_append_own w hgd s x t ho base e i z 4 bytes ht hi hz hsize hby hzs (by omega) v n ys hs hown ⟨b, off, ic⟩ xs.length c (xs.flatMap Q4.cells) hx (cells4_length xs) ?_ (q4_onecell xs) (by simp only [maxLen]; omega) ?_ hbase ?_
    · intro j u hu
      have hj : j < xs.length * 4 := by
        have := (List.getElem?_eq_some_iff.1 hu).1
        rwa [cells4_length] at this
      obtain ⟨b', off', e', hb, hc⟩ := hR (by omega)
      cases e'
      exact r4_cells hR j u hu
    · calc (n + xs.length) * bytes ≤ 2147483648 * 65536 := Nat.mul_le_mul hlen hbb
        _ ≤ 140737488355328 := by omega
    · intro v' w' hw hg _
      exact h v' w' hw ((Below.refl _ _).grown hg hbase fun k hk => (hown.lt k hk).1)

theorem ownR4 {w : World} {base : Nat} {e : TypeId} {v : Value} {n : Nat} {xs : List Q4} (h : w.ownsRow base e 4 v n (xs.flatMap Q4.cells)) : ∃ A c, v = .slice A xs.length c ∧ R4 w w.heap.size A xs := by
  obtain ⟨A, c, rfl⟩ := own_slice h
  obtain ⟨e, hr⟩ := R4.of_own h
  subst e
  exact ⟨A, c, rfl, hr⟩

section
variable {H : Type} {enc : TypeId × Value → H} {P : Program} {w : World} {base : Nat} {spare : Nat → Bool} {held : Bool}
/-- A nil slice has no capacity. -/
theorem open_nilcap {t e : TypeId} {A : Option Addr} {n c : Nat} {d : DataW H} {p : List MemPlace} (ht : P.underlying t = some (.slice e))
    (h : DataW.Trod enc P w base spare held t (.slice A n c) d p) : A = none → c = 0 := by
  obtain ⟨fuel, hf⟩ := h
  have hf' : DataW.trod enc P w base spare held fuel t [.slice A n c] = some (d, p) := hf
  rcases Go.Deep.open_slice ht hf' with ⟨h1, _⟩ | ⟨a, len, cap, m, n', D, Pl, h1, _⟩
  · simp only [List.cons.injEq, and_true, Value.slice.injEq] at h1
    exact fun _ => h1.2.2
  · simp only [List.cons.injEq, and_true, Value.slice.injEq] at h1
    intro e; rw [e] at h1; cases h1.1
/-- A slice's bytes are within the reach of the form. -/
theorem open_small {t e : TypeId} {A : Option Addr} {n c k : Nat} {d : DataW H} {p : List MemPlace} (ht : P.underlying t = some (.slice e)) (hb : P.bytesOf e = k)
    (h : DataW.Trod enc P w base spare held t (.slice A n c) d p) {ts : List TypeId} {ds : List (DataW H)} (hsz : (DataW.weightsEach P ts ds).all (· ≤ reachBytes) = true) (j : Nat) (htj : ts[j]? = some t) (hdj : ds[j]? = some d) : n * k ≤ 140737488351232 := by
  obtain ⟨fuel, hf⟩ := h
  have hf' : DataW.trod enc P w base spare held fuel t [.slice A n c] = some (d, p) := hf
  rcases Go.Deep.open_slice ht hf' with ⟨h1, _⟩ | ⟨a, len, cap, m, n', D, Pl, h1, _, _, _, _, hx, _⟩
  · simp only [List.cons.injEq, and_true, Value.slice.injEq] at h1
    rw [h1.2.1]; omega
  · simp only [List.cons.injEq, and_true, Value.slice.injEq] at h1
    simp only [Prod.mk.injEq] at hx
    rw [hx.1] at hdj
    have := sized_slice hsz htj hdj ht
    rw [hb] at this
    simp only [List.length_map, List.length_range, reachBytes, Nat.add_mul] at this
    rw [h1.2.1]
    omega
end

/-! ### the plain law -/
theorem lds_app {l m : List Q4} (h : l.length + m.length ≤ 256) : ldsE (l ++ m) = 0 ↔ ldsE l = 0 ∧ ldsE m = 0 := by
  unfold ldsE
  simp only [List.length_append, List.all_append, Bool.and_eq_false_iff]
  constructor
  · intro h1
    split at h1
    · omega
    · rename_i h2
      have h3 : ¬ (l.all ldB = false ∨ m.all ldB = false) := fun h => h2 (.inr h)
      constructor
      · rw [if_neg]; exact fun h => h.elim (by omega) (fun h => h3 (.inl h))
      · rw [if_neg]; exact fun h => h.elim (by omega) (fun h => h3 (.inr h))
  · rintro ⟨h1, h2⟩
    split at h1
    · omega
    · split at h2
      · omega
      · rw [if_neg]
        rintro (h | h | h)
        · omega
        · exact ‹¬ (256 < l.length ∨ l.all ldB = false)› (.inr h)
        · exact ‹¬ (256 < m.length ∨ m.all ldB = false)› (.inr h)
theorem alV_bd (xs : List Q4) (w : Int) : 0 ≤ alV xs w ∧ alV xs w ≤ 4503599627370496 := by
  unfold alV
  split
  · omega
  · rename_i h
    unfold alE at h
    split at h
    · omega
    · split at h
      · omega
      · split at h
        · omega
        · rename_i h1 h2 h3
          cases hs : sumP (xs.map (arrOf w)) with
          | none => simp [hs] at h3
          | some s =>
            have := sumP_bd (arr_nonneg (by omega) w) hs
            simpa using this
theorem al2 {xs : List Q4} (h : ldsE xs ≠ 0) (w : Int) : alE xs w = 2 := by unfold alE; rw [if_pos h]
theorem more_law {l m : List Q4} {w v : Int} (hlen : l.length + m.length ≤ 256) (w0 : 0 ≤ w) (w1 : w ≤ 2251799813685248) (v0 : 0 ≤ v) (v1 : v ≤ 2251799813685248) :
    ((alE l w = 2 ∨ alE l w ≠ 2 ∧ alE m w = 2) ∧ alE (l ++ m) w = 2) ∨
    ((alE l w = 0 ∧ alE m w = 0 ∧ alE (l ++ m) w = 0 ∧ alV (l ++ m) w = alV l w + alV m w ∨
      alE l w = 10 ∧ (alE m w = 0 ∨ alE m w = 10) ∧ alE (l ++ m) w = 10 ∨ alE l w = 0 ∧ alE m w = 10 ∧ alE (l ++ m) w = 10 ∨
      alE l w = 0 ∧ alE m w = 0 ∧ alE (l ++ m) w = 10 ∧ 4503599627370496 < alV l w + alV m w) ∧
     (alE l (w + v) = 10 ∨ alE l (w + v) = 0 ∧ alE l w = 0 ∧ alV l w ≤ alV l (w + v))) := by
  by_cases hl : ldsE l = 0
  · by_cases hm : ldsE m = 0
    · right
      have hb := (lds_app hlen).2 ⟨hl, hm⟩
      have q0 : ∀ y ∈ l.map (arrOf w), 0 ≤ y.1 ∧ 0 ≤ y.2 := arr_nonneg hl w
      have q1 : ∀ y ∈ m.map (arrOf w), 0 ≤ y.1 ∧ 0 ≤ y.2 := arr_nonneg hm w
      have happ : sumP ((l ++ m).map (arrOf w)) = (m.map (arrOf w)).foldl addP (sumP (l.map (arrOf w))) := by unfold sumP; rw [List.map_append, List.foldl_append]
      refine ⟨?_, ?_⟩
      · cases hs : sumP (l.map (arrOf w)) with
        | none =>
          rw [hs, foldP_none] at happ
          refine .inr (.inl ⟨(al_over hl w0 (by omega) hs).1, ?_, (al_over hb w0 (by omega) happ).1⟩)
          cases hs2 : sumP (m.map (arrOf w)) with
          | none => exact .inr (al_over hm w0 (by omega) hs2).1
          | some s => exact .inl (al_sum hm w0 (by omega) hs2).1
        | some s =>
          have hsb := sumP_bd q0 hs
          rw [hs] at happ
          obtain ⟨f1, f2⟩ := fold_shift (m.map (arrOf w)) s q1 hsb.1 hsb.2
          obtain ⟨a1, a2⟩ := al_sum hl w0 (by omega) hs
          cases hs2 : sumP (m.map (arrOf w)) with
          | none =>
            have : sumP ((l ++ m).map (arrOf w)) = none := by
              cases hq : (m.map (arrOf w)).foldl addP (some s) with
              | none => rw [happ, hq]
              | some t => obtain ⟨t0, e, _⟩ := f1 t hq; rw [show (m.map (arrOf w)).foldl addP (some 0) = none from hs2] at e; cases e
            exact .inr (.inr (.inl ⟨a1, (al_over hm w0 (by omega) hs2).1, (al_over hb w0 (by omega) this).1⟩))
          | some s2 =>
            obtain ⟨b1, b2⟩ := al_sum hm w0 (by omega) hs2
            by_cases hle : s + s2 ≤ 4503599627370496
            · rw [f2 s2 hs2 hle] at happ
              obtain ⟨c1, c2⟩ := al_sum hb w0 (by omega) happ
              exact .inl ⟨a1, b1, c1, by rw [c2, a2, b2]⟩
            · have : sumP ((l ++ m).map (arrOf w)) = none := by
                cases hq : (m.map (arrOf w)).foldl addP (some s) with
                | none => rw [happ, hq]
                | some t =>
                  obtain ⟨t0, e, e2⟩ := f1 t hq
                  rw [show (m.map (arrOf w)).foldl addP (some 0) = some s2 from hs2] at e
                  cases e
                  have := foldP_bd _ s t q1 hsb.1 hsb.2 hq
                  omega
              exact .inr (.inr (.inr ⟨a1, b1, (al_over hb w0 (by omega) this).1, by rw [a2, b2]; omega⟩))
      · cases hs : sumP (l.map (arrOf (w + v))) with
        | none => exact .inl (al_over hl (by omega) (by omega) hs).1
        | some t =>
          obtain ⟨t0, h0, hle⟩ := sum_mono hl w0 v0 (by omega) hs
          obtain ⟨a1, a2⟩ := al_sum hl w0 (by omega) h0
          obtain ⟨b1, b2⟩ := al_sum hl (by omega) (by omega) hs
          exact .inr ⟨b1, a1, by rw [a2, b2]; exact hle⟩
    · left
      have hb : ldsE (l ++ m) ≠ 0 := fun h => hm ((lds_app hlen).1 h).2
      refine ⟨.inr ⟨?_, al2 hm w⟩, al2 hb w⟩
      unfold alE
      rw [if_neg (by omega), if_neg (by omega)]
      split <;> omega
  · exact .inl ⟨.inl (al2 hl w), al2 (fun h => hl ((lds_app hlen).1 h).1) w⟩
end Go.Proofs.YtfneloplbkjbhaaDoor
