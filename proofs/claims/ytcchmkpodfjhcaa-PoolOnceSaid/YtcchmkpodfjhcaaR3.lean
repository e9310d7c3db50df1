/-
  The reference pool's Take, Give, Move: what a fresh pool is behind a store.
-/
import Derived.Test.YtcchmkpodfjhcaaR2
import Derived.Laws.OwnMore
namespace Go.Proofs.Ytcchmkpodfjhcaa
open Go.RowKit
set_option linter.unusedVariables false
/-- A fresh pool, where nothing is said any more of where its blocks lie to each other. -/
structure WR (W : World) (B : Nat) (vp vl : Value) (pile : List Int) (xs : List Value) (ls : List (List Int)) : Prop where
  op : W.ownsRow B 3 1 vp pile.length (pile.map (Value.int .i64))
  ol : W.ownsRow B 28 1 vl ls.length xs
  inn : ∀ (j : Nat) v l, xs[j]? = some v → ls[j]? = some l → W.ownsRow B 3 1 v l.length (l.map (Value.int .i64))
theorem WO.wr {W : World} {B : Nat} {vp vl : Value} {pile : List Int} {xs : List Value} {ls : List (List Int)} (h : WO W B vp vl pile xs ls) : WR W B vp vl pile xs ls := ⟨h.op, h.ol, h.inn⟩
theorem WR.set {W : World} {B : Nat} {vp vl : Value} {pile : List Int} {xs : List Value} {ls : List (List Int)} (h : WR W B vp vl pile xs ls) {d o : Nat} {cs : Array Value} {T : TypeId} {fr : Nat × Nat} (hd : W.heap[d]? = some (.cells cs T fr)) (h1 : T ≠ 3) (h2 : T ≠ 28) (u : Value) : WR (W.setCell ⟨d, o, none⟩ u) B vp vl pile xs ls :=
  ⟨ownsRow_setCell_other h.op (a := ⟨d, o, none⟩) (own_ne h.op hd h1) u, ownsRow_setCell_other h.ol (a := ⟨d, o, none⟩) (own_ne h.ol hd h2) u, fun j v l q1 q2 => ownsRow_setCell_other (h.inn j v l q1 q2) (a := ⟨d, o, none⟩) (own_ne (h.inn j v l q1 q2) hd h1) u⟩
theorem WR.below {W W' : World} {B : Nat} {vp vl : Value} {pile : List Int} {xs : List Value} {ls : List (List Int)} (h : WR W B vp vl pile xs ls) (hb : Below W.heap.size W W') : WR W' B vp vl pile xs ls :=
  ⟨own_below h.op hb, own_below h.ol hb, fun j v l h1 h2 => own_below (h.inn j v l h1 h2) hb⟩
theorem WR.drew {W : World} {B : Nat} {vp vl : Value} {pile : List Int} {xs : List Value} {ls : List (List Int)} (h : WR W B vp vl pile xs ls) : WR W.drew B vp vl pile xs ls := ⟨h.op, h.ol, h.inn⟩
theorem WR.rp {W : World} {B hi n : Nat} {vp vl : Value} {S : PS} {xs : List Value} (h : WR W B vp vl (natI S.pile) xs (S.lists.map natI)) (hh : hi ≤ B) : RP W hi n S (.agg #[vp, vl, .int .i64 (n : Int)]) := by
  obtain ⟨A, c, rfl⟩ := own_slice h.op
  obtain ⟨A2, c2, rfl⟩ := own_slice h.ol
  refine ⟨A, c, A2, c2, ?_, RI.of_own h.op hh, own_nil h.op, fun h0 => ?_⟩
  · unfold rC
    rw [natI_len, List.length_map]
  · have hxl : xs.length = (S.lists.map natI).length := by have := h.ol.1; omega
    obtain ⟨g, cap, hv, _, hlt⟩ := h.ol.form (by omega)
    have hA : A2 = some ⟨g, 0, none⟩ := by injection hv
    subst hA
    have hty : ∃ cs fr, W.heap[g]? = some (.cells cs 28 fr) := by
      rcases h.ol.2 with ⟨h1, _⟩ | ⟨g', cap', cur, h1, _, hg, _⟩
      · simp at h1
      · simp only [Value.slice.injEq, Option.some.injEq, Addr.mk.injEq] at h1
        rw [h1.1.1]
        exact ⟨_, _, hg⟩
    refine ⟨g, 0, rfl, ⟨Nat.le_trans hh (h.ol.lt g rfl).1, hty⟩, hlt, fun j l hl => ?_⟩
    obtain ⟨v, hv'⟩ : ∃ v, xs[j]? = some v := ⟨_, List.getElem?_eq_getElem (by rw [hxl]; exact (List.getElem?_eq_some_iff.1 hl).1)⟩
    have ho := h.inn j v l hv' hl
    obtain ⟨B2, c4, rfl⟩ := own_slice ho
    refine ⟨B2, c4, ?_, RI.of_own ho hh⟩
    have := h.ol.cells (g := g) rfl j _ hv'
    rw [show (⟨g, 0, none⟩ : Addr).add j = ⟨g, 0 + j, none⟩ from by unfold Addr.add; split <;> simp_all] at this
    exact this
/-- One of the lists is appended to, and stored. -/
theorem WO.app {W W4 : World} {B g : Nat} {vp v v' : Value} {n c : Nat} {pile l l' : List Int} {xs : List Value} {ls : List (List Int)} {k : Nat} (h : WO W B vp (.slice (some ⟨g, 0, none⟩) n c) pile xs ls) (hn : n = ls.length) (hv : xs[k]? = some v) (hl : ls[k]? = some l)
    (hown : W4.ownsRow B 3 1 v' l'.length (l'.map (Value.int .i64))) (hg : W.grownBy W4 v.ownBlock) : WR (W4.setCell ⟨g, k, none⟩ v') B vp (.slice (some ⟨g, 0, none⟩) n c) pile (xs.set k v') (ls.set k l') := by
  subst hn
  have hT : (3 : TypeId) ≠ 28 := by decide
  have hi := h.inn k v l hv hl
  have ol4 : W4.ownsRow B 28 1 (.slice (some ⟨g, 0, none⟩) ls.length c) ls.length xs := h.ol.kept hg (by
    rcases own_ne2 h.ol hi (fun e => hT e.symm) with h1 | h1
    · exact .inl h1
    · exact .inr h1)
  obtain ⟨ol5, hg5⟩ := World.ownsRow.stored ol4 k v'
  have hne : ∀ {u : Value} {q : List Int}, W4.ownsRow B 3 1 u q.length (q.map (Value.int .i64)) → u.ownBlock ≠ some g := fun ho he => by
    rcases own_ne2 ho ol4 hT with h1 | h1
    · rw [h1] at he; cases he
    · exact h1 (by rw [he]; rfl)
  have keep : ∀ (j : Nat) u q, j ≠ k → xs[j]? = some u → ls[j]? = some q → W4.ownsRow B 3 1 u q.length (q.map (Value.int .i64)) := by
    intro j u q hj hu hq
    refine (h.inn j u q hu hq).kept hg ?_
    cases hb : u.ownBlock with
    | none => exact .inl rfl
    | some gu =>
      right
      intro e
      rcases Nat.lt_or_gt_of_ne hj with hlt | hlt
      · exact absurd (h.lt j k u v gu gu hlt hu hv hb e.symm) (by omega)
      · exact absurd (h.lt k j v u gu gu hlt hv hu e.symm hb) (by omega)
  have op4 : W4.ownsRow B 3 1 vp pile.length (pile.map (Value.int .i64)) := by
    refine h.op.kept hg ?_
    cases hb : vp.ownBlock with
    | none => exact .inl rfl
    | some gu =>
      right
      intro e
      exact absurd (h.pl k v gu gu hv hb e.symm) (by omega)
  refine ⟨ownsRow_setCell_other op4 (a := ⟨g, k, none⟩) (hne op4) _, by simpa using ol5, fun j u q hu hq => ?_⟩
  by_cases hj : j = k
  · subst hj
    rw [List.getElem?_set_self (List.getElem?_eq_some_iff.1 hv).1] at hu
    rw [List.getElem?_set_self (List.getElem?_eq_some_iff.1 hl).1] at hq
    cases hu
    cases hq
    exact ownsRow_setCell_other hown (a := ⟨g, j, none⟩) (hne hown) _
  · rw [List.getElem?_set_ne (fun e => hj e.symm)] at hu hq
    have := keep j u q hj hu hq
    exact ownsRow_setCell_other this (a := ⟨g, k, none⟩) (hne this) _
/-- The pile is appended to. -/
theorem WO.pileApp {W W4 : World} {B : Nat} {vp vp' vl : Value} {pile pile' : List Int} {xs : List Value} {ls : List (List Int)} (h : WO W B vp vl pile xs ls)
    (hown : W4.ownsRow B 3 1 vp' pile'.length (pile'.map (Value.int .i64))) (hg : W.grownBy W4 vp.ownBlock) : WR W4 B vp' vl pile' xs ls := by
  have hT : (28 : TypeId) ≠ 3 := by decide
  refine ⟨hown, h.ol.kept hg (own_ne2 h.ol h.op hT), fun j u q hu hq => (h.inn j u q hu hq).kept hg ?_⟩
  cases hb : u.ownBlock with
  | none => exact .inl rfl
  | some gu =>
    right
    intro e
    exact absurd (h.pl j u gu gu hu e.symm hb) (by omega)
/-- The pile is cut by its last one. -/
theorem own_cut {W : World} {B : Nat} {e : TypeId} {A : Option Addr} {n c : Nat} {xs : List Value} (h : W.ownsRow B e 1 (.slice A (n + 1) c) (n + 1) xs) : W.ownsRow B e 1 (.slice A n c) n (xs.take n) := by
  rcases h.2 with ⟨h', _⟩ | ⟨g, cap, cur, h', hb, hg, hnc, hcm, hcs, htake⟩
  · cases h'
  · simp only [Value.slice.injEq] at h'
    obtain ⟨rfl, _, rfl⟩ := h'
    refine ⟨by have := h.1; simp; omega, .inr ⟨g, c, cur, rfl, hb, hg, by omega, hcm, hcs, ?_⟩⟩
    rw [← htake, List.take_take]
    congr 1
    omega
theorem own_cap {W : World} {B : Nat} {e : TypeId} {A : Option Addr} {n m c : Nat} {xs : List Value} (h : W.ownsRow B e 1 (.slice A m c) n xs) : n ≤ c := by
  rcases h.2 with ⟨h', h2⟩ | ⟨g, cap, cur, h', hb, hg, hnc, _⟩
  · omega
  · simp only [Value.slice.injEq] at h'
    omega
theorem WO.pileCut {W : World} {B : Nat} {A : Option Addr} {n c : Nat} {vl : Value} {pile pile' : List Int} {i : Int} {xs : List Value} {ls : List (List Int)} (h : WO W B (.slice A n c) vl pile xs ls) (hp : pile = pile' ++ [i]) (hn : n = pile'.length + 1) : WO W B (.slice A pile'.length c) vl pile' xs ls := by
  subst hp hn
  have h1 := h.op
  simp only [List.length_append, List.length_cons, List.length_nil, Nat.zero_add] at h1
  refine ⟨?_, h.ol, h.inn, h.lt, fun j v g g' q1 q2 q3 => h.pl j v g g' q1 (by cases A with | none => cases q2 | some a => exact q2) q3⟩
  have := own_cut h1
  simpa using this
theorem natI_without (l : List Nat) (x : Nat) : flt (x : Int) (natI l) = natI (l.filter fun y => decide (y ≠ x)) := by
  unfold flt natI
  rw [List.filter_map]
  congr 1
  apply List.filter_congr
  intro y _
  simp only [Function.comp]
  exact decide_eq_decide.2 (by omega)
theorem natI_with (l : List Nat) : flt (-1) (natI l) = natI l := by
  unfold flt
  refine List.filter_eq_self.2 fun x hx => decide_eq_true ?_
  obtain ⟨y, rfl, _⟩ := natI_mem hx
  omega
/-- A fresh pool, as a result. -/
def WRs (w : World) (n : Nat) (S : PS) (i : Int) (e : Ending) (w' : World) : Prop :=
  ∃ A c A2 c2 xs, e = .returned (.agg #[.slice A S.pile.length c, .slice A2 S.lists.length c2, .int .i64 (n : Int)]) ∧ WO w' w.heap.size (.slice A S.pile.length c) (.slice A2 S.lists.length c2) (natI S.pile) xs ((S.lists.map natI).map (flt i)) ∧ Below w.heap.size w w'
theorem rwithout {w : World} {hi n m : Nat} {S : PS} {v : Value} (h : RP w hi n S v) (hg : GoodS n m S) (i : Int) :
    Calls Try.prog 71 #[v, .int .i64 i] w (WRs w n S i) := by
  obtain ⟨A, c, A2, c2, rfl, h1, h2, h3⟩ := h.of
  have hsm := hg.sm
  have hpl : (natI S.pile).length ≤ 4096 := by
    obtain ⟨hn, _, F, G, hG⟩ := hg
    rw [natI_len]
    exact Nat.le_trans (nodup_len hG.rep.pnd hG.rep.plt) hn
  have := without_walk A A2 c c2 n hi (natI S.pile) (S.lists.map natI) i w h1 h2 h3 hsm hpl
  rw [natI_len, List.length_map] at this
  refine this.mono ?_
  rintro e w' ⟨vp, vl, xs, rfl, hwo, hb⟩
  obtain ⟨A3, c3, rfl⟩ := own_slice hwo.op
  obtain ⟨A4, c4, rfl⟩ := own_slice hwo.ol
  rw [natI_len, List.length_map, List.length_map] at hwo ⊢
  exact ⟨A3, c3, A4, c4, xs, rfl, hwo, hb⟩
theorem two_bx (w : World) (v0 v1 v2 : Value) {W1 : World} (hW : W1 = (w.alloc (.cells #[v0, v1, v2] 31)).alloc (.cells #[.slice none 0 0, .slice none 0 0, .int .i64 0] 31)) :
    BX W1 w.heap.size v0 v1 v2 ∧ BX W1 (w.heap.size + 1) (.slice none 0 0) (.slice none 0 0) (.int .i64 0) ∧ W1.heap.size = w.heap.size + 2 ∧ Below w.heap.size w W1 := by
  subst hW
  refine ⟨(heap_alloc_old _ _ (by simp)).trans (BX.new w _ rfl _ _ _), BX.new _ _ (by simp) _ _ _, by simp, ((Below.refl _ _).alloc (Nat.le_refl _) _).alloc (by simp) _⟩
/-- A store into a box. -/
theorem RI.set {w : World} {hi : Nat} {A : Option Addr} {xs : List Int} (h : RI w hi A xs) {d o : Nat} {cs : Array Value} {T : TypeId} {fr : Nat × Nat} (hd : w.heap[d]? = some (.cells cs T fr)) (hT : T ≠ 3) (u : Value) : RI (w.setCell ⟨d, o, none⟩ u) hi A xs := fun h0 => by
  obtain ⟨b, off, e, ⟨h1, cs', fr', ht⟩, h2, hc⟩ := h h0
  have hne : b ≠ d := by
    rintro rfl
    rw [hd] at ht
    cases ht
    exact hT rfl
  have hk : (w.setCell ⟨d, o, none⟩ u).heap[b]? = w.heap[b]? := Below.heap_setCell _ _ _ _ hne
  exact ⟨b, off, e, ⟨h1, cs', fr', hk.trans ht⟩, by simpa using h2, fun j hj => (World.cell?_of_block (a := ⟨b, off + j, none⟩) hk).trans (hc j hj)⟩
theorem RL.set {w : World} {hi : Nat} {A : Option Addr} {xs : List (List Int)} (h : RL w hi A xs) {d o : Nat} {cs : Array Value} {T : TypeId} {fr : Nat × Nat} (hd : w.heap[d]? = some (.cells cs T fr)) (hT : T ≠ 3) (hT2 : T ≠ 28) (u : Value) : RL (w.setCell ⟨d, o, none⟩ u) hi A xs := fun h0 => by
  obtain ⟨b, off, e, ⟨h1, cs', fr', ht⟩, h2, hc⟩ := h h0
  have hne : b ≠ d := by
    rintro rfl
    rw [hd] at ht
    cases ht
    exact hT2 rfl
  have hk : (w.setCell ⟨d, o, none⟩ u).heap[b]? = w.heap[b]? := Below.heap_setCell _ _ _ _ hne
  refine ⟨b, off, e, ⟨h1, cs', fr', hk.trans ht⟩, by simpa using h2, fun j l hj => ?_⟩
  obtain ⟨B, c, h3, h4⟩ := hc j l hj
  exact ⟨B, c, (World.cell?_of_block (a := ⟨b, off + j, none⟩) hk).trans h3, h4.set hd hT u⟩
theorem RP.set {w : World} {hi n : Nat} {S : PS} {v : Value} (h : RP w hi n S v) {d : Nat} {v0 v1 v2 : Value} (hd : BX w d v0 v1 v2) (o : Nat) (u : Value) : RP (w.setCell ⟨d, o, none⟩ u) hi n S v := by
  obtain ⟨A, c, A2, c2, h1, h2, h3, h4⟩ := h.of
  exact ⟨A, c, A2, c2, h1, h2.set hd (by decide) u, h3, h4.set hd (by decide) (by decide) u⟩
theorem RP.set3 {w : World} {hi n : Nat} {S : PS} {v : Value} (h : RP w hi n S v) {d : Nat} {v0 v1 v2 : Value} (hd : BX w d v0 v1 v2) (u0 u1 u2 : Value) : RP (((w.setCell ⟨d, 0, none⟩ u0).setCell ⟨d, 1, none⟩ u1).setCell ⟨d, 2, none⟩ u2) hi n S v :=
  ((h.set hd 0 u0).set (hd.s0 u0) 1 u1).set ((hd.s0 u0).s1 u1) 2 u2
theorem RP.mono {w : World} {hi hi' n : Nat} {S : PS} {v : Value} (h : RP w hi n S v) (hh : hi' ≤ hi) : RP w hi' n S v := by
  obtain ⟨A, c, A2, c2, h1, h2, h3, h4⟩ := h.of
  have m2 : ∀ {A : Option Addr} {xs : List Int}, RI w hi A xs → RI w hi' A xs := fun h h0 => by
    obtain ⟨b, off, e, ⟨h1, ht⟩, r⟩ := h h0
    exact ⟨b, off, e, ⟨Nat.le_trans hh h1, ht⟩, r⟩
  refine ⟨A, c, A2, c2, h1, m2 h2, h3, fun h0 => ?_⟩
  obtain ⟨b, off, e, ⟨q1, ht⟩, q2, hc⟩ := h4 h0
  refine ⟨b, off, e, ⟨Nat.le_trans hh q1, ht⟩, q2, fun j l hj => ?_⟩
  obtain ⟨B, c, q3, q4⟩ := hc j l hj
  exact ⟨B, c, q3, m2 q4⟩
/-- A reference pool, and more, as a result. -/
def RRes (w : World) (hi n : Nat) (S : PS) (rest : List Value) (e : Ending) (w' : World) : Prop :=
  ∃ v, e = .returned (.tuple (v :: rest).toArray) ∧ RP w' hi n S v ∧ Below w.heap.size w w'
theorem results_cellP2 {fn : Func} {p u : Tmp} (h : fn.results = #[.cell p 31, .tmp u]) (tmps : Array Value) (w : World) (g : Nat) (v0 v1 v2 vu : Value)
    (hp : tmps.getD p undef = .pointer (some ⟨g, 0, none⟩)) (hu : tmps.getD u undef = vu) (hb : BX w g v0 v1 v2) :
    (results fn tmps).run Try.prog w = .ok (.tuple #[.agg #[v0, v1, v2], vu]) w := by
  have c0 := hb.c0
  have c1 := hb.c1
  have c2 := hb.c2
  have e : (results fn tmps).run Try.prog w = ((asAddr (tmps.getD p undef)).run Try.prog w).andThen fun a w₁ => ((loadVar 31 a).run Try.prog w₁).andThen fun v w₂ => .ok (.tuple #[v, tmps.getD u undef]) w₂ := by
    simp only [results, h]
    simp [Sem.run_bind, Result.andThen]
  rw [e, hp, hu]
  go_simp
theorem results_cellP3 {fn : Func} {p u x : Tmp} (h : fn.results = #[.cell p 31, .tmp u, .tmp x]) (tmps : Array Value) (w : World) (g : Nat) (v0 v1 v2 vu vx : Value)
    (hp : tmps.getD p undef = .pointer (some ⟨g, 0, none⟩)) (hu : tmps.getD u undef = vu) (hx : tmps.getD x undef = vx) (hb : BX w g v0 v1 v2) :
    (results fn tmps).run Try.prog w = .ok (.tuple #[.agg #[v0, v1, v2], vu, vx]) w := by
  have c0 := hb.c0
  have c1 := hb.c1
  have c2 := hb.c2
  have e : (results fn tmps).run Try.prog w = ((asAddr (tmps.getD p undef)).run Try.prog w).andThen fun a w₁ => ((loadVar 31 a).run Try.prog w₁).andThen fun v w₂ => .ok (.tuple #[v, tmps.getD u undef, tmps.getD x undef]) w₂ := by
    simp only [results, h]
    simp [Sem.run_bind, Result.andThen]
  rw [e, hp, hu, hx]
  go_simp
end Go.Proofs.Ytcchmkpodfjhcaa
