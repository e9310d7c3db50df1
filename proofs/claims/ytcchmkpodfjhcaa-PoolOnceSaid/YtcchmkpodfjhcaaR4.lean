/-
  The walks of the reference pool's Give, Move, Take.
-/
import Derived.Test.YtcchmkpodfjhcaaR3
namespace Go.Proofs.Ytcchmkpodfjhcaa
open Go.RowKit
set_option linter.unusedVariables false
theorem WR.fin {W : World} {B : Nat} {vp vl : Value} {pile : List Int} {xs : List Value} {ls : List (List Int)} (q : WR W B vp vl pile xs ls) {r : Nat} {v0 v1 v2 : Value} (hr : BX W r v0 v1 v2) (u0 u1 u2 : Value) :
    WR (((W.setCell ⟨r, 0, none⟩ u0).setCell ⟨r, 1, none⟩ u1).setCell ⟨r, 2, none⟩ u2) B vp vl pile xs ls :=
  ((q.set hr (by decide) (by decide) u0).set (hr.s0 u0) (by decide) (by decide) u1).set ((hr.s0 u0).s1 u1) (by decide) (by decide) u2
theorem WR.fin1 {W : World} {B : Nat} {vp vl : Value} {pile : List Int} {xs : List Value} {ls : List (List Int)} (q : WR W B vp vl pile xs ls) {d r : Nat} {t0 t1 t2 v0 v1 v2 : Value} (hx : BX W d t0 t1 t2) (hr : BX W r v0 v1 v2) (hrd : r ≠ d) (o : Nat) (u u0 u1 u2 : Value) :
    WR ((((W.setCell ⟨d, o, none⟩ u).setCell ⟨r, 0, none⟩ u0).setCell ⟨r, 1, none⟩ u1).setCell ⟨r, 2, none⟩ u2) B vp vl pile xs ls :=
  (q.set hx (by decide) (by decide) u).fin (hr.kept (Below.heap_setCell _ _ _ _ hrd)) u0 u1 u2
set_option maxRecDepth 100000 in
set_option maxHeartbeats 2000000 in
theorem rgive_any {w : World} {hi n m : Nat} {S : PS} {v : Value} (h : RP w hi n S v) (hg : GoodS n m S) (hh : hi ≤ w.heap.size) (i : Int) :
    Calls Try.prog 19 #[v, .int .i64 i] w (RRes w hi n (gv n S i).2 [.int .i64 (gv n S i).1]) := by
  have HR := Kept.mk h
  have HG := Kept.mk hg
  obtain ⟨A, c, A2, c2, rfl, h1, h2, h3⟩ := h.of
  obtain ⟨W1, hW1⟩ : ∃ W1, W1 = (w.alloc (.cells #[.slice A S.pile.length c, .slice A2 S.lists.length c2, .int .i64 (n : Int)] 31)).alloc (.cells #[.slice none 0 0, .slice none 0 0, .int .i64 0] 31) := ⟨_, rfl⟩
  obtain ⟨b0, b1, hz1, hb1⟩ := two_bx w _ _ _ hW1
  have hR1 := h.below hb1
  have HR1 := Kept.mk hR1
  have B0 := Kept.mk b0
  have B1 := Kept.mk b1
  have HB1 := Kept.mk hb1
  have hsz1 : w.heap.size + 2 ≤ W1.heap.size := by omega
  have x0 := b0.c0
  have x1 := b0.c1
  have x2 := b0.c2
  have y0 := b1.c0
  have y1 := b1.c1
  have y2 := b1.c2
  have yf := b1.f
  have lls : (S.lists.length : Int) ≤ 4096 := by have := hg.sm.1; simp at this; omega
  have lpl : (S.pile.length : Int) ≤ 4096 := by
    obtain ⟨hn, _, F, G, hG⟩ := hg
    have := nodup_len hG.rep.pnd hG.rep.plt
    omega
  have HZ := Kept.mk hz1
  unfold rC at *
  clear h hg h1 h2 h3 hz1 b0 b1 hR1 hb1
  have hW := fun (h : RP W1 hi n S (.agg #[.slice A S.pile.length c, .slice A2 S.lists.length c2, .int .i64 (n : Int)])) => rwhere_any h HG.out i
  obtain ⟨x, hx⟩ : ∃ x, x = (wh n S i).1 := ⟨_, rfl⟩
  obtain ⟨y, hy⟩ : ∃ x, x = (wh n S i).2 := ⟨_, rfl⟩
  rw [← hx, ← hy] at hW
  have HWH := Kept.mk (hW HR1.out)
  have HY := Kept.mk hy
  clear hx hy hW
  go_enter Try.func19, Try.ntmps19
  go_upto_region 1 with fail
  rw [← hW1]
  clear hW1
  by_cases hy0 : y = 0
  · have hne : (y != 0) = false := by simp [hy0]
    have eg : gv n S i = (0, S.give i.toNat) := by unfold gv; rw [if_pos (by rw [← HY.out]; exact hy0)]
    have EG := Kept.mk eg
    obtain ⟨j, hj⟩ : ∃ j : Nat, i = j := by
      obtain ⟨hn, _, F, G, hG⟩ := HG.out
      obtain ⟨j, k, l, e, _⟩ := wh_ok hG (by rw [← HY.out]; exact hy0)
      exact ⟨j, e⟩
    have HJ := Kept.mk hj
    obtain ⟨i0, hi0, hz0, hz1, hz2⟩ := info_parts info_int
    clear eg hy0 hj
    go_wp2_with fail
    refine HWH.out.mono ?_
    rintro e w2 ⟨rfl, hb2⟩
    have x0' := (hb2.cell (p := ⟨w.heap.size, 0, none⟩) (by show w.heap.size < _; omega)).trans x0
    have x1' := (hb2.cell (p := ⟨w.heap.size, 1, none⟩) (by show w.heap.size < _; omega)).trans x1
    have x2' := (hb2.cell (p := ⟨w.heap.size, 2, none⟩) (by show w.heap.size < _; omega)).trans x2
    have bw2 := HB1.out.trans (hb2.mono HB1.out.size)
    have hR2 := HR1.out.below hb2
    clear x0 x1 x2 y0 y1 y2 yf
    go_wp2_with fail
    refine (rwithout hR2 HG.out i).mono ?_
    rintro e w3 ⟨A3, c3, A4, c4, xs, rfl, hwo, hb3⟩
    have bw3 := bw2.trans (hb3.mono bw2.size)
    have b13 : Below W1.heap.size W1 w3 := hb2.trans (hb3.mono hb2.size)
    have hwo5 := (hwo.below (below_box w3 (.cells #[.slice A3 S.pile.length c3, .slice A4 S.lists.length c4, .int .i64 (n : Int)] 31))).mono (B' := W1.heap.size) hb2.size
    have hbx := BX.new w3 w3.heap.size rfl (.slice A3 S.pile.length c3) (.slice A4 S.lists.length c4) (.int .i64 (n : Int))
    have b15 := b13.alloc b13.size (.cells #[.slice A3 S.pile.length c3, .slice A4 S.lists.length c4, .int .i64 (n : Int)] 31)
    have hds : W1.heap.size ≤ w3.heap.size := b13.size
    clear hwo hR2 x0' x1' x2'
    go_upto_region 5 with fail
    obtain ⟨W5, hW5⟩ : ∃ W5, W5 = w3.alloc (.cells #[.slice A3 S.pile.length c3, .slice A4 S.lists.length c4, .int .i64 (n : Int)] 31) := ⟨_, rfl⟩
    rw [← hW5] at hwo5 hbx b15 ⊢
    clear hW5
    obtain ⟨d, hd⟩ : ∃ d, d = w3.heap.size := ⟨_, rfl⟩
    rw [← hd] at hbx hds ⊢
    clear hd b13 bw3 hb3
    have HWO := Kept.mk hwo5
    have HX := Kept.mk hbx
    clear hwo5
    have opa := HWO.out.op
    rw [natI_len] at opa
    have z0 := hbx.c0
    have z1 := hbx.c1
    have z2 := hbx.c2
    have zf := hbx.f
    have hdr : d ≠ w.heap.size + 1 := by omega
    have hrd : w.heap.size + 1 ≠ d := by omega
    have hdl := hbx.lt
    clear hbx
    go_wp2_with (at_builtin; refine wpList_append_own _ rfl _ _ 28 rfl W1.heap.size 3 i0 (.int .i64 0) 1 8 Try.underlying28 hi0 hz0 hz1 hz2 rfl (by decide) _ _ _ rfl (opa.alloc _) ⟨W5.heap.size, 0, none⟩ 1 1 [.int .i64 i] rfl rfl (cell_one_new _ _ _) (by simp [Value.oneCell']) (by simp only [maxLen]; omega) (by omega) (by have := b15.size; simp; omega) ?_; intro v' w4 hown' hgrow _; obtain ⟨A6, c6, rfl⟩ := own_slice hown'; have hg' := (World.grownBy_alloc W5 (.cells #[.int .i64 i] 3) _).trans hgrow; have hx6 : BX w4 d _ _ _ := HX.out.kept (hg'.block d hdl (fun e => own_ne opa HX.out (by decide) e.symm)); have b14 : Below W1.heap.size W1 w4 := below_grown b15 hg' opa (Nat.le_refl _) b15.size; have hr6 : BX w4 (w.heap.size + 1) _ _ _ := B1.out.kept (b14.block _ (by omega)); have y0 := hr6.c0; have y1 := hr6.c1; have y2 := hr6.c2; have yf := hr6.f; have t0 := hx6.c0; have t1 := hx6.c1; have t2 := hx6.c2; have tf := hx6.f)
    refine bodyPost_ret (results_cellP2 rfl _ _ (w.heap.size + 1) _ _ _ _ rfl rfl ((((hr6.kept (Below.heap_setCell _ _ _ _ hrd)).s0 _).s1 _).s2 _)) rfl ?_
    rw [EG.out]
    have e1 : (natI S.pile).map (Value.int .i64) ++ [.int .i64 i] = (natI (S.pile ++ [j])).map (Value.int .i64) := by rw [HJ.out]; simp [natI]
    have e2 : ((S.lists.map natI).map (flt i)) = (S.give i.toNat).lists.map natI := by
      have := HJ.out
      subst this
      simp only [PS.give, PS.out, List.map_map, Int.toNat_natCast]
      congr 1
      funext l
      exact natI_without l j
    have e3 : S.pile.length + 1 = (natI (S.pile ++ [j])).length := by simp [natI]
    rw [e1, e3] at hown'
    have q := HWO.out.pileApp hown' hg'
    rw [e2] at q
    have e4 : (S.give i.toNat).pile = S.pile ++ [j] := by rw [HJ.out]; simp [PS.give]
    rw [← e3, ← e4] at q
    refine ⟨_, rfl, (q.fin1 hx6 hr6 hrd 0 _ _ _ _).rp (by omega), ?_⟩
    exact ((((HB1.out.trans (b14.mono HB1.out.size)).setCell (p := ⟨d, 0, none⟩) (show w.heap.size ≤ d by omega) _).setCell (p := ⟨w.heap.size + 1, 0, none⟩) (Nat.le_succ _) _).setCell (p := ⟨w.heap.size + 1, 1, none⟩) (Nat.le_succ _) _).setCell (p := ⟨w.heap.size + 1, 2, none⟩) (Nat.le_succ _) _
  · have hne : (y != 0) = true := by simp [hy0]
    have eg : gv n S i = (y, S) := by unfold gv; rw [if_neg (by rw [← HY.out]; exact hy0), HY.out]
    have EG := Kept.mk eg
    clear eg hy0
    go_wp2_with fail
    refine HWH.out.mono ?_
    rintro e w2 ⟨rfl, hb2⟩
    have bx := B0.out.below hb2
    have by' := B1.out.below hb2
    have x0 := bx.c0
    have x1 := bx.c1
    have x2 := bx.c2
    have y0 := by'.c0
    have y1 := by'.c1
    have y2 := by'.c2
    have yf := by'.f
    have BY := Kept.mk by'
    clear bx by'
    go_wp2
    refine bodyPost_ret (results_cellP2 rfl _ _ (w.heap.size + 1) _ _ _ _ rfl rfl (((BY.out.s0 _).s1 _).s2 _)) rfl ?_
    rw [EG.out]
    refine ⟨_, rfl, (HR.out.below (w' := ((w2.setCell ⟨w.heap.size + 1, 0, none⟩ _).setCell ⟨w.heap.size + 1, 1, none⟩ _).setCell ⟨w.heap.size + 1, 2, none⟩ _) ?_), ?_⟩
    all_goals exact (((HB1.out.trans (hb2.mono HB1.out.size)).setCell (p := ⟨w.heap.size + 1, 0, none⟩) (Nat.le_succ _) _).setCell (p := ⟨w.heap.size + 1, 1, none⟩) (Nat.le_succ _) _).setCell (p := ⟨w.heap.size + 1, 2, none⟩) (Nat.le_succ _) _
/-- The outer slice of a fresh pool, and one of its lists. -/
theorem WO.at {W : World} {B : Nat} {vp : Value} {A : Option Addr} {n c k : Nat} {pile l : List Int} {xs : List Value} {ls : List (List Int)} (h : WO W B vp (.slice A n c) pile xs ls) (hl : ls[k]? = some l) :
    ∃ g A7 c7, A = some ⟨g, 0, none⟩ ∧ xs[k]? = some (.slice A7 l.length c7) ∧ W.ownsRow B 3 1 (.slice A7 l.length c7) l.length (l.map (Value.int .i64)) ∧ W.cell? ⟨g, k, none⟩ = some (.slice A7 l.length c7) ∧ (∀ i, W.frozen? ⟨g, i, none⟩ = false) ∧ g < W.heap.size ∧ (∃ cs, W.heap[g]? = some (.cells cs 28 (0, 0))) := by
  have hk := (List.getElem?_eq_some_iff.1 hl).1
  have hxl := h.xl
  obtain ⟨v, hv⟩ : ∃ v, xs[k]? = some v := ⟨_, List.getElem?_eq_getElem (by omega)⟩
  have ho := h.inn k v l hv hl
  obtain ⟨A7, c7, rfl⟩ := own_slice ho
  rcases h.ol.2 with ⟨h1, h2⟩ | ⟨g, cap, cur, h1, hb, hg, _⟩
  · omega
  · simp only [Value.slice.injEq] at h1
    obtain ⟨rfl, _, rfl⟩ := h1
    refine ⟨g, A7, c7, rfl, hv, ho, ?_, fun i => ?_, lt_of_block hg, cur, hg⟩
    · have := h.ol.cells (g := g) rfl k _ hv
      rw [show (⟨g, 0, none⟩ : Addr).add k = ⟨g, k, none⟩ from by unfold Addr.add; split <;> simp_all] at this
      exact this
    · unfold World.frozen?
      rw [hg]
      simp
theorem modify_set {l : List (List Nat)} {k : Nat} {x : List Nat} {f : List Nat → List Nat} (h : l[k]? = some x) : l.modify k f = l.set k (f x) := by
  apply List.ext_getElem?
  intro j
  rw [List.getElem?_modify]
  by_cases e : k = j
  · subst e
    rw [h, List.getElem?_set_self (List.getElem?_eq_some_iff.1 h).1]
    simp
  · rw [List.getElem?_set_ne e]
    cases l[j]? <;> simp [e]
theorem grownBy_alloc_drew (w : World) (o : Obj) (row : Option Nat) : w.grownBy (w.alloc o).drew row := by
  have h := World.grownBy_alloc w o row
  exact ⟨h.os, h.tape, h.output, h.size, h.block⟩
theorem move_lists {S : PS} {k j : Nat} {l0 : List Nat} {l : List Int} {i : Int} (h0 : S.lists[k]? = some l0) (hl : l = flt i (natI l0)) (hj : i = j) :
    ((S.lists.map natI).map (flt i)).set k (l ++ [i]) = (S.move i.toNat k).lists.map natI := by
  subst hj
  subst hl
  unfold PS.move PS.put PS.out
  rw [Int.toNat_natCast]
  have h1 : (S.lists.map (List.filter fun x => decide (x ≠ j)))[k]? = some (l0.filter fun x => decide (x ≠ j)) := by simp [h0]
  show _ = ((S.lists.map (List.filter fun x => decide (x ≠ j))).modify k (· ++ [j])).map natI
  rw [modify_set h1, List.map_set]
  congr 1
  · rw [List.map_map, List.map_map]
    congr 1
    funext l
    exact natI_without l j
  · rw [natI_without]; simp [natI]
theorem BX.ne {W : World} {d g : Nat} {v0 v1 v2 : Value} (h : BX W d v0 v1 v2) {cs : Array Value} (hg : W.heap[g]? = some (.cells cs 28 (0, 0))) : g ≠ d := by
  rintro rfl
  have h' : W.heap[g]? = _ := h
  rw [hg] at h'
  cases h'
set_option maxRecDepth 100000 in
set_option maxHeartbeats 4000000 in
theorem rmove_any {w : World} {hi n m : Nat} {S : PS} {v : Value} (h : RP w hi n S v) (hg : GoodS n m S) (hh : hi ≤ w.heap.size) (i k' : Int) :
    Calls Try.prog 21 #[v, .int .i64 i, .int .i64 k'] w (RRes w hi n (mv n m S i k').2 [.int .i64 (mv n m S i k').1]) := by
  have hml : S.lists.length = m := by obtain ⟨_, _, F, G, hG⟩ := hg; exact hG.rep.len
  subst hml
  have HR := Kept.mk h
  have HG := Kept.mk hg
  obtain ⟨A, c, A2, c2, rfl, h1, h2, h3⟩ := h.of
  obtain ⟨W1, hW1⟩ : ∃ W1, W1 = (w.alloc (.cells #[.slice A S.pile.length c, .slice A2 S.lists.length c2, .int .i64 (n : Int)] 31)).alloc (.cells #[.slice none 0 0, .slice none 0 0, .int .i64 0] 31) := ⟨_, rfl⟩
  obtain ⟨b0, b1, hz1, hb1⟩ := two_bx w _ _ _ hW1
  have hR1 := h.below hb1
  have HR1 := Kept.mk hR1
  have B0 := Kept.mk b0
  have B1 := Kept.mk b1
  have HB1 := Kept.mk hb1
  have hsz1 : w.heap.size + 2 ≤ W1.heap.size := by omega
  have x0 := b0.c0
  have x1 := b0.c1
  have x2 := b0.c2
  have y0 := b1.c0
  have y1 := b1.c1
  have y2 := b1.c2
  have yf := b1.f
  have lls : (S.lists.length : Int) ≤ 4096 := by have := hg.sm.1; simp at this; omega
  have lpl : (S.pile.length : Int) ≤ 4096 := by
    obtain ⟨hn, _, F, G, hG⟩ := hg
    have := nodup_len hG.rep.pnd hG.rep.plt
    omega
  have HZ := Kept.mk hz1
  unfold rC at *
  clear h hg h1 h2 h3 hz1 b0 b1 hR1 hb1
  have hW := fun (h : RP W1 hi n S (.agg #[.slice A S.pile.length c, .slice A2 S.lists.length c2, .int .i64 (n : Int)])) => rwhere_any h HG.out i
  obtain ⟨x, hx⟩ : ∃ x, x = (wh n S i).1 := ⟨_, rfl⟩
  obtain ⟨y, hy⟩ : ∃ x, x = (wh n S i).2 := ⟨_, rfl⟩
  rw [← hx, ← hy] at hW
  have HWH := Kept.mk (hW HR1.out)
  have HY := Kept.mk hy
  clear hx hy hW
  go_enter Try.func21, Try.ntmps21
  go_upto_region 1 with fail
  rw [← hW1]
  clear hW1
  go_wp2_with fail
  refine HWH.out.mono ?_
  rintro e w2 ⟨rfl, hb2⟩
  have x0' := (hb2.cell (p := ⟨w.heap.size, 0, none⟩) (by show w.heap.size < _; omega)).trans x0
  have x1' := (hb2.cell (p := ⟨w.heap.size, 1, none⟩) (by show w.heap.size < _; omega)).trans x1
  have x2' := (hb2.cell (p := ⟨w.heap.size, 2, none⟩) (by show w.heap.size < _; omega)).trans x2
  have bw2 := HB1.out.trans (hb2.mono HB1.out.size)
  have hR2 := HR1.out.below hb2
  have br2 := B1.out.below hb2
  have y0' := br2.c0
  have y1' := br2.c1
  have y2' := br2.c2
  have yf' := br2.f
  have BR2 := Kept.mk br2
  clear x0 x1 x2 y0 y1 y2 yf br2
  by_cases hr : y = 1 ∨ ¬ (0 ≤ k' ∧ k' < (S.lists.length : Int))
  · have eg : mv n S.lists.length S i k' = (1, S) := by unfold mv; rw [if_pos (by rw [← HY.out]; exact hr)]
    have EG := Kept.mk eg
    clear eg
    have fin : Below w.heap.size w (((w2.setCell ⟨w.heap.size + 1, 0, none⟩ (.slice A S.pile.length c)).setCell ⟨w.heap.size + 1, 1, none⟩ (.slice A2 S.lists.length c2)).setCell ⟨w.heap.size + 1, 2, none⟩ (.int .i64 (n : Int))) :=
      ((bw2.setCell (p := ⟨w.heap.size + 1, 0, none⟩) (Nat.le_succ _) _).setCell (p := ⟨w.heap.size + 1, 1, none⟩) (Nat.le_succ _) _).setCell (p := ⟨w.heap.size + 1, 2, none⟩) (Nat.le_succ _) _
    have FIN := Kept.mk fin
    clear fin
    by_cases hy1 : y = 1
    · subst hy1
      clear hr
      go_wp2
      refine bodyPost_ret (results_cellP2 rfl _ _ (w.heap.size + 1) _ _ _ _ rfl rfl (((BR2.out.s0 _).s1 _).s2 _)) rfl ?_
      rw [EG.out]
      exact ⟨_, rfl, HR.out.below FIN.out, FIN.out⟩
    · have hy1' : (y == 1) = false := by simp [hy1]
      by_cases hk0 : k' < 0
      · clear hr hy1
        go_wp2
        refine bodyPost_ret (results_cellP2 rfl _ _ (w.heap.size + 1) _ _ _ _ rfl rfl (((BR2.out.s0 _).s1 _).s2 _)) rfl ?_
        rw [EG.out]
        exact ⟨_, rfl, HR.out.below FIN.out, FIN.out⟩
      · have hk1 : (S.lists.length : Int) ≤ k' := by omega
        clear hr hy1
        go_wp2
        refine bodyPost_ret (results_cellP2 rfl _ _ (w.heap.size + 1) _ _ _ _ rfl rfl (((BR2.out.s0 _).s1 _).s2 _)) rfl ?_
        rw [EG.out]
        exact ⟨_, rfl, HR.out.below FIN.out, FIN.out⟩
  · have hy1 : y ≠ 1 := fun h => hr (.inl h)
    have hkk : 0 ≤ k' ∧ k' < (S.lists.length : Int) := Classical.byContradiction fun h => hr (.inr h)
    obtain ⟨k, rfl⟩ : ∃ k : Nat, k' = k := ⟨k'.toNat, by omega⟩
    have hy1' : (y == 1) = false := by simp [hy1]
    have ik : (k : Int) < (S.lists.length : Int) := hkk.2
    by_cases hy0 : y = 0
    · have hne : (y != 0) = false := by simp [hy0]
      have eg : mv n S.lists.length S i k = (0, S.move i.toNat k) := by unfold mv; rw [if_neg (by rw [← HY.out]; exact hr), if_pos (by rw [← HY.out]; exact hy0), Int.toNat_natCast]
      have EG := Kept.mk eg
      obtain ⟨j, hj⟩ : ∃ j : Nat, i = j := by
        obtain ⟨hn, _, F, G, hG⟩ := HG.out
        obtain ⟨j, k, l, e, _⟩ := wh_ok hG (by rw [← HY.out]; exact hy0)
        exact ⟨j, e⟩
      have HJ := Kept.mk hj
      obtain ⟨i0, hi0, hz0, hz1, hz2⟩ := info_parts info_int
      obtain ⟨l0, hl0⟩ : ∃ l, S.lists[k]? = some l := ⟨_, List.getElem?_eq_getElem (by omega)⟩
      have HL0 := Kept.mk hl0
      obtain ⟨l, hl⟩ : ∃ l, l = flt i (natI l0) := ⟨_, rfl⟩
      have HLE := Kept.mk hl
      have HLS := Kept.mk (show ((S.lists.map natI).map (flt i))[k]? = some l from by rw [hl]; simp [hl0])
      have lll : l.length ≤ 4096 := by
        have h1 := HG.out.sm.2 (natI l0) (List.mem_map.2 ⟨l0, List.mem_of_getElem? hl0, rfl⟩)
        have h2 : l.length ≤ (natI l0).length := by rw [hl]; exact List.length_filter_le _ _
        omega
      clear eg hy0 hj hr hy1 hkk hl0 hl y0' y1' y2' yf'
      go_wp2_with fail
      refine (rwithout hR2 HG.out i).mono ?_
      rintro e w3 ⟨A3, c3, A4, c4, xs, rfl, hwo, hb3⟩
      have bw3 := bw2.trans (hb3.mono bw2.size)
      have b13 : Below W1.heap.size W1 w3 := hb2.trans (hb3.mono hb2.size)
      have hwo5 := (hwo.below (below_box w3 (.cells #[.slice A3 S.pile.length c3, .slice A4 S.lists.length c4, .int .i64 (n : Int)] 31))).mono (B' := W1.heap.size) hb2.size
      have hbx := BX.new w3 w3.heap.size rfl (.slice A3 S.pile.length c3) (.slice A4 S.lists.length c4) (.int .i64 (n : Int))
      have b15 := b13.alloc b13.size (.cells #[.slice A3 S.pile.length c3, .slice A4 S.lists.length c4, .int .i64 (n : Int)] 31)
      have hds : W1.heap.size ≤ w3.heap.size := b13.size
      clear hwo hR2 x0' x1' x2'
      go_upto_region 7 with fail
      obtain ⟨W5, hW5⟩ : ∃ W5, W5 = w3.alloc (.cells #[.slice A3 S.pile.length c3, .slice A4 S.lists.length c4, .int .i64 (n : Int)] 31) := ⟨_, rfl⟩
      rw [← hW5] at hwo5 hbx b15 ⊢
      clear hW5
      obtain ⟨d, hd⟩ : ∃ d, d = w3.heap.size := ⟨_, rfl⟩
      rw [← hd] at hbx hds ⊢
      clear hd b13 bw3 hb3
      have HWO := Kept.mk hwo5
      have HX := Kept.mk hbx
      clear hwo5
      obtain ⟨g, A7, c7, rfl, hxk, owni, gk, gf, hgl, cs, hgb⟩ := HWO.out.at HLS.out
      have hgd : g ≠ d := HX.out.ne hgb
      have hdg : d ≠ g := hgd.symm
      have hgr : g ≠ w.heap.size + 1 := (B1.out.kept (b15.block _ (by omega))).ne hgb
      have hrg : w.heap.size + 1 ≠ g := hgr.symm
      have gka : ∀ o, (W5.alloc o).cell? ⟨g, k, none⟩ = some (.slice A7 l.length c7) := fun o => ((below_box W5 o).cell (p := ⟨g, k, none⟩) hgl).trans gk
      have HXK := Kept.mk hxk
      have d1 := HX.out.c1
      have hdl := HX.out.lt
      have d1a : ∀ o, (W5.alloc o).cell? ⟨d, 1, none⟩ = some (.slice (some ⟨g, 0, none⟩) S.lists.length c4) := fun o => ((below_box W5 o).cell (p := ⟨d, 1, none⟩) hdl).trans d1
      have hdr : d ≠ w.heap.size + 1 := by omega
      have hrd : w.heap.size + 1 ≠ d := by omega
      clear hxk
      go_region_law (first
        | (refine step_of_wp rfl (wp_append_own _ _ _ 28 rfl W1.heap.size 3 i0 (.int .i64 0) 1 8 Try.underlying28 hi0 hz0 hz1 hz2 rfl (by decide) (.slice A7 l.length c7) l.length _ rfl (own_drew (owni.alloc _)) ⟨W5.heap.size, 0, none⟩ 1 1 [.int .i64 i] rfl rfl (cell_one_new _ _ _) (by simp [Value.oneCell']) (by simp only [maxLen]; omega) (by omega) (by have := b15.size; simp; omega) ?_); intro v' w4 hown' hgrow _; obtain ⟨A6, c6, rfl⟩ := own_slice hown'; have hg' : W5.grownBy w4 (Value.slice A7 l.length c7).ownBlock := (grownBy_alloc_drew W5 (.cells #[.int .i64 i] 3) _).trans hgrow; have hx6 : BX w4 d _ _ _ := HX.out.kept (hg'.block d hdl (fun e => own_ne owni HX.out (by decide) e.symm)); have b14 : Below W1.heap.size W1 w4 := below_grown b15 hg' owni (Nat.le_refl _) b15.size; have hr6 : BX w4 (w.heap.size + 1) _ _ _ := B1.out.kept (b14.block _ (by omega)); have hg6 := (hg'.block g hgl (fun e => own_ne owni hgb (by decide) e.symm)); have gk6 := (World.cell?_of_block (a := ⟨g, k, none⟩) hg6).trans gk; have gf6 := fun i => (World.frozen?_of_block (a := ⟨g, i, none⟩) hg6).trans (gf i); have y0 := hr6.c0; have y1 := hr6.c1; have y2 := hr6.c2; have yf := hr6.f; have t0 := hx6.c0; have t1 := hx6.c1; have t2 := hx6.c2; have tf := hx6.f))
      all_goals go_wp2
      all_goals refine bodyPost_ret (results_cellP2 rfl _ _ (w.heap.size + 1) _ _ _ _ rfl rfl ((((hr6.kept (Below.heap_setCell _ ⟨g, k, none⟩ _ _ hrg)).s0 _).s1 _).s2 _)) rfl ?_
      all_goals rw [EG.out]
      all_goals have q := HWO.out.app (l' := l ++ [i]) (by simp) HXK.out HLS.out (by simpa using hown') hg'
      all_goals rw [move_lists HL0.out HLE.out HJ.out] at q
      all_goals refine ⟨_, rfl, WR.rp (S := S.move i.toNat k) ((q.fin (hr6.kept (Below.heap_setCell _ ⟨g, k, none⟩ _ _ hrg)) _ _ _)) (by omega), ?_⟩
      all_goals exact (((((HB1.out.trans (b14.mono HB1.out.size)).setCell (p := ⟨g, k, none⟩) (Nat.le_trans HB1.out.size (HWO.out.ol.lt g rfl).1) _).setCell (p := ⟨w.heap.size + 1, 0, none⟩) (Nat.le_succ _) _).setCell (p := ⟨w.heap.size + 1, 1, none⟩) (Nat.le_succ _) _).setCell (p := ⟨w.heap.size + 1, 2, none⟩) (Nat.le_succ _) _)
    · have hne : (y != 0) = true := by simp [hy0]
      have eg : mv n S.lists.length S i k = (y, S) := by unfold mv; rw [if_neg (by rw [← HY.out]; exact hr), if_neg (by rw [← HY.out]; exact hy0), HY.out]
      have EG := Kept.mk eg
      clear eg hr hy1 hy0 hkk
      have fin : Below w.heap.size w (((w2.setCell ⟨w.heap.size + 1, 0, none⟩ (.slice A S.pile.length c)).setCell ⟨w.heap.size + 1, 1, none⟩ (.slice A2 S.lists.length c2)).setCell ⟨w.heap.size + 1, 2, none⟩ (.int .i64 (n : Int))) :=
        ((bw2.setCell (p := ⟨w.heap.size + 1, 0, none⟩) (Nat.le_succ _) _).setCell (p := ⟨w.heap.size + 1, 1, none⟩) (Nat.le_succ _) _).setCell (p := ⟨w.heap.size + 1, 2, none⟩) (Nat.le_succ _) _
      have FIN := Kept.mk fin
      clear fin
      go_wp2
      refine bodyPost_ret (results_cellP2 rfl _ _ (w.heap.size + 1) _ _ _ _ rfl rfl (((BR2.out.s0 _).s1 _).s2 _)) rfl ?_
      rw [EG.out]
      exact ⟨_, rfl, HR.out.below FIN.out, FIN.out⟩
end Go.Proofs.Ytcchmkpodfjhcaa
