/-
  The walk of the reference pool's without.
-/
import Derived.Test.YtcchmkpodfjhcaaR1
namespace Go.Proofs.Ytcchmkpodfjhcaa
open Go.RowKit
set_option linter.unusedVariables false
theorem info_ints : (Try.prog.info? 28).map (fun i => (i.zero, i.size, i.bytes)) = some (some (.slice none 0 0), 1, 24) := by kernel_rfl
theorem own_ne {w : World} {base : Nat} {e : TypeId} {sz n : Nat} {v : Value} {xs : List Value} (h : w.ownsRow base e sz v n xs) {d : Nat} {cs : Array Value} {T : TypeId} {fr : Nat × Nat} (hd : w.heap[d]? = some (.cells cs T fr)) (hT : T ≠ e) : v.ownBlock ≠ some d := by
  intro he
  rcases h.2 with ⟨rfl, _⟩ | ⟨g, cap, cur, rfl, _, hg, _⟩
  · simp [Value.ownBlock] at he
  · simp only [Value.ownBlock, Option.some.injEq] at he
    subst he
    rw [hd] at hg
    cases hg
    exact hT rfl
theorem own_ne2 {w : World} {base base' : Nat} {e e' : TypeId} {sz n sz' n' : Nat} {v v' : Value} {xs xs' : List Value} (h : w.ownsRow base e sz v n xs) (h' : w.ownsRow base' e' sz' v' n' xs') (hT : e ≠ e') : v.ownBlock = none ∨ v.ownBlock ≠ v'.ownBlock := by
  cases hv : v.ownBlock with
  | none => exact .inl rfl
  | some g =>
    right
    intro he
    rcases h.2 with ⟨rfl, _⟩ | ⟨g1, cap, cur, rfl, _, hg, _⟩
    · simp [Value.ownBlock] at hv
    · simp only [Value.ownBlock, Option.some.injEq] at hv
      subst hv
      exact own_ne h' hg hT he.symm
theorem own_drew {w : World} {base : Nat} {e : TypeId} {sz n : Nat} {v : Value} {xs : List Value} (h : w.ownsRow base e sz v n xs) : w.drew.ownsRow base e sz v n xs := h
/-- A fresh reference pool: its pile, its lists, each in memory of its own. -/
structure WO (W : World) (B : Nat) (vp vl : Value) (pile : List Int) (xs : List Value) (ls : List (List Int)) : Prop where
  op : W.ownsRow B 3 1 vp pile.length (pile.map (Value.int .i64))
  ol : W.ownsRow B 28 1 vl ls.length xs
  inn : ∀ (j : Nat) v l, xs[j]? = some v → ls[j]? = some l → W.ownsRow B 3 1 v l.length (l.map (Value.int .i64))
  lt : ∀ (j j' : Nat) v v' g g', j < j' → xs[j]? = some v → xs[j']? = some v' → v.ownBlock = some g → v'.ownBlock = some g' → g < g'
  pl : ∀ (j : Nat) v g g', xs[j]? = some v → vp.ownBlock = some g → v.ownBlock = some g' → g < g'
theorem WO.xl {W : World} {B : Nat} {vp vl : Value} {pile : List Int} {xs : List Value} {ls : List (List Int)} (h : WO W B vp vl pile xs ls) : xs.length = ls.length := by have := h.ol.1; omega
theorem WO.below {W W' : World} {B : Nat} {vp vl : Value} {pile : List Int} {xs : List Value} {ls : List (List Int)} (h : WO W B vp vl pile xs ls) (hb : Below W.heap.size W W') : WO W' B vp vl pile xs ls :=
  ⟨own_below h.op hb, own_below h.ol hb, fun j v l h1 h2 => own_below (h.inn j v l h1 h2) hb, h.lt, h.pl⟩
/-- A store into a block of another type. -/
theorem WO.set {W : World} {B : Nat} {vp vl : Value} {pile : List Int} {xs : List Value} {ls : List (List Int)} (h : WO W B vp vl pile xs ls) {d o : Nat} {cs : Array Value} {T : TypeId} {fr : Nat × Nat} (hd : W.heap[d]? = some (.cells cs T fr)) (h1 : T ≠ 3) (h2 : T ≠ 28) (u : Value) : WO (W.setCell ⟨d, o, none⟩ u) B vp vl pile xs ls :=
  ⟨ownsRow_setCell_other h.op (a := ⟨d, o, none⟩) (own_ne h.op hd h1) u, ownsRow_setCell_other h.ol (a := ⟨d, o, none⟩) (own_ne h.ol hd h2) u, fun j v l q1 q2 => ownsRow_setCell_other (h.inn j v l q1 q2) (a := ⟨d, o, none⟩) (own_ne (h.inn j v l q1 q2) hd h1) u, h.lt, h.pl⟩
/-- One list more. -/
theorem WO.snoc {W W' : World} {B N : Nat} {vp vl vl' v : Value} {pile l : List Int} {xs : List Value} {ls : List (List Int)} (h : WO W B vp vl pile xs ls) (hv : W.ownsRow N 3 1 v l.length (l.map (Value.int .i64))) (hB : B ≤ N)
    (hN : ∀ g, vp.ownBlock = some g → g < N) (hN2 : ∀ (j : Nat) u g, xs[j]? = some u → u.ownBlock = some g → g < N)
    (hl : W'.ownsRow B 28 1 vl' (ls.length + 1) (xs ++ [v])) (hg : W.grownBy W' vl.ownBlock) : WO W' B vp vl' pile (xs ++ [v]) (ls ++ [l]) := by
  have hT : (3 : TypeId) ≠ 28 := by decide
  have hxl := h.xl
  have hcase : ∀ (j : Nat) u, (xs ++ [v])[j]? = some u → (j < xs.length ∧ xs[j]? = some u) ∨ (j = xs.length ∧ u = v) := by
    intro j u hu
    by_cases hj : j < xs.length
    · rw [List.getElem?_append_left hj] at hu; exact .inl ⟨hj, hu⟩
    · have := (List.getElem?_eq_some_iff.1 hu).1
      simp at this
      have e : j = xs.length := by omega
      subst e
      rw [List.getElem?_append_right (by omega)] at hu
      simp at hu
      exact .inr ⟨rfl, hu.symm⟩
  refine ⟨h.op.kept hg (own_ne2 h.op h.ol hT), by simpa using hl, fun j u l' h1 h2 => ?_, fun j j' u u' g g' hjj h1 h2 h3 h4 => ?_, fun j u g g' h1 h2 h3 => ?_⟩
  · rcases hcase j u h1 with ⟨hj, h1⟩ | ⟨rfl, rfl⟩
    · rw [List.getElem?_append_left (by omega)] at h2
      exact (h.inn j u l' h1 h2).kept hg (own_ne2 (h.inn j u l' h1 h2) h.ol hT)
    · rw [List.getElem?_append_right (by omega)] at h2
      simp [hxl] at h2
      subst h2
      exact own_mono (hv.kept hg (own_ne2 hv h.ol hT)) hB
  · rcases hcase j u h1 with ⟨hj, h1'⟩ | ⟨rfl, rfl⟩
    · rcases hcase j' u' h2 with ⟨hj', h2'⟩ | ⟨rfl, rfl⟩
      · exact h.lt j j' u u' g g' hjj h1' h2' h3 h4
      · have := hN2 j u g h1' h3
        have := (hv.lt g' h4).1
        omega
    · have := (List.getElem?_eq_some_iff.1 h2).1
      simp at this
      omega
  · rcases hcase j u h1 with ⟨hj, h1⟩ | ⟨rfl, rfl⟩
    · exact h.pl j u g g' h1 h2 h3
    · have := hN g h2
      have := (hv.lt g' h3).1
      omega
theorem block_setCell {w : World} {b o : Nat} {cs : Array Value} {t : TypeId} {fr : Nat × Nat} (h : w.heap[b]? = some (.cells cs t fr)) (u : Value) : (w.setCell ⟨b, o, none⟩ u).heap[b]? = some (.cells (cs.setIfInBounds o u) t fr) := by
  have hlt := lt_of_block h
  have h' : w.heap[b] = .cells cs t fr := by simpa [Array.getElem?_eq_getElem hlt] using h
  show (w.heap.modify b _)[b]? = _
  rw [Array.getElem?_eq_getElem (by simpa using hlt), Array.getElem_modify_self, h']
  rfl
/-- A box of a reference pool. -/
def BX (W : World) (d : Nat) (v0 v1 v2 : Value) : Prop := W.heap[d]? = some (.cells #[v0, v1, v2] 31 (0, 0))
theorem BX.lt {W : World} {d : Nat} {v0 v1 v2 : Value} (h : BX W d v0 v1 v2) : d < W.heap.size := lt_of_block h
theorem BX.c0 {W : World} {d : Nat} {v0 v1 v2 : Value} (h : BX W d v0 v1 v2) : W.cell? ⟨d, 0, none⟩ = some v0 := by rw [cell_of_row W d 0 _ _ _ h]; rfl
theorem BX.c1 {W : World} {d : Nat} {v0 v1 v2 : Value} (h : BX W d v0 v1 v2) : W.cell? ⟨d, 1, none⟩ = some v1 := by rw [cell_of_row W d 1 _ _ _ h]; rfl
theorem BX.c2 {W : World} {d : Nat} {v0 v1 v2 : Value} (h : BX W d v0 v1 v2) : W.cell? ⟨d, 2, none⟩ = some v2 := by rw [cell_of_row W d 2 _ _ _ h]; rfl
theorem BX.f {W : World} {d : Nat} {v0 v1 v2 : Value} (h : BX W d v0 v1 v2) (i : Nat) : W.frozen? ⟨d, i, none⟩ = false := by
  have h' : W.heap[d]? = _ := h
  unfold World.frozen?
  rw [h']
  simp
theorem BX.s0 {W : World} {d : Nat} {v0 v1 v2 : Value} (h : BX W d v0 v1 v2) (u : Value) : BX (W.setCell ⟨d, 0, none⟩ u) d u v1 v2 := block_setCell h u
theorem BX.s1 {W : World} {d : Nat} {v0 v1 v2 : Value} (h : BX W d v0 v1 v2) (u : Value) : BX (W.setCell ⟨d, 1, none⟩ u) d v0 u v2 := block_setCell h u
theorem BX.s2 {W : World} {d : Nat} {v0 v1 v2 : Value} (h : BX W d v0 v1 v2) (u : Value) : BX (W.setCell ⟨d, 2, none⟩ u) d v0 v1 u := block_setCell h u
theorem BX.kept {W W' : World} {d : Nat} {v0 v1 v2 : Value} (h : BX W d v0 v1 v2) (hb : W'.heap[d]? = W.heap[d]?) : BX W' d v0 v1 v2 := hb.trans h
theorem BX.below {W W' : World} {d : Nat} {v0 v1 v2 : Value} (h : BX W d v0 v1 v2) (hb : Below W.heap.size W W') : BX W' d v0 v1 v2 := h.kept (hb.block d h.lt)
theorem BX.new (W : World) (d : Nat) (hd : d = W.heap.size) (v0 v1 v2 : Value) : BX (W.alloc (.cells #[v0, v1, v2] 31)) d v0 v1 v2 := by subst hd; exact heap_alloc_new W _
theorem BX.drew {W : World} {d : Nat} {v0 v1 v2 : Value} (h : BX W d v0 v1 v2) : BX W.drew d v0 v1 v2 := h
theorem own_empty {W : World} {e : TypeId} {base g : Nat} (h : W.heap[g]? = some (.cells #[] e (0, 0))) (hb : base ≤ g) : W.ownsRow base e 1 (.slice (some ⟨g, 0, none⟩) 0 0) 0 (([] : List Int).map (Value.int .i64)) :=
  ⟨rfl, .inr ⟨g, 0, #[], rfl, hb, h, Nat.le_refl _, by decide, rfl, rfl⟩⟩
theorem WO.mono {W : World} {B B' : Nat} {vp vl : Value} {pile : List Int} {xs : List Value} {ls : List (List Int)} (h : WO W B vp vl pile xs ls) (hB : B' ≤ B) : WO W B' vp vl pile xs ls :=
  ⟨own_mono h.op hB, own_mono h.ol hB, fun j v l h1 h2 => own_mono (h.inn j v l h1 h2) hB, h.lt, h.pl⟩
theorem WO.blt {W : World} {B : Nat} {vp vl : Value} {pile : List Int} {xs : List Value} {ls : List (List Int)} (h : WO W B vp vl pile xs ls) (j : Nat) (u : Value) (g : Nat) (hu : xs[j]? = some u) (hg : u.ownBlock = some g) : g < W.heap.size := by
  have hj := (List.getElem?_eq_some_iff.1 hu).1
  rw [h.xl] at hj
  exact ((h.inn j u _ hu (List.getElem?_eq_getElem hj)).lt g hg).2
theorem results_cellP {fn : Func} {p : Tmp} (h : fn.results = #[.cell p 31]) (tmps : Array Value) (w : World) (g : Nat) (v0 v1 v2 : Value)
    (hp : tmps.getD p undef = .pointer (some ⟨g, 0, none⟩)) (hb : BX w g v0 v1 v2) :
    (results fn tmps).run Try.prog w = .ok (.agg #[v0, v1, v2]) w := by
  have c0 := hb.c0
  have c1 := hb.c1
  have c2 := hb.c2
  have e : (results fn tmps).run Try.prog w = ((asAddr (tmps.getD p undef)).run Try.prog w).andThen fun a w₁ => (loadVar 31 a).run Try.prog w₁ := by
    simp only [results, h]
    simp [Sem.run_bind, Result.andThen]
  rw [e, hp]
  go_simp
def WRes (w : World) (n : Nat) (pile : List Int) (ls : List (List Int)) (e : Ending) (w' : World) : Prop :=
  ∃ vp vl xs, e = .returned (.agg #[vp, vl, .int .i64 (n : Int)]) ∧ WO w' w.heap.size vp vl pile xs ls ∧ Below w.heap.size w w'
def flt (i : Int) (l : List Int) : List Int := l.filter fun x => decide (x ≠ i)
/-- The fresh pool's box is made. -/
def Reg1 (W1 : World) (n : Nat) (pile : List Int) (v5 : Value) (wx : World) : Prop :=
  ∃ d A3 c3, v5 = .pointer (some ⟨d, 0, none⟩) ∧ W1.heap.size ≤ d ∧ BX wx d (.slice A3 pile.length c3) (.slice none 0 0) (.int .i64 (n : Int)) ∧ wx.ownsRow W1.heap.size 3 1 (.slice A3 pile.length c3) pile.length (pile.map (Value.int .i64)) ∧ Below W1.heap.size W1 wx
set_option maxRecDepth 100000 in
set_option maxHeartbeats 4000000 in
theorem without_walk (A A2 : Option Addr) (c c2 n hi : Nat) (pile : List Int) (ls : List (List Int)) (i : Int) (w : World) (hp : RI w hi A pile) (hn : A = none → c = 0) (h : RL w hi A2 ls) (hs : Sm ls) (hpl : pile.length ≤ 4096) :
    Calls Try.prog 71 #[.agg (rC A pile.length c A2 ls.length c2 n), .int .i64 i] w (WRes w n pile (ls.map (flt i))) := by
  have li : (ls.length : Int) ≤ 4096 := by have := hs.1; omega
  have HP := Kept.mk hp.ints
  have HL := Kept.mk h
  have HS := Kept.mk hs
  have hb := (below_box w (.cells (rC A pile.length c A2 ls.length c2 n) 31)).trans ((below_box (w.alloc (.cells (rC A pile.length c A2 ls.length c2 n) 31)) (.cells #[.slice none 0 0, .slice none 0 0, .int .i64 0] 31)).mono (by simp))
  have hb2 := (below_box (w.alloc (.cells (rC A pile.length c A2 ls.length c2 n) 31)) (.cells #[.slice none 0 0, .slice none 0 0, .int .i64 0] 31))
  have HB := Kept.mk hb
  have c0 := box_cell hb2 0 _ rfl
  have c1 := box_cell hb2 1 _ rfl
  have c2' := box_cell hb2 2 _ rfl
  have hr := BX.new (w.alloc (.cells (rC A pile.length c A2 ls.length c2 n) 31)) (w.heap.size + 1) (by simp) (.slice none 0 0) (.slice none 0 0) (.int .i64 0)
  have hz : ((w.alloc (.cells (rC A pile.length c A2 ls.length c2 n) 31)).alloc (.cells #[.slice none 0 0, .slice none 0 0, .int .i64 0] 31)).heap.size = w.heap.size + 2 := by simp
  obtain ⟨i0, hi0, hz0, hz1, hz2⟩ := info_parts info_int
  clear hp h hs hb hb2
  unfold rC at *
  go_enter Try.func71, Try.ntmps71
  go_wp2_with fail
  obtain ⟨W1, hW1⟩ : ∃ W1, W1 = (w.alloc (.cells #[.slice A pile.length c, .slice A2 ls.length c2, .int .i64 (n : Int)] 31)).alloc (.cells #[.slice none 0 0, .slice none 0 0, .int .i64 0] 31) := ⟨_, rfl⟩
  rw [← hW1] at HB c0 c1 c2' hr hz ⊢
  clear hW1
  have hbw := HB.out
  have HR := Kept.mk hr
  have HZ := Kept.mk hz
  have hz' : w.heap.size + 2 ≤ W1.heap.size := by omega
  clear hr hz
  have KA := Kept.mk (show ∀ W, Below W1.heap.size W1 W → W.cell? ⟨w.heap.size, 0, none⟩ = some (.slice A pile.length c) ∧ W.cell? ⟨w.heap.size, 2, none⟩ = some (.int .i64 (n : Int)) from fun W hb => ⟨(hb.cell (p := ⟨w.heap.size, 0, none⟩) (by show w.heap.size < _; omega)).trans c0, (hb.cell (p := ⟨w.heap.size, 2, none⟩) (by show w.heap.size < _; omega)).trans c2'⟩)
  go_upto_region 1 with fail
  go_cut [5] from 11 to 17 (fun v5 wx => Reg1 W1 n pile v5 wx)
  case first =>
    have b1 := Kept.mk (fun o => (below_box W1 o).drewN 1)
    have b2 := Kept.mk (fun o o2 => ((below_box W1 o).trans ((below_box (W1.alloc o) o2).mono (by simp))).drewN 1)
    go_region_held3 (fun W => W.cell? ⟨w.heap.size, 0, none⟩ = some (.slice A pile.length c) ∧ W.cell? ⟨w.heap.size, 2, none⟩ = some (.int .i64 (n : Int))) ((first | exact KA.out _ hbA | exact KA.out _ (b1.out _) | exact KA.out _ (b2.out _ _) | exact KA.out _ (hbA.alloc hbA.size _) | exact KA.out _ (((hbA.setCell (p := ⟨W1.heap.size, 0, none⟩) (Nat.le_refl _) _).setCell (p := ⟨W1.heap.size, 1, none⟩) (Nat.le_refl _) _).setCell (p := ⟨W1.heap.size, 2, none⟩) (Nat.le_refl _) _) | exact KA.out _ (((hbA.setCell (p := ⟨W1.heap.size + 1, 0, none⟩) (by simp) _).setCell (p := ⟨W1.heap.size + 1, 1, none⟩) (by simp) _).setCell (p := ⟨W1.heap.size + 1, 2, none⟩) (by simp) _) | go_keep)) (first
      | (refine step_of_wp rfl (wp_appI _ _ 28 rfl W1.heap.size 3 i0 (.int .i64 0) 8 Try.underlying28 hi0 hz0 hz1 hz2 rfl _ 0 [] rfl (own_empty (g := W1.heap.size) (heap_alloc_new W1 _) (by omega)) A pile c w.heap.size rfl (HP.out.below (hbw.trans ((b1.out _).mono hbw.size))) hn (by simp only [maxLen]; omega) (by omega) (by simp <;> omega) ?_); intro v1 wa own1 hg4; rw [Nat.zero_add, List.nil_append] at own1; have hbA : Below W1.heap.size W1 wa := (b1.out _).trans ((Below.refl W1.heap.size _).grown hg4 (by simp <;> omega) (by intro k hk; cases hk; first | exact Nat.le_refl _ | exact Nat.le_succ _)); obtain ⟨A3, c3, rfl⟩ := own_slice own1)
      | (refine step_of_wp rfl (wp_appI _ _ 28 rfl W1.heap.size 3 i0 (.int .i64 0) 8 Try.underlying28 hi0 hz0 hz1 hz2 rfl _ 0 [] rfl (own_empty (g := W1.heap.size) ((heap_alloc_old (W1.alloc _) _ (by simp)).trans (heap_alloc_new W1 _)) (by omega)) A pile c w.heap.size rfl (HP.out.below (hbw.trans ((b2.out _ _).mono hbw.size))) hn (by simp only [maxLen]; omega) (by omega) (by simp <;> omega) ?_); intro v1 wa own1 hg4; rw [Nat.zero_add, List.nil_append] at own1; have hbA : Below W1.heap.size W1 wa := (b2.out _ _).trans ((Below.refl W1.heap.size _).grown hg4 (by simp <;> omega) (by intro k hk; cases hk; first | exact Nat.le_refl _ | exact Nat.le_succ _)); have hbx : BX wa (W1.heap.size + 1) (.slice none 0 0) (.slice none 0 0) (.int .i64 0) := (hg4.block (W1.heap.size + 1) (by simp) (by show some (W1.heap.size + 1) ≠ some W1.heap.size; simp)).trans (BX.new (W1.alloc (.cells #[] 3)) (W1.heap.size + 1) (by simp) _ _ _); have x0 := hbx.c0; have x1 := hbx.c1; have x2 := hbx.c2; have xf := hbx.f; obtain ⟨A3, c3, rfl⟩ := own_slice own1)
      | (refine step_of_wp rfl (wp_appI _ _ 28 rfl W1.heap.size 3 i0 (.int .i64 0) 8 Try.underlying28 hi0 hz0 hz1 hz2 rfl _ 0 [] rfl (own_empty (g := W1.heap.size + 1) (by have := heap_alloc_new (W1.alloc (.cells #[.slice none 0 0, .slice none 0 0, .int .i64 0] 31)) (.cells #[] 3); rw [World.size_alloc] at this; exact this) (by omega)) A pile c w.heap.size rfl (HP.out.below (hbw.trans ((b2.out _ _).mono hbw.size))) hn (by simp only [maxLen]; omega) (by omega) (by simp <;> omega) ?_); intro v1 wa own1 hg4; rw [Nat.zero_add, List.nil_append] at own1; have hbA : Below W1.heap.size W1 wa := (b2.out _ _).trans ((Below.refl W1.heap.size _).grown hg4 (by simp <;> omega) (by intro k hk; cases hk; first | exact Nat.le_refl _ | exact Nat.le_succ _)); have hbx : BX wa W1.heap.size (.slice none 0 0) (.slice none 0 0) (.int .i64 0) := (hg4.block W1.heap.size (by simp <;> omega) (by show some W1.heap.size ≠ some (W1.heap.size + 1); simp)).trans ((heap_alloc_old (W1.alloc (.cells #[.slice none 0 0, .slice none 0 0, .int .i64 0] 31)) _ (by simp)).trans (BX.new W1 W1.heap.size rfl _ _ _)); have x0 := hbx.c0; have x1 := hbx.c1; have x2 := hbx.c2; have xf := hbx.f; obtain ⟨A3, c3, rfl⟩ := own_slice own1))
    · go_wp2_with fail
      go_meet
      exact ⟨wa.heap.size, A3, c3, rfl, hbA.size, BX.new wa _ rfl _ _ _, own1.alloc _, hbA.alloc hbA.size _⟩
    · go_wp2_with fail
      go_meet
      have hne := own_ne own1 hbx (by decide)
      exact ⟨W1.heap.size + 1, A3, c3, rfl, Nat.le_succ _, ((hbx.s0 _).s1 _).s2 _, ownsRow_setCell_other (ownsRow_setCell_other (ownsRow_setCell_other own1 (a := ⟨W1.heap.size + 1, 0, none⟩) hne _) (a := ⟨W1.heap.size + 1, 1, none⟩) hne _) (a := ⟨W1.heap.size + 1, 2, none⟩) hne _, ((hbA.setCell (p := ⟨W1.heap.size + 1, 0, none⟩) (Nat.le_succ _) _).setCell (p := ⟨W1.heap.size + 1, 1, none⟩) (Nat.le_succ _) _).setCell (p := ⟨W1.heap.size + 1, 2, none⟩) (Nat.le_succ _) _⟩
    · go_wp2_with fail
      go_meet
      have hne := own_ne own1 hbx (by decide)
      exact ⟨W1.heap.size, A3, c3, rfl, Nat.le_refl _, ((hbx.s0 _).s1 _).s2 _, ownsRow_setCell_other (ownsRow_setCell_other (ownsRow_setCell_other own1 (a := ⟨W1.heap.size, 0, none⟩) hne _) (a := ⟨W1.heap.size, 1, none⟩) hne _) (a := ⟨W1.heap.size, 2, none⟩) hne _, ((hbA.setCell (p := ⟨W1.heap.size, 0, none⟩) (Nat.le_refl _) _).setCell (p := ⟨W1.heap.size, 1, none⟩) (Nat.le_refl _) _).setCell (p := ⟨W1.heap.size, 2, none⟩) (Nat.le_refl _) _⟩
  case rest =>
    obtain ⟨d, A3, c3, rfl, hd, hbx, own1, hb1⟩ := hcut
    have c1' := (hb1.cell (p := ⟨w.heap.size, 1, none⟩) (by show w.heap.size < _; omega)).trans c1
    have hrx : BX wc (w.heap.size + 1) (.slice none 0 0) (.slice none 0 0) (.int .i64 0) := HR.out.kept (hb1.block _ (by omega))
    obtain ⟨j0, hj0, hj1, hj2, hj3⟩ := info_parts info_ints
    clear c0 c1 c2' KA
    go_wp2_with fail
    go_loopw [21] (fun t wr => ∃ (k : Nat) (vl : Value) (xs : List Value), k ≤ ls.length ∧ t = .int .i64 k ∧ BX wr d (.slice A3 pile.length c3) vl (.int .i64 (n : Int)) ∧ WO wr W1.heap.size (.slice A3 pile.length c3) vl pile xs ((ls.take k).map (flt i)) ∧ Below W1.heap.size W1 wr ∧ BX wr (w.heap.size + 1) (.slice none 0 0) (.slice none 0 0) (.int .i64 0)) (fun t _ => ls.length - (intOf t).toNat)
    case atStart =>
      exact ⟨0, _, [], by omega, rfl, hbx, ⟨own1, World.ownsRow_nil _ _ _ _, fun j v l h => by simp at h, fun j j' v v' g g' _ h => by simp at h, fun j v g g' h => by simp at h⟩, hb1, hrx⟩
    case round =>
      clear hbx own1 hb1 hrx c1'
      obtain ⟨k, vl, xs, hk, rfl, hbx, hwo, hb1, hrx⟩ := hrel
      have hbw1 := HB.out.trans (hb1.mono HB.out.size)
      by_cases hlt : k < ls.length
      · obtain ⟨b, off, rfl, _, _, hc⟩ := (HL.out.below hbw1) (by omega)
        obtain ⟨l, hl⟩ : ∃ l, ls[k]? = some l := ⟨_, List.getElem?_eq_getElem hlt⟩
        obtain ⟨B, cb, hcl, hri⟩ := hc k l hl
        have HRI := Kept.mk hri.ints
        have ll : (l.length : Int) ≤ 4096 := by have := HS.out.2 l (List.mem_of_getElem? hl); omega
        have ik : (k : Int) < (ls.length : Int) := by omega
        have HTK := Kept.mk (show (ls.take (k + 1)).map (flt i) = (ls.take k).map (flt i) ++ [flt i l] from by rw [List.take_add_one, hl]; simp)
        have HLn := Kept.mk (show ((ls.take k).map (flt i)).length = k from by simp; omega)
        have HW := Kept.mk hwo
        have HX := Kept.mk hbx
        have HRX := Kept.mk hrx
        have HB1 := Kept.mk hb1
        have hdw := hbx.lt
        clear hc hri hl hwo hbx hrx
        obtain ⟨wo, hwo⟩ : ∃ wo : World, wo = wr := ⟨_, rfl⟩
        subst hwo
        go_wp2_with fail
        go_loopw [8, 27] (fun m t w2 => ∃ (j : Nat) (v : Value), j ≤ l.length ∧ t = .int .i64 j ∧ m = v ∧ w2.ownsRow wo.heap.size 3 1 v (flt i (l.take j)).length ((flt i (l.take j)).map (Value.int .i64)) ∧ Below wo.heap.size wo w2) (fun _ t _ => l.length - (intOf t).toNat)
        case atStart => exact ⟨0, _, by omega, rfl, rfl, by simpa [flt] using World.ownsRow_nil _ _ _ _, Below.refl _ _⟩
        case round =>
          obtain ⟨j, v, hj, rfl, rfl, hown, hb2⟩ := hrel
          obtain ⟨A4, c4, rfl⟩ := own_slice hown
          have hsz2 := hb2.size
          by_cases hlt2 : j < l.length
          · obtain ⟨b2, off2, rfl, hbb, hc2⟩ := (HRI.out.below hb2) (by omega)
            obtain ⟨x, hx⟩ : ∃ x, l[j]? = some x := ⟨_, List.getElem?_eq_getElem hlt2⟩
            have hcx := hc2 j hlt2
            rw [hx, Option.getD_some] at hcx
            have hst : flt i (l.take (j + 1)) = flt i (l.take j) ++ if x ≠ i then [x] else [] := by
              unfold flt
              rw [List.take_add_one, hx, List.filter_append]
              congr 1
              by_cases h : x = i <;> simp [h]
            have ij : (j : Int) < (l.length : Int) := by omega
            have hfl : (flt i (l.take j)).length ≤ j := by
              have := List.length_filter_le (fun x => decide (x ≠ i)) (l.take j)
              simp only [List.length_take] at this
              unfold flt
              omega
            clear hc2 hx
            by_cases hxi : x = i
            · rw [if_neg (by simpa using hxi), List.append_nil] at hst
              have HST := Kept.mk hst
              have hx2 : (x != i) = false := by simp [hxi]
              clear hst hxi
              go_wp2
              go_roundw
              case rel => exact ⟨j + 1, _, by omega, by go_num, rfl, by rw [HST.out]; exact hown, hb2⟩
              case measure => simp [intOf]; omega
            · rw [if_pos hxi] at hst
              have HST := Kept.mk hst
              have hx2 : (x != i) = true := by simp [hxi]
              clear hst hxi
              go_wp2_with (at_builtin; refine wpList_append_own _ rfl _ _ 28 rfl wo.heap.size 3 i0 (.int .i64 0) 1 8 Try.underlying28 hi0 hz0 hz1 hz2 rfl (by decide) _ _ _ rfl (hown.alloc _) ⟨wr.heap.size, 0, none⟩ 1 1 [.int .i64 x] rfl rfl (cell_one_new _ _ _) (by simp [Value.oneCell']) (by simp only [maxLen]; omega) (by omega) (by simp; omega) ?_; intro v' w4 hown' hgrow _; have HB4 := below_grown (hb2.alloc hb2.size _) hgrow (hown.alloc _) (Nat.le_refl _) (by simp; omega))
              go_roundw
              case rel => exact ⟨j + 1, v', by omega, by go_num, rfl, by rw [HST.out, List.length_append, List.map_append]; exact hown', HB4⟩
              case measure => simp [intOf]; omega
          · have etk : l.take j = l := List.take_of_length_le (by omega)
            rw [etk] at hown ⊢
            clear etk
            have hx5 := HX.out.below hb2
            have hw5 := HW.out.below hb2
            obtain ⟨A5, c5, rfl⟩ := own_slice hw5.ol
            have hln := HLn.out
            have hxl := hw5.xl
            rw [hln] at hxl
            have ex0 := hx5.c0
            have ex1 := hx5.c1
            have ex2 := hx5.c2
            have exf := hx5.f
            rw [hln] at ex1
            have hwl := hw5.ol
            rw [hln] at hwl
            have HW5 := Kept.mk hw5
            have HX5 := Kept.mk hx5
            have hdl := hx5.lt
            have hdz : d ≠ wr.heap.size := by omega
            clear hln hx5 hw5
            go_wp2_with (at_builtin; refine wpList_append_own _ rfl _ _ 29 rfl W1.heap.size 28 j0 (.slice none 0 0) 1 24 Try.underlying29 hj0 hj1 hj2 hj3 rfl (by decide) _ k xs rfl (hwl.alloc _) ⟨wr.heap.size, 0, none⟩ 1 1 [.slice A4 (flt i l).length c4] rfl rfl (cell_one_new _ _ _) (by simp [Value.oneCell']) (by simp only [maxLen]; omega) (by omega) (by have := hb1.size; simp; omega) ?_; intro v' w4 hown' hgrow _; obtain ⟨A6, c6, rfl⟩ := own_slice hown'; have hg' := (World.grownBy_alloc wr (.cells #[.slice A4 (flt i l).length c4] 28) _).trans hgrow; have hx6 : BX w4 d (.slice A3 pile.length c3) (.slice A5 k c5) (.int .i64 (n : Int)) := (by have h := HX5.out; rw [HLn.out] at h; exact h.kept (hg'.block d hdl (fun e => own_ne hwl h (by decide) e.symm))); have y1 := hx6.c1; have yf := hx6.f)
            go_roundw
            case rel =>
              have hx7 := hx6.s1 (.slice A6 (k + 1) c6)
              have hb4 : Below W1.heap.size W1 w4 := below_grown (HB1.out.trans (hb2.mono HB1.out.size)) hg' hwl (Nat.le_refl _) (by have := HB1.out.size; omega)
              have hrr : BX w4 (w.heap.size + 1) (.slice none 0 0) (.slice none 0 0) (.int .i64 0) := HR.out.kept (hb4.block _ (by omega))
              refine ⟨k + 1, _, xs ++ [.slice A4 (flt i l).length c4], by omega, by go_num, hx7, ?_, hb4.setCell (p := ⟨d, 1, none⟩) hd _, hrr.kept (Below.heap_setCell _ _ _ _ (by show w.heap.size + 1 ≠ d; omega))⟩
              rw [HTK.out]
              have hw5 := HW5.out
              have hl5 := HLn.out
              refine WO.set (WO.snoc hw5 hown (by have := hb1.size; omega) (fun g hg => (HW.out.op.lt g hg).2) (fun j u g hu hg => HW.out.blt j u g hu hg) (by rw [hl5]; exact hown') (by rw [hl5]; exact hg')) hx6 (by decide) (by decide) _
            case measure => simp [intOf]; omega
      · have etk : ls.take k = ls := List.take_of_length_le (by omega)
        rw [etk] at hwo
        have ex0 := hbx.c0
        have ex1 := hbx.c1
        have ex2 := hbx.c2
        have exf := hbx.f
        have er0 := hrx.c0
        have er1 := hrx.c1
        have er2 := hrx.c2
        have erf := hrx.f
        have hdr : d ≠ w.heap.size + 1 := by omega
        have hrd : w.heap.size + 1 ≠ d := by omega
        have HW := Kept.mk hwo
        have HX := Kept.mk hbx
        have HRX := Kept.mk hrx
        obtain ⟨A5, c5, rfl⟩ := own_slice hwo.ol
        clear etk hwo hbx hrx
        go_wp2
        refine bodyPost_ret (results_cellP rfl _ _ (w.heap.size + 1) _ _ _ rfl (((HRX.out.s0 _).s1 _).s2 _)) rfl ?_
        refine ⟨_, _, xs, rfl, ?_, ?_⟩
        · have q0 := HW.out.mono (B' := w.heap.size) (by omega)
          rw [List.length_map] at q0
          have q1 := HRX.out
          exact ((q0.set q1 (by decide) (by decide) _).set (q1.s0 _) (by decide) (by decide) _).set ((q1.s0 _).s1 _) (by decide) (by decide) _
        · exact ((hbw1.setCell (p := ⟨w.heap.size + 1, 0, none⟩) (Nat.le_succ _) _).setCell (p := ⟨w.heap.size + 1, 1, none⟩) (Nat.le_succ _) _).setCell (p := ⟨w.heap.size + 1, 2, none⟩) (Nat.le_succ _) _
end Go.Proofs.Ytcchmkpodfjhcaa
