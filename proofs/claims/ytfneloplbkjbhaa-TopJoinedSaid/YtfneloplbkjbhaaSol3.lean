/-
  The walk of solve.Steps: a range over an iterator, its body appending, or returning early.
-/
import Derived.Test.YtfneloplbkjbhaaSol2
namespace Go.Proofs.Ytfneloplbkjbhaa
open Go.RowKit Go.Shelf
set_option linter.unusedVariables false
attribute [local go_sem] Oper.semAt_some

/-! ### plain -/
def run (b : Int) (xs : List Q4) (lim : Int) : Nat → Int → List Int → List Int × Int
  | 0, _, _ => ([], 11)
  | k + 1, w, out => if lim < w then ([], 11) else if roE b xs w ≠ 0 then ([], roE b xs w) else if roV b xs w = w then (out ++ [w], 0) else run b xs lim k (roV b xs w) (out ++ [w])
def stOk (b : Int) (xs : List Q4) (lim : Int) : Prop := ldsE xs = 0 ∧ 1 ≤ b ∧ b ≤ 4503599627370496 ∧ 0 ≤ lim ∧ lim ≤ 4503599627370496
def stE (b : Int) (xs : List Q4) (lim : Int) : Int := if ldsE xs ≠ 0 then 2 else if b < 1 ∨ 4503599627370496 < b ∨ lim < 0 ∨ 4503599627370496 < lim then 1 else (run b xs lim 4096 b []).2
def stL (b : Int) (xs : List Q4) (lim : Int) : List Int := if ldsE xs ≠ 0 then [] else if b < 1 ∨ 4503599627370496 < b ∨ lim < 0 ∨ 4503599627370496 < lim then [] else (run b xs lim 4096 b []).1
/-- What is made of what comes. -/
def cons (lim : Int) : List (Int × Int) → List Int → List Int × Int
  | [], out => (out, 0)
  | y :: r, out => if y.2 ≠ 0 then ([], y.2) else if lim < y.1 ∨ out.length = 4096 then ([], 11) else cons lim r (out ++ [y.1])
theorem cons_run (b : Int) (xs : List Q4) (lim : Int) : ∀ (f : Nat) (w : Int) (out : List Int), 4503599627370497 - w ≤ f → 0 ≤ w → w ≤ 4503599627370496 → (roE b xs w = 0 → w ≤ roV b xs w) → out.length ≤ 4096 → cons lim (chain b xs f w) out = run b xs lim (4096 - out.length) w out
  | 0, w, out, hf, _, h1, _, _ => by omega
  | f + 1, w, out, hf, h0, h1, hm, ho => by
    unfold chain cons
    rw [if_neg (by simp)]
    by_cases hl : out.length = 4096
    · rw [if_pos (.inr hl), hl]; rfl
    · obtain ⟨k, hk⟩ : ∃ k, 4096 - out.length = k + 1 := ⟨4095 - out.length, by omega⟩
      rw [hk]
      unfold run
      by_cases hw : lim < w
      · rw [if_pos (.inl hw), if_pos hw]
      · rw [if_neg (by simp; omega), if_neg hw]
        by_cases he : roE b xs w = 0
        · have he' : ¬ roE b xs w ≠ 0 := fun h => h he
          rw [if_neg he', if_neg he']
          by_cases hv : roV b xs w = w
          · rw [if_pos hv, if_pos hv]; rfl
          · rw [if_neg hv, if_neg hv]
            show cons lim (chain b xs f (roV b xs w)) (out ++ [w]) = _
            have hle := hm he
            have vb := roV_bd b xs w
            rw [cons_run b xs lim f (roV b xs w) (out ++ [w]) (by omega) vb.1 vb.2 (fun h => (ro_mono h0 hle h).2) (by simp; omega)]
            congr 1
            simp; omega
        · rw [if_pos he, if_pos he]
          unfold cons
          rw [if_pos he]
theorem cons_ok {lim : Int} {p : List (Int × Int)} {out : List Int} (h : ∀ r, cons lim (p ++ r) [] = cons lim r out) {w : Int} (hw : ¬ lim < w) (ho : ¬ out.length = 4096) (r : List (Int × Int)) : cons lim ((p ++ [(w, 0)]) ++ r) [] = cons lim r (out ++ [w]) := by
  rw [List.append_assoc, h]
  show cons lim ((w, 0) :: r) out = _
  rw [cons, if_neg (by simp), if_neg (by simp; omega)]
theorem cons_late {lim : Int} {p : List (Int × Int)} {out : List Int} (h : ∀ r, cons lim (p ++ r) [] = cons lim r out) {w : Int} (hw : lim < w ∨ out.length = 4096) (r : List (Int × Int)) : cons lim ((p ++ [(w, 0)]) ++ r) [] = ([], 11) := by
  rw [List.append_assoc, h]
  show cons lim ((w, 0) :: r) out = _
  rw [cons, if_neg (by simp), if_pos hw]
theorem cons_err {lim : Int} {p : List (Int × Int)} {out : List Int} (h : ∀ r, cons lim (p ++ r) [] = cons lim r out) {w e : Int} (he : e ≠ 0) (r : List (Int × Int)) : cons lim ((p ++ [(w, e)]) ++ r) [] = ([], e) := by
  rw [List.append_assoc, h]
  show cons lim ((w, e) :: r) out = _
  rw [cons, if_pos he]

theorem st_run {b : Int} {xs : List Q4} {lim : Int} (hE : ldsE xs = 0) (b1 : 1 ≤ b) (b2 : b ≤ 4503599627370496) (l1 : 0 ≤ lim) (l2 : lim ≤ 4503599627370496) {ys : List St} (hys : ys.map (·.1) = chain b xs (4503599627370497 - b).toNat b) :
    stL b xs lim = (cons lim (ys.map (·.1)) []).1 ∧ stE b xs lim = (cons lim (ys.map (·.1)) []).2 := by
  rw [hys, cons_run b xs lim _ b [] (by omega) (by omega) b2 (fun h => (ro_parts h).2.2.2.2.2.2.2.2.1) (by simp)]
  unfold stL stE
  rw [if_neg (by omega), if_neg (by omega), if_neg (by omega), if_neg (by omega)]
  exact ⟨rfl, rfl⟩

/-! ### worlds -/
theorem own_cells {W : World} {base : Nat} {e : TypeId} {sz k : Nat} {v : Value} {xs : List Value} (h : W.ownsRow base e sz v k xs) : ∀ (j : Nat) (o : Obj), v.ownBlock = some j → W.heap[j]? = some o → o.isCells = true := by
  intro j o hj ho
  rcases h.2 with ⟨rfl, _⟩ | ⟨g, cap, cur, rfl, _, hg, _⟩
  · simp [Value.ownBlock] at hj
  · simp only [Value.ownBlock, Option.some.injEq] at hj
    subst hj
    rw [hg] at ho
    cases ho
    rfl
theorem own_book {W W' : World} {base : Nat} {e : TypeId} {sz k : Nat} {v : Value} {xs : List Value} {row : Option Nat} (h : W.ownsRow base e sz v k xs) (hg : W.grownBy W' row) (hr : ∀ r, row = some r → ∃ o : Obj, W.heap[r]? = some o ∧ o.isCells = false) : W'.ownsRow base e sz v k xs := by
  refine h.kept hg ?_
  cases hv : v.ownBlock with
  | none => exact .inl rfl
  | some j =>
    right
    intro e
    obtain ⟨o, ho, hc⟩ := hr j e.symm
    rw [own_cells h j o hv ho] at hc
    cases hc
theorem set_own {W : World} {base b : Nat} {e : TypeId} {sz k : Nat} {v : Value} {xs : List Value} (h : W.ownsRow base e sz v k xs) (hb : b < base) (u : Value) : (W.setCell ⟨b, 0, none⟩ u).ownsRow base e sz v k xs := by
  refine h.kept (grownBy_setCell' W b u) ?_
  cases hv : v.ownBlock with
  | none => exact .inl rfl
  | some j => right; intro e; cases e; have := (h.lt _ hv).1; omega
theorem app_far {W W4 : World} {o : Obj} {base : Nat} {e : TypeId} {k : Nat} {xs : List Value} {v : Value} (hown : W.ownsRow base e 1 v k xs) (hg : (W.alloc o).grownBy W4 v.ownBlock) (hb : base ≤ W.heap.size) (p : Addr) (hp : p.block < base) : W4.cell? p = W.cell? p ∧ W4.frozen? p = W.frozen? p := by
  have hne : some p.block ≠ v.ownBlock := fun h => by have := (hown.lt p.block h.symm).1; omega
  have hg' : W.grownBy W4 v.ownBlock := (World.grownBy_alloc W o _).trans hg
  exact ⟨hg'.cell_far p (by omega) hne, hg'.frozen_far p (by omega) hne⟩
theorem app_step {W W4 : World} {o : Obj} {base N1 B : Nat} {e : TypeId} {k k' : Nat} {xs xs' : List Value} {v v' : Value} (hown : W.ownsRow base e 1 v k xs) (hown4 : W4.ownsRow base e 1 v' k' xs') (hg : (W.alloc o).grownBy W4 v.ownBlock) (hN : N1 < base) (hb : base ≤ W.heap.size) (hB : B ≤ N1) {u0 : Value} (hq : W.cell? ⟨N1, 0, none⟩ = some u0) :
    KeepsOthers W (W4.setCell ⟨N1, 0, none⟩ v') ∧ Below B W (W4.setCell ⟨N1, 0, none⟩ v') ∧ (W4.setCell ⟨N1, 0, none⟩ v').ownsRow base e 1 v' k' xs' ∧ (∀ (p : Addr) u, p.block < base → p ≠ ⟨N1, 0, none⟩ → W.cell? p = some u → (W4.setCell ⟨N1, 0, none⟩ v').cell? p = some u) ∧
      (∀ p : Addr, p.block < base → (W4.setCell ⟨N1, 0, none⟩ v').frozen? p = W.frozen? p) ∧ (W4.setCell ⟨N1, 0, none⟩ v').cell? ⟨N1, 0, none⟩ = some v' ∧ base ≤ (W4.setCell ⟨N1, 0, none⟩ v').heap.size := by
  have hne : ∀ p : Addr, p.block < base → some p.block ≠ v.ownBlock := fun p hp h => by have := (hown.lt p.block h.symm).1; omega
  have hg' : W.grownBy W4 v.ownBlock := (World.grownBy_alloc W o _).trans hg
  have hc4 : ∀ p : Addr, p.block < base → W4.cell? p = W.cell? p := fun p hp => hg'.cell_far p (by omega) (hne p hp)
  have hf4 : ∀ p : Addr, p.block < base → W4.frozen? p = W.frozen? p := fun p hp => hg'.frozen_far p (by omega) (hne p hp)
  refine ⟨(KeepsOthers.of_grownBy hg' (own_cells hown)).trans (KeepsOthers.setCell _ _ _), ?_, ?_, ?_, ?_, ?_, ?_⟩
  · exact (below_grown (Below.refl B W) hg' hown (by omega) (by omega)).setCell (p := ⟨N1, 0, none⟩) hB _
  · refine hown4.kept (grownBy_setCell' W4 N1 v') ?_
    cases hv : v'.ownBlock with
    | none => exact .inl rfl
    | some j => right; intro e; cases e; have := (hown4.lt _ hv).1; omega
  · intro p u hp hpq hu
    rw [World.cell?_setCell_other _ _ _ _ (by first | exact hpq | exact fun h => hpq h.symm), hc4 p hp]
    exact hu
  · intro p hp
    rw [World.frozen?_setCell]
    exact hf4 p hp
  · exact World.cell?_setCell_same' _ _ _ (by rw [hc4 ⟨N1, 0, none⟩ hN, hq]; rfl)
  · have := hg'.size
    simp
    omega

theorem three_box {w w1 : World} {v0 v1 v2 : Value} {t0 t1 t2 : TypeId} (hb : Below (((w.alloc (.cells #[v0] t0)).alloc (.cells #[v1] t1)).alloc (.cells #[v2] t2)).heap.size (((w.alloc (.cells #[v0] t0)).alloc (.cells #[v1] t1)).alloc (.cells #[v2] t2)) w1) :
    w1.cell? ⟨w.heap.size, 0, none⟩ = some v0 ∧ w1.cell? ⟨w.heap.size + 1, 0, none⟩ = some v1 ∧ w1.frozen? ⟨w.heap.size + 1, 0, none⟩ = false ∧ w1.cell? ⟨w.heap.size + 1 + 1, 0, none⟩ = some v2 ∧ w1.frozen? ⟨w.heap.size + 1 + 1, 0, none⟩ = false ∧ w.heap.size + 3 ≤ w1.heap.size ∧ Below w.heap.size w w1 := by
  have h1 : Below ((w.alloc (.cells #[v0] t0)).alloc (.cells #[v1] t1)).heap.size ((w.alloc (.cells #[v0] t0)).alloc (.cells #[v1] t1)) w1 := hb.box (Nat.le_refl _)
  have h0 : Below (w.alloc (.cells #[v0] t0)).heap.size (w.alloc (.cells #[v0] t0)) w1 := h1.box (Nat.le_refl _)
  have c0 := box_cell h0 0 v0 rfl
  have c1 := box_cell h1 0 v1 rfl
  have f1 := box_free h1 0
  have c2 := box_cell hb 0 v2 rfl
  have f2 := box_free hb 0
  have e : (w.alloc (.cells #[v0] t0)).heap.size = w.heap.size + 1 := by simp
  have e2 : ((w.alloc (.cells #[v0] t0)).alloc (.cells #[v1] t1)).heap.size = w.heap.size + 1 + 1 := by simp
  rw [e] at c1 f1
  rw [e2] at c2 f2
  exact ⟨c0, c1, f1, c2, f2, by have := hb.size; simp at this; omega, h0.box (Nat.le_refl _)⟩

set_option maxRecDepth 100000 in
set_option maxHeartbeats 2000000 in
theorem sts_any (b : Int) (A : Option Addr) (xs : List Q4) (cap : Nat) (lim : Int) (w : World) (h : R4 w w.heap.size A xs) (hl : xs.length ≤ 9223372036854775807) :
    Calls Try.prog 17 #[.int .i64 b, .slice A xs.length cap, .int .i64 lim] w (IntsRes w (stL b xs lim) (stE b xs lim)) := by
  by_cases hE : ldsE xs = 0
  · by_cases hwd : b < 1 ∨ 4503599627370496 < b ∨ lim < 0 ∨ 4503599627370496 < lim
    · have A1 := Lib.hid (show stL b xs lim = [] by unfold stL; rw [if_neg (by omega), if_pos hwd])
      have A2 := Lib.hid (show stE b xs lim = 1 by unfold stE; rw [if_neg (by omega), if_pos hwd])
      refine (callsIn_wide (n := 4)).1 ?_
      refine callsIn_of_wp_marks Try.func17 rfl trivial ?_ rfl
      simp only [Try.ntmps17, List.size_toArray, List.length_cons, List.length_nil, Nat.reduceAdd, Nat.reduceSub, Array.replicate_succ, Array.replicate_zero, List.push_toArray, List.append_toArray, List.nil_append, List.cons_append]
      gi_wp2_with fail
      refine ⟨trivial, ?_⟩
      refine (callsIn_wide.2 (dcheck_any A xs _ _ ((h.below ((((Below.refl _ w).alloc (Nat.le_refl _) _).alloc (by simp) _).alloc (by simp; omega) _)).mono (by simp; omega)) hl)).mono ?_
      rintro e w1 ⟨rfl, hb⟩
      obtain ⟨c0, c1, f1, c2, f2, hsz, hbw⟩ := three_box hb
      clear hb
      gi_wp2
      all_goals first | (exfalso; omega) | skip
      all_goals
        refine ⟨.tuple #[.slice none 0 0, .int .i64 1], ?_, ?_⟩
        · have r0 := set2_first (b := w.heap.size + 1) (b' := w.heap.size + 1 + 1) (by omega) c1 (.slice none 0 0) (.int .i64 1)
          have r1 := set2_second (b := w.heap.size + 1) (b' := w.heap.size + 1 + 1) (by omega) c2 (.slice none 0 0) (.int .i64 1)
          simp [results, Try.f17, go_sem, r0, r1]
        · rw [A1.out, A2.out]
          exact IntsRes.nil rfl ((hbw.setCell (p := ⟨w.heap.size + 1, 0, none⟩) (by simp) _).setCell (p := ⟨w.heap.size + 1 + 1, 0, none⟩) (by simp; omega) _)
    · have b1 : 1 ≤ b := by omega
      have b2 : b ≤ 4503599627370496 := by omega
      have l1 : 0 ≤ lim := by omega
      have l2 : lim ≤ 4503599627370496 := by omega
      refine (callsIn_wide (n := 4)).1 ?_
      refine callsIn_of_wp_marks Try.func17 rfl trivial ?_ rfl
      simp only [Try.ntmps17, List.size_toArray, List.length_cons, List.length_nil, Nat.reduceAdd, Nat.reduceSub, Array.replicate_succ, Array.replicate_zero, List.push_toArray, List.append_toArray, List.nil_append, List.cons_append]
      gi_wp2_with fail
      refine ⟨trivial, ?_⟩
      refine (callsIn_wide.2 (dcheck_any A xs _ _ ((h.below ((((Below.refl _ w).alloc (Nat.le_refl _) _).alloc (by simp) _).alloc (by simp; omega) _)).mono (by simp; omega)) hl)).mono ?_
      rintro e w1 ⟨rfl, hb⟩
      obtain ⟨c0, c1, f1, c2, f2, hsz, hbw⟩ := three_box hb
      clear hb
      gi_wp2_with fail
      refine ⟨trivial, ?_⟩
      refine (callsIn_wide.2 (steps_any _ A _ _ _)).mono ?_
      rintro e w2 ⟨rfl, rfl⟩
      gi_wp2_with fail
      obtain ⟨ys, hys⟩ := sts_of (chain b xs (4503599627370497 - b).toNat b) (chain_bd b xs _ b (by omega) b2)
      obtain ⟨W2, hW2⟩ : ∃ W2, ((w1.alloc (.cells #[.slice none 0 0] 66)).alloc (.cells #[.int .i64 b] 2)).alloc (.cells #[.slice A xs.length cap] 47) = W2 := ⟨_, rfl⟩
      obtain ⟨s0, b1c, _, b2c, _, _, hst1⟩ := three_box (w := w1) (w1 := W2) (v0 := .slice none 0 0) (v1 := .int .i64 b) (v2 := .slice A xs.length cap) (t0 := 66) (t1 := 2) (t2 := 47) (by rw [hW2]; exact Below.refl _ _)
      have sf : W2.frozen? ⟨w1.heap.size, 0, none⟩ = false := by
        have hst : Below (w1.alloc (.cells #[.slice none 0 0] 66)).heap.size (w1.alloc (.cells #[.slice none 0 0] 66)) W2 := by rw [← hW2]; exact ((Below.refl _ _).alloc (Nat.le_refl _) _).alloc (by simp) _
        exact box_free hst 0
      have z2 : W2.heap.size = w1.heap.size + 3 := by rw [← hW2]; simp
      replace c0 := (hst1.cell (p := ⟨w.heap.size, 0, none⟩) (by show w.heap.size < _; omega)).trans c0
      replace c1 := (hst1.cell (p := ⟨w.heap.size + 1, 0, none⟩) (by show w.heap.size + 1 < _; omega)).trans c1
      replace f1 := (hst1.frozen (p := ⟨w.heap.size + 1, 0, none⟩) (by show w.heap.size + 1 < _; omega)).trans f1
      replace c2 := (hst1.cell (p := ⟨w.heap.size + 1 + 1, 0, none⟩) (by show w.heap.size + 1 + 1 < _; omega)).trans c2
      replace f2 := (hst1.frozen (p := ⟨w.heap.size + 1 + 1, 0, none⟩) (by show w.heap.size + 1 + 1 < _; omega)).trans f2
      have hb2 := hbw.trans (hst1.mono (by omega))
      rw [hW2]
      clear hst1 hbw hW2
      have HYS := Lib.hid hys
      have HE := Lib.hid hE
      have HST := Lib.hid (st_run hE b1 b2 l1 l2 hys)
      clear hys hE hwd
      obtain ⟨i0, hi, hz0, hz1, hz2⟩ := info_parts info_i64
      refine wpIn_rangeFunc_ownF rfl (by omega) (gf := 39) (lb := #[.pointer (some ⟨w1.heap.size + 1, 0, none⟩), .pointer (some ⟨w1.heap.size + 1 + 1, 0, none⟩)]) rfl trivial (enters_of Try.func39 (by kernel_rfl) rfl)
        (stp_stops (4 - 1) (by omega) (w1.heap.size + 1) (w1.heap.size + 1 + 1) w.heap.size A xs cap b ys _ HYS.out (by omega) b1 b2 hl W2 b1c b2c (by omega) (by omega) (h.below hb2) (by omega))
        KpD.trans (KpD.book (by omega)) (Below.refl _ _) (fun _ => rfl)
        (fun pre W => (∃ (out : List Int) (v : Value), Hid (∀ r, cons lim (pre.map (·.1) ++ r) [] = cons lim r out) ∧ out.length ≤ 4096 ∧ W.ownsRow (w1.heap.size + 3) 2 1 v out.length (out.map (Value.int .i64)) ∧ w1.heap.size + 3 ≤ W.heap.size ∧ W.cell? ⟨w1.heap.size, 0, none⟩ = some v ∧ W.frozen? ⟨w1.heap.size, 0, none⟩ = false ∧
          W.cell? ⟨w.heap.size, 0, none⟩ = some (.int .i64 lim) ∧ W.cell? ⟨w.heap.size + 1, 0, none⟩ = some (.slice none 0 0) ∧ W.frozen? ⟨w.heap.size + 1, 0, none⟩ = false ∧ W.cell? ⟨w.heap.size + 1 + 1, 0, none⟩ = some (.int .i64 0) ∧ W.frozen? ⟨w.heap.size + 1 + 1, 0, none⟩ = false) ∧ Below w.heap.size w W)
        (fun c pre W => (c = .ret ∧ ∃ E, Hid (∀ r, cons lim (pre.map (·.1) ++ r) [] = ([], E)) ∧ W.cell? ⟨w.heap.size + 1, 0, none⟩ = some (.slice none 0 0) ∧ W.cell? ⟨w.heap.size + 1 + 1, 0, none⟩ = some (.int .i64 E)) ∧ Below w.heap.size w W)
        (OwnFrom.and (Own.from (fun s A B row hs hg hr => by
          obtain ⟨out, v, g1, g2, g3, g4, g5, g6, g7, g8, g9, g10, g11⟩ := hs
          exact ⟨out, v, g1, g2, own_book g3 hg hr, Nat.le_trans g4 hg.size, cell_kept g5 hg hr, (frozen_kept g5 hg hr).trans g6, cell_kept g7 hg hr, cell_kept g8 hg hr, (frozen_kept g8 hg hr).trans g9, cell_kept g10 hg hr, (frozen_kept g10 hg hr).trans g11⟩) _) (ownFrom_below (Nat.le_refl _) (by omega)))
        (fun c => OwnFrom.and (Own.from (fun s A B row hs hg hr => by
          obtain ⟨g0, E, g1, g2, g3⟩ := hs
          exact ⟨g0, E, g1, cell_kept g2 hg hr, cell_kept g3 hg hr⟩) _) (ownFrom_below (Nat.le_refl _) (by omega)))
        ⟨⟨[], _, fun _ => rfl, by simp, World.ownsRow_nil _ _ _ _, by omega, s0, sf, c0, c1, f1, c2, f2⟩, hb2⟩
        (fun x => { tmps := #[.int .i64 b, .slice A xs.length cap, .int .i64 lim, undef, undef, .pointer (some ⟨w.heap.size, 0, none⟩), .pointer (some ⟨w.heap.size + 1, 0, none⟩), .pointer (some ⟨w.heap.size + 1 + 1, 0, none⟩), .int .i64 0, .pointer (some ⟨w1.heap.size, 0, none⟩), .int .i64 x.1.1, .int .i64 x.1.2,
          .slice A xs.length cap, .int .i64 0, .int .i64 0, .bool false, undef, .int .i64 b, .bool (decide (b < 1)), .bool (decide (b < 1)), .int .i64 b, .bool (decide (4503599627370496 < b)), .bool (decide (b < 1) || decide (4503599627370496 < b)), .bool (decide (b < 1) || decide (4503599627370496 < b)), .int .i64 lim,
          .bool (decide (lim < 0)), .bool (decide (b < 1) || decide (4503599627370496 < b) || decide (lim < 0)), .bool (decide (b < 1) || decide (4503599627370496 < b) || decide (lim < 0)), .int .i64 lim, .bool (decide (4503599627370496 < lim)),
          .bool (decide (b < 1) || decide (4503599627370496 < b) || decide (lim < 0) || decide (4503599627370496 < lim)), .int .i64 b, .slice A xs.length cap, .func (.func 39) #[] #[.pointer (some ⟨w1.heap.size + 1, 0, none⟩), .pointer (some ⟨w1.heap.size + 1 + 1, 0, none⟩)],
          .int .i64 x.1.1, .int .i64 x.1.2, undef, undef, undef, undef, undef, undef, undef, undef, undef, undef, undef, undef, undef, undef, undef, undef, undef, undef], defers := [] }) ?assign ?body ?done ?stop
      case assign =>
        intro l x W K hK
        gi_wp2
        exact hK
      case body =>
        rintro l pre ⟨⟨n, e⟩, hx⟩ W ⟨⟨out, v, hs, ho, hown, hsW, d0, d1, d2, d3, d4, d5, d6⟩, hbW⟩ _
        obtain ⟨x1, x2, x3, x4⟩ := hx
        simp only at x1 x2 x3 x4
        have hmap : (pre ++ [(⟨(n, e), ⟨x1, x2, x3, x4⟩⟩ : St)]).map (·.1) = pre.map (·.1) ++ [(n, e)] := by simp
        obtain ⟨A0, cp, rfl⟩ := own_slice hown
        have hset : Below w.heap.size w ((W.setCell ⟨w.heap.size + 1, 0, none⟩ (.slice none 0 0)).setCell ⟨w.heap.size + 1 + 1, 0, none⟩ (.int .i64 e)) := (hbW.setCell (p := ⟨w.heap.size + 1, 0, none⟩) (by simp) _).setCell (p := ⟨w.heap.size + 1 + 1, 0, none⟩) (by simp; omega) _
        by_cases he : e = 0
        · subst he
          by_cases hw : lim < n
          · have HS := Lib.hid (cons_late hs.out (w := n) (.inl hw))
            rw [← hmap] at HS
            clear hs hmap hset
            gi_wp2
            exact ⟨(KeepsOthers.setCell _ _ _).trans (KeepsOthers.setCell _ _ _), ⟨rfl, 11, HS, set2_first (by omega) d3 _ _, set2_second (by omega) d5 _ _⟩, (hbW.setCell (p := ⟨w.heap.size + 1, 0, none⟩) (by simp) _).setCell (p := ⟨w.heap.size + 1 + 1, 0, none⟩) (by simp; omega) _⟩
          · by_cases hk : out.length = 4096
            · have HS := Lib.hid (cons_late hs.out (w := n) (.inr hk))
              rw [← hmap] at HS
              have hk' : (out.length : Int) = 4096 := by omega
              clear hs hmap hset
              gi_wp2
              exact ⟨(KeepsOthers.setCell _ _ _).trans (KeepsOthers.setCell _ _ _), ⟨rfl, 11, HS, set2_first (by omega) d3 _ _, set2_second (by omega) d5 _ _⟩, (hbW.setCell (p := ⟨w.heap.size + 1, 0, none⟩) (by simp) _).setCell (p := ⟨w.heap.size + 1 + 1, 0, none⟩) (by simp; omega) _⟩
            · have HS := Lib.hid (cons_ok hs.out (w := n) hw hk)
              rw [← hmap] at HS
              have hk' : ¬ (out.length : Int) = 4096 := by omega
              clear hs hmap hset
              gi_wp2_with ((gi_at_builtin; refine wpListIn_append_own _ rfl _ _ 66 rfl (w1.heap.size + 3) 2 i0 (.int .i64 0) 1 8 Try.underlying66 hi hz0 hz1 hz2 rfl (by decide) _ _ _ rfl (hown.alloc _) ⟨W.heap.size, 0, none⟩ 1 1 [.int .i64 n] rfl rfl (cell_one_new _ _ _) (by simp [Value.oneCell']) (by simp only [maxLen]; omega) (by omega) (by simp; omega) ?_; intro v' w4 hown' hgrow _; obtain ⟨A4, cp4, rfl⟩ := own_slice hown'; have q4 := (app_far hown hgrow hsW ⟨w1.heap.size, 0, none⟩ (by show w1.heap.size < _; omega)).1.trans d0; have f4 := (app_far hown hgrow hsW ⟨w1.heap.size, 0, none⟩ (by show w1.heap.size < _; omega)).2.trans d1))
              obtain ⟨k1, k2, k3, k4, k5, k6, k7⟩ := app_step (B := w.heap.size) hown hown' hgrow (by omega) hsW (by omega) d0
              exact ⟨k1, ⟨k2, fun u hu => k4 _ u (by show w1.heap.size + 1 < _; omega) (by simp) hu, fun u hu => k4 _ u (by show w1.heap.size + 1 + 1 < _; omega) (by simp) hu⟩,
                ⟨out ++ [n], HS, by simp; omega, _, by rw [List.length_append, List.map_append]; exact k3, k7, k6, (k5 _ (by show w1.heap.size < _; omega)).trans d1,
                  k4 _ _ (by show w.heap.size < _; omega) (by simp <;> omega) d2, k4 _ _ (by show w.heap.size + 1 < _; omega) (by simp <;> omega) d3, (k5 _ (by show w.heap.size + 1 < _; omega)).trans d4,
                  k4 _ _ (by show w.heap.size + 1 + 1 < _; omega) (by simp <;> omega) d5, (k5 _ (by show w.heap.size + 1 + 1 < _; omega)).trans d6⟩, hbW.trans k2⟩
        · have HS := Lib.hid (cons_err hs.out (w := n) he)
          rw [← hmap] at HS
          clear hs hmap
          gi_wp2
          exact ⟨(KeepsOthers.setCell _ _ _).trans (KeepsOthers.setCell _ _ _), ⟨rfl, e, HS, set2_first (by omega) d3 _ _, set2_second (by omega) d5 _ _⟩, hset⟩
      case done =>
        rintro D l W hD rfl ⟨⟨out, v, hs, ho, hown, hsW, d0, d1, d2, d3, d4, d5, d6⟩, hbW⟩ hK
        obtain ⟨A0, cp, rfl⟩ := own_slice hown
        have hr := hs.out []
        rw [List.append_nil] at hr
        obtain ⟨e1, e2⟩ := HST.out
        rw [hr] at e1 e2
        have A1 := Lib.hid (show stL b xs lim = out from e1)
        have A2 := Lib.hid (show stE b xs lim = 0 from e2)
        clear e1 e2 hr hs HST HYS
        gi_wp2
        have hK2 := ((KeepsOthers.setCell W ⟨w.heap.size + 1, 0, none⟩ (.slice A0 out.length cp)).trans (KeepsOthers.setCell _ ⟨w.heap.size + 1 + 1, 0, none⟩ (.int .i64 0))).same D _ hK rfl
        refine ⟨by simp, .inl ⟨_, _, rfl, run_takeDeferred hK2, ?_⟩⟩
        have r0 := cell_kept (set2_first (b := w.heap.size + 1) (b' := w.heap.size + 1 + 1) (by omega) d3 (.slice A0 out.length cp) (.int .i64 0)) (grownBy_putObj' _ D (.deferred none)) (fun r e => by cases e; exact ⟨_, hK2, rfl⟩)
        have r1 := cell_kept (set2_second (b := w.heap.size + 1) (b' := w.heap.size + 1 + 1) (by omega) d5 (.slice A0 out.length cp) (.int .i64 0)) (grownBy_putObj' _ D (.deferred none)) (fun r e => by cases e; exact ⟨_, hK2, rfl⟩)
        have own1 := set_own hown (b := w.heap.size + 1) (by omega) (.slice A0 out.length cp)
        have own2 := set_own own1 (b := w.heap.size + 1 + 1) (by omega) (.int .i64 0)
        have own3 := own_book own2 (grownBy_putObj' _ D (.deferred none)) (fun r e => by cases e; exact ⟨_, hK2, rfl⟩)
        refine ⟨.tuple #[.slice A0 out.length cp, .int .i64 0], ?_, ?_⟩
        · simp [results, Try.f17, go_sem, r0, r1]
        · rw [A1.out, A2.out]
          exact IntsRes.own rfl own3 (((hbW.setCell (p := ⟨w.heap.size + 1, 0, none⟩) (by simp) _).setCell (p := ⟨w.heap.size + 1 + 1, 0, none⟩) (by simp; omega) _).trans (belowK_b (w := W2) (by omega) _ D _ _ hD hK2 rfl rfl))
      case stop =>
        rintro D c pre W hD hpre ⟨⟨rfl, E, hs, d0, d1⟩, hbW⟩ hK
        obtain ⟨rest, hrest⟩ := hpre
        have hr := hs.out (rest.map (·.1))
        rw [← List.map_append, hrest] at hr
        obtain ⟨e1, e2⟩ := HST.out
        rw [hr] at e1 e2
        have A1 := Lib.hid (show stL b xs lim = [] from e1)
        have A2 := Lib.hid (show stE b xs lim = E from e2)
        clear e1 e2 hr hs HST HYS hrest
        gi_wp2
        refine ⟨by simp, .inl ⟨_, _, rfl, run_takeDeferred hK, ?_⟩⟩
        have r0 := cell_kept d0 (grownBy_putObj' _ D (.deferred none)) (fun r e => by cases e; exact ⟨_, hK, rfl⟩)
        have r1 := cell_kept d1 (grownBy_putObj' _ D (.deferred none)) (fun r e => by cases e; exact ⟨_, hK, rfl⟩)
        refine ⟨.tuple #[.slice none 0 0, .int .i64 E], ?_, ?_⟩
        · simp [results, Try.f17, go_sem, r0, r1]
        · rw [A1.out, A2.out]
          exact IntsRes.nil rfl (hbW.trans (belowK_b (w := W2) (by omega) _ D _ _ hD hK rfl rfl))
  · have hE2 : ldsE xs = 2 := lds_two hE
    have A1 := Lib.hid (show stL b xs lim = [] by unfold stL; rw [if_pos hE])
    have A2 := Lib.hid (show stE b xs lim = 2 by unfold stE; rw [if_pos hE])
    clear hE
    refine (callsIn_wide (n := 4)).1 ?_
    refine callsIn_of_wp_marks Try.func17 rfl trivial ?_ rfl
    simp only [Try.ntmps17, List.size_toArray, List.length_cons, List.length_nil, Nat.reduceAdd, Nat.reduceSub, Array.replicate_succ, Array.replicate_zero, List.push_toArray, List.append_toArray, List.nil_append, List.cons_append]
    gi_wp2_with fail
    refine ⟨trivial, ?_⟩
    refine (callsIn_wide.2 (dcheck_any A xs _ _ ((h.below ((((Below.refl _ w).alloc (Nat.le_refl _) _).alloc (by simp) _).alloc (by simp; omega) _)).mono (by simp; omega)) hl)).mono ?_
    rintro e w1 ⟨rfl, hb⟩
    obtain ⟨c0, c1, f1, c2, f2, hsz, hbw⟩ := three_box hb
    clear hb
    gi_wp2
    all_goals
      refine ⟨.tuple #[.slice none 0 0, .int .i64 2], ?_, ?_⟩
      · have r0 := set2_first (b := w.heap.size + 1) (b' := w.heap.size + 1 + 1) (by omega) c1 (.slice none 0 0) (.int .i64 2)
        have r1 := set2_second (b := w.heap.size + 1) (b' := w.heap.size + 1 + 1) (by omega) c2 (.slice none 0 0) (.int .i64 2)
        simp [results, Try.f17, go_sem, r0, r1]
      · rw [A1.out, A2.out]
        exact IntsRes.nil rfl ((hbw.setCell (p := ⟨w.heap.size + 1, 0, none⟩) (by simp) _).setCell (p := ⟨w.heap.size + 1 + 1, 0, none⟩) (by simp; omega) _)
end Go.Proofs.Ytfneloplbkjbhaa
