/-
  The walk of demand.All: a range over an iterator, its body returning early where the sum would go too far.
-/
import Derived.Test.YtfneloplbkjbhaaDem2
import Derived.Test.YtfneloplbkjbhaaDem3
namespace Go.Proofs.Ytfneloplbkjbhaa
open Go.RowKit Go.Shelf
set_option linter.unusedVariables false
attribute [local go_sem] Oper.semAt_some

/-- Two boxes of one cell each, and what lies behind. -/
theorem two_box {w w1 : World} {v0 v1 : Value} {t0 t1 : TypeId} (hb : Below ((w.alloc (.cells #[v0] t0)).alloc (.cells #[v1] t1)).heap.size ((w.alloc (.cells #[v0] t0)).alloc (.cells #[v1] t1)) w1) :
    w1.cell? ⟨w.heap.size, 0, none⟩ = some v0 ∧ w1.frozen? ⟨w.heap.size, 0, none⟩ = false ∧ w1.cell? ⟨w.heap.size + 1, 0, none⟩ = some v1 ∧ w1.frozen? ⟨w.heap.size + 1, 0, none⟩ = false ∧ w.heap.size + 2 ≤ w1.heap.size ∧ Below w.heap.size w w1 := by
  have h0 : Below (w.alloc (.cells #[v0] t0)).heap.size (w.alloc (.cells #[v0] t0)) w1 := hb.box (Nat.le_refl _)
  have c0 := box_cell h0 0 v0 rfl
  have f0 := box_free h0 0
  have c1 := box_cell hb 0 v1 rfl
  have f1 := box_free hb 0
  have e : (w.alloc (.cells #[v0] t0)).heap.size = w.heap.size + 1 := by simp
  rw [e] at c1 f1
  exact ⟨c0, f0, c1, f1, by have := hb.size; simp at this; omega, h0.box (Nat.le_refl _)⟩

theorem set2_first {W : World} {b b' : Nat} {u : Value} (hb : b ≠ b') (h : W.cell? ⟨b, 0, none⟩ = some u) (v v' : Value) : ((W.setCell ⟨b, 0, none⟩ v).setCell ⟨b', 0, none⟩ v').cell? ⟨b, 0, none⟩ = some v := by
  rw [World.cell?_setCell_other _ _ _ _ (by simp <;> omega)]
  exact World.cell?_setCell_same' _ _ _ (by rw [h]; rfl)
theorem set2_second {W : World} {b b' : Nat} {u : Value} (hb : b ≠ b') (h : W.cell? ⟨b', 0, none⟩ = some u) (v v' : Value) : ((W.setCell ⟨b, 0, none⟩ v).setCell ⟨b', 0, none⟩ v').cell? ⟨b', 0, none⟩ = some v' :=
  World.cell?_setCell_same' _ _ _ (by rw [World.cell?_setCell_other _ _ _ _ (by simp <;> omega), h]; rfl)

set_option maxRecDepth 100000 in
set_option maxHeartbeats 2000000 in
theorem all_any (A : Option Addr) (xs : List Q4) (cap : Nat) (wd : Int) (w : World) (h : R4 w w.heap.size A xs) (hl : xs.length ≤ 9223372036854775807) :
    Calls Try.prog 46 #[.slice A xs.length cap, .int .i64 wd] w fun e w' => e = .returned (.tuple #[.int .i64 (alV xs wd), .int .i64 (alE xs wd)]) ∧ Below w.heap.size w w' := by
  by_cases hE : ldsE xs = 0
  · by_cases hwd : 0 ≤ wd ∧ wd ≤ 4503599627370496
    · obtain ⟨wd0, wd1⟩ := hwd
      have hE1 := Lib.hid hE
      refine (callsIn_wide (n := 4)).1 ?_
      refine callsIn_of_wp_marks Try.func46 rfl trivial ?_ rfl
      simp only [Try.ntmps46, List.size_toArray, List.length_cons, List.length_nil, Nat.reduceAdd, Nat.reduceSub, Array.replicate_succ, Array.replicate_zero, List.push_toArray, List.append_toArray, List.nil_append, List.cons_append]
      gi_wp2_with fail
      refine ⟨trivial, ?_⟩
      refine (callsIn_wide.2 (dcheck_any A xs _ _ ((h.below (((Below.refl _ w).alloc (Nat.le_refl _) _).alloc (by simp) _)).mono (by simp; omega)) hl)).mono ?_
      rintro e w1 ⟨rfl, hb⟩
      obtain ⟨c0, f0, c1, f1, hsz, hbw⟩ := two_box hb
      clear hb
      gi_wp2_with fail
      refine ⟨trivial, ?_⟩
      refine (callsIn_wide.2 (arrivals_any A _ _ _ _)).mono ?_
      rintro e w2 ⟨rfl, rfl⟩
      gi_wp2_with fail
      obtain ⟨ys, hys⟩ := aps_of hE wd
      obtain ⟨W2, hW2⟩ : ∃ W2, ((w1.alloc (.cells #[.int .i64 0] 2)).alloc (.cells #[.slice A xs.length cap] 47)).alloc (.cells #[.int .i64 wd] 2) = W2 := ⟨_, rfl⟩
      have hst : Below (w1.alloc (.cells #[.int .i64 0] 2)).heap.size (w1.alloc (.cells #[.int .i64 0] 2)) W2 := by rw [← hW2]; exact ((Below.refl _ _).alloc (Nat.le_refl _) _).alloc (by simp) _
      have hst1 : Below w1.heap.size w1 W2 := hst.box (Nat.le_refl _)
      have k1 : Below ((w1.alloc (.cells #[.int .i64 0] 2)).alloc (.cells #[.slice A xs.length cap] 47)).heap.size ((w1.alloc (.cells #[.int .i64 0] 2)).alloc (.cells #[.slice A xs.length cap] 47)) W2 := by rw [← hW2]; exact (Below.refl _ _).alloc (Nat.le_refl _) _
      have k2 : Below (((w1.alloc (.cells #[.int .i64 0] 2)).alloc (.cells #[.slice A xs.length cap] 47)).alloc (.cells #[.int .i64 wd] 2)).heap.size (((w1.alloc (.cells #[.int .i64 0] 2)).alloc (.cells #[.slice A xs.length cap] 47)).alloc (.cells #[.int .i64 wd] 2)) W2 := by rw [← hW2]; exact Below.refl _ _
      have s0 := box_cell hst 0 _ rfl
      have sf := box_free hst 0
      have b1 := box_cell k1 0 _ rfl
      have b2 := box_cell k2 0 _ rfl
      simp only [World.size_alloc] at b1 b2
      have z2 : W2.heap.size = w1.heap.size + 3 := by rw [← hW2]; simp
      replace c0 := (hst1.cell (p := ⟨w.heap.size, 0, none⟩) (by simp; omega)).trans c0
      replace f0 := (hst1.frozen (p := ⟨w.heap.size, 0, none⟩) (by simp; omega)).trans f0
      replace c1 := (hst1.cell (p := ⟨w.heap.size + 1, 0, none⟩) (by simp; omega)).trans c1
      replace f1 := (hst1.frozen (p := ⟨w.heap.size + 1, 0, none⟩) (by simp; omega)).trans f1
      have hb2 := hbw.trans (hst1.mono (by omega))
      rw [hW2]
      clear hst hst1 k1 k2 hbw hW2
      have HYS := Lib.hid hys
      clear hys
      refine wpIn_rangeFunc_ownF rfl (by omega) (gf := 60) (lb := #[.pointer (some ⟨w1.heap.size + 1, 0, none⟩), .pointer (some ⟨w1.heap.size + 1 + 1, 0, none⟩)]) rfl trivial (enters_of Try.func60 (by kernel_rfl) rfl)
        (arr_stops (4 - 1) (by omega) (w1.heap.size + 1) (w1.heap.size + 1 + 1) w.heap.size A xs cap wd ys HYS.out hl W2 b1 b2 (by omega) (by omega) (h.below hb2) (by omega))
        KpC.trans (KpC.book (by omega)) (Below.refl _ _) (fun _ => rfl)
        (fun pre W => (∃ s, Hid (sumP (pre.map (·.1)) = some s) ∧ 0 ≤ s ∧ s ≤ 4503599627370496 ∧ W.cell? ⟨w1.heap.size, 0, none⟩ = some (.int .i64 s) ∧ W.frozen? ⟨w1.heap.size, 0, none⟩ = false ∧ W.cell? ⟨w.heap.size, 0, none⟩ = some (.int .i64 0) ∧ W.frozen? ⟨w.heap.size, 0, none⟩ = false ∧ W.cell? ⟨w.heap.size + 1, 0, none⟩ = some (.int .i64 0) ∧ W.frozen? ⟨w.heap.size + 1, 0, none⟩ = false) ∧ Below w.heap.size w W)
        (fun c pre W => (c = .ret ∧ Hid (sumP (pre.map (·.1)) = none) ∧ W.cell? ⟨w.heap.size, 0, none⟩ = some (.int .i64 0) ∧ W.cell? ⟨w.heap.size + 1, 0, none⟩ = some (.int .i64 10)) ∧ Below w.heap.size w W)
        (OwnFrom.and (Own.from (fun s A B row hs hg hr => by
          obtain ⟨q, g1, g2, g3, g4, g5, g6, g7, g8, g9⟩ := hs
          exact ⟨q, g1, g2, g3, cell_kept g4 hg hr, (frozen_kept g4 hg hr).trans g5, cell_kept g6 hg hr, (frozen_kept g6 hg hr).trans g7, cell_kept g8 hg hr, (frozen_kept g8 hg hr).trans g9⟩) _) (ownFrom_below (Nat.le_refl _) (by omega)))
        (fun c => OwnFrom.and (Own.from (fun s A B row hs hg hr => ⟨hs.1, hs.2.1, cell_kept hs.2.2.1 hg hr, cell_kept hs.2.2.2 hg hr⟩) _) (ownFrom_below (Nat.le_refl _) (by omega)))
        ⟨⟨0, rfl, by omega, by omega, s0, sf, c0, f0, c1, f1⟩, hb2⟩
        (fun x => { tmps := #[.slice A xs.length cap, .int .i64 wd, undef, undef, .pointer (some ⟨w.heap.size, 0, none⟩), .pointer (some ⟨w.heap.size + 1, 0, none⟩), .int .i64 0, .pointer (some ⟨w1.heap.size, 0, none⟩), .int .i64 x.1.1, .int .i64 x.1.2, undef, undef,
          .slice A xs.length cap, .int .i64 0, .bool false, .int .i64 0, .bool false, undef, .bool (decide (wd < 0) || decide (4503599627370496 < wd)), .int .i64 wd, .bool (decide (wd < 0)), .bool (decide (wd < 0)), .int .i64 wd, .bool (decide (4503599627370496 < wd)), .bool (decide (wd < 0) || decide (4503599627370496 < wd)), .slice A xs.length cap,
          .int .i64 wd, .func (.func 60) #[] #[.pointer (some ⟨w1.heap.size + 1, 0, none⟩), .pointer (some ⟨w1.heap.size + 1 + 1, 0, none⟩)], .int .i64 x.1.1, .int .i64 x.1.2, undef, undef, undef, undef, undef, undef, undef, undef, undef, undef, undef, undef, undef, undef], defers := [] }) ?assign ?body ?done ?stop
      case assign =>
        intro l x W K hK
        gi_wp2
        exact hK
      case body =>
        rintro l pre ⟨⟨n, c⟩, hx⟩ W ⟨⟨s, hs, s0, s1, d0, d1, d2, d3, d4, d5⟩, hbW⟩ _
        obtain ⟨x1, x2, x3, x4⟩ := hx
        simp only at x1 x2 x3 x4
        have hsn : sumP ((pre ++ [(⟨(n, c), ⟨x1, x2, x3, x4⟩⟩ : Ap)]).map (·.1)) = addP (some s) (n, c) := by
          rw [List.map_append, List.map_cons, List.map_nil, sumP_snoc, hs.out]
        rw [addP_some] at hsn
        by_cases ho : 0 < c ∧ (4503599627370496 - s) / c < n
        · rw [if_pos ho] at hsn
          obtain ⟨hc0, ho⟩ := ho
          have HS := Lib.hid hsn
          clear hsn hs
          gi_wp2_with (refine ⟨trivial, ?_⟩; gi_at_call 53; refine (CallsIn.inRound l (callsIn_wide.2 (times_over _ _ _ hc0 x4 (by omega) (by omega) ho _))).mono ?_; rintro e w' ⟨rfl, rfl⟩)
          exact ⟨(KeepsOthers.setCell _ _ _).trans (KeepsOthers.setCell _ _ _), ⟨rfl, HS, set2_first (by omega) d2 _ _, set2_second (by omega) d4 _ _⟩, (hbW.setCell (p := ⟨w.heap.size, 0, none⟩) (Nat.le_refl _) _).setCell (p := ⟨w.heap.size + 1, 0, none⟩) (by simp) _⟩
        · rw [if_neg ho] at hsn
          obtain ⟨m0, m1⟩ := addP_bd s0 s1 x1 x3 ho
          have HS := Lib.hid hsn
          clear hsn hs
          gi_wp2_with (refine ⟨trivial, ?_⟩; gi_at_call 53; refine (CallsIn.inRound l (callsIn_wide.2 (times_fits _ _ _ x3 x4 (by omega) (by omega) ho m0 m1 _))).mono ?_; rintro e w' ⟨rfl, rfl⟩)
          have e2 : (⟨w1.heap.size, 0, none⟩ : Addr) ≠ ⟨w1.heap.size + 1 + 1, 0, none⟩ := by simp
          exact ⟨KeepsOthers.setCell _ _ _, ⟨(Below.refl _ W).setCell (p := ⟨w1.heap.size, 0, none⟩) (by simp; omega) _, fun v hv => by rw [World.cell?_setCell_other _ _ _ _ (by simp)]; exact hv⟩,
            ⟨_, HS, by omega, by omega, World.cell?_setCell_same' _ _ _ (by rw [d0]; rfl), by rw [World.frozen?_setCell]; exact d1, by rw [World.cell?_setCell_other _ _ _ _ (by simp <;> omega)]; exact d2, by rw [World.frozen?_setCell]; exact d3, by rw [World.cell?_setCell_other _ _ _ _ (by simp <;> omega)]; exact d4, by rw [World.frozen?_setCell]; exact d5⟩,
            hbW.setCell (p := ⟨w1.heap.size, 0, none⟩) (by simp; omega) _⟩
      case done =>
        rintro D l W hD rfl ⟨⟨s, hs, s0, s1, d0, d1, d2, d3, d4, d5⟩, hbW⟩ hK
        have hsum : sumP (xs.map (arrOf wd)) = some s := by rw [← HYS.out]; exact hs.out
        obtain ⟨a1, a2⟩ := al_sum hE1.out wd0 wd1 hsum
        have A1 := Lib.hid a1
        have A2 := Lib.hid a2
        clear a1 a2 hsum hs hE
        gi_wp2
        have hK2 := ((KeepsOthers.setCell W ⟨w.heap.size, 0, none⟩ (.int .i64 s)).trans (KeepsOthers.setCell _ ⟨w.heap.size + 1, 0, none⟩ (.int .i64 0))).same D _ hK rfl
        refine ⟨by simp, .inl ⟨_, _, rfl, run_takeDeferred hK2, ?_⟩⟩
        have r0 := cell_kept (set2_first (b := w.heap.size) (b' := w.heap.size + 1) (by omega) d2 (.int .i64 s) (.int .i64 0)) (grownBy_putObj' _ D (.deferred none)) (fun r e => by cases e; exact ⟨_, hK2, rfl⟩)
        have r1 := cell_kept (set2_second (b := w.heap.size) (b' := w.heap.size + 1) (by omega) d4 (.int .i64 s) (.int .i64 0)) (grownBy_putObj' _ D (.deferred none)) (fun r e => by cases e; exact ⟨_, hK2, rfl⟩)
        refine ⟨.tuple #[.int .i64 s, .int .i64 0], ?_, by rw [A1.out, A2.out], ?_⟩
        · simp [results, Try.f46, go_sem, r0, r1]
        · exact ((hbW.setCell (p := ⟨w.heap.size, 0, none⟩) (Nat.le_refl _) _).setCell (p := ⟨w.heap.size + 1, 0, none⟩) (by simp) _).trans (belowK_b (w := W2) (by omega) _ D _ _ hD hK2 rfl rfl)
      case stop =>
        rintro D c pre W hD hpre ⟨⟨rfl, hs, d0, d1⟩, hbW⟩ hK
        have hsum : sumP (xs.map (arrOf wd)) = none := by
          rw [← HYS.out]
          exact sumP_none (List.IsPrefix.map _ hpre) hs.out
        obtain ⟨a1, a2⟩ := al_over hE1.out wd0 wd1 hsum
        have A1 := Lib.hid a1
        have A2 := Lib.hid a2
        clear a1 a2 hsum hs hE
        gi_wp2
        refine ⟨by simp, .inl ⟨_, _, rfl, run_takeDeferred hK, ?_⟩⟩
        have r0 := cell_kept d0 (grownBy_putObj' _ D (.deferred none)) (fun r e => by cases e; exact ⟨_, hK, rfl⟩)
        have r1 := cell_kept d1 (grownBy_putObj' _ D (.deferred none)) (fun r e => by cases e; exact ⟨_, hK, rfl⟩)
        refine ⟨.tuple #[.int .i64 0, .int .i64 10], ?_, by rw [A1.out, A2.out], ?_⟩
        · simp [results, Try.f46, go_sem, r0, r1]
        · exact hbW.trans (belowK_b (w := W2) (by omega) _ D _ _ hD hK rfl rfl)
    · have aE : alE xs wd = 1 := by unfold alE; rw [if_neg (by omega), if_pos hwd]
      have aV : alV xs wd = 0 := by unfold alV; rw [if_pos (by omega)]
      have A1 := Lib.hid aE
      have A2 := Lib.hid aV
      have hwd' : wd < 0 ∨ 4503599627370496 < wd := by omega
      clear aE aV hwd
      rcases hwd' with hwd' | hwd'
      all_goals
        refine (callsIn_wide (n := 4)).1 ?_
        refine callsIn_of_wp_marks Try.func46 rfl trivial ?_ rfl
        simp only [Try.ntmps46, List.size_toArray, List.length_cons, List.length_nil, Nat.reduceAdd, Nat.reduceSub, Array.replicate_succ, Array.replicate_zero, List.push_toArray, List.append_toArray, List.nil_append, List.cons_append]
        gi_wp2_with fail
        refine ⟨trivial, ?_⟩
        refine (callsIn_wide.2 (dcheck_any A xs _ _ ((h.below (((Below.refl _ w).alloc (Nat.le_refl _) _).alloc (by simp) _)).mono (by simp; omega)) hl)).mono ?_
        rintro e w1 ⟨rfl, hb⟩
        obtain ⟨c0, f0, c1, f1, hsz, hbw⟩ := two_box hb
        clear hb
        gi_wp2
        refine ⟨.tuple #[.int .i64 0, .int .i64 1], ?_, by rw [A1.out, A2.out], (hbw.setCell (p := ⟨w.heap.size, 0, none⟩) (Nat.le_refl _) _).setCell (p := ⟨w.heap.size + 1, 0, none⟩) (by simp) _⟩
        have r0 := set2_first (b := w.heap.size) (b' := w.heap.size + 1) (by omega) c0 (.int .i64 0) (.int .i64 1)
        have r1 := set2_second (b := w.heap.size) (b' := w.heap.size + 1) (by omega) c1 (.int .i64 0) (.int .i64 1)
        simp [results, Try.f46, go_sem, r0, r1]
  · have hE2 : ldsE xs = 2 := lds_two hE
    have aE : alE xs wd = 2 := by unfold alE; rw [if_pos hE]
    have aV : alV xs wd = 0 := by unfold alV; rw [if_pos (by omega)]
    have A1 := Lib.hid aE
    have A2 := Lib.hid aV
    clear aE aV hE
    refine (callsIn_wide (n := 4)).1 ?_
    refine callsIn_of_wp_marks Try.func46 rfl trivial ?_ rfl
    simp only [Try.ntmps46, List.size_toArray, List.length_cons, List.length_nil, Nat.reduceAdd, Nat.reduceSub, Array.replicate_succ, Array.replicate_zero, List.push_toArray, List.append_toArray, List.nil_append, List.cons_append]
    gi_wp2_with fail
    refine ⟨trivial, ?_⟩
    refine (callsIn_wide.2 (dcheck_any A xs _ _ ((h.below (((Below.refl _ w).alloc (Nat.le_refl _) _).alloc (by simp) _)).mono (by simp; omega)) hl)).mono ?_
    rintro e w1 ⟨rfl, hb⟩
    obtain ⟨c0, f0, c1, f1, hsz, hbw⟩ := two_box hb
    clear hb
    gi_wp2
    all_goals
      refine ⟨.tuple #[.int .i64 0, .int .i64 2], ?_, by rw [A1.out, A2.out], (hbw.setCell (p := ⟨w.heap.size, 0, none⟩) (Nat.le_refl _) _).setCell (p := ⟨w.heap.size + 1, 0, none⟩) (by simp) _⟩
      have r0 := set2_first (b := w.heap.size) (b' := w.heap.size + 1) (by omega) c0 (.int .i64 0) (.int .i64 2)
      have r1 := set2_second (b := w.heap.size) (b' := w.heap.size + 1) (by omega) c1 (.int .i64 0) (.int .i64 2)
      simp [results, Try.f46, go_sem, r0, r1]
end Go.Proofs.Ytfneloplbkjbhaa
