/-
  The wheel: the walk of least.
-/
import Derived.Test.YtakkfgkogomjbaaDoorW4
import Derived.Test.YtakkfgkogomjbaaDoorP7
namespace Go.Proofs.YtakkfgkogomjbaaDoor
open Go.RowKit Go.Shelf Go.Maps Go.ChangeMaps
set_option linter.unusedVariables false
set_option linter.unusedSimpArgs false
attribute [local go_sem] Oper.semAt_some
theorem four_box {w w1 : World} {v0 v1 v2 v3 : Value} {t0 t1 t2 t3 : TypeId} (hb : Below ((((w.alloc (.cells #[v0] t0)).alloc (.cells #[v1] t1)).alloc (.cells #[v2] t2)).alloc (.cells #[v3] t3)).heap.size ((((w.alloc (.cells #[v0] t0)).alloc (.cells #[v1] t1)).alloc (.cells #[v2] t2)).alloc (.cells #[v3] t3)) w1) :
    w1.cell? ⟨w.heap.size, 0, none⟩ = some v0 ∧ w1.frozen? ⟨w.heap.size, 0, none⟩ = false ∧ w1.cell? ⟨w.heap.size + 1, 0, none⟩ = some v1 ∧ w1.frozen? ⟨w.heap.size + 1, 0, none⟩ = false ∧ w1.cell? ⟨w.heap.size + 2, 0, none⟩ = some v2 ∧ w1.cell? ⟨w.heap.size + 3, 0, none⟩ = some v3 ∧ w.heap.size + 4 ≤ w1.heap.size ∧ Below w.heap.size w w1 := by
  have e : (w.alloc (.cells #[v0] t0)).heap.size = w.heap.size + 1 := by simp
  obtain ⟨c0, f0, c1, f1, c2, f2, hs, hb2⟩ := three_box (w := w.alloc (.cells #[v0] t0)) hb
  rw [e] at c0 f0 c1 c2 hs hb2
  have hb3 : Below (w.alloc (.cells #[v0] t0)).heap.size (w.alloc (.cells #[v0] t0)) w1 := by rw [e]; exact hb2
  exact ⟨box_cell hb3 0 v0 rfl, box_free hb3 0, c0, f0, c1, c2, by omega, hb3.box (Nat.le_refl _)⟩
/-- The lists' places, told one after another, each of the list. -/
abbrev Of (S : PS) (k : Int) := {x : Nat // x ∈ S.list k}
abbrev encO {S : PS} {k : Int} (x : Of S k) : Array Value := #[.int .i64 (x.1 : Int)]
def vals {S : PS} {k : Int} (l : List (Of S k)) : List Nat := l.map fun x => x.1
theorem peach_of (n : Nat) (hn : 1 ≤ n) (B1 B2 n₀ x₀ : Nat) (lo hi p L K N m : Nat) (S : PS) (k : Int) (hhi : hi ≤ n₀) (hhx : hi ≤ x₀) (hB1n : B1 < n₀) (hB2n : B2 < n₀) (hB1x : B1 ≠ x₀) (hB2x : B2 ≠ x₀) (w : World)
    (hB1 : w.cell? ⟨B1, 0, none⟩ = some (.pointer (some ⟨p, 0, none⟩))) (hB2 : w.cell? ⟨B2, 0, none⟩ = some (.int .i64 k)) (hP : PoolAt w lo hi p L K N m S) :
    SeqStopsK Fence.wide n Tryd.prog 66 #[.pointer (some ⟨B1, 0, none⟩), .pointer (some ⟨B2, 0, none⟩)] (encO (S := S) (k := k)) (KpE n₀ x₀) (fun l => vals l = S.list k) (fun pre => True) 4096 w := fun l J Jx W hW hJ hJx hY h0 => by
  refine (peach_inM n hn l B1 B2 n₀ x₀ lo hi p L K N m S k hhi hhx hB1n hB2n hB1x hB2x (fun pre W => ∃ q, vals q = pre ∧ J q W) (fun pre W => ∃ q : List (Of S k), vals q = pre ∧ Jx q W) ?_ W ((hW.cell (p := ⟨B1, 0, none⟩) (cell_lt hB1)).trans hB1) ((hW.cell (p := ⟨B2, 0, none⟩) (cell_lt hB2)).trans hB2) (hP.below hW) ⟨[], rfl, h0⟩).mono ?_
  · rintro pre x W1 hx ⟨q, rfl, hq⟩ hl
    obtain ⟨fn, tmps, assign, body, hy, hRd⟩ := hY q ⟨x, hx⟩ W1 hq (by simpa [vals] using hl)
    refine ⟨fn, tmps, assign, body, hy, hRd.mono ?_⟩
    rintro e W3 (⟨rfl, h1, h2⟩ | ⟨rfl, h1⟩)
    · exact .inl ⟨rfl, ⟨_, by simp [vals], h1⟩, h2⟩
    · exact .inr ⟨rfl, ⟨_, by simp [vals], h1⟩⟩
  · rintro e W3 ⟨hv, ⟨l, h1, q, h2, h3⟩ | ⟨pre, _, q, h2, h3⟩⟩
    · exact ⟨hv, .inl ⟨q, h2.trans h1, h3⟩⟩
    · exact ⟨hv, .inr ⟨q, trivial, h3⟩⟩

/-- The least time of some places' timers. -/
def minF (T : Nat → Tm) (l : List Nat) : Int := l.foldl (fun m x => min m (T x).du) 4503599627370496
theorem minF_snoc (T : Nat → Tm) (l : List Nat) (x : Nat) : minF T (l ++ [x]) = min (minF T l) (T x).du := by unfold minF; rw [List.foldl_append]; rfl
set_option maxRecDepth 100000 in
set_option maxHeartbeats 4000000 in
theorem wleast_any {w : World} {lo hi wb I M p L K n : Nat} {S : PS} {T : Nat → Tm} {f : Int → Option Nat} {F : Nat → Nat} {now tu : Int} {A : List Tm} {X : List Nat} (h : WK w lo hi wb I M p L K n S T f F now tu A X) (j : Nat) :
    Calls Tryd.prog 64 #[.pointer (some ⟨wb, 0, none⟩), .int .i64 (j : Int)] w fun e w' => e = .returned (.int .i64 (minF T (S.list (j : Int)))) ∧ Below w.heap.size w w' := by
  have HK := Kept.mk h
  have hhi := h.hh
  have hly := h.ly
  obtain ⟨c0, c1, c2, c3, c4, c5, c6, c7, c8, wf⟩ := h.wc
  clear h
  have hlh := hly.lh
  have hql : wb < w.heap.size := by have := hly.q2; omega
  have hq0 : wb ≠ w.heap.size := by omega
  have hq1 : wb ≠ w.heap.size + 1 := by omega
  refine (callsIn_wide (n := 4)).1 ?_
  refine callsIn_of_wp_marks Tryd.func64 rfl trivial ?_ rfl
  simp only [Tryd.ntmps64, List.size_toArray, List.length_cons, List.length_nil, Nat.reduceAdd, Nat.reduceSub, Array.replicate_succ, Array.replicate_zero, List.push_toArray, List.append_toArray, List.nil_append, List.cons_append]
  gi_wp2_with fail
  refine ⟨trivial, ?_⟩
  refine (callsIn_wide.2 (peach_any p (j : Int) _)).mono ?_
  rintro e w2 ⟨rfl, rfl⟩
  gi_wp2_with fail
  obtain ⟨W2, hW2⟩ : ∃ W2, (((w.alloc (.cells #[.pointer (some ⟨wb, 0, none⟩)] 47)).alloc (.cells #[.int .i64 4503599627370496] 2)).alloc (.cells #[.pointer (some ⟨p, 0, none⟩)] 44)).alloc (.cells #[.int .i64 (j : Int)] 3) = W2 := ⟨_, rfl⟩
  obtain ⟨b0, g0, b1, g1, b2, b3, hsz, hb2⟩ := four_box (w := w) (w1 := W2) (v0 := .pointer (some ⟨wb, 0, none⟩)) (v1 := .int .i64 4503599627370496) (v2 := .pointer (some ⟨p, 0, none⟩)) (v3 := .int .i64 (j : Int)) (t0 := 47) (t1 := 2) (t2 := 44) (t3 := 3) (by rw [hW2]; exact Below.refl _ _)
  have z2 : W2.heap.size = w.heap.size + 4 := by rw [← hW2]; simp
  rw [hW2]
  clear hW2 c0 c1 c2 c3 c4 c5 c6 c7 c8 wf
  obtain ⟨F0, G0, _, hG⟩ := HK.out.pa.of
  obtain ⟨lnd, lle, llt⟩ := list_nodup hG (j : Int)
  have HLL := Kept.mk llt
  clear lnd lle llt hG
  have hIl : I < w.heap.size := by have := hly.i2; omega
  refine wpIn_rangeFunc_ownF rfl (by omega) (gf := 66) (lb := #[.pointer (some ⟨w.heap.size + 2, 0, none⟩), .pointer (some ⟨w.heap.size + 3, 0, none⟩)]) rfl trivial (enters_of Tryd.func66 (by kernel_rfl) rfl)
    (peach_of (4 - 1) (by omega) (w.heap.size + 2) (w.heap.size + 3) (w.heap.size + 4) (w.heap.size + 1) lo (lo + 3) p L K n 258 S j (by omega) (by omega) (by omega) (by omega) (by omega) (by omega) W2 b2 b3 (HK.out.pa.below_hi (hb2.mono (by omega))))
    KpE.trans (KpE.book (by omega)) (Below.refl _ _) (fun _ => rfl)
    (fun pre W => (w.heap.size + 4 ≤ W.heap.size ∧ W.cell? ⟨w.heap.size + 1, 0, none⟩ = some (.int .i64 (minF T (vals pre))) ∧ W.frozen? ⟨w.heap.size + 1, 0, none⟩ = false ∧ W.cell? ⟨w.heap.size, 0, none⟩ = some (.pointer (some ⟨wb, 0, none⟩))) ∧ Below w.heap.size w W)
    (fun c pre W => False ∧ Below w.heap.size w W)
    (OwnFrom.and (Own.from (fun s A B row hs hg hr => by
      obtain ⟨g4, g5, g6, g7⟩ := hs
      exact ⟨Nat.le_trans g4 hg.size, cell_kept g5 hg hr, (frozen_kept g5 hg hr).trans g6, cell_kept g7 hg hr⟩) _) (ownFrom_below (Nat.le_refl _) (by omega)))
    (fun c => OwnFrom.and (Own.from (fun s A B row hs hg hr => hs) _) (ownFrom_below (Nat.le_refl _) (by omega)))
    ⟨⟨by omega, b1, g1, b0⟩, hb2⟩
    (fun x => { tmps := #[.pointer (some ⟨wb, 0, none⟩), .int .i64 (j : Int), .pointer (some ⟨w.heap.size, 0, none⟩), undef, .int .i64 0, .pointer (some ⟨w.heap.size + 1, 0, none⟩), .int .i64 (x.1 : Int), .pointer (some ⟨wb, 0, none⟩), .pointer (some ⟨wb, 0, none⟩), .pointer (some ⟨wb, 2, none⟩), .pointer (some ⟨p, 0, none⟩), .int .i64 (j : Int), .func (.func 66) #[] #[.pointer (some ⟨w.heap.size + 2, 0, none⟩), .pointer (some ⟨w.heap.size + 3, 0, none⟩)], .int .i64 (x.1 : Int), undef, undef, undef, undef, undef, undef, undef, undef, undef, undef, undef, undef], defers := [] }) ?assign ?body ?done ?stop
  case assign =>
    intro l x W K hK
    gi_wp2
    exact hK
  case body =>
    rintro l pre ⟨x, hxm⟩ W ⟨⟨hsW, d0, d1, d2⟩, hbW⟩ hpl
    have hxn := HLL.out x hxm
    have hK2 := HK.out.below (hbW.mono (by omega))
    have e1 := hK2.wc.c3
    have ex := hK2.nb.c (x * 3 + 1) (by omega)
    rw [tmN_1] at ex
    have hxn3 : (x : Int) < (n : Int) := by omega
    have hn4 : n ≤ 4096 := HK.out.pa.nb
    clear hK2
    gi_wp2_with fail
    have HFIN := Kept.mk (show KeepsOthers W (W.setCell ⟨w.heap.size + 1, 0, none⟩ (.int .i64 (min (minF T (vals pre)) (T x).du))).drew ∧ KpE (w.heap.size + 4) (w.heap.size + 1) W (W.setCell ⟨w.heap.size + 1, 0, none⟩ (.int .i64 (min (minF T (vals pre)) (T x).du))).drew ∧
        ((w.heap.size + 4 ≤ (W.setCell ⟨w.heap.size + 1, 0, none⟩ (.int .i64 (min (minF T (vals pre)) (T x).du))).drew.heap.size ∧ (W.setCell ⟨w.heap.size + 1, 0, none⟩ (.int .i64 (min (minF T (vals pre)) (T x).du))).drew.cell? ⟨w.heap.size + 1, 0, none⟩ = some (.int .i64 (minF T (vals (pre ++ [(⟨x, hxm⟩ : Of S (j : Int))])))) ∧ (W.setCell ⟨w.heap.size + 1, 0, none⟩ (.int .i64 (min (minF T (vals pre)) (T x).du))).drew.frozen? ⟨w.heap.size + 1, 0, none⟩ = false ∧ (W.setCell ⟨w.heap.size + 1, 0, none⟩ (.int .i64 (min (minF T (vals pre)) (T x).du))).drew.cell? ⟨w.heap.size, 0, none⟩ = some (.pointer (some ⟨wb, 0, none⟩))) ∧
        Below w.heap.size w (W.setCell ⟨w.heap.size + 1, 0, none⟩ (.int .i64 (min (minF T (vals pre)) (T x).du))).drew) from by
      have ev : vals (pre ++ [(⟨x, hxm⟩ : Of S (j : Int))]) = vals pre ++ [x] := by simp [vals]
      rw [ev, minF_snoc]
      have hko := KeepsOthers.setCell W ⟨w.heap.size + 1, 0, none⟩ (.int .i64 (min (minF T (vals pre)) (T x).du))
      refine ⟨⟨hko.size, hko.same⟩, ⟨by simp, fun i hi hx => Below.heap_setCell _ _ _ _ hx⟩, ⟨by simpa using hsW, World.cell?_setCell_same' _ _ _ (by rw [d0]; rfl), by simpa using d1, ?_⟩, ((hbW.setCell (p := ⟨w.heap.size + 1, 0, none⟩) (by simp) _).drewN 1)⟩
      · exact (World.cell?_setCell_other _ _ _ _ (by simp)).trans d2)
    gi_region
    all_goals (gi_wp2; exact HFIN.out)
  case done =>
    rintro D l W hD hl ⟨⟨hsW, d0, d1, d2⟩, hbW⟩ hK
    gi_wp2
    refine ⟨by simp, .inl ⟨_, _, rfl, run_takeDeferred hK, ?_⟩⟩
    refine ⟨.int .i64 (minF T (S.list (j : Int))), ?_, ?_⟩
    · simp [results, Tryd.f64, go_sem]
    · exact ⟨rfl, hbW.trans (belowK_b (w := W2) (by omega) _ D _ _ hD hK rfl rfl)⟩
  case stop =>
    rintro D c pre W hD hpre ⟨hf, hbW⟩ hK
    exact hf.elim
end Go.Proofs.YtakkfgkogomjbaaDoor
