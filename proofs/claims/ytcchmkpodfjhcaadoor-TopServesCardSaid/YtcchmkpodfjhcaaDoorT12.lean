/-
  bits.List once more: its row is a row of its own.
-/
import Derived.Test.YtcchmkpodfjhcaaDoorTQ
namespace Go.Proofs.YtcchmkpodfjhcaaDoor
open Go.RowKit Go.Shelf
set_option linter.unusedVariables false
attribute [local go_sem] Oper.semAt_some
set_option maxRecDepth 100000 in
set_option maxHeartbeats 2000000 in
theorem listO_any (b : Nat) (hb : b < 18446744073709551616) (w : World) (hT : Tab w) (hs0 : 0 < w.heap.size) :
    Calls Tryd.prog 9 #[.int .u64 (b : Int)] w (OwnRes w (lb 64 b)) := by
  refine (callsIn_wide (n := 4)).1 ?_
  refine callsIn_of_wp_marks Tryd.func9 rfl trivial ?_ rfl
  simp only [Tryd.ntmps9, List.size_toArray, List.length_cons, List.length_nil, Nat.reduceAdd, Nat.reduceSub, Array.replicate_succ, Array.replicate_zero, List.push_toArray, List.append_toArray, List.nil_append, List.cons_append]
  gi_wp2_with fail
  refine ⟨trivial, ?_⟩
  refine (callsIn_wide.2 (beach_any b _)).mono ?_
  rintro e w2 ⟨rfl, rfl⟩
  gi_wp2_with fail
  obtain ⟨W2, hW2⟩ : ∃ W2, (w.alloc (.cells #[.slice none 0 0] 22)).alloc (.cells #[.int .u64 (b : Int)] 23) = W2 := ⟨_, rfl⟩
  obtain ⟨c0, f0, c1, f1, hsz, hb2⟩ := two_box (w := w) (w1 := W2) (v0 := .slice none 0 0) (v1 := .int .u64 (b : Int)) (t0 := 22) (t1 := 23) (by rw [hW2]; exact Below.refl _ _)
  have z2 : W2.heap.size = w.heap.size + 2 := by rw [← hW2]; simp
  rw [hW2]
  clear hW2
  obtain ⟨i0, hi, hz0, hz1, hz2⟩ := info_parts info_int
  have HLB := Lib.hid (lbn_len b)
  refine wpIn_rangeFunc_ownF rfl (by omega) (gf := 46) (lb := #[.pointer (some ⟨w.heap.size + 1, 0, none⟩)]) rfl trivial (enters_of Tryd.func46 (by kernel_rfl) rfl)
    (each_stops (4 - 1) (by omega) (w.heap.size + 1) w.heap.size b hb W2 c1 (by omega) (hT.below hb2 hs0) hs0 (by omega))
    KpB.trans (KpB.book (by omega)) (Below.refl _ _) (fun _ => rfl)
    (fun pre W => (∃ v : Value, pre.length ≤ 64 ∧ W.ownsRow (w.heap.size + 2) 3 1 v pre.length (pre.map (fun n : Nat => Value.int .i64 (n : Int))) ∧ w.heap.size + 2 ≤ W.heap.size ∧ W.cell? ⟨w.heap.size, 0, none⟩ = some v ∧ W.frozen? ⟨w.heap.size, 0, none⟩ = false) ∧ Below w.heap.size w W)
    (fun c pre W => False ∧ Below w.heap.size w W)
    (OwnFrom.and (Own.from (fun s A B row hs hg hr => by
      obtain ⟨v, g2, g3, g4, g5, g6⟩ := hs
      exact ⟨v, g2, own_book g3 hg hr, Nat.le_trans g4 hg.size, cell_kept g5 hg hr, (frozen_kept g5 hg hr).trans g6⟩) _) (ownFrom_below (Nat.le_refl _) (by omega)))
    (fun c => OwnFrom.and (Own.from (fun s A B row hs hg hr => hs) _) (ownFrom_below (Nat.le_refl _) (by omega)))
    ⟨⟨_, by simp, World.ownsRow_nil _ _ _ _, by omega, c0, f0⟩, hb2⟩
    (fun x => { tmps := #[.int .u64 (b : Int), undef, .slice none 0 0, .pointer (some ⟨w.heap.size, 0, none⟩), .int .i64 (x : Int), .int .u64 (b : Int), .func (.func 46) #[] #[.pointer (some ⟨w.heap.size + 1, 0, none⟩)], .int .i64 (x : Int), undef, undef, undef, undef, undef], defers := [] }) ?assign ?body ?done ?stop
  case assign =>
    intro l x W K hK
    gi_wp2
    exact hK
  case body =>
    rintro l pre x W ⟨⟨v, hlen, hown, hsW, d0, d1⟩, hbW⟩ hpl
    obtain ⟨A0, cp, rfl⟩ := own_slice hown
    gi_wp2_with ((gi_at_builtin; refine wpListIn_append_own _ rfl _ _ 22 rfl (w.heap.size + 2) 3 i0 (.int .i64 0) 1 8 Tryd.underlying22 hi hz0 hz1 hz2 rfl (by decide) _ _ _ rfl (hown.alloc _) ⟨W.heap.size, 0, none⟩ 1 1 [.int .i64 (x : Int)] rfl rfl (cell_one_new _ _ _) (by simp [Value.oneCell']) (by simp only [maxLen]; omega) (by omega) (by simp; omega) ?_; intro v' w4 hown' hgrow _; obtain ⟨A4, cp4, rfl⟩ := own_slice hown'; have q4 := (app_far hown hgrow hsW ⟨w.heap.size, 0, none⟩ (by show w.heap.size < _; omega)).1.trans d0; have f4 := (app_far hown hgrow hsW ⟨w.heap.size, 0, none⟩ (by show w.heap.size < _; omega)).2.trans d1))
    obtain ⟨k1, k2, k3, k4, k5, k6, k7⟩ := app_step (B := w.heap.size) hown hown' hgrow (by omega) hsW (by omega) d0
    exact ⟨k1, k2, ⟨_, by simp; omega, by rw [List.length_append, List.map_append]; exact k3, k7, k6, (k5 _ (by show w.heap.size < _; omega)).trans d1⟩, hbW.trans k2⟩
  case done =>
    rintro D l W hD rfl ⟨⟨v, hlen, hown, hsW, d0, d1⟩, hbW⟩ hK
    obtain ⟨A0, cp, rfl⟩ := own_slice hown
    gi_wp2
    refine ⟨by simp, .inl ⟨_, _, rfl, run_takeDeferred hK, ?_⟩⟩
    have own3 := own_book hown (grownBy_putObj' _ D (.deferred none)) (fun r e => by cases e; exact ⟨_, hK, rfl⟩)
    refine ⟨.slice A0 (lbn b).length cp, ?_, ⟨_, rfl, ?_, ?_⟩⟩
    · simp [results, Tryd.f9, go_sem]
    · have hl : (lbn b).length = (lb 64 b).length := by rw [← lbn_lb, List.length_map]
      have e1 : (lbn b).map (fun n : Nat => Value.int .i64 (n : Int)) = (lb 64 b).map (Value.int .i64) := by rw [← lbn_lb, List.map_map]; rfl
      rw [e1, hl] at own3
      rw [hl]
      exact own_mono own3 (by omega)
    · exact hbW.trans (belowK_b (w := W2) (by omega) _ D _ _ hD hK rfl rfl)
  case stop =>
    rintro D c pre W hD hpre ⟨hf, hbW⟩ hK
    exact hf.elim
end Go.Proofs.YtcchmkpodfjhcaaDoor
