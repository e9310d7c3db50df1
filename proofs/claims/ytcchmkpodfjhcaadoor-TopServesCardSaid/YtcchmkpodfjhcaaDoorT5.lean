/-
  The walk of intc.open.
-/
import Derived.Test.YtcchmkpodfjhcaaDoorT4
import Derived.Deep.RegionWith
import Derived.Deep.RegionHeld3
import Derived.BigQuiet
namespace Go.Proofs.YtcchmkpodfjhcaaDoor
open Go.RowKit
set_option linter.unusedVariables false
/-- A controller: sets P and M, priorities xs, lines st being served. -/
structure IsC (w : World) (P M : Int) (xs st : List Int) (c : Value) : Prop where
  of : ∃ A cap B cap2, c = .agg (iC P M 0 M (.slice A xs.length cap) 0 (.slice B st.length cap2)) ∧ Ints w w.heap.size A xs ∧ Ints w w.heap.size B st ∧ (A = none → cap = 0) ∧ (B = none → cap2 = 0)
/-- A desk: it lies in a block of its own, the last one. -/
def Desk (w : World) (P M : Int) (xs st : List Int) (d : Nat) (w' : World) : Prop :=
  ∃ wx v s, w' = wx.alloc (.cells (iC P M 0 M v 0 s) 60) ∧ d = wx.heap.size ∧ wx.ownsRow w.heap.size 3 1 v xs.length (xs.map (Value.int .i64)) ∧ wx.ownsRow w.heap.size 3 1 s st.length (st.map (Value.int .i64)) ∧ Below w.heap.size w wx ∧ (∀ g, v.ownBlock = some g → s.ownBlock ≠ some g)
theorem own_mono {w : World} {base B : Nat} {e : TypeId} {sz n : Nat} {v : Value} {xs : List Value} (h : w.ownsRow base e sz v n xs) (hB : B ≤ base) : w.ownsRow B e sz v n xs := by
  obtain ⟨h1, h2⟩ := h
  refine ⟨h1, ?_⟩
  rcases h2 with h2 | ⟨g, cap, cur, e1, h3, h4⟩
  · exact .inl h2
  · exact .inr ⟨g, cap, cur, e1, Nat.le_trans hB h3, h4⟩
set_option maxHeartbeats 4000000 in
theorem open_any (P M : Int) (hm : MF P M) (xs st : List Int) (hM : M = (mk xs : Int)) (line : Int) (hn0 : 0 ≤ line) (hn : line < (xs.length : Int)) (c : Value) (w : World) (hc : IsC w P M xs st c)
    (h2 : xs.length ≤ 64) (hx : xs.any oddP = false) (hst : StOk xs st) :
    Calls Tryd.prog 37 #[c, .int .i64 line] w fun e w' => ∃ d, e = .returned (.tuple #[.pointer (some ⟨d, 0, none⟩), .int .i64 0]) ∧ Desk w P M xs st d w' := by
  obtain ⟨A, cap, B, cap2, rfl, h, k, hA, hB⟩ := hc.of
  have HC := Kept.mk (fun W A cap B cap2 (h : Ints W W.heap.size A xs) (k : Ints W W.heap.size B st) => check_any P M hm A xs cap hM B st cap2 W h k (by omega) h2 hx hst)
  have HI := Kept.mk (fun W (hw : Below w.heap.size w W) => (h.below hw).mono hw.size)
  have HK := Kept.mk (fun W (hw : Below w.heap.size w W) => (k.below hw).mono hw.size)
  have l1 : xs.length ≤ 17592186044416 := by omega
  have l2 : st.length ≤ 17592186044416 := by have := hst.1; omega
  clear h k hx hst hM hc
  unfold iC at *
  go_enter Tryd.func37, Tryd.ntmps37
  go_wp2_with ((go_at_call 35; refine (HC.out _ _ _ _ _ (HI.out _ (below_box _ _)) (HK.out _ (below_box _ _))).mono ?_; rintro e w1 ⟨rfl, hb⟩; have c0 := box_cell hb 0 _ rfl; have c1 := box_cell hb 1 _ rfl; have c2 := box_cell hb 2 _ rfl; have c3 := box_cell hb 3 _ rfl; have c4 := box_cell hb 4 _ rfl; have c5 := box_cell hb 5 _ rfl; have c6 := box_cell hb 6 _ rfl; have f0 := box_free hb; have hbw := hb.box (Nat.le_refl _); have hz := hb.size; clear hb))
  have z0 : w.heap.size < w1.heap.size := Nat.lt_of_lt_of_le (by simp) hz
  clear hz
  have hbd : Below w.heap.size w w1.drew := hbw.drewN 1
  go_region_with (first
    | (go_at_call 33; refine (clone_any A xs cap w1.drew (HI.out _ hbd) hA l1).mono ?_; rintro e w2 ⟨v1, rfl, own1, hb2⟩; obtain ⟨A1, p1, rfl⟩ := own_slice own1; have q0 := (hb2.cell (p := (⟨w.heap.size, 0, none⟩ : Addr)) z0).trans c0; have q1 := (hb2.cell (p := (⟨w.heap.size, 1, none⟩ : Addr)) z0).trans c1; have q2 := (hb2.cell (p := (⟨w.heap.size, 2, none⟩ : Addr)) z0).trans c2; have q3 := (hb2.cell (p := (⟨w.heap.size, 3, none⟩ : Addr)) z0).trans c3; have q4 := (hb2.cell (p := (⟨w.heap.size, 4, none⟩ : Addr)) z0).trans c4; have q5 := (hb2.cell (p := (⟨w.heap.size, 5, none⟩ : Addr)) z0).trans c5; have q6 := (hb2.cell (p := (⟨w.heap.size, 6, none⟩ : Addr)) z0).trans c6; have g0 := fun i => (hb2.frozen (p := ⟨w.heap.size, i, none⟩) z0).trans (f0 i); have hbw2 := hbd.trans (hb2.mono hbd.size); have z1 := Nat.lt_of_lt_of_le z0 hb2.size)
    | (go_at_call 33; refine (clone_any B st cap2 w2 (HK.out _ hbw2) hB l2).mono ?_; rintro e w3 ⟨v2, rfl, own2, hb3⟩; obtain ⟨A2, p2, rfl⟩ := own_slice own2; have r0 := (hb3.cell (p := (⟨w.heap.size, 0, none⟩ : Addr)) z1).trans q0; have r1 := (hb3.cell (p := (⟨w.heap.size, 1, none⟩ : Addr)) z1).trans q1; have r2 := (hb3.cell (p := (⟨w.heap.size, 2, none⟩ : Addr)) z1).trans q2; have r3 := (hb3.cell (p := (⟨w.heap.size, 3, none⟩ : Addr)) z1).trans q3; have r4 := (hb3.cell (p := (⟨w.heap.size, 4, none⟩ : Addr)) z1).trans q4; have r5 := (hb3.cell (p := (⟨w.heap.size, 5, none⟩ : Addr)) z1).trans q5; have r6 := (hb3.cell (p := (⟨w.heap.size, 6, none⟩ : Addr)) z1).trans q6; have k0 := fun i => (hb3.frozen (p := ⟨w.heap.size, i, none⟩) z1).trans (g0 i); have hbw3 := hbw2.trans (hb3.mono hbw2.size); have z2 := Nat.lt_of_lt_of_le z1 hb3.size))
  all_goals clear c0 c1 c2 c3 c4 c5 c6 q0 q1 q2 q3 q4 q5 q6 f0 g0
  all_goals go_wp2
  all_goals go_ret2
  all_goals refine ⟨_, rfl, _, _, _, rfl, by simp, ownsRow_setCell_below (ownsRow_setCell_below (own_below own1 hb3) z0 _) z0 _ |> (own_mono · hbd.size), ownsRow_setCell_below (ownsRow_setCell_below own2 z1 _) z1 _ |> (own_mono · hbw2.size), (hbw3.setCell (Nat.le_refl _) _).setCell (Nat.le_refl _) _, fun g h1 h2 => by have := (own1.lt g h1).2; have := (own2.lt g h2).1; omega⟩
end Go.Proofs.YtcchmkpodfjhcaaDoor
