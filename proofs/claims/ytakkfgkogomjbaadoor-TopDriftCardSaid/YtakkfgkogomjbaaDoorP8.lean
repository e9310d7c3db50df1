/-
  The walk of the pool's List, once more: the list lies in memory of the call's own.
-/
import Derived.Test.YtakkfgkogomjbaaDoorP7
namespace Go.Proofs.YtakkfgkogomjbaaDoor
open Go.RowKit Go.Shelf
set_option linter.unusedVariables false
attribute [local go_sem] Oper.semAt_some
/-- The same, in memory of the call's own. -/
def IntResO (w : World) (L : List Int) (e : Ending) (w' : World) : Prop :=
  ∃ A c, e = .returned (.slice A L.length c) ∧ w'.ownsRow w.heap.size 3 1 (.slice A L.length c) L.length (L.map (Value.int .i64)) ∧ Below w.heap.size w w'
theorem IntResO.int {w w' : World} {L : List Int} {e : Ending} (h : IntResO w L e w') : IntRes w L e w' := by
  obtain ⟨A, c, rfl, h1, h2⟩ := h
  exact IntRes.own rfl h1 h2
theorem IntResO.own {w w' : World} {L : List Int} {v : Value} {base : Nat} {n : Nat} (hn : n = L.length) (h : w'.ownsRow base 3 1 v n (L.map (Value.int .i64))) (hB : w.heap.size ≤ base) (hb : Below w.heap.size w w') : IntResO w L (.returned v) w' := by
  subst hn
  obtain ⟨A, c, rfl⟩ := own_slice h
  refine ⟨A, c, rfl, ?_, hb⟩
  obtain ⟨h1, h2⟩ := h
  refine ⟨h1, ?_⟩
  rcases h2 with h2 | ⟨g, cap, cur, e1, h3, h4⟩
  · exact .inl h2
  · exact .inr ⟨g, cap, cur, e1, Nat.le_trans hB h3, h4⟩
set_option maxRecDepth 100000 in
set_option maxHeartbeats 2000000 in
theorem plist_own {w : World} {lo hi p L K N m : Nat} {S : PS} (h : PoolAt w lo hi p L K N m S) (k : Int) :
    Calls Tryd.prog 51 #[.pointer (some ⟨p, 0, none⟩), .int .i64 k] w (IntResO w (natI (S.list k))) := by
  have hle : (S.list k).length ≤ 4096 := by
    obtain ⟨F, G, _, hG⟩ := h.of
    exact Nat.le_trans (list_nodup hG k).2.1 h.nb
  have HLB := Kept.mk hle
  have HH := Kept.mk h
  have hhi := h.hh
  clear hle h
  refine (callsIn_wide (n := 4)).1 ?_
  refine callsIn_of_wp_marks Tryd.func51 rfl trivial ?_ rfl
  simp only [Tryd.ntmps51, List.size_toArray, List.length_cons, List.length_nil, Nat.reduceAdd, Nat.reduceSub, Array.replicate_succ, Array.replicate_zero, List.push_toArray, List.append_toArray, List.nil_append, List.cons_append]
  gi_wp2_with fail
  refine ⟨trivial, ?_⟩
  refine (callsIn_wide.2 (peach_any p k _)).mono ?_
  rintro e w2 ⟨rfl, rfl⟩
  gi_wp2_with fail
  obtain ⟨W2, hW2⟩ : ∃ W2, ((w.alloc (.cells #[.slice none 0 0] 125)).alloc (.cells #[.pointer (some ⟨p, 0, none⟩)] 44)).alloc (.cells #[.int .i64 k] 3) = W2 := ⟨_, rfl⟩
  obtain ⟨c0, f0, c1, f1, c2, f2, hsz, hb2⟩ := three_box (w := w) (w1 := W2) (v0 := .slice none 0 0) (v1 := .pointer (some ⟨p, 0, none⟩)) (v2 := .int .i64 k) (t0 := 125) (t1 := 44) (t2 := 3) (by rw [hW2]; exact Below.refl _ _)
  have z2 : W2.heap.size = w.heap.size + 3 := by rw [← hW2]; simp
  rw [hW2]
  clear hW2
  obtain ⟨i0, hi0, hz0, hz1, hz2⟩ := info_parts info_int
  refine wpIn_rangeFunc_ownF rfl (by omega) (gf := 66) (lb := #[.pointer (some ⟨w.heap.size + 1, 0, none⟩), .pointer (some ⟨w.heap.size + 2, 0, none⟩)]) rfl trivial (enters_of Tryd.func66 (by kernel_rfl) rfl)
    (peach_stops (4 - 1) (by omega) (w.heap.size + 1) (w.heap.size + 2) (w.heap.size + 3) w.heap.size lo hi p L K N m S k (by omega) (by omega) (by omega) (by omega) (by omega) (by omega) W2 c1 c2 (HH.out.below hb2))
    KpE.trans (KpE.book (by omega)) (Below.refl _ _) (fun _ => rfl)
    (fun pre W => (∃ v : Value, pre.length ≤ 4096 ∧ W.ownsRow (w.heap.size + 3) 3 1 v pre.length (pre.map (fun n : Nat => Value.int .i64 (n : Int))) ∧ w.heap.size + 3 ≤ W.heap.size ∧ W.cell? ⟨w.heap.size, 0, none⟩ = some v ∧ W.frozen? ⟨w.heap.size, 0, none⟩ = false) ∧ Below w.heap.size w W)
    (fun c pre W => False ∧ Below w.heap.size w W)
    (OwnFrom.and (Own.from (fun s A B row hs hg hr => by
      obtain ⟨v, g2, g3, g4, g5, g6⟩ := hs
      exact ⟨v, g2, own_book g3 hg hr, Nat.le_trans g4 hg.size, cell_kept g5 hg hr, (frozen_kept g5 hg hr).trans g6⟩) _) (ownFrom_below (Nat.le_refl _) (by omega)))
    (fun c => OwnFrom.and (Own.from (fun s A B row hs hg hr => hs) _) (ownFrom_below (Nat.le_refl _) (by omega)))
    ⟨⟨_, by simp, World.ownsRow_nil _ _ _ _, by omega, c0, f0⟩, hb2⟩
    (fun x => { tmps := #[.pointer (some ⟨p, 0, none⟩), .int .i64 k, undef, undef, .slice none 0 0, .pointer (some ⟨w.heap.size, 0, none⟩), .int .i64 (x : Int), .pointer (some ⟨p, 0, none⟩), .int .i64 k, .func (.func 66) #[] #[.pointer (some ⟨w.heap.size + 1, 0, none⟩), .pointer (some ⟨w.heap.size + 2, 0, none⟩)], .int .i64 (x : Int), undef, undef, undef, undef, undef], defers := [] }) ?assign ?body ?done ?stop
  case assign =>
    intro l x W K hK
    gi_wp2
    exact hK
  case body =>
    rintro l pre x W ⟨⟨v, hlen, hown, hsW, d0, d1⟩, hbW⟩ hpl
    obtain ⟨A0, cp, rfl⟩ := own_slice hown
    gi_wp2_with ((gi_at_builtin; refine wpListIn_append_own _ rfl _ _ 125 rfl (w.heap.size + 3) 3 i0 (.int .i64 0) 1 8 Tryd.underlying125 hi0 hz0 hz1 hz2 rfl (by decide) _ _ _ rfl (hown.alloc _) ⟨W.heap.size, 0, none⟩ 1 1 [.int .i64 (x : Int)] rfl rfl (cell_one_new _ _ _) (by simp [Value.oneCell']) (by simp only [maxLen]; omega) (by omega) (by simp; omega) ?_; intro v' w4 hown' hgrow _; obtain ⟨A4, cp4, rfl⟩ := own_slice hown'; have q4 := (app_far hown hgrow hsW ⟨w.heap.size, 0, none⟩ (by show w.heap.size < _; omega)).1.trans d0; have f4 := (app_far hown hgrow hsW ⟨w.heap.size, 0, none⟩ (by show w.heap.size < _; omega)).2.trans d1))
    obtain ⟨k1, k2, k3, k4, k5, k6, k7⟩ := app_step (B := w.heap.size) hown hown' hgrow (by omega) hsW (by omega) d0
    exact ⟨k1, app_keepE hown hgrow hsW, ⟨_, by simp; omega, by rw [List.length_append, List.map_append]; exact k3, k7, k6, (k5 _ (by show w.heap.size < _; omega)).trans d1⟩, hbW.trans k2⟩
  case done =>
    rintro D l W hD rfl ⟨⟨v, hlen, hown, hsW, d0, d1⟩, hbW⟩ hK
    obtain ⟨A0, cp, rfl⟩ := own_slice hown
    gi_wp2
    refine ⟨by simp, .inl ⟨_, _, rfl, run_takeDeferred hK, ?_⟩⟩
    have own3 := own_book hown (grownBy_putObj' _ D (.deferred none)) (fun r e => by cases e; exact ⟨_, hK, rfl⟩)
    refine ⟨.slice A0 (S.list k).length cp, ?_, ?_⟩
    · simp [results, Tryd.f51, go_sem]
    · exact IntResO.own (natI_len _).symm (by unfold natI; rw [List.map_map]; exact own3) (by omega) (hbW.trans (belowK_b (w := W2) (by omega) _ D _ _ hD hK rfl rfl))
  case stop =>
    rintro D c pre W hD hpre ⟨hf, hbW⟩ hK
    exact hf.elim
end Go.Proofs.YtakkfgkogomjbaaDoor
