/-
  The walk of the queue's List.
-/
import Derived.Test.YtcchmkpodfjhcaaQ7
import Derived.Test.YtcchmkpodfjhcaaP8
import Derived.Test.YtcchmkpodfjhcaaCalm
import Derived.Test.YtcchmkpodfjhcaaApp1
namespace Go.Proofs.Ytcchmkpodfjhcaa
open Go.RowKit Go.Shelf Go.Maps Go.ChangeMaps
set_option linter.unusedVariables false
set_option linter.unusedSimpArgs false
attribute [local go_sem] Oper.semAt_some
theorem four_box {w w1 : World} {v0 v1 v2 v3 : Value} {t0 t1 t2 t3 : TypeId} (hb : Below ((((w.alloc (.cells #[v0] t0)).alloc (.cells #[v1] t1)).alloc (.cells #[v2] t2)).alloc (.cells #[v3] t3)).heap.size ((((w.alloc (.cells #[v0] t0)).alloc (.cells #[v1] t1)).alloc (.cells #[v2] t2)).alloc (.cells #[v3] t3)) w1) :
    w1.cell? ⟨w.heap.size, 0, none⟩ = some v0 ∧ w1.frozen? ⟨w.heap.size, 0, none⟩ = false ∧ w1.cell? ⟨w.heap.size + 1, 0, none⟩ = some v1 ∧ w1.frozen? ⟨w.heap.size + 1, 0, none⟩ = false ∧ w1.cell? ⟨w.heap.size + 2, 0, none⟩ = some v2 ∧ w1.cell? ⟨w.heap.size + 3, 0, none⟩ = some v3 ∧ w.heap.size + 4 ≤ w1.heap.size ∧ Below w.heap.size w w1 := by
  have e : (w.alloc (.cells #[v0] t0)).heap.size = w.heap.size + 1 := by simp
  obtain ⟨c0, f0, c1, f1, c2, f2, hs, hb2⟩ := three_box (w := w.alloc (.cells #[v0] t0)) hb
  rw [e] at c0 f0 c1 c2 hs hb2
  have hb3 : Below (w.alloc (.cells #[v0] t0)).heap.size (w.alloc (.cells #[v0] t0)) w1 := by rw [e]; exact hb2
  exact ⟨box_cell hb3 0 v0 rfl, box_free hb3 0, c0, f0, c1, c2, by omega, hb3.box (Nat.le_refl _)⟩
/-- The lists' places, told one after another, each of the list. -/
abbrev Of (S : PS) (k : Int) := {x : Nat // x ∈ S.list k}
abbrev encO {S : PS} {k : Int} (x : Of S k) : Array Value := #[.int .i64 (x.1 : Int)]
def vals {S : PS} {k : Int} (l : List (Of S k)) : List Nat := l.map fun x => x.1
theorem peach_of (n : Nat) (hn : 1 ≤ n) (B1 B2 n₀ x₀ : Nat) (lo hi p L K N m : Nat) (S : PS) (k : Int) (hhi : hi ≤ n₀) (hhx : hi ≤ x₀) (hB1n : B1 < n₀) (hB2n : B2 < n₀) (hB1x : B1 ≠ x₀) (hB2x : B2 ≠ x₀) (w : World)
    (hB1 : w.cell? ⟨B1, 0, none⟩ = some (.pointer (some ⟨p, 0, none⟩))) (hB2 : w.cell? ⟨B2, 0, none⟩ = some (.int .i64 k)) (hP : PoolAt w lo hi p L K N m S) :
    SeqStopsK Fence.wide n Try.prog 95 #[.pointer (some ⟨B1, 0, none⟩), .pointer (some ⟨B2, 0, none⟩)] (encO (S := S) (k := k)) (KpE n₀ x₀) (fun l => vals l = S.list k) (fun pre => True) 4096 w := fun l J Jx W hW hJ hJx hY h0 => by
  refine (peach_inM n hn l B1 B2 n₀ x₀ lo hi p L K N m S k hhi hhx hB1n hB2n hB1x hB2x (fun pre W => ∃ q, vals q = pre ∧ J q W) (fun pre W => ∃ q : List (Of S k), vals q = pre ∧ Jx q W) ?_ W ((hW.cell (p := ⟨B1, 0, none⟩) (cell_lt hB1)).trans hB1) ((hW.cell (p := ⟨B2, 0, none⟩) (cell_lt hB2)).trans hB2) (hP.below hW) ⟨[], rfl, h0⟩).mono ?_
  · rintro pre x W1 hx ⟨q, rfl, hq⟩ hl
    obtain ⟨fn, tmps, assign, body, hy, hRd⟩ := hY q ⟨x, hx⟩ W1 hq (by simpa [vals] using hl)
    refine ⟨fn, tmps, assign, body, hy, hRd.mono ?_⟩
    rintro e W3 (⟨rfl, h1, h2⟩ | ⟨rfl, h1⟩)
    · exact .inl ⟨rfl, ⟨_, by simp [vals], h1⟩, h2⟩
    · exact .inr ⟨rfl, ⟨_, by simp [vals], h1⟩⟩
  · rintro e W3 ⟨hv, ⟨l, h1, q, h2, h3⟩ | ⟨pre, _, q, h2, h3⟩⟩
    · exact ⟨hv, .inl ⟨q, h2.trans h1, h3⟩⟩
    · exact ⟨hv, .inr ⟨q, trivial, h3⟩⟩
def qList (Q : QL) (k : Int) : List Int := if 0 ≤ k ∧ k < 64 then Q.of k.toNat else []
set_option maxRecDepth 100000 in
set_option maxHeartbeats 4000000 in
theorem qlist_any {w : World} {lo hi qb I M p L K n : Nat} {Q : QL} (h : QAt w lo hi qb I M p L K n Q) (k : Int) :
    Calls Try.prog 53 #[.pointer (some ⟨qb, 0, none⟩), .int .i64 k] w (IntResO w (qList Q k)) := by
  obtain ⟨S, ids, f, b, h⟩ := h.of
  have HK := Kept.mk h
  have hhi := h.hh
  have hly := h.ly
  obtain ⟨c0, c1, c2, c3, qf⟩ := h.qc
  clear h
  have hlh := hly.lh
  have hql : qb < w.heap.size := by have := hly.q2; omega
  have hq0 : qb ≠ w.heap.size := by omega
  have hq1 : qb ≠ w.heap.size + 1 := by omega
  refine (callsIn_wide (n := 4)).1 ?_
  refine callsIn_of_wp_marks Try.func53 rfl trivial ?_ rfl
  simp only [Try.ntmps53, List.size_toArray, List.length_cons, List.length_nil, Nat.reduceAdd, Nat.reduceSub, Array.replicate_succ, Array.replicate_zero, List.push_toArray, List.append_toArray, List.nil_append, List.cons_append]
  gi_wp2_with fail
  refine ⟨trivial, ?_⟩
  refine (callsIn_wide.2 (qhas_any k _)).mono ?_
  rintro e w2 ⟨rfl, rfl⟩
  by_cases hk : 0 ≤ k ∧ k < 64
  · rw [decide_eq_true hk]
    obtain ⟨j, rfl⟩ : ∃ j : Nat, k = j := ⟨k.toNat, by omega⟩
    gi_wp2_with fail
    refine ⟨trivial, ?_⟩
    refine (callsIn_wide.2 (peach_any p (j : Int) _)).mono ?_
    rintro e w2 ⟨rfl, rfl⟩
    gi_wp2_with fail
    obtain ⟨W2, hW2⟩ : ∃ W2, (((w.alloc (.cells #[.pointer (some ⟨qb, 0, none⟩)] 53)).alloc (.cells #[.slice none 0 0] 28)).alloc (.cells #[.pointer (some ⟨p, 0, none⟩)] 24)).alloc (.cells #[.int .i64 (j : Int)] 3) = W2 := ⟨_, rfl⟩
    obtain ⟨b0, g0, b1, g1, b2, b3, hsz, hb2⟩ := four_box (w := w) (w1 := W2) (v0 := .pointer (some ⟨qb, 0, none⟩)) (v1 := .slice none 0 0) (v2 := .pointer (some ⟨p, 0, none⟩)) (v3 := .int .i64 (j : Int)) (t0 := 53) (t1 := 28) (t2 := 24) (t3 := 3) (by rw [hW2]; exact Below.refl _ _)
    have z2 : W2.heap.size = w.heap.size + 4 := by rw [← hW2]; simp
    rw [hW2]
    clear hW2 c0 c1 c2 c3 qf
    obtain ⟨F, G, _, hG⟩ := HK.out.pa.of
    obtain ⟨lnd, lle, llt⟩ := list_nodup hG (j : Int)
    have hnb := HK.out.pa.nb
    have HLL := Kept.mk llt
    have HLE := Kept.mk (Nat.le_trans lle hnb)
    clear lnd lle llt hG
    obtain ⟨i0, hi0, hz0, hz1, hz2⟩ := info_parts info_int
    have hIl : I < w.heap.size := by have := hly.i2; omega
    have e : qList Q j = (S.list (j : Int)).map ids := by unfold qList; rw [if_pos hk, Int.toNat_natCast, HK.out.co.lists j (by omega)]
    have HE := Kept.mk e
    clear e
    refine wpIn_rangeFunc_ownF rfl (by omega) (gf := 95) (lb := #[.pointer (some ⟨w.heap.size + 2, 0, none⟩), .pointer (some ⟨w.heap.size + 3, 0, none⟩)]) rfl trivial (enters_of Try.func95 (by kernel_rfl) rfl)
      (peach_of (4 - 1) (by omega) (w.heap.size + 2) (w.heap.size + 3) (w.heap.size + 4) (w.heap.size + 1) lo (lo + 3) p L K n 64 S j (by omega) (by omega) (by omega) (by omega) (by omega) (by omega) W2 b2 b3 (HK.out.pa.below_hi (hb2.mono (by omega))))
      KpE.trans (KpE.book (by omega)) (Below.refl _ _) (fun _ => rfl)
      (fun pre W => (∃ v : Value, pre.length ≤ 4096 ∧ W.ownsRow (w.heap.size + 4) 3 1 v pre.length ((vals pre).map (fun n : Nat => Value.int .i64 (ids n))) ∧ w.heap.size + 4 ≤ W.heap.size ∧ W.cell? ⟨w.heap.size + 1, 0, none⟩ = some v ∧ W.frozen? ⟨w.heap.size + 1, 0, none⟩ = false ∧ W.cell? ⟨w.heap.size, 0, none⟩ = some (.pointer (some ⟨qb, 0, none⟩))) ∧ Below w.heap.size w W)
      (fun c pre W => False ∧ Below w.heap.size w W)
      (OwnFrom.and (Own.from (fun s A B row hs hg hr => by
        obtain ⟨v, g2, g3, g4, g5, g6, g7⟩ := hs
        exact ⟨v, g2, own_book g3 hg hr, Nat.le_trans g4 hg.size, cell_kept g5 hg hr, (frozen_kept g5 hg hr).trans g6, cell_kept g7 hg hr⟩) _) (ownFrom_below (Nat.le_refl _) (by omega)))
      (fun c => OwnFrom.and (Own.from (fun s A B row hs hg hr => hs) _) (ownFrom_below (Nat.le_refl _) (by omega)))
      ⟨⟨_, by simp, World.ownsRow_nil _ _ _ _, by omega, b1, g1, b0⟩, hb2⟩
      (fun x => { tmps := #[.pointer (some ⟨qb, 0, none⟩), .int .i64 (j : Int), .pointer (some ⟨w.heap.size, 0, none⟩), undef, .slice none 0 0, .pointer (some ⟨w.heap.size + 1, 0, none⟩), .int .i64 (x.1 : Int), .int .i64 (j : Int), .bool true, .bool false, .pointer (some ⟨qb, 0, none⟩), .pointer (some ⟨qb, 0, none⟩), .pointer (some ⟨qb, 0, none⟩), .pointer (some ⟨p, 0, none⟩), .int .i64 (j : Int), .func (.func 95) #[] #[.pointer (some ⟨w.heap.size + 2, 0, none⟩), .pointer (some ⟨w.heap.size + 3, 0, none⟩)], .int .i64 (x.1 : Int), undef, undef, undef, undef, undef, undef, undef, undef, undef, undef, undef], defers := [] }) ?assign ?body ?done ?stop
    case assign =>
      intro l x W K hK
      gi_wp2
      exact hK
    case body =>
      rintro l pre ⟨x, hxm⟩ W ⟨⟨v, hlen, hown, hsW, d0, d1, d2⟩, hbW⟩ hpl
      have hxn := HLL.out x hxm
      have hK2 := HK.out.below (hbW.mono (by omega))
      have e1 := hK2.qc.c1
      have ex := hK2.nb.c x hxn
      obtain ⟨A0, cp, rfl⟩ := own_slice hown
      gi_wp2_with fail
      refine wpIn_region_calm (S := fun W' => W'.cell? ⟨w.heap.size, 0, none⟩ = some (.pointer (some ⟨qb, 0, none⟩)) ∧ W'.cell? ⟨qb, 1, none⟩ = some (.slice (some ⟨I, 0, none⟩) n n) ∧ W'.cell? ⟨I, x, none⟩ = some (.int .i64 (ids x))) (by kernel_rfl) (by kernel_rfl) ⟨d2, e1, ex⟩ (fun hHeld => ?_)
      refine wpAnyH_take (i := 1) (v := ?va1) (by simp only [List.getElem?_toArray, List.getElem?_cons_succ, List.getElem?_cons_zero]; exact rfl) (by kernel_rfl) (by kernel_rfl) (by kernel_rfl) (by intro _ _ _ h; exact h) (Or.inl ⟨by rfl, ?hya1⟩) (by assumption) ?resta1
      case hya1 => (intro w hSw; go_simp; try with_reducible rfl)
      try simp only [Act.put, List.setIfInBounds_toArray, List.set_cons_zero, List.set_cons_succ]
      refine wpAnyH_take (i := 2) (v := ?va2) (by simp only [List.getElem?_toArray, List.getElem?_cons_succ, List.getElem?_cons_zero]; exact rfl) (by kernel_rfl) (by kernel_rfl) (by kernel_rfl) (by intro _ _ _ h; exact h) (Or.inl ⟨by rfl, ?hya2⟩) (by assumption) ?resta2
      case hya2 => (intro w hSw; go_simp; try with_reducible rfl)
      try simp only [Act.put, List.setIfInBounds_toArray, List.set_cons_zero, List.set_cons_succ]
      refine wpAnyH_take (i := 3) (v := ?va3) (by simp only [List.getElem?_toArray, List.getElem?_cons_succ, List.getElem?_cons_zero]; exact rfl) (by kernel_rfl) (by kernel_rfl) (by kernel_rfl) (by intro _ _ _ h; exact h) (Or.inl ⟨by rfl, ?hya3⟩) (by assumption) ?resta3
      case hya3 => (intro w hSw; go_simp; try with_reducible rfl)
      try simp only [Act.put, List.setIfInBounds_toArray, List.set_cons_zero, List.set_cons_succ]
      refine wpAnyH_take (i := 4) (v := ?va4) (by simp only [List.getElem?_toArray, List.getElem?_cons_succ, List.getElem?_cons_zero]; exact rfl) (by kernel_rfl) (by kernel_rfl) (by kernel_rfl) (by intro _ _ _ h; exact h) (Or.inl ⟨by rfl, ?hya4⟩) (by assumption) ?resta4
      case hya4 => (intro w hSw; go_simp; try with_reducible rfl)
      try simp only [Act.put, List.setIfInBounds_toArray, List.set_cons_zero, List.set_cons_succ]
      refine wpAnyH_take (i := 5) (v := ?va5) (by simp only [List.getElem?_toArray, List.getElem?_cons_succ, List.getElem?_cons_zero]; exact rfl) (by kernel_rfl) (by kernel_rfl) (by kernel_rfl) (by intro _ _ _ h; exact h) (Or.inl ⟨by rfl, ?hya5⟩) (by assumption) ?resta5
      case hya5 => (intro w hSw; go_simp; try with_reducible rfl)
      try simp only [Act.put, List.setIfInBounds_toArray, List.set_cons_zero, List.set_cons_succ]
      refine wpAnyH_take (i := 6) (v := ?va6) (by simp only [List.getElem?_toArray, List.getElem?_cons_succ, List.getElem?_cons_zero]; exact rfl) (by kernel_rfl) (by kernel_rfl) (by kernel_rfl) (by intro _ _ _ h; exact h) (Or.inl ⟨by rfl, ?hya6⟩) (by assumption) ?resta6
      case hya6 => (intro w hSw; go_simp; try with_reducible rfl)
      try simp only [Act.put, List.setIfInBounds_toArray, List.set_cons_zero, List.set_cons_succ]
      refine wpAnyH_take (i := 7) (v := ?va7) (by simp only [List.getElem?_toArray, List.getElem?_cons_succ, List.getElem?_cons_zero]; exact rfl) (by kernel_rfl) (by kernel_rfl) (by kernel_rfl) (by intro _ _ _ h; exact h) (Or.inl ⟨by rfl, ?hya7⟩) (by assumption) ?resta7
      case hya7 => (intro w hSw; go_simp; try with_reducible rfl)
      try simp only [Act.put, List.setIfInBounds_toArray, List.set_cons_zero, List.set_cons_succ]
      have GG : W.drew.cell? ⟨w.heap.size, 0, none⟩ = some (.pointer (some ⟨qb, 0, none⟩)) ∧ W.drew.cell? ⟨qb, 1, none⟩ = some (.slice (some ⟨I, 0, none⟩) n n) ∧ W.drew.cell? ⟨I, x, none⟩ = some (.int .i64 (ids x)) ∧ W.drew.cell? ⟨w.heap.size + 1, 0, none⟩ = some (.slice A0 pre.length cp) ∧ W.drew.frozen? ⟨w.heap.size + 1, 0, none⟩ = false ∧ w.heap.size + 4 ≤ W.drew.heap.size := ⟨d2, e1, ex, d0, d1, hsW⟩
      have KW : KeepsOthers W W.drew ∧ KpE (w.heap.size + 4) (w.heap.size + 1) W W.drew ∧ Below w.heap.size W W.drew := ⟨⟨Nat.le_refl _, fun _ _ h _ => h⟩, ⟨Nat.le_refl _, fun _ _ _ => rfl⟩, Below.drewN (Below.refl _ _) 1⟩
      have own1 : W.drew.ownsRow (w.heap.size + 4) 3 1 (.slice A0 pre.length cp) pre.length ((vals pre).map (fun n : Nat => Value.int .i64 (ids n))) := hown
      generalize W.drew = W1 at GG KW own1 hHeld ⊢
      clear hown d0 d1 d2 e1 ex hsW hK2
      obtain ⟨d2, e1, ex, d0, d1, hsW⟩ := GG
      have l1 := (World.cell?_alloc_lt (o := .cells #[.int .i64 (ids x)] 3) (w := W1) (a := ⟨w.heap.size + 1, 0, none⟩) (by show w.heap.size + 1 < _; omega)).trans d0
      have l2 := (World.cell?_alloc_lt (o := .cells #[.int .i64 (ids x)] 3) (w := W1) (a := ⟨w.heap.size, 0, none⟩) (by show w.heap.size < _; omega)).trans d2
      have l3 := (World.cell?_alloc_lt (o := .cells #[.int .i64 (ids x)] 3) (w := W1) (a := ⟨qb, 1, none⟩) (by show qb < _; omega)).trans e1
      have l4 := (World.cell?_alloc_lt (o := .cells #[.int .i64 (ids x)] 3) (w := W1) (a := ⟨I, x, none⟩) (by show I < _; omega)).trans ex
      refine wpAnyH_ready (rs := [0, 8]) (by kernel_rfl) (by simp) (AllReadyH.cons (by simp only [List.getElem?_toArray, List.getElem?_cons_succ, List.getElem?_cons_zero]; exact rfl) (fun K hK => ?_) (AllReadyH.cons (by simp only [List.getElem?_toArray, List.getElem?_cons_succ, List.getElem?_cons_zero]; exact rfl) (fun K hK => ?_) AllReadyH.nil))
      · go_simp
        refine hK.out _ _ ?_ (fun hHeld => ?_)
        · exact ⟨d2, e1, ex⟩
        clear hK K
        try simp only [Act.put, List.setIfInBounds_toArray, List.set_cons_zero, List.set_cons_succ]
        refine wpAnyH_ready (rs := [8]) (by kernel_rfl) (by simp) (AllReadyH.cons (by simp only [List.getElem?_toArray, List.getElem?_cons_succ, List.getElem?_cons_zero]; exact rfl) (fun K hK => ?_) AllReadyH.nil)
        go_simp
        refine hK.out _ _ ?_ (fun hHeld => ?_)
        · exact ⟨l2, l3, l4⟩
        clear hK K
        try simp only [Act.put, List.setIfInBounds_toArray, List.set_cons_zero, List.set_cons_succ]
        refine wpAnyH_ready (rs := [9]) (by kernel_rfl) (by simp) (AllReadyH.cons (by simp only [List.getElem?_toArray, List.getElem?_cons_succ, List.getElem?_cons_zero]; exact rfl) (fun K hK => ?_) AllReadyH.nil)
        refine step_of_wp rfl (wp_append_own _ _ _ 28 rfl (w.heap.size + 4) 3 i0 (.int .i64 0) 1 8 Try.underlying28 hi0 hz0 hz1 hz2 rfl (by decide) (.slice A0 pre.length cp) pre.length _ rfl (own1.alloc _) ⟨W1.heap.size, 0, none⟩ 1 1 [.int .i64 (ids x)] rfl rfl (cell_one_new _ _ _) (by simp [Value.oneCell']) (by simp only [maxLen]; omega) (by omega) (by simp; omega) ?_)
        intro v' w4 hown' hgrow _
        obtain ⟨A4, cp4, rfl⟩ := own_slice hown'
        have q4 := (app_far own1 hgrow (by omega) ⟨w.heap.size + 1, 0, none⟩ (by show w.heap.size + 1 < _; omega)).1.trans d0
        have f4 := (app_far own1 hgrow (by omega) ⟨w.heap.size + 1, 0, none⟩ (by show w.heap.size + 1 < _; omega)).2.trans d1
        have q5 := (app_far own1 hgrow (by omega) ⟨w.heap.size, 0, none⟩ (by show w.heap.size < _; omega)).1.trans d2
        have q6 := (app_far own1 hgrow (by omega) ⟨qb, 1, none⟩ (by show qb < _; omega)).1.trans e1
        have q7 := (app_far own1 hgrow (by omega) ⟨I, x, none⟩ (by show I < _; omega)).1.trans ex
        refine hK.out _ _ ?_ (fun hHeld => ?_)
        · exact ⟨q5, q6, q7⟩
        clear hK K
        try simp only [Act.put, List.setIfInBounds_toArray, List.set_cons_zero, List.set_cons_succ]
        refine wpAnyH_ready (rs := [10]) (by kernel_rfl) (by simp) (AllReadyH.cons (by simp only [List.getElem?_toArray, List.getElem?_cons_succ, List.getElem?_cons_zero]; exact rfl) (fun K hK => ?_) AllReadyH.nil)
        go_simp
        obtain ⟨k1, k2, k3, k4, k5, k6, k7⟩ := app_step (B := w.heap.size) own1 hown' hgrow (by omega) hsW (by omega) d0
        refine hK.out _ _ ?_ (fun hHeld => ?_)
        · exact ⟨k4 _ _ (by show w.heap.size < _; omega) (by simp) d2, k4 _ _ (by show qb < _; omega) (by simp) e1, k4 _ _ (by show I < _; omega) (by simp) ex⟩
        clear hK K
        try simp only [Act.put, List.setIfInBounds_toArray, List.set_cons_zero, List.set_cons_succ]
        refine wpAnyH_done (by kernel_rfl) ?_ _
        unfold EndN
        dsimp only
        gi_wp2_with fail
        have ev : vals (pre ++ [(⟨x, hxm⟩ : Of S (j : Int))]) = vals pre ++ [x] := by simp [vals]
        exact ⟨KW.1.trans k1, KW.2.1.trans (app_keepE own1 hgrow hsW), ⟨_, by simp; omega, by rw [ev, List.length_append, List.map_append]; exact k3, k7, k6, (k5 _ (by show w.heap.size + 1 < _; omega)).trans d1, k4 _ _ (by show w.heap.size < _; omega) (by simp) d2⟩, hbW.trans (KW.2.2.trans k2)⟩
      · go_simp
        refine hK.out _ _ ?_ (fun hHeld => ?_)
        · exact ⟨l2, l3, l4⟩
        clear hK K
        try simp only [Act.put, List.setIfInBounds_toArray, List.set_cons_zero, List.set_cons_succ]
        refine wpAnyH_ready (rs := [0]) (by kernel_rfl) (by simp) (AllReadyH.cons (by simp only [List.getElem?_toArray, List.getElem?_cons_succ, List.getElem?_cons_zero]; exact rfl) (fun K hK => ?_) AllReadyH.nil)
        go_simp
        refine hK.out _ _ ?_ (fun hHeld => ?_)
        · exact ⟨l2, l3, l4⟩
        clear hK K
        try simp only [Act.put, List.setIfInBounds_toArray, List.set_cons_zero, List.set_cons_succ]
        refine wpAnyH_ready (rs := [9]) (by kernel_rfl) (by simp) (AllReadyH.cons (by simp only [List.getElem?_toArray, List.getElem?_cons_succ, List.getElem?_cons_zero]; exact rfl) (fun K hK => ?_) AllReadyH.nil)
        refine step_of_wp rfl (wp_append_own _ _ _ 28 rfl (w.heap.size + 4) 3 i0 (.int .i64 0) 1 8 Try.underlying28 hi0 hz0 hz1 hz2 rfl (by decide) (.slice A0 pre.length cp) pre.length _ rfl (own1.alloc _) ⟨W1.heap.size, 0, none⟩ 1 1 [.int .i64 (ids x)] rfl rfl (cell_one_new _ _ _) (by simp [Value.oneCell']) (by simp only [maxLen]; omega) (by omega) (by simp; omega) ?_)
        intro v' w4 hown' hgrow _
        obtain ⟨A4, cp4, rfl⟩ := own_slice hown'
        have q4 := (app_far own1 hgrow (by omega) ⟨w.heap.size + 1, 0, none⟩ (by show w.heap.size + 1 < _; omega)).1.trans d0
        have f4 := (app_far own1 hgrow (by omega) ⟨w.heap.size + 1, 0, none⟩ (by show w.heap.size + 1 < _; omega)).2.trans d1
        have q5 := (app_far own1 hgrow (by omega) ⟨w.heap.size, 0, none⟩ (by show w.heap.size < _; omega)).1.trans d2
        have q6 := (app_far own1 hgrow (by omega) ⟨qb, 1, none⟩ (by show qb < _; omega)).1.trans e1
        have q7 := (app_far own1 hgrow (by omega) ⟨I, x, none⟩ (by show I < _; omega)).1.trans ex
        refine hK.out _ _ ?_ (fun hHeld => ?_)
        · exact ⟨q5, q6, q7⟩
        clear hK K
        try simp only [Act.put, List.setIfInBounds_toArray, List.set_cons_zero, List.set_cons_succ]
        refine wpAnyH_ready (rs := [10]) (by kernel_rfl) (by simp) (AllReadyH.cons (by simp only [List.getElem?_toArray, List.getElem?_cons_succ, List.getElem?_cons_zero]; exact rfl) (fun K hK => ?_) AllReadyH.nil)
        go_simp
        obtain ⟨k1, k2, k3, k4, k5, k6, k7⟩ := app_step (B := w.heap.size) own1 hown' hgrow (by omega) hsW (by omega) d0
        refine hK.out _ _ ?_ (fun hHeld => ?_)
        · exact ⟨k4 _ _ (by show w.heap.size < _; omega) (by simp) d2, k4 _ _ (by show qb < _; omega) (by simp) e1, k4 _ _ (by show I < _; omega) (by simp) ex⟩
        clear hK K
        try simp only [Act.put, List.setIfInBounds_toArray, List.set_cons_zero, List.set_cons_succ]
        refine wpAnyH_done (by kernel_rfl) ?_ _
        unfold EndN
        dsimp only
        gi_wp2_with fail
        have ev : vals (pre ++ [(⟨x, hxm⟩ : Of S (j : Int))]) = vals pre ++ [x] := by simp [vals]
        exact ⟨KW.1.trans k1, KW.2.1.trans (app_keepE own1 hgrow hsW), ⟨_, by simp; omega, by rw [ev, List.length_append, List.map_append]; exact k3, k7, k6, (k5 _ (by show w.heap.size + 1 < _; omega)).trans d1, k4 _ _ (by show w.heap.size < _; omega) (by simp) d2⟩, hbW.trans (KW.2.2.trans k2)⟩
    case done =>
      rintro D l W hD hl ⟨⟨v, hlen, hown, hsW, d0, d1, d2⟩, hbW⟩ hK
      obtain ⟨A0, cp, rfl⟩ := own_slice hown
      gi_wp2
      refine ⟨by simp, .inl ⟨_, _, rfl, run_takeDeferred hK, ?_⟩⟩
      have own3 := own_book hown (grownBy_putObj' _ D (.deferred none)) (fun r e => by cases e; exact ⟨_, hK, rfl⟩)
      have hll : l.length = (S.list (j : Int)).length := by rw [← hl]; simp [vals]
      refine ⟨.slice A0 l.length cp, ?_, ?_⟩
      · simp [results, Try.f53, go_sem]
      · rw [HE.out]
        exact IntResO.own (n := l.length) (by rw [List.length_map]; exact hll) (by rw [List.map_map, ← hl]; exact own3) (by omega) (hbW.trans (belowK_b (w := W2) (by omega) _ D _ _ hD hK rfl rfl))
    case stop =>
      rintro D c pre W hD hpre ⟨hf, hbW⟩ hK
      exact hf.elim
  · rw [decide_eq_false hk]
    have e : qList Q k = [] := by unfold qList; rw [if_neg hk]
    have HE := Kept.mk e
    clear e
    gi_wp2_with fail
    refine ⟨.slice none 0 0, ?_, ?_⟩
    · simp [results, Try.f53, go_sem]
    · rw [HE.out]
      exact IntResO.own (base := w.heap.size) rfl (World.ownsRow_nil _ _ _ _) (by omega) (below_box w _)
end Go.Proofs.Ytcchmkpodfjhcaa
