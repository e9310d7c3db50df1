/-
  The wheel: the walk of Set.
-/
import Derived.Test.YtakkfgkogomjbaaDoorW7
import Derived.Deep.LoopGhost
namespace Go.Proofs.YtakkfgkogomjbaaDoor
open Go.RowKit Go.Shelf Go.Maps Go.ChangeMaps
set_option linter.unusedVariables false
set_option linter.unusedSimpArgs false
theorem minF_mem (T : Nat → Tm) : ∀ (l : List Nat) (m : Int), (∀ x ∈ l, l.foldl (fun m x => min m (T x).du) m ≤ (T x).du) ∧ l.foldl (fun m x => min m (T x).du) m ≤ m
  | [], m => ⟨fun x hx => (by cases hx), Int.le_refl _⟩
  | z :: r, m => by
    have := minF_mem T r (min m (T z).du)
    refine ⟨fun x hx => ?_, by rw [List.foldl_cons]; omega⟩
    rw [List.foldl_cons]
    rcases List.mem_cons.1 hx with rfl | hx
    · omega
    · exact this.1 x hx
/-- When the time goes on to ahead of where the first list begins, all timers stay. -/
theorem pl_end {S : PS} {T : Nat → Tm} {now t : Int} (hp : Pl S T now) {o : Option (Nat × Int)} (h : AheadIs S T o) (ht : now ≤ t) (hb : ∀ k b, o = some (k, b) → t < b) : Pl S T t := by
  intro q hq x hx
  have hxq := hp q hq x hx
  by_cases hq7 : q = 257
  · subst hq7
    have := (hm_due now (T x).du).1 hxq.symm
    exact ((hm_due t (T x).du).2 (by omega)).symm
  have late : ∀ r : Nat, r < 257 → ∀ y ∈ S.list (r : Int), now < (T y).du := fun r hr y hy => by
    rcases Int.lt_or_le now (T y).du with h | h
    · exact h
    · have := (hm_due now (T y).du).2 h
      have := hp r (by omega) y hy
      omega
  have hlx := late q (by omega) x hx
  cases o with
  | none => rw [h q (by omega)] at hx; cases hx
  | some z =>
    obtain ⟨k, b⟩ := z
    obtain ⟨h1, h2, h3, h4, h5⟩ := h
    have hb := hb k b rfl
    obtain ⟨y, hy⟩ := List.exists_mem_of_ne_nil _ h2
    have hly := late k h1 y hy
    have hyk := hp k (by omega) y hy
    have hqk : k ≤ q := by
      rcases Nat.lt_or_ge q k with h | h
      · rw [h3 q h] at hx; cases hx
      · exact h
    have hbx : b ≤ bg (hm now (T x).du) (T x).du := by
      by_cases hk : k < 256
      · by_cases e : q = k
        · subst e
          rw [← hxq]
          exact Int.le_of_eq (h4 hk x hx).symm
        · have e2 := h4 hk y hy
          have := bg_mono hly hlx (by omega)
          rw [← hyk] at this
          omega
      · obtain rfl : k = 256 := by omega
        obtain rfl : q = 256 := by omega
        have h6 := h5 rfl
        have h7 := (minF_mem T (S.list ((256 : Nat) : Int)) 4503599627370496).1 x hx
        rw [← hxq]
        unfold bg
        rw [if_neg (by omega), if_neg (by omega), if_neg (by omega), if_neg (by omega)]
        unfold minF at h6
        omega
    rw [hxq]
    exact (hm_keep ht hlx (by omega)).symm
theorem WK.setNow {w : World} {lo hi wb I M p L K n : Nat} {S : PS} {T : Nat → Tm} {f : Int → Option Nat} {F : Nat → Nat} {now tu : Int} {A : List Tm} {X : List Nat} (h : WK w lo hi wb I M p L K n S T f F now tu A X) {v : Int} (h0 : 0 ≤ v) (h1 : v ≤ 4503599627370496) :
    WK (w.setCell ⟨wb, 0, none⟩ (.int .i64 v)) lo hi wb I M p L K n S T f F v tu A X ∧ Kp lo hi w (w.setCell ⟨wb, 0, none⟩ (.int .i64 v)) := by
  have hb : ∀ x, x ≠ wb → (w.setCell ⟨wb, 0, none⟩ (.int .i64 v)).heap[x]? = w.heap[x]? := fun x hx => Below.heap_setCell _ _ _ _ hx
  have hz : (w.setCell ⟨wb, 0, none⟩ (.int .i64 v)).heap.size = w.heap.size := by simp
  have l := h.ly
  exact ⟨⟨h.ly, by rw [hz]; exact h.hh, h.pa.keptW (by omega) fun x hx => hb x (by have := l.q1; omega), h.wc.setNow v, h.nb.kept (hb _ l.wi.symm), h.mp.kept (hb _ l.wm.symm), h.co, h.fi, h.fl, h.bi, h0, h1, h.t0, h.t1⟩,
    (Kp.refl lo hi w).set (p := ⟨wb, 0, none⟩) (by have := l.q1; show lo ≤ wb; omega) l.q2 _⟩
theorem Tab.kp {w w' : World} {lo hi : Nat} (h : Tab w) (hk : Kp lo hi w w') (hlo : 0 < lo) (hs : 0 < w.heap.size) : Tab w' := fun j hj => (World.cell?_of_block (a := ⟨0, j, none⟩) (hk.block 0 hs (.inl hlo))).trans (h j hj)
theorem Tab.bel {w w' : World} (h : Tab w) (hb : Below w.heap.size w w') (hs : 0 < w.heap.size) : Tab w' := fun j hj => (hb.cell (p := ⟨0, j, none⟩) hs).trans (h j hj)
set_option maxRecDepth 100000 in
set_option maxHeartbeats 8000000 in
theorem wset_any {w : World} {lo hi wb I M p L K n : Nat} {now tu : Int} {A : List Tm} (h : WAt w lo hi wb I M p L K n now tu A) (hT : Tab w) (hlo : 0 < lo) (t : Int) :
    Calls Tryd.prog 27 #[.pointer (some ⟨wb, 0, none⟩), .int .i64 t] w fun e w' => e = .returned (.int .i64 (if now ≤ t ∧ t ≤ 4503599627370496 then 0 else 1)) ∧ WAt w' lo hi wb I M p L K n (if now ≤ t ∧ t ≤ 4503599627370496 then t else now) tu A ∧ Kp lo hi w w' := by
  have HA := Kept.mk h
  obtain ⟨S, T, f, F, hk, hpl⟩ := h.of
  obtain ⟨c0, c1, c2, c3, c4, c5, c6, c7, c8, wf⟩ := hk.wc
  have hs0 : 0 < w.heap.size := by have := hk.hh; have := hk.ly.lh; omega
  have HTB := Kept.mk hT
  by_cases hr : now ≤ t ∧ t ≤ 4503599627370496
  · rw [if_pos hr, if_pos hr]
    have d0 : decide (t < now) = false := decide_eq_false (by omega)
    have d1 : decide (4503599627370496 < t) = false := decide_eq_false (by omega)
    have HR := Kept.mk hr
    have hn0 := hk.n0
    have HN0 := Kept.mk hn0
    clear h hk hpl hT hr hn0
    go_enter Tryd.func27, Tryd.ntmps27
    go_wp2_with fail
    go_step3
    go_wp2_with fail
    go_step3
    go_wp2_with fail
    go_loopg [5] (t - now).toNat (fun g _ wr => ∃ cur, Kept (now ≤ cur ∧ cur ≤ t ∧ g = (t - cur).toNat) ∧ Kept (WAt wr lo hi wb I M p L K n cur tu A) ∧ Kept (Kp lo hi w wr))
    case atStart => exact ⟨now, ⟨by omega, HR.out.1, rfl⟩, HA, ⟨Kp.refl _ _ _⟩⟩
    case round =>
      obtain ⟨cur, hc, hwa, hkp⟩ := hrel
      obtain ⟨S, T, f, F, hk, hpl⟩ := hwa.out.of
      have hTr := HTB.out.kp hkp.out hlo hs0
      have HAH := wahead_any hk hpl hTr
      have HK := Kept.mk hk
      have HPL := Kept.mk hpl
      clear c0 c1 c2 c3 c4 c5 c6 c7 c8 wf hk hpl hTr
      go_wp2_with fail
      refine HAH.mono ?_
      rintro e w2 ⟨o, ho, rfl, hb⟩
      have HO := Kept.mk ho
      have hk2 := HK.out.below (hb.mono HK.out.hh)
      have HK2 := Kept.mk hk2
      have KP2 := Kept.mk (hkp.out.trans (Kp.of_below hb))
      obtain ⟨c0, c1, c2, c3, c4, c5, c6, c7, c8, wf⟩ := hk2.wc
      have hnd : ∀ q : Nat, q < 258 → ∀ x ∈ S.list (q : Int), (T x).du ≤ 4503599627370496 := fun q hq x hx => (HK2.out.co.du _ (HK2.out.co.mem q hq x hx)).2
      have HND := Kept.mk hnd
      clear ho hb hk2 hnd HAH
      cases o with
      | none =>
        unfold ahV
        have HFIN := Kept.mk (show WAt (w2.setCell ⟨wb, 0, none⟩ (.int .i64 t)) lo hi wb I M p L K n t tu A ∧ Kp lo hi w (w2.setCell ⟨wb, 0, none⟩ (.int .i64 t)) from by
          obtain ⟨g1, g2⟩ := HK2.out.setNow (v := t) (by have := HN0.out; have := hc.out; omega) HR.out.2
          exact ⟨⟨S, T, f, F, g1, pl_end HPL.out HO.out hc.out.2.1 (fun k b h => by cases h)⟩, KP2.out.trans g2⟩)
        go_wp2
        try rw [Exit.noGoto_ret]
        go_ret
        exact ⟨rfl, HFIN.out⟩
      | some z =>
        obtain ⟨k, b⟩ := z
        unfold ahV
        by_cases hbt : t < b
        · have d2 : decide (t < b) = true := decide_eq_true hbt
          have HFIN := Kept.mk (show WAt (w2.setCell ⟨wb, 0, none⟩ (.int .i64 t)) lo hi wb I M p L K n t tu A ∧ Kp lo hi w (w2.setCell ⟨wb, 0, none⟩ (.int .i64 t)) from by
            obtain ⟨g1, g2⟩ := HK2.out.setNow (v := t) (by have := HN0.out; have := hc.out; omega) HR.out.2
            exact ⟨⟨S, T, f, F, g1, pl_end HPL.out HO.out hc.out.2.1 (fun k b h => by cases h; exact hbt)⟩, KP2.out.trans g2⟩)
          clear hbt
          go_wp2
          try rw [Exit.noGoto_ret]
          go_ret
          exact ⟨rfl, HFIN.out⟩
        · have d2 : decide (t < b) = false := decide_eq_false hbt
          obtain ⟨hpx, hlb⟩ := pl_ahead HPL.out HND.out HO.out
          obtain ⟨g1, g2⟩ := HK2.out.setNow (v := b) (by have := HN0.out; have := hc.out; omega) (by have := HR.out; omega)
          have HSP := wspread_any g1 HO.out.1 hpx
          have G2 := Kept.mk (KP2.out.trans g2)
          have HB := Kept.mk (show cur < b ∧ b ≤ t from ⟨hlb, by omega⟩)
          clear hbt hpx hlb g1 g2
          go_wp2_with fail
          refine HSP.mono ?_
          rintro e w4 ⟨rfl, hw4, hk4⟩
          have W4 := Kept.mk hw4
          have K4 := Kept.mk (G2.out.trans hk4)
          clear hw4 hk4 HSP
          go_wp2
          go_roundg (t - b).toNat
          case measure => have := hc.out; have := HB.out; omega
          case rel => exact ⟨b, ⟨by have := hc.out; have := HB.out; omega, HB.out.2, rfl⟩, W4, K4⟩
  · rw [if_neg hr, if_neg hr]
    by_cases h1 : t < now
    · have d0 : decide (t < now) = true := decide_eq_true h1
      clear h hk hpl hT hr h1
      go_enter Tryd.func27, Tryd.ntmps27
      go_wp2
      go_step3
      go_wp2
      try rw [Exit.noGoto_ret]
      go_ret
      exact ⟨rfl, HA.out, Kp.refl _ _ _⟩
    · have d0 : decide (t < now) = false := decide_eq_false h1
      have d1 : decide (4503599627370496 < t) = true := decide_eq_true (by omega)
      clear h hk hpl hT hr h1
      go_enter Tryd.func27, Tryd.ntmps27
      go_wp2
      go_step3
      go_wp2
      try rw [Exit.noGoto_ret]
      go_ret
      exact ⟨rfl, HA.out, Kp.refl _ _ _⟩
end Go.Proofs.YtakkfgkogomjbaaDoor
