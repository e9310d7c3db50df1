/-
  The wheel: the walk of spread.
-/
import Derived.Test.YtakkfgkogomjbaaDoorW6
import Derived.Test.YtakkfgkogomjbaaDoorP8
namespace Go.Proofs.YtakkfgkogomjbaaDoor
open Go.RowKit Go.Shelf Go.Maps Go.ChangeMaps
set_option linter.unusedVariables false
set_option linter.unusedSimpArgs false
/-- Each timer stands in its list, but for those of one list. -/
def PlX (S : PS) (T : Nat → Tm) (now : Int) (k : Nat) : Prop := ∀ q : Nat, q < 258 → ∀ x ∈ S.list (q : Int), q ≠ k → q = hm now (T x).du
/-- When the time goes on to where the first list begins, the other lists' timers stay. -/
theorem pl_ahead {S : PS} {T : Nat → Tm} {now : Int} (hp : Pl S T now) (hd : ∀ q : Nat, q < 258 → ∀ x ∈ S.list (q : Int), (T x).du ≤ 4503599627370496) {k : Nat} {b : Int} (h : AheadIs S T (some (k, b))) : PlX S T b k ∧ now < b := by
  obtain ⟨h1, h2, h3, h4, h5⟩ := h
  obtain ⟨y, hy⟩ := List.exists_mem_of_ne_nil _ h2
  have hyk := hp k (by omega) y hy
  have late : ∀ q : Nat, q < 257 → ∀ x ∈ S.list (q : Int), now < (T x).du := fun q hq x hx => by
    rcases Int.lt_or_le now (T x).du with h | h
    · exact h
    · have := (hm_due now (T x).du).2 h
      have := hp q (by omega) x hx
      omega
  have hly := late k h1 y hy
  by_cases hk : k < 256
  · have e := h4 hk y hy
    rw [hyk] at e
    have hb := bg_le hly
    refine ⟨fun q hq x hx hne => ?_, by omega⟩
    have hxq := hp q hq x hx
    by_cases hq7 : q = 257
    · subst hq7
      have := (hm_due now (T x).du).1 hxq.symm
      exact ((hm_due b (T x).du).2 (by omega)).symm
    · have hlx := late q (by omega) x hx
      have hqk : k < q := by
        rcases Nat.lt_or_ge q k with h | h
        · rw [h3 q h] at hx; cases hx
        · omega
      have := bg_mono hly hlx (by omega)
      rw [hxq]
      exact (hm_keep (by omega) hlx (by omega)).symm
  · obtain rfl : k = 256 := by omega
    have e := h5 rfl
    have hmin : ∀ (l : List Nat) (m : Int), (∃ x ∈ l, l.foldl (fun m x => min m (T x).du) m = (T x).du) ∨ l.foldl (fun m x => min m (T x).du) m = m := by
      intro l
      induction l with
      | nil => intro m; exact .inr rfl
      | cons z r ih =>
        intro m
        rcases ih (min m (T z).du) with ⟨x, hx, h⟩ | h
        · exact .inl ⟨x, by simp [hx], h⟩
        · by_cases hz : m ≤ (T z).du
          · exact .inr (by rw [List.foldl_cons, h]; omega)
          · exact .inl ⟨z, by simp, by rw [List.foldl_cons, h]; omega⟩
    have hlt : now < b := by
      rcases hmin (S.list ((256 : Nat) : Int)) 4503599627370496 with ⟨x, hx, hm⟩ | hm
      · have hlx := late 256 (by omega) x hx
        have hb := (bg_le hlx).1
        rw [← hp 256 (by omega) x hx] at hb
        unfold bg at hb
        rw [if_neg (by omega), if_neg (by omega), if_neg (by omega), if_neg (by omega)] at hb
        unfold minF at e
        rw [hm] at e
        omega
      · unfold minF at e
        rw [hm] at e
        have hle : ∀ (l : List Nat) (m : Int), (∀ x ∈ l, l.foldl (fun m x => min m (T x).du) m ≤ (T x).du) ∧ l.foldl (fun m x => min m (T x).du) m ≤ m := by
          intro l
          induction l with
          | nil => intro m; exact ⟨fun x hx => (by cases hx), Int.le_refl _⟩
          | cons z r ih =>
            intro m
            have := ih (min m (T z).du)
            refine ⟨fun x hx => ?_, by rw [List.foldl_cons]; omega⟩
            rw [List.foldl_cons]
            rcases List.mem_cons.1 hx with rfl | hx
            · omega
            · exact this.1 x hx
        have hle2 := (hle (S.list ((256 : Nat) : Int)) 4503599627370496).1 y hy
        rw [hm] at hle2
        have hb := (bg_le hly).1
        rw [← hyk] at hb
        unfold bg at hb
        rw [if_neg (by omega), if_neg (by omega), if_neg (by omega), if_neg (by omega)] at hb
        have := hd 256 (by omega) y hy
        omega
    refine ⟨fun q hq x hx hne => ?_, hlt⟩
    by_cases hq7 : q = 257
    · subst hq7
      have := (hm_due now (T x).du).1 (hp 257 hq x hx).symm
      exact ((hm_due b (T x).du).2 (by omega)).symm
    · rw [h3 q (by omega)] at hx; cases hx
theorem move_list {n : Nat} {S : PS} {F G : Nat → Int} (hg : Good n 258 S F G) (x : Nat) {to : Nat} (ht : to < 258) (q : Nat) : (S.move x to).list (q : Int) = ((S.list (q : Int)).filter fun y => decide (y ≠ x)) ++ if to = q then [x] else [] := by
  unfold PS.move
  rw [list_put (by show to < (S.out x).lists.length; simp [PS.out, hg.rep.len, ht]), list_outq]
theorem WK.move {w w' : World} {lo hi wb I M p L K n : Nat} {S : PS} {T : Nat → Tm} {f : Int → Option Nat} {F : Nat → Nat} {now tu : Int} {A : List Tm} {X : List Nat} (h : WK w lo hi wb I M p L K n S T f F now tu A X) {q x to : Nat} (hq : q < 258) (hx : x ∈ S.list (q : Int)) (ht : to < 258)
    (hp : PoolAt w' lo (lo + 3) p L K n 258 (S.move x to)) (hk : Kp lo (lo + 3) w w') : WK w' lo hi wb I M p L K n (S.move x to) T f F now tu A (q :: to :: X) := by
  obtain ⟨F', G', _, hG⟩ := h.pa.of
  have co := h.co
  obtain ⟨g1, g2, g3⟩ := h.after hk
  have hne : ∀ r : Nat, r < 258 → x ∈ S.list (r : Int) → r = q := fun r hr hxr => by
    obtain ⟨a1, _⟩ := hG.list hr
    obtain ⟨a2, _⟩ := hG.list hq
    exact (hG.rep.one a1 a2 hxr hx).1
  have hin : ∀ r : Nat, r < 258 → ∀ y, y ∈ (S.move x to).list (r : Int) ↔ (y ∈ S.list (r : Int) ∧ y ≠ x) ∨ (y = x ∧ r = to) := fun r hr y => by
    rw [move_list hG x ht, List.mem_append, List.mem_filter, decide_eq_true_eq]
    by_cases e : to = r
    · rw [if_pos e]; simp [e]
    · rw [if_neg e]; simp [Ne.symm e]
  refine ⟨h.ly, Nat.le_trans h.hh hk.size, hp, g1, g2, g3, ⟨co.len, fun r hr y hy => ?_, fun t ht' => ?_, co.ids, co.du, co.tn, co.tu⟩, fun a y => ?_, h.fl, fun l i hl hi hX => ?_, h.n0, h.n1, h.t0, h.t1⟩
  · rcases (hin r hr y).1 hy with ⟨h1, _⟩ | ⟨rfl, rfl⟩
    · exact co.mem r hr y h1
    · exact co.mem q hq _ hx
  · obtain ⟨r, hr, y, hy, e⟩ := co.all t ht'
    by_cases hyx : y = x
    · exact ⟨to, ht, y, (hin to ht y).2 (.inr ⟨hyx, rfl⟩), e⟩
    · exact ⟨r, hr, y, (hin r hr y).2 (.inl ⟨hy, hyx⟩), e⟩
  · rw [h.fi a y]
    constructor
    · rintro ⟨r, hr, hy, e⟩
      by_cases hyx : y = x
      · exact ⟨to, ht, (hin to ht y).2 (.inr ⟨hyx, rfl⟩), e⟩
      · exact ⟨r, hr, (hin r hr y).2 (.inl ⟨hy, hyx⟩), e⟩
    · rintro ⟨r, hr, hy, e⟩
      rcases (hin r hr y).1 hy with ⟨h1, _⟩ | ⟨rfl, rfl⟩
      · exact ⟨r, hr, h1, e⟩
      · exact ⟨q, hq, hx, e⟩
  · simp only [List.mem_cons, not_or] at hX
    rw [h.bi l i hl hi hX.2.2, move_list hG x ht, if_neg (Ne.symm hX.2.1), List.append_nil, filter_notin]
    exact fun hx2 => hX.1 (hne _ (by omega) hx2)
/-- What stands yet to be spread. -/
structure Sp (S : PS) (T : Nat → Tm) (now : Int) (k : Nat) (R : List Nat) : Prop where
  at_ : ∀ q : Nat, q < 258 → ∀ x ∈ S.list (q : Int), q = hm now (T x).du ∨ (q = k ∧ x ∈ R)
  in_ : ∀ x ∈ R, x ∈ S.list (k : Int)
theorem Sp.stay {S : PS} {T : Nat → Tm} {now : Int} {k x : Nat} {R : List Nat} (h : Sp S T now k (x :: R)) (e : hm now (T x).du = k) : Sp S T now k R :=
  ⟨fun q hq y hy => by
    rcases h.at_ q hq y hy with h1 | ⟨rfl, h1⟩
    · exact .inl h1
    · rcases List.mem_cons.1 h1 with rfl | h1
      · exact .inl e.symm
      · exact .inr ⟨rfl, h1⟩, fun y hy => h.in_ y (by simp [hy])⟩
theorem Sp.go {n : Nat} {S : PS} {F G : Nat → Int} {T : Nat → Tm} {now : Int} {k x : Nat} {R : List Nat} (hg : Good n 258 S F G) (h : Sp S T now k (x :: R)) (hn : x ∉ R) : Sp (S.move x (hm now (T x).du)) T now k R := by
  have ht := hm_lt now (T x).du
  refine ⟨fun q hq y hy => ?_, fun y hy => ?_⟩
  · rw [move_list hg x ht] at hy
    rcases List.mem_append.1 hy with hy | hy
    · obtain ⟨h1, h2⟩ := List.mem_filter.1 hy
      simp only [decide_eq_true_eq] at h2
      rcases h.at_ q hq y h1 with h3 | ⟨rfl, h3⟩
      · exact .inl h3
      · exact .inr ⟨rfl, (List.mem_cons.1 h3).resolve_left h2⟩
    · split at hy
      · rename_i e; rw [List.mem_singleton.1 hy]; exact .inl e.symm
      · cases hy
  · rw [move_list hg x ht]
    exact List.mem_append_left _ (List.mem_filter.2 ⟨h.in_ y (by simp [hy]), by simp only [decide_eq_true_eq]; rintro rfl; exact hn hy⟩)
set_option maxRecDepth 100000 in
set_option maxHeartbeats 8000000 in
theorem wspread_any {w : World} {lo hi wb I M p L K n : Nat} {S : PS} {T : Nat → Tm} {f : Int → Option Nat} {F : Nat → Nat} {now tu : Int} {A : List Tm} (h : WK w lo hi wb I M p L K n S T f F now tu A []) {k : Nat} (hk : k < 257) (hp : PlX S T now k) :
    Calls Tryd.prog 43 #[.pointer (some ⟨wb, 0, none⟩), .int .i64 (k : Int)] w fun e w' => e = .returned (.tuple #[]) ∧ WAt w' lo hi wb I M p L K n now tu A ∧ Kp lo hi w w' := by
  obtain ⟨F0, G0, _, hG⟩ := h.pa.of
  obtain ⟨lnd, lle, llt⟩ := list_nodup hG (k : Int)
  have HL := plist_own h.pa (k : Int)
  obtain ⟨R, hR⟩ : ∃ R, R = S.list (k : Int) := ⟨_, rfl⟩
  rw [← hR] at lnd lle llt HL
  have HSP := Kept.mk (show Sp S T now k R from ⟨fun q hq x hx => by
    by_cases e : q = k
    · subst e; exact .inr ⟨rfl, by rw [hR]; exact hx⟩
    · exact .inl (hp q hq x hx e), fun x hx => by rw [← hR]; exact hx⟩)
  have HND := Kept.mk lnd
  have HLT := Kept.mk llt
  have hly := h.ly
  have hn4 : n ≤ 4096 := h.pa.nb
  have HK := Kept.mk h
  have hRl : R.length ≤ 4096 := by omega
  obtain ⟨c0, c1, c2, c3, c4, c5, c6, c7, c8, wf⟩ := h.wc
  clear h hp hG lnd llt hR lle
  go_enter Tryd.func43, Tryd.ntmps43
  go_wp2_with fail
  refine HL.mono ?_
  rintro e w1 ⟨A1, n1, rfl, ho, hb1⟩
  have HO := Kept.mk ho
  have HB1 := Kept.mk hb1
  have hnl := natI_len R
  rw [hnl] at ho ⊢
  clear c0 c1 c2 c3 c4 c5 c6 c7 c8 wf HL ho hb1
  have HSL := Kept.mk (fun (j x : Nat) (hj : R[j]? = some x) => show ∃ g, A1 = some ⟨g, 0, none⟩ ∧ hi ≤ g ∧ g < w1.heap.size ∧ w1.cell? ⟨g, j, none⟩ = some (.int .i64 (x : Int)) from by
    have hjl := (List.getElem?_eq_some_iff.1 hj).1
    obtain ⟨g, cap, hv, _, hlt⟩ := HO.out.form (by rw [hnl]; omega)
    have hA : A1 = some ⟨g, 0, none⟩ := by injection hv
    refine ⟨g, hA, ?_, hlt, ?_⟩
    · have := (HO.out.lt g (by rw [hA]; rfl)).1
      have := HK.out.hh
      omega
    · have hO := HO.out
      rw [hA] at hO
      have := hO.cells (g := g) rfl j (.int .i64 (x : Int)) (by simp [natI, hj])
      rwa [show (⟨g, 0, none⟩ : Addr).add j = ⟨g, j, none⟩ from by unfold Addr.add; split <;> simp_all] at this)
  clear hnl
  go_wp2_with fail
  go_loopw [14] (fun i wr => ∃ (j : Nat) (Sj : PS) (Fj : Nat → Nat), j ≤ R.length ∧ i = .int .i64 j ∧ Kept (WK wr lo hi wb I M p L K n Sj T f Fj now tu A [k]) ∧ Kept (Sp Sj T now k (R.drop j)) ∧ Kept (Kp lo hi w wr) ∧ Kept (Kp lo hi w1 wr)) (fun i _ => R.length - (intOf i).toNat)
  case atStart =>
    have h1 := HK.out.below (HB1.out.mono HK.out.hh)
    exact ⟨0, S, F, by omega, rfl, ⟨⟨h1.ly, h1.hh, h1.pa, h1.wc, h1.nb, h1.mp, h1.co, h1.fi, h1.fl, fun l i hl hi _ => h1.bi l i hl hi (by simp), h1.n0, h1.n1, h1.t0, h1.t1⟩⟩, ⟨HSP.out⟩, ⟨Kp.of_below HB1.out⟩, ⟨Kp.refl _ _ _⟩⟩
  case round =>
    obtain ⟨j, Sj, Fj, hjl, rfl, hKj, hSj, hkw, hk1⟩ := hrel
    by_cases hlt : j < R.length
    · obtain ⟨x, hx⟩ : ∃ x, R[j]? = some x := ⟨_, List.getElem?_eq_getElem hlt⟩
      obtain ⟨g, rfl, hg1, hg2, hgc⟩ := HSL.out j x hx
      have hxc : wr.cell? ⟨g, j, none⟩ = some (.int .i64 (x : Int)) := (World.cell?_of_block (a := ⟨g, j, none⟩) (hk1.out.block g hg2 (.inr hg1))).trans hgc
      have hdr : R.drop j = x :: R.drop (j + 1) := by
        rw [List.drop_eq_getElem_cons hlt]
        congr 1
        exact (List.getElem?_eq_some_iff.1 hx).2
      have HSJ := Kept.mk (show Sp Sj T now k (x :: R.drop (j + 1)) by rw [← hdr]; exact hSj.out)
      have hxk : x ∈ Sj.list (k : Int) := HSJ.out.in_ x (by simp)
      have hxn := HLT.out x (List.mem_of_getElem? hx)
      have HXD := Kept.mk (show x ∉ R.drop (j + 1) from by
        have h := HND.out.sublist (List.drop_sublist j R)
        rw [hdr] at h
        exact (List.nodup_cons.1 h).1)
      have hTx := hKj.out.co.du _ (hKj.out.co.mem k (by omega) x hxk)
      obtain ⟨c0, c1, c2, c3, c4, c5, c6, c7, c8, wf⟩ := hKj.out.wc
      have HH := home_any wb now (T x).du wr c0 hKj.out.n0 hKj.out.n1 hTx.1 hTx.2
      have hnc := hKj.out.nb.c (x * 3 + 1) (by omega)
      rw [tmN_1] at hnc
      have HXK := Kept.mk hxk
      have hxn3 : (x : Int) < (n : Int) := by omega
      obtain ⟨to, hto⟩ : ∃ to, to = hm now (T x).du := ⟨_, rfl⟩
      have htl : to < 258 := by rw [hto]; exact hm_lt _ _
      have HTO := Kept.mk hto
      rw [← hto] at HH
      clear hx hdr hgc hSj hxk hTx hto
      go_wp2_with fail
      refine HH.mono ?_
      rintro e w2 ⟨rfl, kk, rfl⟩
      by_cases hk2 : to = k
      · have t1 : ((to : Int) != (k : Int)) = false := by simp [hk2]
        have HST := Kept.mk (HSJ.out.stay (by rw [← HTO.out]; exact hk2))
        have HK2 := Kept.mk (hKj.out.drewN kk)
        clear hk2
        go_wp2_with fail
        go_roundw
        case rel => exact ⟨j + 1, Sj, Fj, by omega, by go_num, HK2, HST, ⟨hkw.out.drewN kk⟩, ⟨hk1.out.drewN kk⟩⟩
        case measure => simp [intOf]; omega
      · have t1 : ((to : Int) != (k : Int)) = true := by simp; omega
        have HK2 := Kept.mk (hKj.out.drewN kk)
        obtain ⟨F1, G1, _, hG1⟩ := HK2.out.pa.of
        obtain ⟨_, hw⟩ := wh_inW hG1 (show k < 258 by omega) HXK.out
        have hmv := move_any HK2.out.pa (x : Int) (to : Int)
        have em : mv n 258 Sj (x : Int) (to : Int) = (0, Sj.move x to) := by
          unfold mv
          rw [hw, if_neg (by simp; omega), if_pos rfl]
          simp
        rw [em] at hmv
        have HSG := Kept.mk (show Sp (Sj.move x to) T now k (R.drop (j + 1)) from by rw [HTO.out]; exact HSJ.out.go hG1 HXD.out)
        clear hk2 em hw hG1 HH
        go_wp2_with fail
        refine hmv.mono ?_
        rintro e w3 ⟨rfl, hp3, hk3⟩
        have h3 := HK2.out.move (q := k) (by omega) HXK.out htl hp3 hk3
        have HN := wnote_any h3.pa h3.wc h3.fl to
        have H3 := Kept.mk h3
        have K3 := Kept.mk (show Kp lo hi w w3 from (hkw.out.drewN kk).trans (hk3.wide hly.lh))
        have K31 := Kept.mk (show Kp lo hi w1 w3 from (hk1.out.drewN kk).trans (hk3.wide hly.lh))
        clear h3 hp3 hk3 hmv
        go_wp2_with fail
        refine HN.mono ?_
        intro e w4 hn
        obtain ⟨rfl, hk4, F4, h4⟩ := H3.out.note (Y := [k]) (fun y hy => by simp at hy; rcases hy with h | h | h <;> simp [h]) hn
        have H4 := Kept.mk h4
        have K4 := Kept.mk (K3.out.trans hk4)
        have K41 := Kept.mk (K31.out.trans hk4)
        clear hn h4 hk4 HN K3 K31 H3
        go_wp2_with fail
        go_roundw
        case rel => exact ⟨j + 1, Sj.move x to, F4, by omega, by go_num, H4, HSG, K4, K41⟩
        case measure => simp [intOf]; omega
    · obtain rfl : j = R.length := by omega
      have HN := wnote_any hKj.out.pa hKj.out.wc hKj.out.fl k
      have HPL := Kept.mk (show Pl Sj T now from fun q hq x hx => by
        rcases hSj.out.at_ q hq x hx with h | ⟨_, h⟩
        · exact h
        · rw [List.drop_length] at h; cases h)
      clear hSj hlt
      go_wp2_with fail
      refine HN.mono ?_
      intro e w4 hn
      obtain ⟨rfl, hk4, F4, h4⟩ := hKj.out.note (Y := []) (fun y hy => by simp at hy; exact .inl hy) hn
      have H4 := Kept.mk (show WAt w4 lo hi wb I M p L K n now tu A from ⟨Sj, T, f, F4, h4, HPL.out⟩)
      have K4 := Kept.mk (hkw.out.trans hk4)
      clear hn h4 hk4 HN
      go_wp2
      refine bodyPost_end (results_none rfl _ _ _) rfl ⟨rfl, H4.out, K4.out⟩
end Go.Proofs.YtakkfgkogomjbaaDoor
