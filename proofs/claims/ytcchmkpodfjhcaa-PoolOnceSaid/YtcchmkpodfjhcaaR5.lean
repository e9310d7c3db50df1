/-
  The walk of the reference pool's Take.
-/
import Derived.Test.YtcchmkpodfjhcaaR4
namespace Go.Proofs.Ytcchmkpodfjhcaa
open Go.RowKit
set_option linter.unusedVariables false
theorem take_lists {S : PS} {k i : Nat} {l0 : List Nat} {l : List Int} (h0 : S.lists[k]? = some l0) (hl : l = natI l0) :
    ((S.lists.map natI).map (flt (-1))).set k (l ++ [(i : Int)]) = (S.take i k).lists.map natI := by
  subst hl
  show _ = (S.lists.modify k (· ++ [i])).map natI
  rw [modify_set h0, List.map_set]
  congr 1
  · rw [List.map_map]
    congr 1
    funext l
    exact natI_with l
  · simp [natI]
theorem take_pile {S : PS} {P : List Nat} {i k : Nat} (h : S.pile = P ++ [i]) : natI (S.take i k).pile = natI P := by
  show natI S.pile.dropLast = natI P
  rw [h]; simp
theorem WR.pile {W : World} {B : Nat} {vp vl : Value} {pile pile' : List Int} {xs : List Value} {ls : List (List Int)} (h : WR W B vp vl pile xs ls) (e : pile' = pile) : WR W B vp vl pile' xs ls := by rw [e]; exact h
set_option maxRecDepth 100000 in
set_option maxHeartbeats 4000000 in
theorem rtake_any {w : World} {hi n m : Nat} {S : PS} {v : Value} (h : RP w hi n S v) (hg : GoodS n m S) (hh : hi ≤ w.heap.size) (k' : Int) :
    Calls Try.prog 18 #[v, .int .i64 k'] w (RRes w hi n (tk m S k').2.2 [.int .i64 (tk m S k').1, .int .i64 (tk m S k').2.1]) := by
  have hml : S.lists.length = m := by obtain ⟨_, _, F, G, hG⟩ := hg; exact hG.rep.len
  subst hml
  have hRI := h.of
  have HR := Kept.mk h
  have HG := Kept.mk hg
  obtain ⟨A, c, A2, c2, rfl, h1, h2, h3⟩ := h.of
  obtain ⟨W1, hW1⟩ : ∃ W1, W1 = (w.alloc (.cells #[.slice A S.pile.length c, .slice A2 S.lists.length c2, .int .i64 (n : Int)] 31)).alloc (.cells #[.slice none 0 0, .slice none 0 0, .int .i64 0] 31) := ⟨_, rfl⟩
  obtain ⟨b0, b1, hz1, hb1⟩ := two_bx w _ _ _ hW1
  have hR1 := h.below hb1
  have HR1 := Kept.mk hR1
  have B0 := Kept.mk b0
  have B1 := Kept.mk b1
  have HB1 := Kept.mk hb1
  have hsz1 : w.heap.size + 2 ≤ W1.heap.size := by omega
  have x0 := b0.c0
  have x1 := b0.c1
  have x2 := b0.c2
  have y0 := b1.c0
  have y1 := b1.c1
  have y2 := b1.c2
  have yf := b1.f
  have lls : (S.lists.length : Int) ≤ 4096 := by have := hg.sm.1; simp at this; omega
  have lpl : (S.pile.length : Int) ≤ 4096 := by
    obtain ⟨hn, _, F, G, hG⟩ := hg
    have := nodup_len hG.rep.pnd hG.rep.plt
    omega
  have HZ := Kept.mk hz1
  unfold rC at *
  clear h hg h1 h2 h3 hz1 b0 b1 hR1 hb1
  have FIN := Kept.mk (show Below w.heap.size w (((W1.setCell ⟨w.heap.size + 1, 0, none⟩ (.slice A S.pile.length c)).setCell ⟨w.heap.size + 1, 1, none⟩ (.slice A2 S.lists.length c2)).setCell ⟨w.heap.size + 1, 2, none⟩ (.int .i64 (n : Int))) from
    ((HB1.out.setCell (p := ⟨w.heap.size + 1, 0, none⟩) (Nat.le_succ _) _).setCell (p := ⟨w.heap.size + 1, 1, none⟩) (Nat.le_succ _) _).setCell (p := ⟨w.heap.size + 1, 2, none⟩) (Nat.le_succ _) _)
  go_enter Try.func18, Try.ntmps18
  go_upto_region 1 with fail
  rw [← hW1]
  clear hW1
  by_cases hkk : 0 ≤ k' ∧ k' < (S.lists.length : Int)
  · obtain ⟨k, rfl⟩ : ∃ k : Nat, k' = k := ⟨k'.toNat, by omega⟩
    have ik : (k : Int) < (S.lists.length : Int) := hkk.2
    cases e : S.pile.getLast? with
    | none =>
      have et : tk S.lists.length S k = ((0 : Int), (5 : Int), S) := by unfold tk; rw [if_neg (by simpa using hkk), e]
      have ET := Kept.mk et
      have h0 : (S.pile.length : Int) = 0 := by rw [List.getLast?_eq_none_iff.1 e]; rfl
      have h0' : ((S.pile.length : Int) == 0) = true := by rw [beq_iff_eq]; exact h0
      clear e et hkk hRI h0
      go_wp2
      refine bodyPost_ret (results_cellP3 rfl _ _ (w.heap.size + 1) _ _ _ _ _ rfl rfl rfl (((B1.out.s0 _).s1 _).s2 _)) rfl ?_
      rw [ET.out]
      exact ⟨_, rfl, HR.out.below FIN.out, FIN.out⟩
    | some i =>
      obtain ⟨P, hP⟩ := List.getLast?_eq_some_iff.1 e
      have et : tk S.lists.length S k = ((i : Int), (0 : Int), S.take i k) := by unfold tk; rw [if_neg (by simpa using hkk), e]; rfl
      have ET := Kept.mk et
      have HPP := Kept.mk hP
      obtain ⟨q, hq⟩ : ∃ q, S.pile.length = q + 1 := ⟨P.length, by rw [hP]; simp⟩
      have HQ := Kept.mk hq
      have hq1 : (S.pile.length : Int) - 1 = (q : Int) := by omega
      have hq0 : ((S.pile.length : Int) == 0) = false := by rw [beq_eq_false_iff_ne]; omega
      have hql : (q : Int) < (S.pile.length : Int) := by omega
      obtain ⟨A', c', A2', c2', ev, hri, _, _⟩ := hRI
      have eA : A = A' ∧ c = c' := by simp only [Value.agg.injEq] at ev; injection ev with ev; simp at ev; exact ⟨ev.1.1, ev.1.2⟩
      obtain ⟨rfl, rfl⟩ := eA
      obtain ⟨bp, op, rfl, hbp, hbp2, hcp⟩ := hri (by rw [natI_len]; omega)
      have hcq := hcp q (by rw [natI_len]; omega)
      have ePq : (natI S.pile)[q]?.getD 0 = (i : Int) := by
        have hpl : P.length = q := by rw [hP] at hq; simpa using hq
        rw [hP, ← hpl]
        simp [natI]
      rw [ePq] at hcq
      have hcq1 := (HB1.out.cell (p := ⟨bp, op + q, none⟩) hbp2).trans hcq
      obtain ⟨i0, hi0, hz0, hz1, hz2⟩ := info_parts info_int
      obtain ⟨l0, hl0⟩ : ∃ l, S.lists[k]? = some l := ⟨_, List.getElem?_eq_getElem (by omega)⟩
      have HL0 := Kept.mk hl0
      obtain ⟨l, hl⟩ : ∃ l, l = natI l0 := ⟨_, rfl⟩
      have HLE := Kept.mk hl
      have HLS := Kept.mk (show ((S.lists.map natI).map (flt (-1)))[k]? = some l from by rw [hl]; simp [hl0, natI_with])
      have lll : l.length ≤ 4096 := by
        have h1 := HG.out.sm.2 (natI l0) (List.mem_map.2 ⟨l0, List.mem_of_getElem? hl0, rfl⟩)
        rw [hl]; exact h1
      have x0' := x0
      have x1' := x1
      have x2' := x2
      have bw2 := HB1.out
      have hR2 := HR1.out
      have hb2 : Below W1.heap.size W1 W1 := Below.refl _ _
      clear e et hkk hl0 hl hP hq ePq hcp hri ev hcq hbp
      go_wp2_with fail
      refine (rwithout hR2 HG.out (-1)).mono ?_
      rintro e w3 ⟨A3, c3, A4, c4, xs, rfl, hwo, hb3⟩
      clear x0 x1 x2 hcq1
      have bw3 := bw2.trans (hb3.mono bw2.size)
      have b13 : Below W1.heap.size W1 w3 := hb2.trans (hb3.mono hb2.size)
      have hwo5 := (hwo.below (below_box w3 (.cells #[.slice A3 S.pile.length c3, .slice A4 S.lists.length c4, .int .i64 (n : Int)] 31))).mono (B' := W1.heap.size) hb2.size
      have hbx := BX.new w3 w3.heap.size rfl (.slice A3 S.pile.length c3) (.slice A4 S.lists.length c4) (.int .i64 (n : Int))
      have b15 := b13.alloc b13.size (.cells #[.slice A3 S.pile.length c3, .slice A4 S.lists.length c4, .int .i64 (n : Int)] 31)
      have hds : W1.heap.size ≤ w3.heap.size := b13.size
      clear hwo hR2 x0' x1' x2'
      go_upto_region 8 with fail
      obtain ⟨W5, hW5⟩ : ∃ W5, W5 = w3.alloc (.cells #[.slice A3 S.pile.length c3, .slice A4 S.lists.length c4, .int .i64 (n : Int)] 31) := ⟨_, rfl⟩
      rw [← hW5] at hwo5 hbx b15 ⊢
      clear hW5
      obtain ⟨d, hd⟩ : ∃ d, d = w3.heap.size := ⟨_, rfl⟩
      rw [← hd] at hbx hds ⊢
      clear hd b13 bw3 hb3
      have HWO := Kept.mk hwo5
      have HX := Kept.mk hbx
      clear hwo5
      have hcap : (S.pile.length : Int) ≤ (c3 : Int) := by have := own_cap HWO.out.op; rw [natI_len] at this; omega
      have z0 := hbx.c0
      have z1 := hbx.c1
      have z2 := hbx.c2
      have zf := hbx.f
      have hqc : (q : Int) ≤ (c3 : Int) := by omega
      go_upto_region 9 with fail
      have hcut := (HWO.out.pileCut (pile' := natI P) (i := (i : Int)) (by rw [HPP.out]; simp [natI]) (by rw [HPP.out]; simp [natI]))
      have hPq : (natI P).length = q := by have h1 := HQ.out; rw [HPP.out] at h1; rw [natI_len]; simpa using h1
      rw [hPq] at hcut
      have hwo6 := hcut.set (o := 0) hbx (by decide) (by decide) (.slice A3 q c3)
      have hbx6 := hbx.s0 (.slice A3 q c3)
      have b16 := b15.setCell (p := ⟨d, 0, none⟩) hds (.slice A3 q c3)
      clear hbx z0 z1 z2 zf hcut HWO HX b15
      obtain ⟨W6, hW6⟩ : ∃ W6, W6 = W5.setCell ⟨d, 0, none⟩ (.slice A3 q c3) := ⟨_, rfl⟩
      rw [← hW6] at hwo6 hbx6 b16 ⊢
      clear hW6
      have HWO := Kept.mk hwo6
      have HX := Kept.mk hbx6
      have b15 := b16
      clear hwo6 hbx6 b16
      obtain ⟨W5, hW5⟩ : ∃ W5, W5 = W6 := ⟨_, rfl⟩
      subst hW5
      obtain ⟨g, A7, c7, rfl, hxk, owni, gk, gf, hgl, cs, hgb⟩ := HWO.out.at HLS.out
      have hgd : g ≠ d := HX.out.ne hgb
      have hdg : d ≠ g := hgd.symm
      have hgr : g ≠ w.heap.size + 1 := (B1.out.kept (b15.block _ (by omega))).ne hgb
      have hrg : w.heap.size + 1 ≠ g := hgr.symm
      have gka : ∀ o, (W5.alloc o).cell? ⟨g, k, none⟩ = some (.slice A7 l.length c7) := fun o => ((below_box W5 o).cell (p := ⟨g, k, none⟩) hgl).trans gk
      have HXK := Kept.mk hxk
      have d1 := HX.out.c1
      have hdl := HX.out.lt
      have d1a : ∀ o, (W5.alloc o).cell? ⟨d, 1, none⟩ = some (.slice (some ⟨g, 0, none⟩) S.lists.length c4) := fun o => ((below_box W5 o).cell (p := ⟨d, 1, none⟩) hdl).trans d1
      have hdr : d ≠ w.heap.size + 1 := by omega
      have hrd : w.heap.size + 1 ≠ d := by omega
      clear hxk
      go_region_law (first
        | (refine step_of_wp rfl (wp_append_own _ _ _ 28 rfl W1.heap.size 3 i0 (.int .i64 0) 1 8 Try.underlying28 hi0 hz0 hz1 hz2 rfl (by decide) (.slice A7 l.length c7) l.length _ rfl (own_drew (owni.alloc _)) ⟨W5.heap.size, 0, none⟩ 1 1 [.int .i64 (i : Int)] rfl rfl (cell_one_new _ _ _) (by simp [Value.oneCell']) (by simp only [maxLen]; omega) (by omega) (by have := b15.size; simp; omega) ?_); intro v' w4 hown' hgrow _; obtain ⟨A6, c6, rfl⟩ := own_slice hown'; have hg' : W5.grownBy w4 (Value.slice A7 l.length c7).ownBlock := (grownBy_alloc_drew W5 (.cells #[.int .i64 (i : Int)] 3) _).trans hgrow; have hx6 : BX w4 d _ _ _ := HX.out.kept (hg'.block d hdl (fun e => own_ne owni HX.out (by decide) e.symm)); have b14 : Below W1.heap.size W1 w4 := below_grown b15 hg' owni (Nat.le_refl _) b15.size; have hr6 : BX w4 (w.heap.size + 1) _ _ _ := B1.out.kept (b14.block _ (by omega)); have hg6 := (hg'.block g hgl (fun e => own_ne owni hgb (by decide) e.symm)); have gk6 := (World.cell?_of_block (a := ⟨g, k, none⟩) hg6).trans gk; have gf6 := fun i => (World.frozen?_of_block (a := ⟨g, i, none⟩) hg6).trans (gf i); have y0 := hr6.c0; have y1 := hr6.c1; have y2 := hr6.c2; have yf := hr6.f; have t0 := hx6.c0; have t1 := hx6.c1; have t2 := hx6.c2; have tf := hx6.f))
      all_goals go_wp2
      all_goals refine bodyPost_ret (results_cellP3 rfl _ _ (w.heap.size + 1) _ _ _ _ _ rfl rfl rfl ((((hr6.kept (Below.heap_setCell _ ⟨g, k, none⟩ _ _ hrg)).s0 _).s1 _).s2 _)) rfl ?_
      all_goals rw [ET.out]
      all_goals have q := HWO.out.app (l' := l ++ [(i : Int)]) (by simp) HXK.out HLS.out (by simpa using hown') hg'
      all_goals rw [take_lists HL0.out HLE.out] at q
      all_goals refine ⟨_, rfl, WR.rp (S := S.take i k) ((WR.pile (q.fin (hr6.kept (Below.heap_setCell _ ⟨g, k, none⟩ _ _ hrg)) _ _ _) (by rw [take_pile HPP.out]))) (by omega), ?_⟩
      all_goals exact (((((HB1.out.trans (b14.mono HB1.out.size)).setCell (p := ⟨g, k, none⟩) (Nat.le_trans HB1.out.size (HWO.out.ol.lt g rfl).1) _).setCell (p := ⟨w.heap.size + 1, 0, none⟩) (Nat.le_succ _) _).setCell (p := ⟨w.heap.size + 1, 1, none⟩) (Nat.le_succ _) _).setCell (p := ⟨w.heap.size + 1, 2, none⟩) (Nat.le_succ _) _)
  · have et : tk S.lists.length S k' = ((0 : Int), (1 : Int), S) := by unfold tk; rw [if_pos hkk]
    have ET := Kept.mk et
    clear et hRI
    by_cases hk0 : k' < 0
    · clear hkk
      go_wp2
      refine bodyPost_ret (results_cellP3 rfl _ _ (w.heap.size + 1) _ _ _ _ _ rfl rfl rfl (((B1.out.s0 _).s1 _).s2 _)) rfl ?_
      rw [ET.out]
      exact ⟨_, rfl, HR.out.below FIN.out, FIN.out⟩
    · have hk1 : (S.lists.length : Int) ≤ k' := by omega
      clear hkk
      go_wp2
      refine bodyPost_ret (results_cellP3 rfl _ _ (w.heap.size + 1) _ _ _ _ _ rfl rfl rfl (((B1.out.s0 _).s1 _).s2 _)) rfl ?_
      rw [ET.out]
      exact ⟨_, rfl, HR.out.below FIN.out, FIN.out⟩
end Go.Proofs.Ytcchmkpodfjhcaa
