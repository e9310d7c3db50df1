/-
  The law IdealMore of vergelaw40: with one more piece, or a piece that takes longer, no piece is done sooner; every argument reads afterwards as before. No condition.
-/
import Derived.Test.YtcchmkpodfjhcaaL40q
namespace Go.Proofs.Ytcchmkpodfjhcaa.idealMore
open Go.ChangeShapes Go.WideShapes Go.ChangeAt Go.RowKit
set_option linter.unusedVariables false
set_option linter.unusedSimpArgs false
theorem leaves_pc : leaves Try.prog 3 108 = some [some .i64, some .i64, some .i64] := by kernel_rfl
theorem info_pc2 : (Try.prog.info? 108).map (fun i => (i.zero, i.size, i.bytes)) = some (some (.agg #[.int .i64 0, .int .i64 0, .int .i64 0]), 3, 24) := by kernel_rfl
theorem wp_region_late {P : Program} {ops : Array Oper} {Q : Exit → Act → World → Prop} {id : Nat} {a : Act} {w : World} (S : World → Prop) (T : Nat → Bool) (hm : P.follows .mixedOrders = true)
    (h : wpAnyT P .any ops Q S T ops.size (Array.replicate ops.size false) a w.drew) : (Code.region id ops true).wp P Q a w := wp_region_any hm (wpAny_of_T _ _ _ _ h)
set_option maxRecDepth 100000 in
set_option maxHeartbeats 16000000 in
theorem walk (A : Option Addr) (xs : List Q3) (cap : Nat) (pa pb pc z longer : Int) (w : World) (hx : R3 w w.heap.size A xs) (hnc : A = none → cap = 0) (hsz : xs.length * 24 ≤ 140737488351232) :
    Calls Try.prog 13 #[.slice A xs.length cap, .agg #[.int .i64 pa, .int .i64 pb, .int .i64 pc], .int .i64 z, .int .i64 longer] w fun e w' => e = .returned (.bool true) ∧ Below w.heap.size w w' := by
  obtain ⟨i0, hi0, hz0, hz1, hz2⟩ := info_parts info_pc2
  have HNC := Kept.mk hnc
  have HPC := Kept.mk (fun (V : World) (hV : Below (w.heap.size + 1) (w.alloc (.cells #[.int .i64 pa, .int .i64 pb, .int .i64 pc] 108)) V) => show V.cell? ⟨w.heap.size, 0, none⟩ = some (.int .i64 pa) ∧ V.cell? ⟨w.heap.size, 1, none⟩ = some (.int .i64 pb) ∧ V.cell? ⟨w.heap.size, 2, none⟩ = some (.int .i64 pc) from by
    have h := (hV.block w.heap.size (Nat.lt_succ_self _)).trans (heap_alloc_new w _)
    exact ⟨cell_of_row _ _ 0 _ _ _ h, cell_of_row _ _ 1 _ _ _ h, cell_of_row _ _ 2 _ _ _ h⟩)
  obtain ⟨ys, hys⟩ : ∃ ys, ys = xs ++ [(⟨pa, pb, pc⟩ : Q3)] := ⟨_, rfl⟩
  obtain ⟨m1, hm1⟩ : ∃ m1, m1 = (finE xs).length := ⟨_, rfl⟩
  obtain ⟨y1, hy1⟩ : ∃ y1, y1 = whyE xs := ⟨_, rfl⟩
  obtain ⟨m2, hm2⟩ : ∃ m2, m2 = (finE ys).length := ⟨_, rfl⟩
  obtain ⟨y2, hy2⟩ : ∃ y2, y2 = whyE ys := ⟨_, rfl⟩
  have HYS := Kept.mk hys
  have HM1 := Kept.mk hm1
  have HY1 := Kept.mk hy1
  have HM2 := Kept.mk hm2
  have HY2 := Kept.mk hy2
  have HFX := Kept.mk (fun (V : World) (hV : R3 V V.heap.size A xs) => fin_of (w := V) (A := A) (cap := cap) (xs := xs) rfl hy1.symm rfl hm1.symm hV)
  have HFY := Kept.mk (fun (V : World) (A0 : Option Addr) (c0 : Nat) (hV : R3 V V.heap.size A0 (xs ++ [(⟨pa, pb, pc⟩ : Q3)])) => fin_of (w := V) (A := A0) (cap := c0) (xs := ys) (n := xs.length + 1) rfl hy2.symm (by rw [hys]; simp) hm2.symm (by rw [hys]; exact hV))
  have XA := Kept.mk (hx.below (below_box w (.cells #[.int .i64 pa, .int .i64 pb, .int .i64 pc] 108)))
  clear hx hnc hys hm1 hy1 hm2 hy2
  go_enter Try.func13, Try.ntmps13
  go_wp2_with fail
  refine (lives_any _).mono ?_
  rintro e w1 ⟨rfl, b1⟩
  have C1 := Kept.mk (show Below (w.heap.size + 1) (w.alloc (.cells #[.int .i64 pa, .int .i64 pb, .int .i64 pc] 108)) w1 from b1.mono (by simp))
  have B1 := Kept.mk (show Below w.heap.size w w1 from (below_box w _).trans (b1.mono (by simp)))
  have X1 := Kept.mk (((XA.out.mono (Nat.le_succ _)).below C1.out).mono (by have := C1.out.size; simp at this; omega))
  clear b1 XA
  go_wp2_with fail
  refine (HFX.out w1 X1.out).mono ?_
  rintro e w2 ⟨A2, n2, rfl, hI2, b2⟩
  have B2 := Kept.mk (B1.out.trans (b2.mono B1.out.size))
  have C2 := Kept.mk (C1.out.trans (b2.mono (by have := C1.out.size; simp at this; omega)))
  have X2 := Kept.mk ((X1.out.below b2).mono b2.size)
  have I2 := Kept.mk hI2
  have hsz2 : w.heap.size + 1 ≤ w2.heap.size := by have := C2.out.size; simp at this; omega
  clear B1 C1 X1 HFX hI2 b2
  go_upto_region 4 with fail
  go_cut [11, 12] from 24 to 33 (fun s t wx => ∃ B c, s = .slice B m2 c ∧ t = .int .i64 y2 ∧ Kept (Ints wx wx.heap.size B (finE ys)) ∧ Below w2.heap.size w2 wx)
  case first =>
      have HS := Kept.mk (fun (V : World) (hV : Below w2.heap.size w2 V) => show (fun V : World => V.cell? ⟨w.heap.size, 0, none⟩ = some (.int .i64 pa) ∧ V.cell? ⟨w.heap.size, 1, none⟩ = some (.int .i64 pb) ∧ V.cell? ⟨w.heap.size, 2, none⟩ = some (.int .i64 pc)) V from HPC.out V (C2.out.trans (hV.mono hsz2)))
      obtain ⟨w2d, hw2d⟩ : ∃ w2d, w2d = w2.drew := ⟨_, rfl⟩
      have HB0 : Below w2.heap.size w2 w2d := by rw [hw2d]; exact (Below.refl _ _).drewN 1
      have HHELD := Kept.mk (HS.out w2d HB0)
      refine wp_region_late (fun V : World => V.cell? ⟨w.heap.size, 0, none⟩ = some (.int .i64 pa) ∧ V.cell? ⟨w.heap.size, 1, none⟩ = some (.int .i64 pb) ∧ V.cell? ⟨w.heap.size, 2, none⟩ = some (.int .i64 pc)) (fun _ => false) (by kernel_rfl) ?_
      rw [← hw2d]
      clear hw2d
      refine wpAnyT_take (i := 1) (v := ?v1x1) [1] (by simp only [List.getElem?_toArray, List.getElem?_cons_succ, List.getElem?_cons_zero]; exact rfl) (by kernel_rfl) (by kernel_rfl) (by kernel_rfl) (by kernel_rfl) (by intro _ _ _ h; exact h) (Or.inl ⟨by rfl, ?hy1x1⟩) HHELD.out ?rest1x1
      case hy1x1 => (intro w hSw; go_simp; try with_reducible rfl)
      try simp only [Act.put, List.setIfInBounds_toArray, List.set_cons_zero, List.set_cons_succ]
      refine wpAnyT_take (i := 3) (v := ?v3x2) [3] (by simp only [List.getElem?_toArray, List.getElem?_cons_succ, List.getElem?_cons_zero]; exact rfl) (by kernel_rfl) (by kernel_rfl) (by kernel_rfl) (by kernel_rfl) (by intro _ _ _ h; exact h) (Or.inl ⟨by rfl, ?hy3x2⟩) HHELD.out ?rest3x2
      case hy3x2 => (intro w hSw; go_simp; try with_reducible rfl)
      try simp only [Act.put, List.setIfInBounds_toArray, List.set_cons_zero, List.set_cons_succ]
      refine wpAnyT_two 0 4 (by kernel_rfl) (by simp only [List.getElem?_toArray, List.getElem?_cons_succ, List.getElem?_cons_zero]; exact rfl) (by simp only [List.getElem?_toArray, List.getElem?_cons_succ, List.getElem?_cons_zero]; exact rfl) (fun K hK => ?_) (fun K hK => ?_)
      · go_simp
        refine hK.out _ _ (fun _ => HS.out _ (HB0.alloc HB0.size _)) ?_
        clear hK K
        have ow1 := own_made3 (e := 108) (base := w2.heap.size) w2d w2d.heap.size rfl HB0.size
        have hb1 := HB0.alloc HB0.size (.cells #[] 108)
        obtain ⟨ge, hge⟩ : ∃ ge, ge = w2d.heap.size := ⟨_, rfl⟩
        obtain ⟨V1, hV1⟩ : ∃ V, V = w2d.alloc (.cells #[] 108) := ⟨_, rfl⟩
        have hgl : ge < V1.heap.size := by rw [hV1, hge]; simp
        rw [← hV1] at ow1 hb1  ⊢
        rw [← hge] at ow1  ⊢
        clear hV1 hge
        try simp only [Act.put, List.setIfInBounds_toArray, List.set_cons_zero, List.set_cons_succ]
        refine wpAnyT_two 2 4 (by kernel_rfl) (by simp only [List.getElem?_toArray, List.getElem?_cons_succ, List.getElem?_cons_zero]; exact rfl) (by simp only [List.getElem?_toArray, List.getElem?_cons_succ, List.getElem?_cons_zero]; exact rfl) (fun K hK => ?_) (fun K hK => ?_)
        · refine step_wp rfl (wp_app3 (.tmp 25) (.tmp 26) 84 rfl w2.heap.size 108 i0 (.agg #[.int .i64 0, .int .i64 0, .int .i64 0]) 24 Try.underlying84 hi0 hz0 hz1 hz2 rfl (.slice (some ⟨ge, 0, none⟩) 0 0) 0 [] rfl ow1 A xs cap w2.heap.size rfl (X2.out.below hb1) HNC.out (by simp only [maxLen]; omega) (by omega) hb1.size ?_)
          intro v2 V2 own2 grow2
          have hb2 := hb1.grown grow2 hb1.size (fun j hj => (ow1.lt j hj).1)
          obtain ⟨Av, cv, rfl⟩ := own_slice own2
          rw [Nat.zero_add] at own2 ⊢
          rw [List.nil_append] at own2
          refine hK.out _ _ (fun _ => HS.out _ hb2) ?_
          clear hK K grow2
          try simp only [Act.put, List.setIfInBounds_toArray, List.set_cons_zero, List.set_cons_succ]
          refine wpAnyT_one 4 (by kernel_rfl) (by simp only [List.getElem?_toArray, List.getElem?_cons_succ, List.getElem?_cons_zero]; exact rfl) (fun K hK => ?_)
          go_simp
          refine hK.out _ _ (fun _ => HS.out _ (hb2.alloc hb2.size _)) ?_
          clear hK K
          have pq3 : ∀ j u, [Value.int .i64 pa, .int .i64 pb, .int .i64 pc][j]? = some u → (V2.alloc (.cells #[.int .i64 pa, .int .i64 pb, .int .i64 pc] 108)).cell? ((⟨V2.heap.size, 0, none⟩ : Addr).add j) = some u := World.news_of_block (cs := #[.int .i64 pa, .int .i64 pb, .int .i64 pc]) (heap_alloc_new V2 _)
          have hb3 := hb2.alloc hb2.size (.cells #[.int .i64 pa, .int .i64 pb, .int .i64 pc] 108)
          have ow3 := own2.alloc (.cells #[.int .i64 pa, .int .i64 pb, .int .i64 pc] 108)
          obtain ⟨gx, hgxx⟩ : ∃ gx, gx = V2.heap.size := ⟨_, rfl⟩
          skip
          obtain ⟨V3, hV3⟩ : ∃ V, V = V2.alloc (.cells #[.int .i64 pa, .int .i64 pb, .int .i64 pc] 108) := ⟨_, rfl⟩
          have hgx : gx < V3.heap.size := by rw [hV3, hgxx]; simp
          rw [← hV3] at pq3 hb3 ow3 ⊢
          rw [← hgxx] at pq3 ⊢
          clear hV3 hgxx
          try simp only [Act.put, List.setIfInBounds_toArray, List.set_cons_zero, List.set_cons_succ]
          refine wpAnyT_one 5 (by kernel_rfl) (by simp only [List.getElem?_toArray, List.getElem?_cons_succ, List.getElem?_cons_zero]; exact rfl) (fun K hK => ?_)
          refine step_append_lies _ rfl (.tmp 27) (.tmp 29) 84 rfl w2.heap.size 108 i0 (.agg #[.int .i64 0, .int .i64 0, .int .i64 0]) 3 24 Try.underlying84 hi0 hz0 hz1 hz2 rfl (by decide) (.slice Av xs.length cv) xs.length (xs.flatMap Q3.cells) rfl ow3 ⟨_, 0, none⟩ 1 1 [.int .i64 pa, .int .i64 pb, .int .i64 pc] rfl rfl pq3 (by simp [Value.oneCell']) (by decide) (by simp only [maxLen]; omega) (by omega) hb3.size _ rfl ?_
          intro gF capF VF ownF growF liesF hltF
          have hbF := hb3.grown growF hb3.size (fun j hj => (ow3.lt j hj).1)
          have HRF := Kept.mk ((R3.of_own (xs := xs ++ [⟨pa, pb, pc⟩]) (by rw [List.flatMap_append]; exact ownF)).2)
          refine hK.out _ _ (fun _ => HS.out _ hbF) ?_
          clear hK K growF liesF ownF
          try simp only [Act.put, List.setIfInBounds_toArray, List.set_cons_zero, List.set_cons_succ]
          refine wpAnyT_one 6 (by kernel_rfl) (by simp only [List.getElem?_toArray, List.getElem?_cons_succ, List.getElem?_cons_zero]; exact rfl) (fun K hK => ?_)
          go_simp
          go_at_call 56
          refine (HFY.out VF (some ⟨gF, 0, none⟩) capF HRF.out).mono ?_
          rintro e VG ⟨BG, cG, rfl, hIG, hbG⟩
          have hbG2 := hbF.trans (hbG.mono hbF.size)
          have HIG := Kept.mk hIG
          refine hK.out _ _ (fun _ => HS.out _ hbG2) ?_
          clear hK K
          try simp only [Act.put, List.setIfInBounds_toArray, List.set_cons_zero, List.set_cons_succ]
          have HHELD2 := Kept.mk (HS.out _ hbG2)
          refine wpAnyT_take (i := 7) (v := ?v7x3) [7] (by simp only [List.getElem?_toArray, List.getElem?_cons_succ, List.getElem?_cons_zero]; exact rfl) (by kernel_rfl) (by kernel_rfl) (by kernel_rfl) (by kernel_rfl) (by intro _ _ _ h; exact h) (Or.inl ⟨by rfl, ?hy7x3⟩) HHELD2.out ?rest7x3
          case hy7x3 => (intro w hSw; go_simp; try with_reducible rfl)
          try simp only [Act.put, List.setIfInBounds_toArray, List.set_cons_zero, List.set_cons_succ]
          refine wpAnyT_take (i := 8) (v := ?v8x4) [8] (by simp only [List.getElem?_toArray, List.getElem?_cons_succ, List.getElem?_cons_zero]; exact rfl) (by kernel_rfl) (by kernel_rfl) (by kernel_rfl) (by kernel_rfl) (by intro _ _ _ h; exact h) (Or.inl ⟨by rfl, ?hy8x4⟩) HHELD2.out ?rest8x4
          case hy8x4 => (intro w hSw; go_simp; try with_reducible rfl)
          try simp only [Act.put, List.setIfInBounds_toArray, List.set_cons_zero, List.set_cons_succ]
          refine wpAnyT_take (i := 9) (v := ?v9x5) [9] (by simp only [List.getElem?_toArray, List.getElem?_cons_succ, List.getElem?_cons_zero]; exact rfl) (by kernel_rfl) (by kernel_rfl) (by kernel_rfl) (by kernel_rfl) (by intro _ _ _ h; exact h) (Or.inl ⟨by rfl, ?hy9x5⟩) HHELD2.out ?rest9x5
          case hy9x5 => (intro w hSw; go_simp; try with_reducible rfl)
          try simp only [Act.put, List.setIfInBounds_toArray, List.set_cons_zero, List.set_cons_succ]
          refine wpAnyT_take (i := 10) (v := ?v10x6) [10] (by simp only [List.getElem?_toArray, List.getElem?_cons_succ, List.getElem?_cons_zero]; exact rfl) (by kernel_rfl) (by kernel_rfl) (by kernel_rfl) (by kernel_rfl) (by intro _ _ _ h; exact h) (Or.inl ⟨by rfl, ?hy10x6⟩) HHELD2.out ?rest10x6
          case hy10x6 => (intro w hSw; go_simp; try with_reducible rfl)
          try simp only [Act.put, List.setIfInBounds_toArray, List.set_cons_zero, List.set_cons_succ]
          refine wpAnyT_take (i := 11) (v := ?v11x7) [11] (by simp only [List.getElem?_toArray, List.getElem?_cons_succ, List.getElem?_cons_zero]; exact rfl) (by kernel_rfl) (by kernel_rfl) (by kernel_rfl) (by kernel_rfl) (by intro _ _ _ h; exact h) (Or.inl ⟨by rfl, ?hy11x7⟩) HHELD2.out ?rest11x7
          case hy11x7 => (intro w hSw; go_simp; try with_reducible rfl)
          try simp only [Act.put, List.setIfInBounds_toArray, List.set_cons_zero, List.set_cons_succ]
          refine wpAnyT_done (by kernel_rfl) ?_ _
          go_wp2
          go_meet
          exact ⟨BG, cG, rfl, rfl, HIG, hbG2⟩
        · go_simp
          refine hK.out _ _ (fun _ => HS.out _ (hb1.alloc hb1.size _)) ?_
          clear hK K
          have pq5 : ∀ j u, [Value.int .i64 pa, .int .i64 pb, .int .i64 pc][j]? = some u → (V1.alloc (.cells #[.int .i64 pa, .int .i64 pb, .int .i64 pc] 108)).cell? ((⟨V1.heap.size, 0, none⟩ : Addr).add j) = some u := World.news_of_block (cs := #[.int .i64 pa, .int .i64 pb, .int .i64 pc]) (heap_alloc_new V1 _)
          have hb5 := hb1.alloc hb1.size (.cells #[.int .i64 pa, .int .i64 pb, .int .i64 pc] 108)
          have ow5 := ow1.alloc (.cells #[.int .i64 pa, .int .i64 pb, .int .i64 pc] 108)
          obtain ⟨gx, hgxx⟩ : ∃ gx, gx = V1.heap.size := ⟨_, rfl⟩
          have hgg : gx ≠ ge := by omega
          obtain ⟨V5, hV5⟩ : ∃ V, V = V1.alloc (.cells #[.int .i64 pa, .int .i64 pb, .int .i64 pc] 108) := ⟨_, rfl⟩
          have hgx : gx < V5.heap.size := by rw [hV5, hgxx]; simp
          rw [← hV5] at pq5 hb5 ow5 ⊢
          rw [← hgxx] at pq5 ⊢
          clear hV5 hgxx
          try simp only [Act.put, List.setIfInBounds_toArray, List.set_cons_zero, List.set_cons_succ]
          refine wpAnyT_one 2 (by kernel_rfl) (by simp only [List.getElem?_toArray, List.getElem?_cons_succ, List.getElem?_cons_zero]; exact rfl) (fun K hK => ?_)
          refine step_wp rfl (wp_app3 (.tmp 25) (.tmp 26) 84 rfl w2.heap.size 108 i0 (.agg #[.int .i64 0, .int .i64 0, .int .i64 0]) 24 Try.underlying84 hi0 hz0 hz1 hz2 rfl (.slice (some ⟨ge, 0, none⟩) 0 0) 0 [] rfl ow5 A xs cap w2.heap.size rfl (X2.out.below hb5) HNC.out (by simp only [maxLen]; omega) (by omega) hb5.size ?_)
          intro v6 V6 own6 grow6
          have hb6 := hb5.grown grow6 hb5.size (fun j hj => (ow5.lt j hj).1)
          obtain ⟨Av, cv, rfl⟩ := own_slice own6
          rw [Nat.zero_add] at own6 ⊢
          rw [List.nil_append] at own6
          have pq6 : ∀ j u, [Value.int .i64 pa, .int .i64 pb, .int .i64 pc][j]? = some u → V6.cell? ((⟨gx, 0, none⟩ : Addr).add j) = some u := fun j u hj => (grow6.cell_far _ (by rw [addB_block]; exact hgx) (by rw [addB_block]; intro e; simp [Value.ownBlock] at e; exact hgg e)).trans (pq5 j u hj)
          refine hK.out _ _ (fun _ => HS.out _ hb6) ?_
          clear hK K grow6
          try simp only [Act.put, List.setIfInBounds_toArray, List.set_cons_zero, List.set_cons_succ]
          refine wpAnyT_one 5 (by kernel_rfl) (by simp only [List.getElem?_toArray, List.getElem?_cons_succ, List.getElem?_cons_zero]; exact rfl) (fun K hK => ?_)
          refine step_append_lies _ rfl (.tmp 27) (.tmp 29) 84 rfl w2.heap.size 108 i0 (.agg #[.int .i64 0, .int .i64 0, .int .i64 0]) 3 24 Try.underlying84 hi0 hz0 hz1 hz2 rfl (by decide) (.slice Av xs.length cv) xs.length (xs.flatMap Q3.cells) rfl own6 ⟨_, 0, none⟩ 1 1 [.int .i64 pa, .int .i64 pb, .int .i64 pc] rfl rfl pq6 (by simp [Value.oneCell']) (by decide) (by simp only [maxLen]; omega) (by omega) hb6.size _ rfl ?_
          intro gF capF VF ownF growF liesF hltF
          have hbF := hb6.grown growF hb6.size (fun j hj => (own6.lt j hj).1)
          have HRF := Kept.mk ((R3.of_own (xs := xs ++ [⟨pa, pb, pc⟩]) (by rw [List.flatMap_append]; exact ownF)).2)
          refine hK.out _ _ (fun _ => HS.out _ hbF) ?_
          clear hK K growF liesF ownF
          try simp only [Act.put, List.setIfInBounds_toArray, List.set_cons_zero, List.set_cons_succ]
          refine wpAnyT_one 6 (by kernel_rfl) (by simp only [List.getElem?_toArray, List.getElem?_cons_succ, List.getElem?_cons_zero]; exact rfl) (fun K hK => ?_)
          go_simp
          go_at_call 56
          refine (HFY.out VF (some ⟨gF, 0, none⟩) capF HRF.out).mono ?_
          rintro e VG ⟨BG, cG, rfl, hIG, hbG⟩
          have hbG2 := hbF.trans (hbG.mono hbF.size)
          have HIG := Kept.mk hIG
          refine hK.out _ _ (fun _ => HS.out _ hbG2) ?_
          clear hK K
          try simp only [Act.put, List.setIfInBounds_toArray, List.set_cons_zero, List.set_cons_succ]
          have HHELD2 := Kept.mk (HS.out _ hbG2)
          refine wpAnyT_take (i := 7) (v := ?v7x8) [7] (by simp only [List.getElem?_toArray, List.getElem?_cons_succ, List.getElem?_cons_zero]; exact rfl) (by kernel_rfl) (by kernel_rfl) (by kernel_rfl) (by kernel_rfl) (by intro _ _ _ h; exact h) (Or.inl ⟨by rfl, ?hy7x8⟩) HHELD2.out ?rest7x8
          case hy7x8 => (intro w hSw; go_simp; try with_reducible rfl)
          try simp only [Act.put, List.setIfInBounds_toArray, List.set_cons_zero, List.set_cons_succ]
          refine wpAnyT_take (i := 8) (v := ?v8x9) [8] (by simp only [List.getElem?_toArray, List.getElem?_cons_succ, List.getElem?_cons_zero]; exact rfl) (by kernel_rfl) (by kernel_rfl) (by kernel_rfl) (by kernel_rfl) (by intro _ _ _ h; exact h) (Or.inl ⟨by rfl, ?hy8x9⟩) HHELD2.out ?rest8x9
          case hy8x9 => (intro w hSw; go_simp; try with_reducible rfl)
          try simp only [Act.put, List.setIfInBounds_toArray, List.set_cons_zero, List.set_cons_succ]
          refine wpAnyT_take (i := 9) (v := ?v9x10) [9] (by simp only [List.getElem?_toArray, List.getElem?_cons_succ, List.getElem?_cons_zero]; exact rfl) (by kernel_rfl) (by kernel_rfl) (by kernel_rfl) (by kernel_rfl) (by intro _ _ _ h; exact h) (Or.inl ⟨by rfl, ?hy9x10⟩) HHELD2.out ?rest9x10
          case hy9x10 => (intro w hSw; go_simp; try with_reducible rfl)
          try simp only [Act.put, List.setIfInBounds_toArray, List.set_cons_zero, List.set_cons_succ]
          refine wpAnyT_take (i := 10) (v := ?v10x11) [10] (by simp only [List.getElem?_toArray, List.getElem?_cons_succ, List.getElem?_cons_zero]; exact rfl) (by kernel_rfl) (by kernel_rfl) (by kernel_rfl) (by kernel_rfl) (by intro _ _ _ h; exact h) (Or.inl ⟨by rfl, ?hy10x11⟩) HHELD2.out ?rest10x11
          case hy10x11 => (intro w hSw; go_simp; try with_reducible rfl)
          try simp only [Act.put, List.setIfInBounds_toArray, List.set_cons_zero, List.set_cons_succ]
          refine wpAnyT_take (i := 11) (v := ?v11x12) [11] (by simp only [List.getElem?_toArray, List.getElem?_cons_succ, List.getElem?_cons_zero]; exact rfl) (by kernel_rfl) (by kernel_rfl) (by kernel_rfl) (by kernel_rfl) (by intro _ _ _ h; exact h) (Or.inl ⟨by rfl, ?hy11x12⟩) HHELD2.out ?rest11x12
          case hy11x12 => (intro w hSw; go_simp; try with_reducible rfl)
          try simp only [Act.put, List.setIfInBounds_toArray, List.set_cons_zero, List.set_cons_succ]
          refine wpAnyT_done (by kernel_rfl) ?_ _
          go_wp2
          go_meet
          exact ⟨BG, cG, rfl, rfl, HIG, hbG2⟩
      · go_simp
        refine hK.out _ _ (fun _ => HS.out _ (HB0.alloc HB0.size _)) ?_
        clear hK K
        have pq8 : ∀ j u, [Value.int .i64 pa, .int .i64 pb, .int .i64 pc][j]? = some u → (w2d.alloc (.cells #[.int .i64 pa, .int .i64 pb, .int .i64 pc] 108)).cell? ((⟨w2d.heap.size, 0, none⟩ : Addr).add j) = some u := World.news_of_block (cs := #[.int .i64 pa, .int .i64 pb, .int .i64 pc]) (heap_alloc_new w2d _)
        have hb8 := HB0.alloc HB0.size (.cells #[.int .i64 pa, .int .i64 pb, .int .i64 pc] 108)
        obtain ⟨gx, hgxx⟩ : ∃ gx, gx = w2d.heap.size := ⟨_, rfl⟩
        skip
        obtain ⟨V8, hV8⟩ : ∃ V, V = w2d.alloc (.cells #[.int .i64 pa, .int .i64 pb, .int .i64 pc] 108) := ⟨_, rfl⟩
        have hgx : gx < V8.heap.size := by rw [hV8, hgxx]; simp
        rw [← hV8] at pq8 hb8  ⊢
        rw [← hgxx] at pq8 ⊢
        clear hV8 hgxx
        try simp only [Act.put, List.setIfInBounds_toArray, List.set_cons_zero, List.set_cons_succ]
        refine wpAnyT_one 0 (by kernel_rfl) (by simp only [List.getElem?_toArray, List.getElem?_cons_succ, List.getElem?_cons_zero]; exact rfl) (fun K hK => ?_)
        go_simp
        refine hK.out _ _ (fun _ => HS.out _ (hb8.alloc hb8.size _)) ?_
        clear hK K
        have ow9 := own_made3 (e := 108) (base := w2.heap.size) V8 V8.heap.size rfl hb8.size
        have hb9 := hb8.alloc hb8.size (.cells #[] 108)
        have pq9 : ∀ j u, [Value.int .i64 pa, .int .i64 pb, .int .i64 pc][j]? = some u → (V8.alloc (.cells #[] 108)).cell? ((⟨gx, 0, none⟩ : Addr).add j) = some u := fun j u hj => ((below_box V8 _).cell (p := (⟨gx, 0, none⟩ : Addr).add j) (by rw [addB_block]; exact hgx)).trans (pq8 j u hj)
        have hgx9 : gx < (V8.alloc (.cells #[] 108)).heap.size := by simp; omega
        have hgg : gx ≠ V8.heap.size := by omega
        obtain ⟨ge, hge⟩ : ∃ ge, ge = V8.heap.size := ⟨_, rfl⟩
        obtain ⟨V9, hV9⟩ : ∃ V, V = V8.alloc (.cells #[] 108) := ⟨_, rfl⟩
        have hgl : ge < V9.heap.size := by rw [hV9, hge]; simp
        rw [← hV9] at ow9 hb9 pq9 hgx9 ⊢
        rw [← hge] at ow9 hgg ⊢
        clear hV9 hge
        try simp only [Act.put, List.setIfInBounds_toArray, List.set_cons_zero, List.set_cons_succ]
        replace hgx := hgx9
        refine wpAnyT_one 2 (by kernel_rfl) (by simp only [List.getElem?_toArray, List.getElem?_cons_succ, List.getElem?_cons_zero]; exact rfl) (fun K hK => ?_)
        refine step_wp rfl (wp_app3 (.tmp 25) (.tmp 26) 84 rfl w2.heap.size 108 i0 (.agg #[.int .i64 0, .int .i64 0, .int .i64 0]) 24 Try.underlying84 hi0 hz0 hz1 hz2 rfl (.slice (some ⟨ge, 0, none⟩) 0 0) 0 [] rfl ow9 A xs cap w2.heap.size rfl (X2.out.below hb9) HNC.out (by simp only [maxLen]; omega) (by omega) hb9.size ?_)
        intro v10 V10 own10 grow10
        have hb10 := hb9.grown grow10 hb9.size (fun j hj => (ow9.lt j hj).1)
        obtain ⟨Av, cv, rfl⟩ := own_slice own10
        rw [Nat.zero_add] at own10 ⊢
        rw [List.nil_append] at own10
        have pq10 : ∀ j u, [Value.int .i64 pa, .int .i64 pb, .int .i64 pc][j]? = some u → V10.cell? ((⟨gx, 0, none⟩ : Addr).add j) = some u := fun j u hj => (grow10.cell_far _ (by rw [addB_block]; exact hgx) (by rw [addB_block]; intro e; simp [Value.ownBlock] at e; exact hgg e)).trans (pq9 j u hj)
        refine hK.out _ _ (fun _ => HS.out _ hb10) ?_
        clear hK K grow10
        try simp only [Act.put, List.setIfInBounds_toArray, List.set_cons_zero, List.set_cons_succ]
        refine wpAnyT_one 5 (by kernel_rfl) (by simp only [List.getElem?_toArray, List.getElem?_cons_succ, List.getElem?_cons_zero]; exact rfl) (fun K hK => ?_)
        refine step_append_lies _ rfl (.tmp 27) (.tmp 29) 84 rfl w2.heap.size 108 i0 (.agg #[.int .i64 0, .int .i64 0, .int .i64 0]) 3 24 Try.underlying84 hi0 hz0 hz1 hz2 rfl (by decide) (.slice Av xs.length cv) xs.length (xs.flatMap Q3.cells) rfl own10 ⟨_, 0, none⟩ 1 1 [.int .i64 pa, .int .i64 pb, .int .i64 pc] rfl rfl pq10 (by simp [Value.oneCell']) (by decide) (by simp only [maxLen]; omega) (by omega) hb10.size _ rfl ?_
        intro gF capF VF ownF growF liesF hltF
        have hbF := hb10.grown growF hb10.size (fun j hj => (own10.lt j hj).1)
        have HRF := Kept.mk ((R3.of_own (xs := xs ++ [⟨pa, pb, pc⟩]) (by rw [List.flatMap_append]; exact ownF)).2)
        refine hK.out _ _ (fun _ => HS.out _ hbF) ?_
        clear hK K growF liesF ownF
        try simp only [Act.put, List.setIfInBounds_toArray, List.set_cons_zero, List.set_cons_succ]
        refine wpAnyT_one 6 (by kernel_rfl) (by simp only [List.getElem?_toArray, List.getElem?_cons_succ, List.getElem?_cons_zero]; exact rfl) (fun K hK => ?_)
        go_simp
        go_at_call 56
        refine (HFY.out VF (some ⟨gF, 0, none⟩) capF HRF.out).mono ?_
        rintro e VG ⟨BG, cG, rfl, hIG, hbG⟩
        have hbG2 := hbF.trans (hbG.mono hbF.size)
        have HIG := Kept.mk hIG
        refine hK.out _ _ (fun _ => HS.out _ hbG2) ?_
        clear hK K
        try simp only [Act.put, List.setIfInBounds_toArray, List.set_cons_zero, List.set_cons_succ]
        have HHELD2 := Kept.mk (HS.out _ hbG2)
        refine wpAnyT_take (i := 7) (v := ?v7x13) [7] (by simp only [List.getElem?_toArray, List.getElem?_cons_succ, List.getElem?_cons_zero]; exact rfl) (by kernel_rfl) (by kernel_rfl) (by kernel_rfl) (by kernel_rfl) (by intro _ _ _ h; exact h) (Or.inl ⟨by rfl, ?hy7x13⟩) HHELD2.out ?rest7x13
        case hy7x13 => (intro w hSw; go_simp; try with_reducible rfl)
        try simp only [Act.put, List.setIfInBounds_toArray, List.set_cons_zero, List.set_cons_succ]
        refine wpAnyT_take (i := 8) (v := ?v8x14) [8] (by simp only [List.getElem?_toArray, List.getElem?_cons_succ, List.getElem?_cons_zero]; exact rfl) (by kernel_rfl) (by kernel_rfl) (by kernel_rfl) (by kernel_rfl) (by intro _ _ _ h; exact h) (Or.inl ⟨by rfl, ?hy8x14⟩) HHELD2.out ?rest8x14
        case hy8x14 => (intro w hSw; go_simp; try with_reducible rfl)
        try simp only [Act.put, List.setIfInBounds_toArray, List.set_cons_zero, List.set_cons_succ]
        refine wpAnyT_take (i := 9) (v := ?v9x15) [9] (by simp only [List.getElem?_toArray, List.getElem?_cons_succ, List.getElem?_cons_zero]; exact rfl) (by kernel_rfl) (by kernel_rfl) (by kernel_rfl) (by kernel_rfl) (by intro _ _ _ h; exact h) (Or.inl ⟨by rfl, ?hy9x15⟩) HHELD2.out ?rest9x15
        case hy9x15 => (intro w hSw; go_simp; try with_reducible rfl)
        try simp only [Act.put, List.setIfInBounds_toArray, List.set_cons_zero, List.set_cons_succ]
        refine wpAnyT_take (i := 10) (v := ?v10x16) [10] (by simp only [List.getElem?_toArray, List.getElem?_cons_succ, List.getElem?_cons_zero]; exact rfl) (by kernel_rfl) (by kernel_rfl) (by kernel_rfl) (by kernel_rfl) (by intro _ _ _ h; exact h) (Or.inl ⟨by rfl, ?hy10x16⟩) HHELD2.out ?rest10x16
        case hy10x16 => (intro w hSw; go_simp; try with_reducible rfl)
        try simp only [Act.put, List.setIfInBounds_toArray, List.set_cons_zero, List.set_cons_succ]
        refine wpAnyT_take (i := 11) (v := ?v11x17) [11] (by simp only [List.getElem?_toArray, List.getElem?_cons_succ, List.getElem?_cons_zero]; exact rfl) (by kernel_rfl) (by kernel_rfl) (by kernel_rfl) (by kernel_rfl) (by intro _ _ _ h; exact h) (Or.inl ⟨by rfl, ?hy11x17⟩) HHELD2.out ?rest11x17
        case hy11x17 => (intro w hSw; go_simp; try with_reducible rfl)
        try simp only [Act.put, List.setIfInBounds_toArray, List.set_cons_zero, List.set_cons_succ]
        refine wpAnyT_done (by kernel_rfl) ?_ _
        go_wp2
        go_meet
        exact ⟨BG, cG, rfl, rfl, HIG, hbG2⟩
  case rest =>
    obtain ⟨BG, cG, rfl, rfl, hIG, hbG⟩ := hcut
    obtain ⟨w3, hw3⟩ : ∃ w3, w3 = wc := ⟨_, rfl⟩
    subst hw3
    have B3 := Kept.mk (B2.out.trans (hbG.mono B2.out.size))
    have X3 := Kept.mk ((X2.out.below hbG).mono hbG.size)
    have I3 := Kept.mk ((I2.out.below hbG).mono hbG.size)
    have G3 := hIG
    have hO0 := own_made3 (e := 108) (base := w3.heap.size) w3 w3.heap.size rfl (Nat.le_refl _)
    have hX0 := (X3.out.below (below_box w3 (.cells #[] 108)))
    have HO0 := Kept.mk hO0
    have HX0 := Kept.mk hX0
    have hsz3 : w3.heap.size ≤ (w3.alloc (.cells #[] 108)).heap.size := (below_box w3 _).size
    have hz24 : (0 + xs.length) * 24 ≤ 140737488355328 := by omega
    have hmx0 : 0 + xs.length ≤ maxLen := by simp only [maxLen]; omega
    clear B2 C2 X2 I2 hIG hbG hO0 hX0 HPC hsz2 HFY
    go_upto_region 6 with (at_builtin; refine wpList_app3 rfl (.tmp 34) (.tmp 35) 84 rfl w3.heap.size 108 i0 (.agg #[.int .i64 0, .int .i64 0, .int .i64 0]) 24 Try.underlying84 hi0 hz0 hz1 hz2 rfl (.slice (some ⟨w3.heap.size, 0, none⟩) 0 0) 0 [] rfl HO0.out A xs cap w3.heap.size rfl HX0.out HNC.out hmx0 hz24 hsz3 ?_; intro v5 w5 own5 grow5; have hb5 := Kept.mk ((below_box w3 (.cells #[] 108)).grown grow5 hsz3 (fun j hj => (HO0.out.lt j hj).1)); obtain ⟨Av, cv, rfl⟩ := own_slice own5; rw [Nat.zero_add] at own5 ⊢; rw [List.nil_append] at own5; have HO5 := Kept.mk own5; clear own5 grow5)
    obtain ⟨bb, hbb⟩ : ∃ bb, bb = (decide (0 ≤ z) && decide (z < (xs.length : Int))) := ⟨_, rfl⟩
    have HBB := Kept.mk hbb
    clear hbb HO0 HX0 hsz3
    go_cut [44] from 37 to 43 (fun s wx => s = .bool bb ∧ wx = w5)
    case first =>
      by_cases h0 : 0 ≤ z
      · have t0 : decide (0 ≤ z) = true := decide_eq_true h0
        by_cases h1 : z < (xs.length : Int)
        · have t1 : decide (z < (xs.length : Int)) = true := decide_eq_true h1
          have HV := Kept.mk (show bb = true by rw [HBB.out, t0, t1]; rfl)
          go_wp2
          go_meet
          exact ⟨by rw [HV.out], rfl⟩
        · have t1 : decide (z < (xs.length : Int)) = false := decide_eq_false h1
          have HV := Kept.mk (show bb = false by rw [HBB.out, t0, t1]; rfl)
          go_wp2
          go_meet
          exact ⟨by rw [HV.out], rfl⟩
      · have t0 : decide (0 ≤ z) = false := decide_eq_false h0
        have HV := Kept.mk (show bb = false by rw [HBB.out, t0]; rfl)
        go_wp2
        go_meet
        exact ⟨by rw [HV.out], rfl⟩
    case rest =>
      obtain ⟨rfl, hwx⟩ := hcut
      subst hwx
      go_upto_if 44 with fail
      go_cut [13] from 45 to 55 (fun s wx => ∃ (zs : List Q3) (Az : Option Addr) (cz : Nat), s = .slice Az xs.length cz ∧ zs.length = xs.length ∧ Kept (R3 wx wx.heap.size Az zs) ∧ Below w3.heap.size w3 wx ∧ Kept (whyE xs = 0 → ∀ (k : Nat) (q : Q3), xs[k]? = some q → ∃ r, zs[k]? = some r ∧ r.a = q.a ∧ r.b = q.b ∧ q.c ≤ r.c))
      case first =>
        cases hbv : bb with
        | false =>
          subst hbv
          go_wp2
          go_meet
          exact ⟨xs, Av, cv, rfl, rfl, ⟨(R3.of_own HO5.out).2⟩, hb5.out, ⟨fun _ k q h => ⟨q, h, rfl, rfl, Int.le_refl _⟩⟩⟩
        | true =>
          have hzz : 0 ≤ z ∧ z < (xs.length : Int) := by
            have h := HBB.out
            rw [hbv] at h
            have h' := h.symm
            rw [Bool.and_eq_true, decide_eq_true_eq, decide_eq_true_eq] at h'
            exact h'
          subst hbv
          obtain ⟨i, rfl⟩ : ∃ i : Nat, z = i := ⟨z.toNat, by omega⟩
          have hi : i < xs.length := by omega
          have ii : (i : Int) < (xs.length : Int) := by omega
          obtain ⟨q, hq⟩ := some3_at hi
          obtain ⟨g, cap', e1, hgb, hgl⟩ := HO5.out.form (by omega)
          cases e1
          have hcq : wc.cell? ⟨g, i * 3 + 2, none⟩ = some (.int .i64 q.c) := by
            rw [HO5.out.cellAt _ (by omega), cells3_at xs i 2 q hq (by omega)]; rfl
          have hfq : wc.frozen? ⟨g, i * 3 + 2, none⟩ = false := HO5.out.frozenAt _
          have HQ := Kept.mk hq
          clear hq hzz
          go_wp2
          go_meet
          obtain ⟨V, hV⟩ : ∃ V, V = wrap64 (q.c + max 0 (min longer 1099511627776)) := ⟨_, rfl⟩
          rw [← hV]
          have hst := (HO5.out.stored (i * 3 + 2) (.int .i64 V)).1
          rw [q3_set xs i q V HQ.out] at hst
          have hr3 := (R3.of_own hst).2
          refine ⟨xs.set i ⟨q.a, q.b, V⟩, some ⟨g, 0, none⟩, cv, rfl, by simp, ⟨hr3⟩, hb5.out.setCell (p := ⟨g, i * 3 + 2, none⟩) hgb _, ⟨fun hw k q' hk => ?_⟩⟩
          by_cases e : k = i
          · subst e
            have hq' := hk.symm.trans HQ.out
            cases hq'
            have hok := (chk_ok.1 (whyE_ok.1 hw).1).2 q (List.mem_of_getElem? hk)
            refine ⟨⟨q.a, q.b, V⟩, by rw [List.getElem?_set_self hi], rfl, rfl, ?_⟩
            have h0 := hok.c0
            have h1 := hok.c1
            show q.c ≤ V
            rw [hV]
            unfold wrap64
            omega
          · exact ⟨q', by rw [List.getElem?_set_ne (fun h => e h.symm)]; exact hk, rfl, rfl, Int.le_refl _⟩
      case rest =>
        obtain ⟨zs, Az, cz, rfl, hzl, hZ, hb8, hrel⟩ := hcut
        obtain ⟨m3, hm3⟩ : ∃ m3, m3 = (finE zs).length := ⟨_, rfl⟩
        obtain ⟨y3, hy3⟩ : ∃ y3, y3 = whyE zs := ⟨_, rfl⟩
        have HFZ := Kept.mk (fin_of (w := wc) (A := Az) (cap := cz) (xs := zs) rfl hy3.symm hzl hm3.symm hZ.out)
        have HM3 := Kept.mk hm3
        have HY3 := Kept.mk hy3
        have HZL := Kept.mk hzl
        have B8 := Kept.mk (B3.out.trans (hb8.mono B3.out.size))
        have I8 := Kept.mk ((I3.out.below hb8).mono hb8.size)
        have G8 := Kept.mk ((G3.out.below hb8).mono hb8.size)
        clear hm3 hy3 hzl hZ hb8 B3 I3 G3 X3 HO5 hb5 HBB
        go_wp2_with fail
        refine HFZ.out.mono ?_
        rintro e w9 ⟨A9, n9, rfl, hI9, b9⟩
        have B9 := Kept.mk (B8.out.trans (b9.mono B8.out.size))
        have I9 := Kept.mk ((I8.out.below b9).mono b9.size)
        have G9 := Kept.mk ((G8.out.below b9).mono b9.size)
        have H9 := Kept.mk hI9
        clear hI9 b9 B8 I8 G8 HFZ
        by_cases hy : y1 = 0
        · have hwx : whyE xs = 0 := HY1.out.symm.trans hy
          have hy0 : (y1 != 0) = false := by rw [hy]; rfl
          have hm : m1 = xs.length := by rw [HM1.out, finE_ok hwx, dE_len]
          have HFF := Kept.mk (fun (k : Nat) (hk : k < xs.length) => show ∃ b off, A2 = some ⟨b, off, none⟩ ∧ w9.cell? ⟨b, off + k, none⟩ = some (.int .i64 ((sE xs).done k : Int)) from by
            have h := I9.out
            rw [finE_ok hwx] at h
            obtain ⟨b, off, e, _, hc⟩ := h (by rw [dE_len]; omega)
            have hck := hc k (by rw [dE_len]; exact hk)
            rw [dE_at xs hk, Option.getD_some] at hck
            exact ⟨b, off, e, hck⟩)
          have HGG := Kept.mk (fun (h2 : y2 = 0) => show m2 = xs.length + 1 ∧ ∀ k, k < xs.length → ∃ b off, ∃ t1 : Int, BG = some ⟨b, off, none⟩ ∧ w9.cell? ⟨b, off + k, none⟩ = some (.int .i64 t1) ∧ ((sE xs).done k : Int) ≤ t1 from by
            have hwy : whyE ys = 0 := HY2.out.symm.trans h2
            have hly : ys.length = xs.length + 1 := by rw [HYS.out]; simp
            refine ⟨by rw [HM2.out, finE_ok hwy, dE_len, hly], fun k hk => ?_⟩
            have h := G9.out
            rw [finE_ok hwy] at h
            obtain ⟨b, off, e, _, hc⟩ := h (by rw [dE_len]; omega)
            have hck := hc k (by rw [dE_len]; omega)
            rw [dE_at ys (by omega), Option.getD_some] at hck
            have hyq : ∀ (j : Nat) (q : Q3), xs[j]? = some q → ∃ r, ys[j]? = some r ∧ r.a = q.a ∧ r.b = q.b ∧ q.c ≤ r.c := fun j q hq => by
              have hj : j < xs.length := by
                rcases Nat.lt_or_ge j xs.length with h | h
                · exact h
                · rw [List.getElem?_eq_none h] at hq; cases hq
              exact ⟨q, by rw [HYS.out, List.getElem?_append_left hj]; exact hq, rfl, rfl, Int.le_refl _⟩
            have hmo := more hwx hwy (by omega) hyq hk
            exact ⟨b, off, _, e, hck, by omega⟩)
          have HHH := Kept.mk (fun (h3 : y3 = 0) => show m3 = xs.length ∧ ∀ k, k < xs.length → ∃ b off, ∃ t1 : Int, A9 = some ⟨b, off, none⟩ ∧ w9.cell? ⟨b, off + k, none⟩ = some (.int .i64 t1) ∧ ((sE xs).done k : Int) ≤ t1 from by
            have hwz : whyE zs = 0 := HY3.out.symm.trans h3
            refine ⟨by rw [HM3.out, finE_ok hwz, dE_len, HZL.out], fun k hk => ?_⟩
            have h := H9.out
            rw [finE_ok hwz] at h
            obtain ⟨b, off, e, _, hc⟩ := h (by rw [dE_len]; have := HZL.out; omega)
            have hck := hc k (by rw [dE_len]; have := HZL.out; omega)
            rw [dE_at zs (by have := HZL.out; omega), Option.getD_some] at hck
            have hmo := more hwx hwz (by have := HZL.out; omega) (hrel.out hwx) hk
            exact ⟨b, off, _, e, hck, by omega⟩)
          by_cases hl : xs.length ≤ 200
          · have hl2 : decide ((200 : Int) < (xs.length : Int)) = false := decide_eq_false (by omega)
            have HM := Kept.mk hm
            clear hy hwx hrel
            go_wp2_with fail
            go_loopw [70] (fun t wr => ∃ k nn : Nat, k ≤ xs.length ∧ t = .int .i64 k ∧ wr = w9.drewN nn) (fun t _ => xs.length - (intOf t).toNat)
            case atStart => exact ⟨0, 0, by omega, rfl, rfl⟩
            case round =>
              obtain ⟨k, nn, hk, rfl, rfl⟩ := hrel
              by_cases hlt : k < xs.length
              · have ik : (k : Int) < (m1 : Int) := by omega
                have ik3 : (k : Int) < (xs.length : Int) := by omega
                obtain ⟨bf, of, rfl, cf⟩ := HFF.out k hlt
                obtain ⟨t0, ht0⟩ : ∃ t0 : Int, t0 = ((sE xs).done k : Int) := ⟨_, rfl⟩
                have HGK := Kept.mk (fun h2 => (HGG.out h2).2 k hlt)
                have HGL := Kept.mk (fun h2 => (HGG.out h2).1)
                have HHK := Kept.mk (fun h2 => (HHH.out h2).2 k hlt)
                have HHL := Kept.mk (fun h2 => (HHH.out h2).1)
                rw [← ht0] at cf HGK HHK
                clear ht0 hm
                by_cases g2 : y2 = 0
                · have e2 : (y2 == 0) = true := by rw [g2]; rfl
                  obtain ⟨bg, og, t1, rfl, cg, hle⟩ := HGK.out g2
                  have hml := HGL.out g2
                  have d1 : decide ((m2 : Int) ≤ (k : Int)) = false := decide_eq_false (by omega)
                  have d1' : decide (m2 ≤ k) = false := decide_eq_false (by omega)
                  have d2 : decide (t1 < t0) = false := decide_eq_false (by omega)
                  have ig : (k : Int) < (m2 : Int) := by omega
                  clear hle hml
                  by_cases g3 : y3 = 0
                  · have e3 : (y3 == 0) = true := by rw [g3]; rfl
                    obtain ⟨bh, oh, t2, rfl, ch, hle⟩ := HHK.out g3
                    have hml := HHL.out g3
                    have d3 : decide ((m3 : Int) ≤ (k : Int)) = false := decide_eq_false (by omega)
                    have d3' : decide (m3 ≤ k) = false := decide_eq_false (by omega)
                    have d4 : decide (t2 < t0) = false := decide_eq_false (by omega)
                    have ih : (k : Int) < (m3 : Int) := by omega
                    clear hle hml g2 g3
                    go_wp2_with fail
                    go_quiet (fail)
                    go_wp2
                    go_roundw
                    case rel => exact ⟨k + 1, _, by omega, by go_num, rfl⟩
                    case measure => simp [intOf]; omega
                  · have e3 : (y3 == 0) = false := by rw [beq_eq_false_iff_ne]; exact g3
                    clear g2 g3
                    go_wp2_with fail
                    go_quiet (fail)
                    go_wp2
                    go_roundw
                    case rel => exact ⟨k + 1, _, by omega, by go_num, rfl⟩
                    case measure => simp [intOf]; omega
                · have e2 : (y2 == 0) = false := by rw [beq_eq_false_iff_ne]; exact g2
                  by_cases g3 : y3 = 0
                  · have e3 : (y3 == 0) = true := by rw [g3]; rfl
                    obtain ⟨bh, oh, t2, rfl, ch, hle⟩ := HHK.out g3
                    have hml := HHL.out g3
                    have d3 : decide ((m3 : Int) ≤ (k : Int)) = false := decide_eq_false (by omega)
                    have d3' : decide (m3 ≤ k) = false := decide_eq_false (by omega)
                    have d4 : decide (t2 < t0) = false := decide_eq_false (by omega)
                    have ih : (k : Int) < (m3 : Int) := by omega
                    clear hle hml g2 g3
                    go_wp2_with fail
                    go_quiet (fail)
                    go_wp2
                    go_roundw
                    case rel => exact ⟨k + 1, _, by omega, by go_num, rfl⟩
                    case measure => simp [intOf]; omega
                  · have e3 : (y3 == 0) = false := by rw [beq_eq_false_iff_ne]; exact g3
                    clear g2 g3
                    go_wp2_with fail
                    go_quiet (fail)
                    go_wp2
                    go_roundw
                    case rel => exact ⟨k + 1, _, by omega, by go_num, rfl⟩
                    case measure => simp [intOf]; omega
              · have ik : decide ((k : Int) < (m1 : Int)) = false := decide_eq_false (by omega)
                have heq : ((m1 : Int) == (xs.length : Int)) = true := by rw [beq_iff_eq]; omega
                clear hm
                go_wp2
                go_ret
                exact ⟨rfl, B9.out.drewN _⟩
          · have hl2 : decide ((200 : Int) < (xs.length : Int)) = true := decide_eq_true (by omega)
            clear hm hy
            go_wp2
            go_ret
            exact ⟨rfl, B9.out⟩
        · have hy0 : (y1 != 0) = true := by rw [bne_iff_ne]; exact hy
          go_wp2
          go_ret
          exact ⟨rfl, B9.out⟩
abbrev spec := Rows.idealMoreSpec
set_option maxRecDepth 100000 in
theorem contract (H : Type) (enc : TypeId × Value → H) (W : World) (base : Nat) (args : Array Value) (ds gs : List (DataW H)) (before : List MemPlace)
    (hval0 : ∀ (j : Nat) t v, Try.f13.params[j]? = some t → args[j]? = some v → Value.okWide Try.prog W .any base t v)
    (hW : DataW.Whole enc Try.prog Try.f13.params.toList spec.vars false W args.toList ds gs before)
    (hsz : (DataW.weightsEach Try.prog (Try.f13.params.toList ++ spec.plain.varTypes Try.prog) (ds ++ gs)).all (· ≤ reachBytes) = true) :
    Calls Try.prog 13 args W fun e W' => ∃ v, e = .returned v ∧ spec.post enc Try.prog Try.f13 false true false false W args v W' := by
  have hval : ∀ (j : Nat) t v, Try.f13.params[j]? = some t → args[j]? = some v → Value.okWide Try.prog W .any base t v := hval0
  have hW' := hW
  obtain ⟨p, q, hA0, hV, rfl, hfz, hnd⟩ := hW
  have hA : DataW.TrodAll enc Try.prog W 0 (fun _ => true) true Try.f13.params.toList args.toList ds p := hA0
  rw [Try.params13] at hA hval hsz
  obtain ⟨v0, vs0, d0, ds0, p0, q0, hargs, rfl, rfl, h0, r0⟩ := trodAll_cons hA
  obtain ⟨v1, vs1, d1, ds1, p1, q1, rfl, rfl, rfl, h1, r1⟩ := trodAll_cons r0
  obtain ⟨v2, vs2, d2, ds2, p2, q2, rfl, rfl, rfl, h2, r2⟩ := trodAll_cons r1
  obtain ⟨v3, vs3, d3, ds3, p3, q3, rfl, rfl, rfl, h3, r3⟩ := trodAll_cons r2
  obtain ⟨rfl, rfl, rfl⟩ := trodAll_nil r3
  obtain rfl : args = #[v0, v1, v2, v3] := by cases args; simp_all
  obtain ⟨rfl, rfl⟩ := trodVars_none hV
  obtain ⟨A, xs, cap, rfl, hI, hl, hwf⟩ := open_r3 3 Try.underlying84 leaves_pc (by kernel_rfl) (hval 0 _ v0 rfl rfl) h0
  have hnc := open_nilcap Try.underlying84 h0
  have hsm := open_small (k := 24) Try.underlying84 (by kernel_rfl) h0 hsz 0 rfl rfl
  obtain ⟨cs, rfl, hcs⟩ := open_leafy 3 leaves_pc Try.underlying108 (hval 1 _ v1 rfl rfl) h1
  obtain ⟨x1, _, rfl, _, x2, _, rfl, _, x3, _, rfl, _, rfl⟩ := hcs
  obtain ⟨a, rfl, rfl, rfl, wa⟩ := open_int Try.underlying3 (hval 2 _ v2 rfl rfl) h2
  obtain ⟨b, rfl, rfl, rfl, wb⟩ := open_int Try.underlying2 (hval 3 _ v3 rfl rfl) h3
  refine (walk A xs cap x1 x2 x3 a b W hI hnc hsm).mono fun e W' ⟨he, hb⟩ => ?_
  subst he
  exact ⟨_, rfl, law_post try_laidOut (by kernel_rfl) rfl rfl Try.underlying4 hW' rfl rfl rfl hb⟩

set_option maxRecDepth 100000 in
theorem lifted (os : Os) (started : os.Started) (H : Type) (enc : TypeId × Value → H) :
    ReturnsInHanded {} Try.checked os 13 .any (Rows.idealMoreSpec.pre6 enc Try.prog Try.f13 Rows.idealMoreRow.domain false) (Rows.idealMoreSpec.post enc Try.prog Try.f13 false true false false) := by
  refine returnsInHanded_of_change_sized (C := Try.checked) own started (by kernel_rfl) Try.func13
    (ChangeSpec.witness6 (enc := enc) (C := Try.checked) false ⟨#[], #[.slice none 0 0, .agg #[.int .i64 0, .int .i64 0, .int .i64 0], .int .i64 0, .int .i64 0], []⟩ 8 (by kernel_rfl) (by kernel_rfl) (by kernel_rfl) (by kernel_rfl)) ?_
  intro W base args ds gs before hval hW hcnd hsz _
  exact contract H enc W base args ds gs before hval hW hsz

theorem over : Rows.idealMoreRow.holds Try.pinned (OpenSpec.ofChange Rows.idealMoreSpec) :=
  OpenClaim.holds_of_wide 13 Try.f13 rfl rfl rfl rfl rfl rfl rfl ⟨rfl, rfl, rfl, rfl, rfl⟩ rfl rfl rfl rfl rfl (by kernel_rfl) Try.func13 (by kernel_rfl)
    (of_decide_eq_true (by kernel_rfl)) (by unfold Func.isWrapper; first | (rw [if_pos (by decide +kernel)]; kernel_rfl) | (rw [if_neg (by decide +kernel)]; exact ⟨rfl, rfl⟩))
    (fun os started H enc _ => lifted os started H enc)

/-- The statement. -/
theorem proved : Rows.IdealMoreSaid :=
  over
#print axioms proved
end Go.Proofs.Ytcchmkpodfjhcaa.idealMore
