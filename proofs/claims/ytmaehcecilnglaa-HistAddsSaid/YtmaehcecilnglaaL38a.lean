/-
  The law HistAdds of vergelaw38: whatever a histogram is, it is right or not, has a total, and a number is added, as the reference says, or not; any numbers make one, or not; every argument reads afterwards as before. No condition.
-/
import Derived.Test.YtmaehcecilnglaaL38
import Derived.Test.YtmaehcecilnglaaL38
import Derived.Deep.RegionHeld3
import Derived.Test.YtmaehcecilnglaaHO
namespace Go.Proofs.Ytmaehcecilnglaa.histAdds
open Go.ChangeShapes Go.WideShapes Go.ChangeAt Go.RowKit
set_option linter.unusedVariables false
set_option linter.unusedSimpArgs false

set_option maxRecDepth 100000 in
set_option maxHeartbeats 4000000 in
theorem walk (V : List Int) (hV : V.length = 54) (n : Int) (A : Option Addr) (xs : List Int) (cap : Nat) (w : World) (hI : Ints w w.heap.size A xs) (hl : xs.length ≤ 9223372036854775807) :
    Calls Try.prog 3 #[.agg (hC V), .int .i64 n, .slice A xs.length cap] w fun e w' => e = .returned (.bool true) ∧ Below w.heap.size w w' := by
  have c1 := add_any V hV n
  have c2 := radd_any V hV n
  have c3 := total_any V hV
  have c4 := rtotal_any V hV
  have c5 := fun W h => of_any A xs cap W h hl
  have c6 := fun W h => rof_any A xs cap W h hl
  have c7 := check_any V hV
  have c8 := rhcheck_any V hV
  have lU := adV_len hV n
  have lX := smF_len xs hZ_len
  obtain ⟨U, hU⟩ : ∃ U, U = adV V n := ⟨_, rfl⟩
  obtain ⟨E, hE⟩ : ∃ U, U = adE V n := ⟨_, rfl⟩
  obtain ⟨X, hX⟩ : ∃ U, U = (smF hZ xs).1 := ⟨_, rfl⟩
  obtain ⟨F, hF⟩ : ∃ U, U = (smF hZ xs).2 := ⟨_, rfl⟩
  obtain ⟨tv, htv⟩ : ∃ U, U = totV V := ⟨_, rfl⟩
  obtain ⟨te, hte⟩ : ∃ U, U = totE V := ⟨_, rfl⟩
  rw [← hU] at c1 c2 lU
  rw [← hE] at c1 c2
  rw [← hX] at lX
  simp only [← hX, ← hF] at c5 c6
  rw [← htv] at c3 c4
  rw [← hte] at c3 c4 c7 c8
  unfold HistRes at c1 c2 c5 c6
  obtain ⟨LV, hLV⟩ : ∃ L, L = V.map (Value.int .i64) := ⟨_, rfl⟩
  obtain ⟨LU, hLU⟩ : ∃ L, L = U.map (Value.int .i64) := ⟨_, rfl⟩
  obtain ⟨LX, hLX⟩ : ∃ L, L = X.map (Value.int .i64) := ⟨_, rfl⟩
  have s1 := hist_sizeL hV hLV
  have s2 := hist_sizeL lU hLU
  have s3 := hist_sizeL lX hLX
  rw [hC_L hLV] at c7 c8
  have C1 := Kept.mk c1
  have C2 := Kept.mk c2
  have C3 := Kept.mk c3
  have C4 := Kept.mk c4
  have C5 := Kept.mk c5
  have C6 := Kept.mk c6
  have C7 := Kept.mk c7
  have C8 := Kept.mk c8
  have H1 := Kept.mk hLV
  have H2 := Kept.mk hLU
  have H3 := Kept.mk hLX
  have S1 := Kept.mk s1
  have S2 := Kept.mk s2
  have S3 := Kept.mk s3
  clear c1 c2 c3 c4 c5 c6 c7 c8 hU hE hX hF htv hte hLV hLU hLX s1 s2 s3
  have d0 := HB.new w V
  go_enter Try.func3, Try.ntmps3
  go_wp2_with (first | (refine wpList_load_row rfl 24 _ rfl w.heap.size rfl 24 (hC V) (0, 0) _ d0 Try.underlying24 rfl (hist_size hV) ?_))
  refine (C1.out _).mono ?_
  rintro e w1 ⟨rfl, hb⟩
  replace d0 := d0.below hb d0.lt
  have B := hb.box (Nat.le_refl _)
  clear hb
  obtain ⟨d7, B7⟩ := boxed B U
  replace d0 := boxed_far d0 U
  go_wp2_with (first | (refine wpList_store_row rfl 24 _ _ rfl w1.heap.size rfl (hC U) rfl 24 (hC hZ) (HB.newZ w1) (hist_size lU) (by rw [hC_size, hC_size, lU, hZ_len]) (hC_one _) ?_) | (refine wpList_load_row rfl 24 _ rfl w.heap.size rfl 24 (hC V) (0, 0) _ d0 Try.underlying24 rfl (hist_size hV) ?_))
  refine (C2.out _).mono ?_
  rintro e w2 ⟨rfl, hb⟩
  replace d0 := d0.below hb d0.lt
  replace d7 := d7.below hb d7.lt
  replace B := B7.next B7.size hb
  clear hb B7
  obtain ⟨d9, B9⟩ := boxed B U
  replace d0 := boxed_far d0 U
  replace d7 := boxed_far d7 U
  go_wp2_with (first | (refine wpList_store_row rfl 24 _ _ rfl w2.heap.size rfl (hC U) rfl 24 (hC hZ) (HB.newZ w2) (hist_size lU) (by rw [hC_size, hC_size, lU, hZ_len]) (hC_one _) ?_) | (refine wpList_load_row rfl 24 _ rfl w.heap.size rfl 24 (hC V) (0, 0) _ d0 Try.underlying24 rfl (hist_size hV) ?_))
  refine (C3.out _).mono ?_
  rintro e w3 ⟨rfl, hb⟩
  replace d0 := d0.below hb d0.lt
  replace d7 := d7.below hb d7.lt
  replace d9 := d9.below hb d9.lt
  replace B := B9.next B9.size hb
  clear hb B9
  go_wp2_with (first | (refine wpList_load_row rfl 24 _ rfl w.heap.size rfl 24 (hC V) (0, 0) _ d0 Try.underlying24 rfl (hist_size hV) ?_))
  refine (C4.out _).mono ?_
  rintro e w4 ⟨rfl, hb⟩
  replace d0 := d0.below hb d0.lt
  replace d7 := d7.below hb d7.lt
  replace d9 := d9.below hb d9.lt
  replace B := B.next B.size hb
  clear hb
  go_wp2_with fail
  refine (C5.out _ ((hI.below B).mono B.size)).mono ?_
  rintro e w5 ⟨rfl, hb⟩
  replace d0 := d0.below hb d0.lt
  replace d7 := d7.below hb d7.lt
  replace d9 := d9.below hb d9.lt
  replace B := B.next B.size hb
  clear hb
  obtain ⟨d15, B15⟩ := boxed B X
  replace d0 := boxed_far d0 X
  replace d7 := boxed_far d7 X
  replace d9 := boxed_far d9 X
  go_wp2_with (first | (refine wpList_store_row rfl 24 _ _ rfl w5.heap.size rfl (hC X) rfl 24 (hC hZ) (HB.newZ w5) (hist_size lX) (by rw [hC_size, hC_size, lX, hZ_len]) (hC_one _) ?_))
  refine (C6.out _ ((hI.below B15).mono B15.size)).mono ?_
  rintro e w6 ⟨rfl, hb⟩
  replace d0 := d0.below hb d0.lt
  replace d7 := d7.below hb d7.lt
  replace d9 := d9.below hb d9.lt
  replace d15 := d15.below hb d15.lt
  replace B := B15.next B15.size hb
  clear hb B15
  obtain ⟨d17, B17⟩ := boxed B X
  replace d0 := boxed_far d0 X
  replace d7 := boxed_far d7 X
  replace d9 := boxed_far d9 X
  replace d15 := boxed_far d15 X
  clear B hI
  go_wp2_with (first | (refine wpList_store_row rfl 24 _ _ rfl w6.heap.size rfl (hC X) rfl 24 (hC hZ) (HB.newZ w6) (hist_size lX) (by rw [hC_size, hC_size, lX, hZ_len]) (hC_one _) ?_))
  refine wp_region_held_drew (S := fun W => W.rangeAt w.heap.size 0 LV ∧ W.rangeAt w1.heap.size 0 LU ∧ W.rangeAt w2.heap.size 0 LU ∧ W.rangeAt w5.heap.size 0 LX ∧ W.rangeAt w6.heap.size 0 LX) (by kernel_rfl) ?_ (fun hHeld => ?_)
  · exact ⟨d0.rangeL H1.out, d7.rangeL H2.out, d9.rangeL H2.out, d15.rangeL H3.out, d17.rangeL H3.out⟩
  replace d0 := d0.drew
  replace d7 := d7.drew
  replace d9 := d9.drew
  replace d15 := d15.drew
  replace d17 := d17.drew
  replace B17 := B17.drew
  refine wpAnyH_ready (rs := [0]) (by kernel_rfl) (by simp) (AllReadyH.cons (by simp only [List.getElem?_toArray, List.getElem?_cons_succ, List.getElem?_cons_zero]; exact rfl) (fun K hK => ?_) AllReadyH.nil)
  go_simp
  refine (lives38 _).mono ?_
  rintro e w7 ⟨rfl, hb⟩
  try go_wp2_with fail
  replace d0 := d0.below hb d0.lt
  replace d7 := d7.below hb d7.lt
  replace d9 := d9.below hb d9.lt
  replace d15 := d15.below hb d15.lt
  replace d17 := d17.below hb d17.lt
  replace B17 := B17.next B17.size hb
  clear hb
  refine hK.out _ _ ?_ (fun hHeld => ?_)
  · exact ⟨d0.rangeL H1.out, d7.rangeL H2.out, d9.rangeL H2.out, d15.rangeL H3.out, d17.rangeL H3.out⟩
  clear hK K
  try simp only [Act.put, List.setIfInBounds_toArray, List.set_cons_zero, List.set_cons_succ]
  refine wpAnyH_take (i := 1) (v := ?v1) (by simp only [List.getElem?_toArray, List.getElem?_cons_succ, List.getElem?_cons_zero]; exact rfl) (by kernel_rfl) (by kernel_rfl) (by kernel_rfl) (by intro _ _ _ h; exact h) (Or.inl ⟨by rfl, ?hy1⟩) (by assumption) ?rest1
  case hy1 => (intro w hSw; go_simp; try with_reducible rfl)
  try simp only [Act.put, List.setIfInBounds_toArray, List.set_cons_zero, List.set_cons_succ]
  refine' wpAnyH_take (i := 2) (v := _) (by simp only [List.getElem?_toArray, List.getElem?_cons_succ, List.getElem?_cons_zero]; exact rfl) (by kernel_rfl) (by kernel_rfl) (by kernel_rfl) (by intro _ _ _ h; exact h) (yieldsIf_load_mid (by rfl) _ _ (by rfl) _ _ (by rfl) LV _ (fun W h => h.1) Try.underlying24 (by rfl) S1.out) (by assumption) ?_
  try simp only [Act.put, List.setIfInBounds_toArray, List.set_cons_zero, List.set_cons_succ]
  refine' wpAnyH_take (i := 4) (v := _) (by simp only [List.getElem?_toArray, List.getElem?_cons_succ, List.getElem?_cons_zero]; exact rfl) (by kernel_rfl) (by kernel_rfl) (by kernel_rfl) (by intro _ _ _ h; exact h) (yieldsIf_load_mid (by rfl) _ _ (by rfl) _ _ (by rfl) LV _ (fun W h => h.1) Try.underlying24 (by rfl) S1.out) (by assumption) ?_
  try simp only [Act.put, List.setIfInBounds_toArray, List.set_cons_zero, List.set_cons_succ]
  refine wpAnyH_ready (rs := [3]) (by kernel_rfl) (by simp) (AllReadyH.cons (by simp only [List.getElem?_toArray, List.getElem?_cons_succ, List.getElem?_cons_zero]; exact rfl) (fun K hK => ?_) AllReadyH.nil)
  go_simp
  refine (C7.out _).mono ?_
  rintro e w8 ⟨rfl, hb⟩
  try go_wp2_with fail
  replace d0 := d0.below hb d0.lt
  replace d7 := d7.below hb d7.lt
  replace d9 := d9.below hb d9.lt
  replace d15 := d15.below hb d15.lt
  replace d17 := d17.below hb d17.lt
  replace B17 := B17.next B17.size hb
  clear hb
  refine hK.out _ _ ?_ (fun hHeld => ?_)
  · exact ⟨d0.rangeL H1.out, d7.rangeL H2.out, d9.rangeL H2.out, d15.rangeL H3.out, d17.rangeL H3.out⟩
  clear hK K
  try simp only [Act.put, List.setIfInBounds_toArray, List.set_cons_zero, List.set_cons_succ]
  refine wpAnyH_ready (rs := [5]) (by kernel_rfl) (by simp) (AllReadyH.cons (by simp only [List.getElem?_toArray, List.getElem?_cons_succ, List.getElem?_cons_zero]; exact rfl) (fun K hK => ?_) AllReadyH.nil)
  go_simp
  refine (C8.out _).mono ?_
  rintro e w9 ⟨rfl, hb⟩
  try go_wp2_with fail
  replace d0 := d0.below hb d0.lt
  replace d7 := d7.below hb d7.lt
  replace d9 := d9.below hb d9.lt
  replace d15 := d15.below hb d15.lt
  replace d17 := d17.below hb d17.lt
  replace B17 := B17.next B17.size hb
  clear hb
  refine hK.out _ _ ?_ (fun hHeld => ?_)
  · exact ⟨d0.rangeL H1.out, d7.rangeL H2.out, d9.rangeL H2.out, d15.rangeL H3.out, d17.rangeL H3.out⟩
  clear hK K
  try simp only [Act.put, List.setIfInBounds_toArray, List.set_cons_zero, List.set_cons_succ]
  refine wpAnyH_take (i := 6) (v := ?v6) (by simp only [List.getElem?_toArray, List.getElem?_cons_succ, List.getElem?_cons_zero]; exact rfl) (by kernel_rfl) (by kernel_rfl) (by kernel_rfl) (by intro _ _ _ h; exact h) (Or.inl ⟨by rfl, ?hy6⟩) (by assumption) ?rest6
  case hy6 => (intro w hSw; go_simp; try with_reducible rfl)
  try simp only [Act.put, List.setIfInBounds_toArray, List.set_cons_zero, List.set_cons_succ]
  refine wpAnyH_take (i := 7) (v := ?v7) (by simp only [List.getElem?_toArray, List.getElem?_cons_succ, List.getElem?_cons_zero]; exact rfl) (by kernel_rfl) (by kernel_rfl) (by kernel_rfl) (by intro _ _ _ h; exact h) (Or.inl ⟨by rfl, ?hy7⟩) (by assumption) ?rest7
  case hy7 => (intro w hSw; go_simp; try with_reducible rfl)
  try simp only [Act.put, List.setIfInBounds_toArray, List.set_cons_zero, List.set_cons_succ]
  refine wpAnyH_take (i := 8) (v := ?v8) (by simp only [List.getElem?_toArray, List.getElem?_cons_succ, List.getElem?_cons_zero]; exact rfl) (by kernel_rfl) (by kernel_rfl) (by kernel_rfl) (by intro _ _ _ h; exact h) (Or.inl ⟨by rfl, ?hy8⟩) (by assumption) ?rest8
  case hy8 => (intro w hSw; go_simp; try with_reducible rfl)
  try simp only [Act.put, List.setIfInBounds_toArray, List.set_cons_zero, List.set_cons_succ]
  refine' wpAnyH_take (i := 9) (v := _) (by simp only [List.getElem?_toArray, List.getElem?_cons_succ, List.getElem?_cons_zero]; exact rfl) (by kernel_rfl) (by kernel_rfl) (by kernel_rfl) (by intro _ _ _ h; exact h) (yieldsIf_load_mid (by rfl) _ _ (by rfl) _ _ (by rfl) LU _ (fun W h => h.2.1) Try.underlying24 (by rfl) S2.out) (by assumption) ?_
  try simp only [Act.put, List.setIfInBounds_toArray, List.set_cons_zero, List.set_cons_succ]
  refine' wpAnyH_take (i := 10) (v := _) (by simp only [List.getElem?_toArray, List.getElem?_cons_succ, List.getElem?_cons_zero]; exact rfl) (by kernel_rfl) (by kernel_rfl) (by kernel_rfl) (by intro _ _ _ h; exact h) (yieldsIf_load_mid (by rfl) _ _ (by rfl) _ _ (by rfl) LU _ (fun W h => h.2.2.1) Try.underlying24 (by rfl) S2.out) (by assumption) ?_
  try simp only [Act.put, List.setIfInBounds_toArray, List.set_cons_zero, List.set_cons_succ]
  refine wpAnyH_take (i := 11) (v := .bool true) (by simp only [List.getElem?_toArray, List.getElem?_cons_succ, List.getElem?_cons_zero]; exact rfl) (by kernel_rfl) (by kernel_rfl) (by kernel_rfl) (by intro _ _ _ h; exact h) (Or.inl ⟨by rfl, fun w _ => exec_eql lU H2.out (by rfl) (by rfl) (by rfl) w⟩) (by assumption) ?_
  try simp only [Act.put, List.setIfInBounds_toArray, List.set_cons_zero, List.set_cons_succ]
  refine wpAnyH_take (i := 12) (v := ?v12) (by simp only [List.getElem?_toArray, List.getElem?_cons_succ, List.getElem?_cons_zero]; exact rfl) (by kernel_rfl) (by kernel_rfl) (by kernel_rfl) (by intro _ _ _ h; exact h) (Or.inl ⟨by rfl, ?hy12⟩) (by assumption) ?rest12
  case hy12 => (intro w hSw; go_simp; try with_reducible rfl)
  try simp only [Act.put, List.setIfInBounds_toArray, List.set_cons_zero, List.set_cons_succ]
  refine wpAnyH_take (i := 13) (v := ?v13) (by simp only [List.getElem?_toArray, List.getElem?_cons_succ, List.getElem?_cons_zero]; exact rfl) (by kernel_rfl) (by kernel_rfl) (by kernel_rfl) (by intro _ _ _ h; exact h) (Or.inl ⟨by rfl, ?hy13⟩) (by assumption) ?rest13
  case hy13 => (intro w hSw; go_simp; try with_reducible rfl)
  try simp only [Act.put, List.setIfInBounds_toArray, List.set_cons_zero, List.set_cons_succ]
  refine wpAnyH_take (i := 14) (v := ?v14) (by simp only [List.getElem?_toArray, List.getElem?_cons_succ, List.getElem?_cons_zero]; exact rfl) (by kernel_rfl) (by kernel_rfl) (by kernel_rfl) (by intro _ _ _ h; exact h) (Or.inl ⟨by rfl, ?hy14⟩) (by assumption) ?rest14
  case hy14 => (intro w hSw; go_simp; try with_reducible rfl)
  try simp only [Act.put, List.setIfInBounds_toArray, List.set_cons_zero, List.set_cons_succ]
  refine wpAnyH_take (i := 15) (v := ?v15) (by simp only [List.getElem?_toArray, List.getElem?_cons_succ, List.getElem?_cons_zero]; exact rfl) (by kernel_rfl) (by kernel_rfl) (by kernel_rfl) (by intro _ _ _ h; exact h) (Or.inl ⟨by rfl, ?hy15⟩) (by assumption) ?rest15
  case hy15 => (intro w hSw; go_simp; try with_reducible rfl)
  try simp only [Act.put, List.setIfInBounds_toArray, List.set_cons_zero, List.set_cons_succ]
  refine wpAnyH_take (i := 16) (v := ?v16) (by simp only [List.getElem?_toArray, List.getElem?_cons_succ, List.getElem?_cons_zero]; exact rfl) (by kernel_rfl) (by kernel_rfl) (by kernel_rfl) (by intro _ _ _ h; exact h) (Or.inl ⟨by rfl, ?hy16⟩) (by assumption) ?rest16
  case hy16 => (intro w hSw; go_simp; try with_reducible rfl)
  try simp only [Act.put, List.setIfInBounds_toArray, List.set_cons_zero, List.set_cons_succ]
  refine wpAnyH_take (i := 17) (v := ?v17) (by simp only [List.getElem?_toArray, List.getElem?_cons_succ, List.getElem?_cons_zero]; exact rfl) (by kernel_rfl) (by kernel_rfl) (by kernel_rfl) (by intro _ _ _ h; exact h) (Or.inl ⟨by rfl, ?hy17⟩) (by assumption) ?rest17
  case hy17 => (intro w hSw; go_simp; try with_reducible rfl)
  try simp only [Act.put, List.setIfInBounds_toArray, List.set_cons_zero, List.set_cons_succ]
  refine wpAnyH_take (i := 18) (v := ?v18) (by simp only [List.getElem?_toArray, List.getElem?_cons_succ, List.getElem?_cons_zero]; exact rfl) (by kernel_rfl) (by kernel_rfl) (by kernel_rfl) (by intro _ _ _ h; exact h) (Or.inl ⟨by rfl, ?hy18⟩) (by assumption) ?rest18
  case hy18 => (intro w hSw; go_simp; try with_reducible rfl)
  try simp only [Act.put, List.setIfInBounds_toArray, List.set_cons_zero, List.set_cons_succ]
  refine wpAnyH_take (i := 19) (v := ?v19) (by simp only [List.getElem?_toArray, List.getElem?_cons_succ, List.getElem?_cons_zero]; exact rfl) (by kernel_rfl) (by kernel_rfl) (by kernel_rfl) (by intro _ _ _ h; exact h) (Or.inl ⟨by rfl, ?hy19⟩) (by assumption) ?rest19
  case hy19 => (intro w hSw; go_simp; try with_reducible rfl)
  try simp only [Act.put, List.setIfInBounds_toArray, List.set_cons_zero, List.set_cons_succ]
  refine wpAnyH_take (i := 20) (v := ?v20) (by simp only [List.getElem?_toArray, List.getElem?_cons_succ, List.getElem?_cons_zero]; exact rfl) (by kernel_rfl) (by kernel_rfl) (by kernel_rfl) (by intro _ _ _ h; exact h) (Or.inl ⟨by rfl, ?hy20⟩) (by assumption) ?rest20
  case hy20 => (intro w hSw; go_simp; try with_reducible rfl)
  try simp only [Act.put, List.setIfInBounds_toArray, List.set_cons_zero, List.set_cons_succ]
  refine wpAnyH_take (i := 21) (v := ?v21) (by simp only [List.getElem?_toArray, List.getElem?_cons_succ, List.getElem?_cons_zero]; exact rfl) (by kernel_rfl) (by kernel_rfl) (by kernel_rfl) (by intro _ _ _ h; exact h) (Or.inl ⟨by rfl, ?hy21⟩) (by assumption) ?rest21
  case hy21 => (intro w hSw; go_simp; try with_reducible rfl)
  try simp only [Act.put, List.setIfInBounds_toArray, List.set_cons_zero, List.set_cons_succ]
  refine wpAnyH_take (i := 22) (v := ?v22) (by simp only [List.getElem?_toArray, List.getElem?_cons_succ, List.getElem?_cons_zero]; exact rfl) (by kernel_rfl) (by kernel_rfl) (by kernel_rfl) (by intro _ _ _ h; exact h) (Or.inl ⟨by rfl, ?hy22⟩) (by assumption) ?rest22
  case hy22 => (intro w hSw; go_simp; try with_reducible rfl)
  try simp only [Act.put, List.setIfInBounds_toArray, List.set_cons_zero, List.set_cons_succ]
  refine wpAnyH_take (i := 23) (v := ?v23) (by simp only [List.getElem?_toArray, List.getElem?_cons_succ, List.getElem?_cons_zero]; exact rfl) (by kernel_rfl) (by kernel_rfl) (by kernel_rfl) (by intro _ _ _ h; exact h) (Or.inl ⟨by rfl, ?hy23⟩) (by assumption) ?rest23
  case hy23 => (intro w hSw; go_simp; try with_reducible rfl)
  try simp only [Act.put, List.setIfInBounds_toArray, List.set_cons_zero, List.set_cons_succ]
  refine wpAnyH_take (i := 24) (v := ?v24) (by simp only [List.getElem?_toArray, List.getElem?_cons_succ, List.getElem?_cons_zero]; exact rfl) (by kernel_rfl) (by kernel_rfl) (by kernel_rfl) (by intro _ _ _ h; exact h) (Or.inl ⟨by rfl, ?hy24⟩) (by assumption) ?rest24
  case hy24 => (intro w hSw; go_simp; try with_reducible rfl)
  try simp only [Act.put, List.setIfInBounds_toArray, List.set_cons_zero, List.set_cons_succ]
  refine wpAnyH_take (i := 25) (v := ?v25) (by simp only [List.getElem?_toArray, List.getElem?_cons_succ, List.getElem?_cons_zero]; exact rfl) (by kernel_rfl) (by kernel_rfl) (by kernel_rfl) (by intro _ _ _ h; exact h) (Or.inl ⟨by rfl, ?hy25⟩) (by assumption) ?rest25
  case hy25 => (intro w hSw; go_simp; try with_reducible rfl)
  try simp only [Act.put, List.setIfInBounds_toArray, List.set_cons_zero, List.set_cons_succ]
  refine wpAnyH_take (i := 26) (v := ?v26) (by simp only [List.getElem?_toArray, List.getElem?_cons_succ, List.getElem?_cons_zero]; exact rfl) (by kernel_rfl) (by kernel_rfl) (by kernel_rfl) (by intro _ _ _ h; exact h) (Or.inl ⟨by rfl, ?hy26⟩) (by assumption) ?rest26
  case hy26 => (intro w hSw; go_simp; try with_reducible rfl)
  try simp only [Act.put, List.setIfInBounds_toArray, List.set_cons_zero, List.set_cons_succ]
  refine wpAnyH_take (i := 27) (v := ?v27) (by simp only [List.getElem?_toArray, List.getElem?_cons_succ, List.getElem?_cons_zero]; exact rfl) (by kernel_rfl) (by kernel_rfl) (by kernel_rfl) (by intro _ _ _ h; exact h) (Or.inl ⟨by rfl, ?hy27⟩) (by assumption) ?rest27
  case hy27 => (intro w hSw; go_simp; try with_reducible rfl)
  try simp only [Act.put, List.setIfInBounds_toArray, List.set_cons_zero, List.set_cons_succ]
  refine wpAnyH_take (i := 28) (v := ?v28) (by simp only [List.getElem?_toArray, List.getElem?_cons_succ, List.getElem?_cons_zero]; exact rfl) (by kernel_rfl) (by kernel_rfl) (by kernel_rfl) (by intro _ _ _ h; exact h) (Or.inl ⟨by rfl, ?hy28⟩) (by assumption) ?rest28
  case hy28 => (intro w hSw; go_simp; try with_reducible rfl)
  try simp only [Act.put, List.setIfInBounds_toArray, List.set_cons_zero, List.set_cons_succ]
  refine' wpAnyH_take (i := 29) (v := _) (by simp only [List.getElem?_toArray, List.getElem?_cons_succ, List.getElem?_cons_zero]; exact rfl) (by kernel_rfl) (by kernel_rfl) (by kernel_rfl) (by intro _ _ _ h; exact h) (yieldsIf_load_mid (by rfl) _ _ (by rfl) _ _ (by rfl) LX _ (fun W h => h.2.2.2.1) Try.underlying24 (by rfl) S3.out) (by assumption) ?_
  try simp only [Act.put, List.setIfInBounds_toArray, List.set_cons_zero, List.set_cons_succ]
  refine' wpAnyH_take (i := 30) (v := _) (by simp only [List.getElem?_toArray, List.getElem?_cons_succ, List.getElem?_cons_zero]; exact rfl) (by kernel_rfl) (by kernel_rfl) (by kernel_rfl) (by intro _ _ _ h; exact h) (yieldsIf_load_mid (by rfl) _ _ (by rfl) _ _ (by rfl) LX _ (fun W h => h.2.2.2.2) Try.underlying24 (by rfl) S3.out) (by assumption) ?_
  try simp only [Act.put, List.setIfInBounds_toArray, List.set_cons_zero, List.set_cons_succ]
  refine wpAnyH_take (i := 31) (v := .bool true) (by simp only [List.getElem?_toArray, List.getElem?_cons_succ, List.getElem?_cons_zero]; exact rfl) (by kernel_rfl) (by kernel_rfl) (by kernel_rfl) (by intro _ _ _ h; exact h) (Or.inl ⟨by rfl, fun w _ => exec_eql lX H3.out (by rfl) (by rfl) (by rfl) w⟩) (by assumption) ?_
  try simp only [Act.put, List.setIfInBounds_toArray, List.set_cons_zero, List.set_cons_succ]
  refine wpAnyH_take (i := 32) (v := ?v32) (by simp only [List.getElem?_toArray, List.getElem?_cons_succ, List.getElem?_cons_zero]; exact rfl) (by kernel_rfl) (by kernel_rfl) (by kernel_rfl) (by intro _ _ _ h; exact h) (Or.inl ⟨by rfl, ?hy32⟩) (by assumption) ?rest32
  case hy32 => (intro w hSw; go_simp; try with_reducible rfl)
  try simp only [Act.put, List.setIfInBounds_toArray, List.set_cons_zero, List.set_cons_succ]
  refine wpAnyH_take (i := 33) (v := ?v33) (by simp only [List.getElem?_toArray, List.getElem?_cons_succ, List.getElem?_cons_zero]; exact rfl) (by kernel_rfl) (by kernel_rfl) (by kernel_rfl) (by intro _ _ _ h; exact h) (Or.inl ⟨by rfl, ?hy33⟩) (by assumption) ?rest33
  case hy33 => (intro w hSw; go_simp; try with_reducible rfl)
  try simp only [Act.put, List.setIfInBounds_toArray, List.set_cons_zero, List.set_cons_succ]
  refine wpAnyH_take (i := 34) (v := ?v34) (by simp only [List.getElem?_toArray, List.getElem?_cons_succ, List.getElem?_cons_zero]; exact rfl) (by kernel_rfl) (by kernel_rfl) (by kernel_rfl) (by intro _ _ _ h; exact h) (Or.inl ⟨by rfl, ?hy34⟩) (by assumption) ?rest34
  case hy34 => (intro w hSw; go_simp; try with_reducible rfl)
  try simp only [Act.put, List.setIfInBounds_toArray, List.set_cons_zero, List.set_cons_succ]
  refine wpAnyH_take (i := 35) (v := ?v35) (by simp only [List.getElem?_toArray, List.getElem?_cons_succ, List.getElem?_cons_zero]; exact rfl) (by kernel_rfl) (by kernel_rfl) (by kernel_rfl) (by intro _ _ _ h; exact h) (Or.inl ⟨by rfl, ?hy35⟩) (by assumption) ?rest35
  case hy35 => (intro w hSw; go_simp; try with_reducible rfl)
  try simp only [Act.put, List.setIfInBounds_toArray, List.set_cons_zero, List.set_cons_succ]
  refine wpAnyH_take (i := 36) (v := ?v36) (by simp only [List.getElem?_toArray, List.getElem?_cons_succ, List.getElem?_cons_zero]; exact rfl) (by kernel_rfl) (by kernel_rfl) (by kernel_rfl) (by intro _ _ _ h; exact h) (Or.inl ⟨by rfl, ?hy36⟩) (by assumption) ?rest36
  case hy36 => (intro w hSw; go_simp; try with_reducible rfl)
  try simp only [Act.put, List.setIfInBounds_toArray, List.set_cons_zero, List.set_cons_succ]
  refine wpAnyH_take (i := 37) (v := ?v37) (by simp only [List.getElem?_toArray, List.getElem?_cons_succ, List.getElem?_cons_zero]; exact rfl) (by kernel_rfl) (by kernel_rfl) (by kernel_rfl) (by intro _ _ _ h; exact h) (Or.inl ⟨by rfl, ?hy37⟩) (by assumption) ?rest37
  case hy37 => (intro w hSw; go_simp; try with_reducible rfl)
  try simp only [Act.put, List.setIfInBounds_toArray, List.set_cons_zero, List.set_cons_succ]
  refine wpAnyH_take (i := 38) (v := ?v38) (by simp only [List.getElem?_toArray, List.getElem?_cons_succ, List.getElem?_cons_zero]; exact rfl) (by kernel_rfl) (by kernel_rfl) (by kernel_rfl) (by intro _ _ _ h; exact h) (Or.inl ⟨by rfl, ?hy38⟩) (by assumption) ?rest38
  case hy38 => (intro w hSw; go_simp; try with_reducible rfl)
  try simp only [Act.put, List.setIfInBounds_toArray, List.set_cons_zero, List.set_cons_succ]
  refine wpAnyH_done (by kernel_rfl) ?_ _
  go_wp2
  go_ret
  exact ⟨rfl, B17⟩
abbrev spec := Rows.histAddsSpec
set_option maxRecDepth 100000 in
theorem contract (H : Type) (enc : TypeId × Value → H) (W : World) (base : Nat) (args : Array Value) (ds gs : List (DataW H)) (before : List MemPlace)
    (hval0 : ∀ (j : Nat) t v, Try.f3.params[j]? = some t → args[j]? = some v → Value.okWide Try.prog W .any base t v)
    (hW : DataW.Whole enc Try.prog Try.f3.params.toList spec.vars false W args.toList ds gs before) :
    Calls Try.prog 3 args W fun e W' => ∃ v, e = .returned v ∧ spec.post enc Try.prog Try.f3 false true false false W args v W' := by
  have hval : ∀ (j : Nat) t v, Try.f3.params[j]? = some t → args[j]? = some v → Value.okWide Try.prog W .any base t v := hval0
  have hW' := hW
  obtain ⟨p, q, hA0, hV, rfl, hfz, hnd⟩ := hW
  have hA : DataW.TrodAll enc Try.prog W 0 (fun _ => true) true Try.f3.params.toList args.toList ds p := hA0
  rw [Try.params3] at hA hval
  obtain ⟨v0, vs0, d0, ds0, p0, q0, hargs, rfl, rfl, h0, r0⟩ := trodAll_cons hA
  obtain ⟨v1, vs1, d1, ds1, p1, q1, rfl, rfl, rfl, h1, r1⟩ := trodAll_cons r0
  obtain ⟨v2, vs2, d2, ds2, p2, q2, rfl, rfl, rfl, h2, r2⟩ := trodAll_cons r1
  obtain ⟨rfl, rfl, rfl⟩ := trodAll_nil r2
  obtain rfl : args = #[v0, v1, v2] := by cases args; simp_all
  obtain ⟨rfl, rfl⟩ := trodVars_none hV
  obtain ⟨V, hVl, rfl⟩ := open_hist (hval 0 _ v0 rfl rfl) h0
  obtain ⟨n, rfl, rfl, rfl, wn⟩ := open_int Try.underlying2 (hval 1 _ v1 rfl rfl) h1
  obtain ⟨A, xs, cap, rfl, hI, hl, hw⟩ := open_i64s Try.underlying25 Try.underlying2 (by kernel_rfl) (hval 2 _ v2 rfl rfl) h2
  refine (walk V hVl n A xs cap W hI hl).mono fun e W' ⟨he, hb⟩ => ?_
  subst he
  exact ⟨_, rfl, law_post try_laidOut (by kernel_rfl) rfl rfl Try.underlying4 hW' rfl rfl rfl hb⟩

set_option maxRecDepth 100000 in
theorem lifted (os : Os) (started : os.Started) (H : Type) (enc : TypeId × Value → H) :
    ReturnsInHanded {} Try.checked os 3 .any (Rows.histAddsSpec.pre6 enc Try.prog Try.f3 Rows.histAddsRow.domain false) (Rows.histAddsSpec.post enc Try.prog Try.f3 false true false false) := by
  refine returnsInHanded_of_change (C := Try.checked) own started (by kernel_rfl) Try.func3
    (ChangeSpec.witness6 (enc := enc) (C := Try.checked) false ⟨#[], #[.agg (hC hZ), .int .i64 0, .slice Option.none 0 0], []⟩ 8 (by kernel_rfl) (by kernel_rfl) (by kernel_rfl) (by kernel_rfl)) ?_
  intro W base args ds gs before hval hW hcnd _
  exact contract H enc W base args ds gs before hval hW

theorem over : Rows.histAddsRow.holds Try.pinned (OpenSpec.ofChange Rows.histAddsSpec) :=
  OpenClaim.holds_of_wide 3 Try.f3 rfl rfl rfl rfl rfl rfl rfl ⟨rfl, rfl, rfl, rfl, rfl⟩ rfl rfl rfl rfl rfl (by kernel_rfl) Try.func3 (by kernel_rfl)
    (of_decide_eq_true (by kernel_rfl)) (by unfold Func.isWrapper; first | (rw [if_pos (by decide +kernel)]; kernel_rfl) | (rw [if_neg (by decide +kernel)]; exact ⟨rfl, rfl⟩))
    (fun os started H enc _ => lifted os started H enc)

/-- The statement. -/
theorem proved : Rows.HistAddsSaid :=
  over
#print axioms proved
end Go.Proofs.Ytmaehcecilnglaa.histAdds
