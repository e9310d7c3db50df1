/-
  The law HistParts of vergelaw38: numbers counted in two parts and joined are the numbers counted as one, in either order. Its condition: what it reads is of bulk at most 1048576.
-/
import Derived.Test.YtmaehcecilnglaaHG
import Derived.Test.YtmaehcecilnglaaHQ
import Derived.Test.YtmaehcecilnglaaHAp
import Derived.Test.YtmaehcecilnglaaOsz
namespace Go.Proofs.Ytmaehcecilnglaa.histParts
open Go.ChangeShapes Go.WideShapes Go.ChangeAt Go.RowKit
set_option linter.unusedVariables false
set_option linter.unusedSimpArgs false

set_option maxRecDepth 100000 in
set_option maxHeartbeats 4000000 in
theorem walk (A A2 : Option Addr) (l m : List Int) (cap cap2 : Nat) (w : World) (hI : Ints w w.heap.size A l) (hM : Ints w w.heap.size A2 m) (hn1 : A = Option.none → cap = 0) (hn2 : A2 = Option.none → cap2 = 0) (hl : l.length + m.length ≤ 2097152) :
    Calls Try.prog 5 #[.slice A l.length cap, .slice A2 m.length cap2] w fun e w' => e = .returned (.bool true) ∧ Below w.heap.size w w' := by
  have c1 := fun W h => of_any A l cap W h (by omega)
  have c2 := fun W h => of_any A2 m cap2 W h (by omega)
  have c3 : ∀ (A3 : Option Addr) (c : Nat) (W : World), Ints W W.heap.size A3 (l ++ m) → Calls Try.prog 11 #[.slice A3 (l.length + m.length) c] W (HistRes W (smF hZ (l ++ m)).1 (smF hZ (l ++ m)).2) := fun A3 c W h => by
    have := of_any A3 (l ++ m) c W h (by simp only [List.length_append]; omega)
    rwa [List.length_append] at this
  have lX1 := smF_len l hZ_len
  have lX2 := smF_len m hZ_len
  have lX3 := smF_len (l ++ m) hZ_len
  have c4 := join_any _ _ lX1 lX2
  have c5 := join_any _ _ lX2 lX1
  have law := parts_law l m hl
  have hsum : (l.length : Int) + (m.length : Int) ≤ 2097152 := by omega
  unfold HistRes at c1 c2 c3 c4 c5
  obtain ⟨X1, hX1⟩ : ∃ X, X = (smF hZ l).1 := ⟨_, rfl⟩
  obtain ⟨X2, hX2⟩ : ∃ X, X = (smF hZ m).1 := ⟨_, rfl⟩
  obtain ⟨X3, hX3⟩ : ∃ X, X = (smF hZ (l ++ m)).1 := ⟨_, rfl⟩
  obtain ⟨F1, hF1⟩ : ∃ X, X = (smF hZ l).2 := ⟨_, rfl⟩
  obtain ⟨F2, hF2⟩ : ∃ X, X = (smF hZ m).2 := ⟨_, rfl⟩
  obtain ⟨F3, hF3⟩ : ∃ X, X = (smF hZ (l ++ m)).2 := ⟨_, rfl⟩
  simp only [← hX1, ← hX2, ← hX3, ← hF1, ← hF2, ← hF3] at c1 c2 c3 c4 c5 lX1 lX2 lX3 law
  clear hX1 hX2 hX3 hF1 hF2 hF3
  rcases law with ⟨e1, e2, e3, e4, e5, e6, e7, e8, e9⟩ | ⟨e12, e3⟩
  · have c6 := total_any X3 lX3
    rw [e8, e9] at c6
    rw [e1] at c1
    rw [e2] at c2
    rw [e3] at c3
    rw [e4, e6] at c4
    rw [e5, e7] at c5
    obtain ⟨Z, hZ3⟩ : ∃ X, X = X3 := ⟨_, rfl⟩
    rw [← hZ3] at c3 c4 c5 c6 lX3
    have lZ := lX3
    have C1 := Kept.mk c1
    have C2 := Kept.mk c2
    have C3 := Kept.mk c3
    have C4 := Kept.mk c4
    have C5 := Kept.mk c5
    have C6 := Kept.mk c6
    clear c1 c2 c3 c4 c5 c6 e1 e2 e3 e4 e5 e6 e7 e8 e9 hZ3 lX3
    go_enter Try.func5, Try.ntmps5
    go_wp2_with fail
    refine (lives38 _).mono ?_
    rintro e w1 ⟨rfl, hb⟩
    have B := hb
    clear hb
    go_wp2_with fail
    refine (C1.out _ ((hI.below B).mono B.size)).mono ?_
    rintro e w2 ⟨rfl, hb⟩
    replace B := B.next B.size hb
    clear hb
    obtain ⟨d1, B1⟩ := boxed B X1
    replace B := B1
    clear B1
    go_wp2_with (first | (refine wpList_store_row rfl 24 _ _ rfl w2.heap.size rfl (hC X1) rfl 24 (hC hZ) (HB.newZ w2) (hist_size lX1) (by rw [hC_size, hC_size, lX1, hZ_len]) (hC_one _) ?_))
    refine (C2.out _ ((hM.below B).mono B.size)).mono ?_
    rintro e w3 ⟨rfl, hb⟩
    have K1 := Kept.mk (Nat.lt_of_lt_of_le d1.lt hb.size)
    have K0 := Kept.mk (Nat.le_trans B.size hb.size)
    replace d1 := d1.below hb d1.lt
    replace B := B.next B.size hb
    clear hb
    obtain ⟨d2, B1⟩ := boxed B X2
    replace d1 := boxed_far d1 X2
    replace B := B1
    clear B1
    have k1 : w2.heap.size < w3.heap.size + 1 := by have := K1.out; omega
    have k2 := d2.lt
    obtain ⟨i0, hi, hz0, hz1, hz2⟩ := info_parts info_i64
    go_wp2_with (first | (refine wpList_store_row rfl 24 _ _ rfl w3.heap.size rfl (hC X2) rfl 24 (hC hZ) (HB.newZ w3) (hist_size lX2) (by rw [hC_size, hC_size, lX2, hZ_len]) (hC_one _) ?_) | (at_builtin; (refine wpList_appI rfl _ _ 25 rfl (w3.heap.size + 1) 2 i0 (.int .i64 0) 8 Try.underlying25 hi hz0 hz1 hz2 rfl (by decide) _ 0 [] rfl (own_made _ _ (by simp) (Nat.le_refl _)) A l cap w.heap.size rfl (hI.below (B.alloc B.size _)) hn1 (by omega) (Nat.le_trans k2 (by simp)) ?_; intro v1 wa own1 hb1; replace d1 := (d1.alloc _).below hb1 k1; replace d2 := (d2.alloc _).below hb1 (by omega); replace B := (B.alloc B.size _).trans (hb1.mono (by have := K0.out; omega)); clear hb1)) | (at_builtin; (refine wpList_appI rfl _ _ 25 rfl (w3.heap.size + 1) 2 i0 (.int .i64 0) 8 Try.underlying25 hi hz0 hz1 hz2 rfl (by decide) v1 (0 + l.length) ([] ++ l) rfl own1 A2 m cap2 w.heap.size rfl (hM.below B) hn2 (by omega) d2.lt ?_; intro v2 wb own2 hb2; replace d1 := d1.below hb2 k1; replace d2 := d2.below hb2 (by omega); replace B := B.trans (hb2.mono (by have := K0.out; omega)); clear hb2; rw [List.nil_append] at own2; obtain ⟨A3, c3, rfl⟩ := own_slice own2; have hI3 := (Ints.of_own own2).2; clear own2 own1)))
    refine (C3.out A3 c3 _ hI3).mono ?_
    rintro e w4 ⟨rfl, hb⟩
    replace d1 := d1.below hb d1.lt
    replace d2 := d2.below hb d2.lt
    replace B := B.next B.size hb
    clear hb
    obtain ⟨d3, B1⟩ := boxed B Z
    replace d1 := boxed_far d1 Z
    replace d2 := boxed_far d2 Z
    replace B := B1
    clear B1
    go_wp2_with (first | (refine wpList_store_row rfl 24 _ _ rfl w4.heap.size rfl (hC Z) rfl 24 (hC hZ) (HB.newZ w4) (hist_size lZ) (by rw [hC_size, hC_size, lZ, hZ_len]) (hC_one _) ?_) | (refine wpList_load_row rfl 24 _ rfl w2.heap.size rfl 24 (hC X1) (0, 0) _ d1 Try.underlying24 rfl (hist_size lX1) ?_) | (refine wpList_load_row rfl 24 _ rfl w3.heap.size rfl 24 (hC X2) (0, 0) _ d2 Try.underlying24 rfl (hist_size lX2) ?_))
    refine (C4.out _).mono ?_
    rintro e w5 ⟨rfl, hb⟩
    replace d1 := d1.below hb d1.lt
    replace d2 := d2.below hb d2.lt
    replace d3 := d3.below hb d3.lt
    replace B := B.next B.size hb
    clear hb
    obtain ⟨d4, B1⟩ := boxed B Z
    replace d1 := boxed_far d1 Z
    replace d2 := boxed_far d2 Z
    replace d3 := boxed_far d3 Z
    replace B := B1
    clear B1
    go_wp2_with (first | (refine wpList_store_row rfl 24 _ _ rfl w5.heap.size rfl (hC Z) rfl 24 (hC hZ) (HB.newZ w5) (hist_size lZ) (by rw [hC_size, hC_size, lZ, hZ_len]) (hC_one _) ?_) | (refine wpList_load_row rfl 24 _ rfl w2.heap.size rfl 24 (hC X1) (0, 0) _ d1 Try.underlying24 rfl (hist_size lX1) ?_) | (refine wpList_load_row rfl 24 _ rfl w3.heap.size rfl 24 (hC X2) (0, 0) _ d2 Try.underlying24 rfl (hist_size lX2) ?_))
    refine (C5.out _).mono ?_
    rintro e w6 ⟨rfl, hb⟩
    replace d1 := d1.below hb d1.lt
    replace d2 := d2.below hb d2.lt
    replace d3 := d3.below hb d3.lt
    replace d4 := d4.below hb d4.lt
    replace B := B.next B.size hb
    clear hb
    obtain ⟨d5, B1⟩ := boxed B Z
    replace d1 := boxed_far d1 Z
    replace d2 := boxed_far d2 Z
    replace d3 := boxed_far d3 Z
    replace d4 := boxed_far d4 Z
    replace B := B1
    clear B1
    clear hI hM d1 d2
    go_wp2_with (first | (refine wpList_store_row rfl 24 _ _ rfl w6.heap.size rfl (hC Z) rfl 24 (hC hZ) (HB.newZ w6) (hist_size lZ) (by rw [hC_size, hC_size, lZ, hZ_len]) (hC_one _) ?_) | (refine wpList_load_row rfl 24 _ rfl w5.heap.size rfl 24 (hC Z) (0, 0) _ d4 Try.underlying24 rfl (hist_size lZ) ?_))
    refine (C6.out _).mono ?_
    rintro e w7 ⟨rfl, hb⟩
    replace d3 := d3.below hb d3.lt
    replace d4 := d4.below hb d4.lt
    replace d5 := d5.below hb d5.lt
    replace B := B.next B.size hb
    clear hb
    go_wp2_with (first | (refine wpList_load_row_g rfl rfl 24 _ rfl w4.heap.size rfl 24 (hC Z) (0, 0) _ d3 Try.underlying24 rfl (hist_size lZ) ?_) | (refine wpList_load_row_g rfl rfl 24 _ rfl w5.heap.size rfl 24 (hC Z) (0, 0) _ d4 Try.underlying24 rfl (hist_size lZ) ?_) | (refine wpList_load_row_g rfl rfl 24 _ rfl w6.heap.size rfl 24 (hC Z) (0, 0) _ d5 Try.underlying24 rfl (hist_size lZ) ?_) | (refine wpList_eq_g (L := Z.map (Value.int .i64)) lZ rfl rfl rfl _ _ _ rfl rfl rfl ?_))
    go_ret
    exact ⟨by first | rfl | (simp; done) | (simp; omega), B⟩
  · have lJ1 := jnV_len lX1 lX2
    have lJ2 := jnV_len lX2 lX1
    obtain ⟨J1, hJ1⟩ : ∃ X, X = jnV X1 X2 := ⟨_, rfl⟩
    obtain ⟨J2, hJ2⟩ : ∃ X, X = jnV X2 X1 := ⟨_, rfl⟩
    obtain ⟨E1, hE1⟩ : ∃ X, X = jnE X1 X2 := ⟨_, rfl⟩
    obtain ⟨E2, hE2⟩ : ∃ X, X = jnE X2 X1 := ⟨_, rfl⟩
    rw [← hJ1] at c4 lJ1
    rw [← hE1] at c4
    rw [← hJ2] at c5 lJ2
    rw [← hE2] at c5
    rw [e3] at c3
    clear hJ1 hJ2 hE1 hE2 e3
    rcases e12 with e1 | ⟨e1, e2⟩
    · rw [e1] at c1
      have C1 := Kept.mk c1
      have C2 := Kept.mk c2
      have C3 := Kept.mk c3
      have C4 := Kept.mk c4
      have C5 := Kept.mk c5
      clear c1 c2 c3 c4 c5 e1
      go_enter Try.func5, Try.ntmps5
      go_wp2_with fail
      refine (lives38 _).mono ?_
      rintro e w1 ⟨rfl, hb⟩
      have B := hb
      clear hb
      go_wp2_with fail
      refine (C1.out _ ((hI.below B).mono B.size)).mono ?_
      rintro e w2 ⟨rfl, hb⟩
      replace B := B.next B.size hb
      clear hb
      obtain ⟨d1, B1⟩ := boxed B X1
      replace B := B1
      clear B1
      go_wp2_with (first | (refine wpList_store_row rfl 24 _ _ rfl w2.heap.size rfl (hC X1) rfl 24 (hC hZ) (HB.newZ w2) (hist_size lX1) (by rw [hC_size, hC_size, lX1, hZ_len]) (hC_one _) ?_))
      refine (C2.out _ ((hM.below B).mono B.size)).mono ?_
      rintro e w3 ⟨rfl, hb⟩
      have K1 := Kept.mk (Nat.lt_of_lt_of_le d1.lt hb.size)
      have K0 := Kept.mk (Nat.le_trans B.size hb.size)
      replace d1 := d1.below hb d1.lt
      replace B := B.next B.size hb
      clear hb
      obtain ⟨d2, B1⟩ := boxed B X2
      replace d1 := boxed_far d1 X2
      replace B := B1
      clear B1
      have k1 : w2.heap.size < w3.heap.size + 1 := by have := K1.out; omega
      have k2 := d2.lt
      obtain ⟨i0, hi, hz0, hz1, hz2⟩ := info_parts info_i64
      go_wp2_with (first | (refine wpList_store_row rfl 24 _ _ rfl w3.heap.size rfl (hC X2) rfl 24 (hC hZ) (HB.newZ w3) (hist_size lX2) (by rw [hC_size, hC_size, lX2, hZ_len]) (hC_one _) ?_) | (at_builtin; (refine wpList_appI rfl _ _ 25 rfl (w3.heap.size + 1) 2 i0 (.int .i64 0) 8 Try.underlying25 hi hz0 hz1 hz2 rfl (by decide) _ 0 [] rfl (own_made _ _ (by simp) (Nat.le_refl _)) A l cap w.heap.size rfl (hI.below (B.alloc B.size _)) hn1 (by omega) (Nat.le_trans k2 (by simp)) ?_; intro v1 wa own1 hb1; replace d1 := (d1.alloc _).below hb1 k1; replace d2 := (d2.alloc _).below hb1 (by omega); replace B := (B.alloc B.size _).trans (hb1.mono (by have := K0.out; omega)); clear hb1)) | (at_builtin; (refine wpList_appI rfl _ _ 25 rfl (w3.heap.size + 1) 2 i0 (.int .i64 0) 8 Try.underlying25 hi hz0 hz1 hz2 rfl (by decide) v1 (0 + l.length) ([] ++ l) rfl own1 A2 m cap2 w.heap.size rfl (hM.below B) hn2 (by omega) d2.lt ?_; intro v2 wb own2 hb2; replace d1 := d1.below hb2 k1; replace d2 := d2.below hb2 (by omega); replace B := B.trans (hb2.mono (by have := K0.out; omega)); clear hb2; rw [List.nil_append] at own2; obtain ⟨A3, c3, rfl⟩ := own_slice own2; have hI3 := (Ints.of_own own2).2; clear own2 own1)))
      refine (C3.out A3 c3 _ hI3).mono ?_
      rintro e w4 ⟨rfl, hb⟩
      replace d1 := d1.below hb d1.lt
      replace d2 := d2.below hb d2.lt
      replace B := B.next B.size hb
      clear hb
      obtain ⟨d3, B1⟩ := boxed B X3
      replace d1 := boxed_far d1 X3
      replace d2 := boxed_far d2 X3
      replace B := B1
      clear B1
      go_wp2_with (first | (refine wpList_store_row rfl 24 _ _ rfl w4.heap.size rfl (hC X3) rfl 24 (hC hZ) (HB.newZ w4) (hist_size lX3) (by rw [hC_size, hC_size, lX3, hZ_len]) (hC_one _) ?_) | (refine wpList_load_row rfl 24 _ rfl w2.heap.size rfl 24 (hC X1) (0, 0) _ d1 Try.underlying24 rfl (hist_size lX1) ?_) | (refine wpList_load_row rfl 24 _ rfl w3.heap.size rfl 24 (hC X2) (0, 0) _ d2 Try.underlying24 rfl (hist_size lX2) ?_))
      refine (C4.out _).mono ?_
      rintro e w5 ⟨rfl, hb⟩
      replace d1 := d1.below hb d1.lt
      replace d2 := d2.below hb d2.lt
      replace d3 := d3.below hb d3.lt
      replace B := B.next B.size hb
      clear hb
      obtain ⟨d4, B1⟩ := boxed B J1
      replace d1 := boxed_far d1 J1
      replace d2 := boxed_far d2 J1
      replace d3 := boxed_far d3 J1
      replace B := B1
      clear B1
      go_wp2_with (first | (refine wpList_store_row rfl 24 _ _ rfl w5.heap.size rfl (hC J1) rfl 24 (hC hZ) (HB.newZ w5) (hist_size lJ1) (by rw [hC_size, hC_size, lJ1, hZ_len]) (hC_one _) ?_) | (refine wpList_load_row rfl 24 _ rfl w2.heap.size rfl 24 (hC X1) (0, 0) _ d1 Try.underlying24 rfl (hist_size lX1) ?_) | (refine wpList_load_row rfl 24 _ rfl w3.heap.size rfl 24 (hC X2) (0, 0) _ d2 Try.underlying24 rfl (hist_size lX2) ?_))
      refine (C5.out _).mono ?_
      rintro e w6 ⟨rfl, hb⟩
      replace d1 := d1.below hb d1.lt
      replace d2 := d2.below hb d2.lt
      replace d3 := d3.below hb d3.lt
      replace d4 := d4.below hb d4.lt
      replace B := B.next B.size hb
      clear hb
      obtain ⟨d5, B1⟩ := boxed B J2
      replace d1 := boxed_far d1 J2
      replace d2 := boxed_far d2 J2
      replace d3 := boxed_far d3 J2
      replace d4 := boxed_far d4 J2
      replace B := B1
      clear B1
      clear hI hM d1 d2
      go_wp2_with (first | (refine wpList_store_row rfl 24 _ _ rfl w6.heap.size rfl (hC J2) rfl 24 (hC hZ) (HB.newZ w6) (hist_size lJ2) (by rw [hC_size, hC_size, lJ2, hZ_len]) (hC_one _) ?_))
      go_ret
      exact ⟨by first | rfl | (simp; done) | (simp; omega), B⟩
    · rw [e1] at c1
      rw [e2] at c2
      have C1 := Kept.mk c1
      have C2 := Kept.mk c2
      have C3 := Kept.mk c3
      have C4 := Kept.mk c4
      have C5 := Kept.mk c5
      clear c1 c2 c3 c4 c5 e1 e2
      go_enter Try.func5, Try.ntmps5
      go_wp2_with fail
      refine (lives38 _).mono ?_
      rintro e w1 ⟨rfl, hb⟩
      have B := hb
      clear hb
      go_wp2_with fail
      refine (C1.out _ ((hI.below B).mono B.size)).mono ?_
      rintro e w2 ⟨rfl, hb⟩
      replace B := B.next B.size hb
      clear hb
      obtain ⟨d1, B1⟩ := boxed B X1
      replace B := B1
      clear B1
      go_wp2_with (first | (refine wpList_store_row rfl 24 _ _ rfl w2.heap.size rfl (hC X1) rfl 24 (hC hZ) (HB.newZ w2) (hist_size lX1) (by rw [hC_size, hC_size, lX1, hZ_len]) (hC_one _) ?_))
      refine (C2.out _ ((hM.below B).mono B.size)).mono ?_
      rintro e w3 ⟨rfl, hb⟩
      have K1 := Kept.mk (Nat.lt_of_lt_of_le d1.lt hb.size)
      have K0 := Kept.mk (Nat.le_trans B.size hb.size)
      replace d1 := d1.below hb d1.lt
      replace B := B.next B.size hb
      clear hb
      obtain ⟨d2, B1⟩ := boxed B X2
      replace d1 := boxed_far d1 X2
      replace B := B1
      clear B1
      have k1 : w2.heap.size < w3.heap.size + 1 := by have := K1.out; omega
      have k2 := d2.lt
      obtain ⟨i0, hi, hz0, hz1, hz2⟩ := info_parts info_i64
      go_wp2_with (first | (refine wpList_store_row rfl 24 _ _ rfl w3.heap.size rfl (hC X2) rfl 24 (hC hZ) (HB.newZ w3) (hist_size lX2) (by rw [hC_size, hC_size, lX2, hZ_len]) (hC_one _) ?_) | (at_builtin; (refine wpList_appI rfl _ _ 25 rfl (w3.heap.size + 1) 2 i0 (.int .i64 0) 8 Try.underlying25 hi hz0 hz1 hz2 rfl (by decide) _ 0 [] rfl (own_made _ _ (by simp) (Nat.le_refl _)) A l cap w.heap.size rfl (hI.below (B.alloc B.size _)) hn1 (by omega) (Nat.le_trans k2 (by simp)) ?_; intro v1 wa own1 hb1; replace d1 := (d1.alloc _).below hb1 k1; replace d2 := (d2.alloc _).below hb1 (by omega); replace B := (B.alloc B.size _).trans (hb1.mono (by have := K0.out; omega)); clear hb1)) | (at_builtin; (refine wpList_appI rfl _ _ 25 rfl (w3.heap.size + 1) 2 i0 (.int .i64 0) 8 Try.underlying25 hi hz0 hz1 hz2 rfl (by decide) v1 (0 + l.length) ([] ++ l) rfl own1 A2 m cap2 w.heap.size rfl (hM.below B) hn2 (by omega) d2.lt ?_; intro v2 wb own2 hb2; replace d1 := d1.below hb2 k1; replace d2 := d2.below hb2 (by omega); replace B := B.trans (hb2.mono (by have := K0.out; omega)); clear hb2; rw [List.nil_append] at own2; obtain ⟨A3, c3, rfl⟩ := own_slice own2; have hI3 := (Ints.of_own own2).2; clear own2 own1)))
      refine (C3.out A3 c3 _ hI3).mono ?_
      rintro e w4 ⟨rfl, hb⟩
      replace d1 := d1.below hb d1.lt
      replace d2 := d2.below hb d2.lt
      replace B := B.next B.size hb
      clear hb
      obtain ⟨d3, B1⟩ := boxed B X3
      replace d1 := boxed_far d1 X3
      replace d2 := boxed_far d2 X3
      replace B := B1
      clear B1
      go_wp2_with (first | (refine wpList_store_row rfl 24 _ _ rfl w4.heap.size rfl (hC X3) rfl 24 (hC hZ) (HB.newZ w4) (hist_size lX3) (by rw [hC_size, hC_size, lX3, hZ_len]) (hC_one _) ?_) | (refine wpList_load_row rfl 24 _ rfl w2.heap.size rfl 24 (hC X1) (0, 0) _ d1 Try.underlying24 rfl (hist_size lX1) ?_) | (refine wpList_load_row rfl 24 _ rfl w3.heap.size rfl 24 (hC X2) (0, 0) _ d2 Try.underlying24 rfl (hist_size lX2) ?_))
      refine (C4.out _).mono ?_
      rintro e w5 ⟨rfl, hb⟩
      replace d1 := d1.below hb d1.lt
      replace d2 := d2.below hb d2.lt
      replace d3 := d3.below hb d3.lt
      replace B := B.next B.size hb
      clear hb
      obtain ⟨d4, B1⟩ := boxed B J1
      replace d1 := boxed_far d1 J1
      replace d2 := boxed_far d2 J1
      replace d3 := boxed_far d3 J1
      replace B := B1
      clear B1
      go_wp2_with (first | (refine wpList_store_row rfl 24 _ _ rfl w5.heap.size rfl (hC J1) rfl 24 (hC hZ) (HB.newZ w5) (hist_size lJ1) (by rw [hC_size, hC_size, lJ1, hZ_len]) (hC_one _) ?_) | (refine wpList_load_row rfl 24 _ rfl w2.heap.size rfl 24 (hC X1) (0, 0) _ d1 Try.underlying24 rfl (hist_size lX1) ?_) | (refine wpList_load_row rfl 24 _ rfl w3.heap.size rfl 24 (hC X2) (0, 0) _ d2 Try.underlying24 rfl (hist_size lX2) ?_))
      refine (C5.out _).mono ?_
      rintro e w6 ⟨rfl, hb⟩
      replace d1 := d1.below hb d1.lt
      replace d2 := d2.below hb d2.lt
      replace d3 := d3.below hb d3.lt
      replace d4 := d4.below hb d4.lt
      replace B := B.next B.size hb
      clear hb
      obtain ⟨d5, B1⟩ := boxed B J2
      replace d1 := boxed_far d1 J2
      replace d2 := boxed_far d2 J2
      replace d3 := boxed_far d3 J2
      replace d4 := boxed_far d4 J2
      replace B := B1
      clear B1
      clear hI hM d1 d2
      go_wp2_with (first | (refine wpList_store_row rfl 24 _ _ rfl w6.heap.size rfl (hC J2) rfl 24 (hC hZ) (HB.newZ w6) (hist_size lJ2) (by rw [hC_size, hC_size, lJ2, hZ_len]) (hC_one _) ?_))
      go_ret
      exact ⟨by first | rfl | (simp; done) | (simp; omega), B⟩
/-! ### the bound -/
theorem one_le {H : Type} (d : DataW H) : 1 ≤ Rows.uptoBulk d := by
  cases d with
  | lit l => cases l <;> simp [Rows.uptoBulk]
  | nil => simp [Rows.uptoBulk]
  | ptr d => simp [Rows.uptoBulk]
  | slice elems spare => simp [Rows.uptoBulk]
  | agg parts => simp [Rows.uptoBulk]
  | iface t d => simp [Rows.uptoBulk]
  | map entries => simp [Rows.uptoBulk]
  | held h => simp [Rows.uptoBulk]
theorem length_le {H : Type} (l : List (DataW H)) : l.length ≤ Rows.uptoBulkAll l := by
  induction l with
  | nil => simp [Rows.uptoBulkAll]
  | cons x r ih => have := one_le x; simp only [Rows.uptoBulkAll, List.length_cons]; omega
theorem open_bulk {H : Type} {enc : TypeId × Value → H} {P : Program} {w : World} {base : Nat} {spare : Nat → Bool} {held : Bool} {t e : TypeId} {A : Option Addr} {n c : Nat} {d : DataW H} {p : List MemPlace} (ht : P.underlying t = some (.slice e))
    (h : DataW.Trod enc P w base spare held t (.slice A n c) d p) : n ≤ Rows.uptoBulk d := by
  obtain ⟨fuel, hf⟩ := h
  have hf' : DataW.trod enc P w base spare held fuel t [.slice A n c] = some (d, p) := hf
  rcases Go.Deep.open_slice ht hf' with ⟨h1, _⟩ | ⟨a, len, cap, m, n', D, Pl, h1, _, _, _, _, hx, _⟩
  · simp only [List.cons.injEq, and_true, Value.slice.injEq] at h1
    rw [h1.2.1]; omega
  · simp only [List.cons.injEq, and_true, Value.slice.injEq] at h1
    simp only [Prod.mk.injEq] at hx
    rw [hx.1, h1.2.1]
    have := length_le ((List.range len).map D)
    simp only [List.length_map, List.length_range] at this
    simp only [Rows.uptoBulk]
    omega


abbrev spec := Rows.histPartsSpec
set_option maxRecDepth 100000 in
theorem contract (H : Type) (enc : TypeId × Value → H) (W : World) (base : Nat) (args : Array Value) (ds gs : List (DataW H)) (before : List MemPlace)
    (hval0 : ∀ (j : Nat) t v, Try.f5.params[j]? = some t → args[j]? = some v → Value.okWide Try.prog W .any base t v)
    (hW : DataW.Whole enc Try.prog Try.f5.params.toList spec.vars false W args.toList ds gs before)
    (hk : Rows.uptoSmall H (ds ++ gs) = true) :
    Calls Try.prog 5 args W fun e W' => ∃ v, e = .returned v ∧ spec.post enc Try.prog Try.f5 false true false false W args v W' := by
  have hval : ∀ (j : Nat) t v, Try.f5.params[j]? = some t → args[j]? = some v → Value.okWide Try.prog W .any base t v := hval0
  have hW' := hW
  obtain ⟨p, q, hA0, hV, rfl, hfz, hnd⟩ := hW
  have hA : DataW.TrodAll enc Try.prog W 0 (fun _ => true) true Try.f5.params.toList args.toList ds p := hA0
  rw [Try.params5] at hA hval
  obtain ⟨v0, vs0, d0, ds0, p0, q0, hargs, rfl, rfl, h0, r0⟩ := trodAll_cons hA
  obtain ⟨v1, vs1, d1, ds1, p1, q1, rfl, rfl, rfl, h1, r1⟩ := trodAll_cons r0
  obtain ⟨rfl, rfl, rfl⟩ := trodAll_nil r1
  obtain rfl : args = #[v0, v1] := by cases args; simp_all
  obtain ⟨rfl, rfl⟩ := trodVars_none hV
  obtain ⟨A, l, cap, rfl, hI, hlen, _⟩ := open_i64s Try.underlying25 Try.underlying2 (by kernel_rfl) (hval 0 _ v0 rfl rfl) h0
  obtain ⟨A2, m, cap2, rfl, hM, hlen2, _⟩ := open_i64s Try.underlying25 Try.underlying2 (by kernel_rfl) (hval 1 _ v1 rfl rfl) h1
  have b0 := open_bulk Try.underlying25 h0
  have b1 := open_bulk Try.underlying25 h1
  have hb : Rows.uptoBulkAll ([d0, d1] ++ []) ≤ 1048576 := of_decide_eq_true hk
  simp only [List.append_nil, Rows.uptoBulkAll] at hb
  refine (walk A A2 l m cap cap2 W hI hM (open_nilcap Try.underlying25 h0) (open_nilcap Try.underlying25 h1) (by omega)).mono fun e W' ⟨he, hb⟩ => ?_
  subst he
  exact ⟨_, rfl, law_post try_laidOut (by kernel_rfl) rfl rfl Try.underlying4 hW' rfl rfl rfl hb⟩

set_option maxRecDepth 100000 in
theorem lifted (os : Os) (started : os.Started) (H : Type) (enc : TypeId × Value → H) (F : Stop.Interp) :
    ReturnsInHanded {} Try.checked os 5 .any ((Rows.OpenSpec.upto Rows.histPartsSpec).pre6 enc Try.prog Try.f5 Rows.histPartsUptoRow.domain false) (((Rows.OpenSpec.upto Rows.histPartsSpec).at F).post enc Try.prog Try.f5 false true false false) := by
  refine returnsInHanded_of_cond (C := Try.checked) (s := Rows.OpenSpec.upto Rows.histPartsSpec) (k := Rows.uptoSmall) rfl own started (by kernel_rfl) Try.func5
    (OpenSpec.witness (enc := enc) (C := Try.checked) (s := Rows.OpenSpec.upto Rows.histPartsSpec) (k := Rows.uptoSmall) rfl false ⟨#[], #[.slice Option.none 0 0, .slice Option.none 0 0], []⟩ 8 (by kernel_rfl) (by kernel_rfl) (by kernel_rfl)
      (x := ([.nil, .nil], [], [])) (by kernel_rfl) rfl (by kernel_rfl)) ?_
  intro W base args ds gs before hval hW _ hk _
  exact contract H enc W base args ds gs before hval hW hk

/-- The statement. -/
theorem proved : Rows.HistPartsUptoSaid :=
  OpenClaim.holds_of_cond 5 Try.f5 rfl rfl rfl rfl rfl rfl rfl ⟨rfl, rfl, rfl, rfl, rfl⟩ rfl rfl rfl rfl rfl (by kernel_rfl) Try.func5 (by kernel_rfl)
    (of_decide_eq_true (by kernel_rfl)) (by unfold Func.isWrapper; first | (rw [if_pos (by decide +kernel)]; kernel_rfl) | (rw [if_neg (by decide +kernel)]; exact ⟨rfl, rfl⟩))
    (fun os started H enc _ F => lifted os started H enc F)
#print axioms proved
end Go.Proofs.Ytmaehcecilnglaa.histParts
