/-
  The walk of vergelaw38.lives.
-/
import Derived.Test.YtmaehcecilnglaaHE
namespace Go.Proofs.Ytmaehcecilnglaa
open Go.RowKit
set_option linter.unusedVariables false

theorem wpList_load_row_g {P : Program} {ops : Array Oper} {rest : List Oper} {o : Oper} {a : Act} {w : World} {Q : Exit → Act → World → Prop} {j : Nat} {want : Bool} (hgd : o.guard = some (j, want)) (hy : yielded ops a.tmps j = some want) (ty : TypeId) (x : Operand) (ho : o.op = .load ty x)
    (g : Nat) (hx : a.eval x = .pointer (some ⟨g, 0, none⟩)) (t : TypeId) (cs : Array Value) (fr : Nat × Nat) (d : TypeDesc) (hg : w.heap[g]? = some (.cells cs t fr))
    (hu : P.underlying ty = some d) (hd : (match d with | .struct _ | .array _ _ => true | _ => false) = true) (hi : (P.info? ty).map (·.size) = some cs.size)
    (h : wpList P ops Q rest (a.put o.dst (.agg cs)) w) : wpList P ops Q (o :: rest) a w :=
  wpList_step fun K hK => by
    simp only [Region.wanted, hgd, hy, beq_self_eq_true, if_true]
    exact wp_load_row ty x ho g hx t cs fr d hg hu hd hi (hK _ _ h)

def hA : List Int := (smF hZ [0, 1, 2, 3, 9]).1
def hD : List Int := (smF hZ [9]).1
def mk2 : List QM := [⟨0, 2, 1, 9⟩, ⟨0, 2, 0, 9⟩]
/-- A histogram put into a box of its own. -/
theorem boxed {w0 w1 : World} (hb : Below w0.heap.size w0 w1) (V : List Int) : HB ((w1.alloc (.cells #[.int .i64 0, .int .i64 0, .int .i64 0, .int .i64 0, .int .i64 0, .int .i64 0, .int .i64 0, .int .i64 0, .int .i64 0, .int .i64 0, .int .i64 0, .int .i64 0, .int .i64 0, .int .i64 0, .int .i64 0, .int .i64 0, .int .i64 0, .int .i64 0, .int .i64 0, .int .i64 0, .int .i64 0, .int .i64 0, .int .i64 0, .int .i64 0, .int .i64 0, .int .i64 0, .int .i64 0, .int .i64 0, .int .i64 0, .int .i64 0, .int .i64 0, .int .i64 0, .int .i64 0, .int .i64 0, .int .i64 0, .int .i64 0, .int .i64 0, .int .i64 0, .int .i64 0, .int .i64 0, .int .i64 0, .int .i64 0, .int .i64 0, .int .i64 0, .int .i64 0, .int .i64 0, .int .i64 0, .int .i64 0, .int .i64 0, .int .i64 0, .int .i64 0, .int .i64 0, .int .i64 0, .int .i64 0] 24)).setRow w1.heap.size (hC V)) w1.heap.size V ∧ Below w0.heap.size w0 ((w1.alloc (.cells #[.int .i64 0, .int .i64 0, .int .i64 0, .int .i64 0, .int .i64 0, .int .i64 0, .int .i64 0, .int .i64 0, .int .i64 0, .int .i64 0, .int .i64 0, .int .i64 0, .int .i64 0, .int .i64 0, .int .i64 0, .int .i64 0, .int .i64 0, .int .i64 0, .int .i64 0, .int .i64 0, .int .i64 0, .int .i64 0, .int .i64 0, .int .i64 0, .int .i64 0, .int .i64 0, .int .i64 0, .int .i64 0, .int .i64 0, .int .i64 0, .int .i64 0, .int .i64 0, .int .i64 0, .int .i64 0, .int .i64 0, .int .i64 0, .int .i64 0, .int .i64 0, .int .i64 0, .int .i64 0, .int .i64 0, .int .i64 0, .int .i64 0, .int .i64 0, .int .i64 0, .int .i64 0, .int .i64 0, .int .i64 0, .int .i64 0, .int .i64 0, .int .i64 0, .int .i64 0, .int .i64 0, .int .i64 0] 24)).setRow w1.heap.size (hC V)) :=
  ⟨(HB.newZ w1).put V, below_put (hb.alloc hb.size _) hb.size _⟩
theorem boxed_far {w1 : World} {g : Nat} {U : List Int} (h : HB w1 g U) (V : List Int) : HB ((w1.alloc (.cells #[.int .i64 0, .int .i64 0, .int .i64 0, .int .i64 0, .int .i64 0, .int .i64 0, .int .i64 0, .int .i64 0, .int .i64 0, .int .i64 0, .int .i64 0, .int .i64 0, .int .i64 0, .int .i64 0, .int .i64 0, .int .i64 0, .int .i64 0, .int .i64 0, .int .i64 0, .int .i64 0, .int .i64 0, .int .i64 0, .int .i64 0, .int .i64 0, .int .i64 0, .int .i64 0, .int .i64 0, .int .i64 0, .int .i64 0, .int .i64 0, .int .i64 0, .int .i64 0, .int .i64 0, .int .i64 0, .int .i64 0, .int .i64 0, .int .i64 0, .int .i64 0, .int .i64 0, .int .i64 0, .int .i64 0, .int .i64 0, .int .i64 0, .int .i64 0, .int .i64 0, .int .i64 0, .int .i64 0, .int .i64 0, .int .i64 0, .int .i64 0, .int .i64 0, .int .i64 0, .int .i64 0, .int .i64 0] 24)).setRow w1.heap.size (hC V)) g U :=
  (h.alloc _).put_far (by have := h.lt; omega) _
set_option maxRecDepth 100000 in
set_option maxHeartbeats 4000000 in
theorem lives38 (w : World) : Calls Try.prog 13 #[] w fun e w' => e = .returned (.bool true) ∧ Below w.heap.size w w' := by
  have s1 : smF hZ [0, 1, 2, 3, 9] = (hA, 0) := by decide +kernel
  have s2 : smF hZ [-1] = (hZ, 1) := by decide +kernel
  have s3 : smF hZ (dn 1 mk2) = (hD, 0) := by decide +kernel
  have l1 : hA.length = 54 := by decide +kernel
  have l3 : hD.length = 54 := by decide +kernel
  have lJ : (jnV hA hA).length = 54 := jnV_len l1 l1
  have v2 : hA[2]? = some 2 := by decide +kernel
  have v4 : hA[4]? = some 1 := by decide +kernel
  have vd : hD[4]? = some 1 := by decide +kernel
  have vj : (jnV hA hA)[2]? = some 4 := by decide +kernel
  have K1 := Kept.mk (show ∀ (W : World) (n : Nat), n = W.heap.size → Calls Try.prog 11 #[.slice (some ⟨n, 0, none⟩) 5 5] (W.alloc (.cells #[.int .i64 0, .int .i64 1, .int .i64 2, .int .i64 3, .int .i64 9] 2)) (HistRes (W.alloc (.cells #[.int .i64 0, .int .i64 1, .int .i64 2, .int .i64 3, .int .i64 9] 2)) hA 0) from fun W n hn => by
    subst hn
    have := of_any _ [0, 1, 2, 3, 9] 5 _ (ints_new W [0, 1, 2, 3, 9] 2 (0, 0)) (by simp)
    rw [s1] at this; exact this)
  have K2 := Kept.mk (show ∀ W : World, Calls Try.prog 9 #[.agg (hC hA)] W fun e w' => e = .returned (.tuple #[.int .i64 5, .int .i64 0]) ∧ Below W.heap.size W w' from fun W => by
    have := total_any hA l1 W
    rw [show totV hA = 5 by decide +kernel, show totE hA = 0 by decide +kernel] at this; exact this)
  have K3 := Kept.mk (show ∀ W : World, Calls Try.prog 18 #[.agg (hC hA), .int .i64 4, .int .i64 5] W fun e w' => e = .returned (.tuple #[.int .i64 3, .int .i64 0]) ∧ Below W.heap.size W w' from fun W => by
    have := below_any hA l1 4 5 W
    rw [show beV hA 4 5 = 3 by decide +kernel, show beE hA 4 5 = 0 by decide +kernel] at this; exact this)
  have K4 := Kept.mk (show ∀ W : World, Calls Try.prog 18 #[.agg (hC hA), .int .i64 1, .int .i64 1] W fun e w' => e = .returned (.tuple #[.int .i64 15, .int .i64 0]) ∧ Below W.heap.size W w' from fun W => by
    have := below_any hA l1 1 1 W
    rw [show beV hA 1 1 = 15 by decide +kernel, show beE hA 1 1 = 0 by decide +kernel] at this; exact this)
  have K5 := Kept.mk (show ∀ W : World, Calls Try.prog 16 #[.agg (hC hA), .agg (hC hA)] W (HistRes W (jnV hA hA) 0) from fun W => by
    have := join_any hA hA l1 l1 W
    rw [show jnE hA hA = 0 by decide +kernel] at this; exact this)
  have K6 := Kept.mk (show ∀ (W : World) (n : Nat), n = W.heap.size → Calls Try.prog 11 #[.slice (some ⟨n, 0, none⟩) 1 1] (W.alloc (.cells #[.int .i64 (-1)] 2)) (HistRes (W.alloc (.cells #[.int .i64 (-1)] 2)) hZ 1) from fun W n hn => by
    subst hn
    have := of_any _ [-1] 1 _ (ints_new W [-1] 2 (0, 0)) (by simp)
    rw [s2] at this; exact this)
  have K7 := Kept.mk (show ∀ W : World, Calls Try.prog 18 #[.agg #[.int .i64 0, .int .i64 0, .int .i64 0, .int .i64 0, .int .i64 0, .int .i64 0, .int .i64 0, .int .i64 0, .int .i64 0, .int .i64 0, .int .i64 0, .int .i64 0, .int .i64 0, .int .i64 0, .int .i64 0, .int .i64 0, .int .i64 0, .int .i64 0, .int .i64 0, .int .i64 0, .int .i64 0, .int .i64 0, .int .i64 0, .int .i64 0, .int .i64 0, .int .i64 0, .int .i64 0, .int .i64 0, .int .i64 0, .int .i64 0, .int .i64 0, .int .i64 0, .int .i64 0, .int .i64 0, .int .i64 0, .int .i64 0, .int .i64 0, .int .i64 0, .int .i64 0, .int .i64 0, .int .i64 0, .int .i64 0, .int .i64 0, .int .i64 0, .int .i64 0, .int .i64 0, .int .i64 0, .int .i64 0, .int .i64 0, .int .i64 0, .int .i64 0, .int .i64 0, .int .i64 0, .int .i64 0], .int .i64 1, .int .i64 1] W fun e w' => e = .returned (.tuple #[.int .i64 0, .int .i64 3]) ∧ Below W.heap.size W w' from fun W => by
    have := below_any hZ hZ_len 1 1 W
    rw [show beV hZ 1 1 = 0 by decide +kernel, show beE hZ 1 1 = 3 by decide +kernel, hZ_cells] at this; exact this)
  have K8 := Kept.mk (show ∀ W : World, Calls Try.prog 18 #[.agg (hC hA), .int .i64 2, .int .i64 1] W fun e w' => e = .returned (.tuple #[.int .i64 0, .int .i64 1]) ∧ Below W.heap.size W w' from fun W => by
    have := below_any hA l1 2 1 W
    rw [show beV hA 2 1 = 0 by decide +kernel, show beE hA 2 1 = 1 by decide +kernel] at this; exact this)
  have K9 := Kept.mk (show ∀ (W : World) (n : Nat), n = W.heap.size → Calls Try.prog 20 #[.slice (some ⟨n, 0, none⟩) 2 2, .int .i64 1] (W.alloc (.cells #[.int .i64 0, .int .u8 2, .int .i64 1, .int .i64 9, .int .i64 0, .int .u8 2, .int .i64 0, .int .i64 9] 54)) (HistRes (W.alloc (.cells #[.int .i64 0, .int .u8 2, .int .i64 1, .int .i64 9, .int .i64 0, .int .u8 2, .int .i64 0, .int .i64 9] 54)) hD 0) from fun W n hn => by
    subst hn
    have := jobs_any _ mk2 2 1 _ (rM_new W mk2 54 (0, 0)) (by decide)
    rw [s3] at this; exact this)
  have K10 := Kept.mk (show ∀ W : World, Calls Try.prog 14 #[.agg (hC hA)] W fun e w' => e = .returned (.int .i64 0) ∧ Below W.heap.size W w' from fun W => by
    have := check_any hA l1 W
    rw [show totE hA = 0 by decide +kernel] at this; exact this)
  unfold HistRes at K1 K5 K6 K9
  obtain ⟨J, hJ⟩ : ∃ J, J = jnV hA hA := ⟨_, rfl⟩
  rw [← hJ] at lJ vj K5
  obtain ⟨A, hAe⟩ : ∃ J, J = hA := ⟨_, rfl⟩
  rw [← hAe] at l1 v2 v4 K1 K2 K3 K4 K5 K8 K10
  obtain ⟨D, hDe⟩ : ∃ J, J = hD := ⟨_, rfl⟩
  rw [← hDe] at l3 vd K9
  have L1 := Kept.mk l1
  have L3 := Kept.mk l3
  have LJ := Kept.mk lJ
  have LZ := Kept.mk hZ_len
  have VV2 := Kept.mk v2
  have VV4 := Kept.mk v4
  have VD := Kept.mk vd
  have VJ := Kept.mk vj
  clear s1 s2 s3 l1 l3 lJ v2 v4 vd vj hJ hAe hDe
  go_enter Try.func13, Try.ntmps13
  go_wp2_with fail
  refine (K1.out _ _ (by simp)).mono ?_
  rintro e w1 ⟨rfl, hb⟩
  have B1 := hb.box (Nat.le_refl _)
  clear hb
  obtain ⟨d1, B2⟩ := boxed B1 A
  go_wp2_with (first | (refine wpList_store_row rfl 24 _ _ rfl w1.heap.size rfl (hC A) rfl 24 (hC hZ) (HB.newZ w1) (hist_size L1.out) (by rw [hC_size, hC_size, L1.out, hZ_len]) (hC_one _) ?_) | (refine wpList_load_row rfl 24 _ rfl w1.heap.size rfl 24 (hC A) (0, 0) _ d1 Try.underlying24 rfl (hist_size L1.out) ?_))
  refine (K2.out _).mono ?_
  rintro e w2 ⟨rfl, hb⟩
  replace d1 := d1.below hb (d1.lt)
  replace B2 := B2.next B2.size hb
  clear hb
  go_wp2_with (refine wpList_load_row rfl 24 _ rfl w1.heap.size rfl 24 (hC A) (0, 0) _ d1 Try.underlying24 rfl (hist_size L1.out) ?_)
  refine (K3.out _).mono ?_
  rintro e w3 ⟨rfl, hb⟩
  replace d1 := d1.below hb d1.lt
  replace B2 := B2.next B2.size hb
  clear hb
  go_wp2_with (refine wpList_load_row rfl 24 _ rfl w1.heap.size rfl 24 (hC A) (0, 0) _ d1 Try.underlying24 rfl (hist_size L1.out) ?_)
  refine (K4.out _).mono ?_
  rintro e w4 ⟨rfl, hb⟩
  replace d1 := d1.below hb d1.lt
  replace B2 := B2.next B2.size hb
  clear hb
  go_wp2_with (refine wpList_load_row rfl 24 _ rfl w1.heap.size rfl 24 (hC A) (0, 0) _ d1 Try.underlying24 rfl (hist_size L1.out) ?_)
  refine (K5.out _).mono ?_
  rintro e w5 ⟨rfl, hb⟩
  replace d1 := d1.below hb d1.lt
  replace B2 := B2.next B2.size hb
  clear hb
  replace d1 := boxed_far d1 J
  obtain ⟨d9, B9⟩ := boxed B2 J
  go_wp2_with (refine wpList_store_row rfl 24 _ _ rfl w5.heap.size rfl (hC J) rfl 24 (hC hZ) (HB.newZ w5) (hist_size LJ.out) (by rw [hC_size, hC_size, LJ.out, hZ_len]) (hC_one _) ?_)
  refine (K6.out _ _ (by simp)).mono ?_
  rintro e w6 ⟨rfl, hb⟩
  replace d1 := (d1.alloc (.cells #[.int .i64 (-1)] 2)).below hb (d1.alloc _).lt
  replace d9 := (d9.alloc (.cells #[.int .i64 (-1)] 2)).below hb (d9.alloc _).lt
  replace B2 := B9.next1 B9.size hb
  clear hb B9
  replace d1 := boxed_far d1 hZ
  replace d9 := boxed_far d9 hZ
  obtain ⟨_, B11⟩ := boxed B2 hZ
  go_wp2_with (refine wpList_store_row rfl 24 _ _ rfl w6.heap.size rfl (hC hZ) rfl 24 (hC hZ) (HB.newZ w6) (hist_size LZ.out) rfl (hC_one _) ?_)
  refine (K7.out _).mono ?_
  rintro e w7 ⟨rfl, hb⟩
  replace d1 := d1.below hb d1.lt
  replace d9 := d9.below hb d9.lt
  replace B2 := B11.next B11.size hb
  clear hb B11
  go_wp2_with (refine wpList_load_row rfl 24 _ rfl w1.heap.size rfl 24 (hC A) (0, 0) _ d1 Try.underlying24 rfl (hist_size L1.out) ?_)
  refine (K8.out _).mono ?_
  rintro e w8 ⟨rfl, hb⟩
  replace d1 := d1.below hb d1.lt
  replace d9 := d9.below hb d9.lt
  replace B2 := B2.next B2.size hb
  clear hb
  go_wp2_with fail
  refine (K9.out _ _ (by simp)).mono ?_
  rintro e w9 ⟨rfl, hb⟩
  replace d1 := (d1.alloc (.cells #[.int .i64 0, .int .u8 2, .int .i64 1, .int .i64 9, .int .i64 0, .int .u8 2, .int .i64 0, .int .i64 9] 54)).below hb (d1.alloc _).lt
  replace d9 := (d9.alloc (.cells #[.int .i64 0, .int .u8 2, .int .i64 1, .int .i64 9, .int .i64 0, .int .u8 2, .int .i64 0, .int .i64 9] 54)).below hb (d9.alloc _).lt
  replace B2 := B2.next1 B2.size hb
  clear hb
  replace d1 := boxed_far d1 D
  replace d9 := boxed_far d9 D
  obtain ⟨d17, B17⟩ := boxed B2 D
  have c1 := d1.cell VV2.out
  have c2 := d1.cell VV4.out
  have c3 := d9.cell VJ.out
  have c4 := d17.cell VD.out
  go_wp2_with (first | (refine wpList_store_row rfl 24 _ _ rfl w9.heap.size rfl (hC D) rfl 24 (hC hZ) (HB.newZ w9) (hist_size L3.out) (by rw [hC_size, hC_size, L3.out, hZ_len]) (hC_one _) ?_) | (refine wpList_load_row_g rfl rfl 24 _ rfl w1.heap.size rfl 24 (hC A) (0, 0) _ d1 Try.underlying24 rfl (hist_size L1.out) ?_))
  refine (K10.out _).mono ?_
  rintro e w10 ⟨rfl, hb⟩
  go_wp2
  go_ret
  exact ⟨rfl, B17.next B17.size hb⟩
end Go.Proofs.Ytmaehcecilnglaa
