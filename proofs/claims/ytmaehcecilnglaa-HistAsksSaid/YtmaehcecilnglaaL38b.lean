/-
  The law HistAsks of vergelaw38: whatever two histograms are, joined, asked for a number below a part, and one made of what jobs lasted, is as the reference says; every argument reads afterwards as before. Its condition: the arguments' bytes are within a machine's reach.
-/
import Derived.Test.YtmaehcecilnglaaHG
import Derived.Deep.RegionHeld3
import Derived.Test.YtmaehcecilnglaaOsz
namespace Go.Proofs.Ytmaehcecilnglaa.histAsks
open Go.ChangeShapes Go.WideShapes Go.ChangeAt Go.RowKit
set_option linter.unusedVariables false
set_option linter.unusedSimpArgs false

theorem bytes_mark : Try.prog.bytesOf 54 = 32 := by kernel_rfl
theorem two_boxes (w : World) (V U : List Int) : HB ((w.alloc (.cells (hC V) 24)).alloc (.cells (hC U) 24)) w.heap.size V ∧ HB ((w.alloc (.cells (hC V) 24)).alloc (.cells (hC U) 24)) (w.heap.size + 1) U := by
  refine ⟨(HB.new w V).alloc _, ?_⟩
  have := HB.new (w.alloc (.cells (hC V) 24)) U
  rwa [show (w.alloc (.cells (hC V) 24)).heap.size = w.heap.size + 1 by simp] at this
set_option maxRecDepth 100000 in
set_option maxHeartbeats 4000000 in
theorem walk (V U : List Int) (hV : V.length = 54) (hU : U.length = 54) (p o : Int) (A : Option Addr) (xs : List QM) (cap : Nat) (w : World) (hI : RM w w.heap.size A xs) (hl : xs.length ≤ 4398046511104) :
    Calls Try.prog 4 #[.agg (hC V), .agg (hC U), .int .i64 p, .int .i64 o, .slice A xs.length cap] w fun e w' => e = .returned (.bool true) ∧ Below w.heap.size w w' := by
  have c1 := join_any V U hV hU
  have c2 := rjoin_any V U hV hU
  have c3 := below_any V hV p o
  have c4 := rbelow_any V hV p o
  have c5 := fun W h => jobs_any A xs cap (bits BinOp.and IntKind.i64 p 3) W h (by omega)
  have c6 := fun W h => rjobs_any A xs cap (bits BinOp.and IntKind.i64 p 3) W h hl
  have lJ := jnV_len hV hU
  have lX := smF_len (dn (bits BinOp.and IntKind.i64 p 3) xs) hZ_len
  obtain ⟨J, hJ⟩ : ∃ X, X = jnV V U := ⟨_, rfl⟩
  obtain ⟨E, hE⟩ : ∃ X, X = jnE V U := ⟨_, rfl⟩
  obtain ⟨X, hX⟩ : ∃ X, X = (smF hZ (dn (bits BinOp.and IntKind.i64 p 3) xs)).1 := ⟨_, rfl⟩
  obtain ⟨F, hF⟩ : ∃ X, X = (smF hZ (dn (bits BinOp.and IntKind.i64 p 3) xs)).2 := ⟨_, rfl⟩
  obtain ⟨bv, hbv⟩ : ∃ X, X = beV V p o := ⟨_, rfl⟩
  obtain ⟨be, hbe⟩ : ∃ X, X = beE V p o := ⟨_, rfl⟩
  rw [← hJ] at c1 c2 lJ
  rw [← hE] at c1 c2
  rw [← hX] at lX
  simp only [← hX, ← hF] at c5 c6
  rw [← hbv, ← hbe] at c3 c4
  unfold HistRes at c1 c2 c5 c6
  have C1 := Kept.mk c1
  have C2 := Kept.mk c2
  have C3 := Kept.mk c3
  have C4 := Kept.mk c4
  have C5 := Kept.mk c5
  have C6 := Kept.mk c6
  clear c1 c2 c3 c4 c5 c6 hJ hE hX hF hbv hbe
  obtain ⟨d0, d1⟩ := two_boxes w V U
  go_enter Try.func4, Try.ntmps4
  go_wp2_with (first | (refine wpList_load_row rfl 24 _ rfl w.heap.size rfl 24 (hC V) (0, 0) _ d0 Try.underlying24 rfl (hist_size hV) ?_) | (refine wpList_load_row rfl 24 _ rfl (w.heap.size + 1) rfl 24 (hC U) (0, 0) _ d1 Try.underlying24 rfl (hist_size hU) ?_))
  refine (C1.out _).mono ?_
  rintro e w1 ⟨rfl, hb⟩
  replace d0 := d0.below hb d0.lt
  replace d1 := d1.below hb d1.lt
  have B := (hb.box (Nat.le_refl _)).box (Nat.le_refl _)
  clear hb
  obtain ⟨a1, B1⟩ := boxed B J
  replace d0 := boxed_far d0 J
  replace d1 := boxed_far d1 J
  replace B := B1
  clear B1
  go_wp2_with (first | (refine wpList_store_row rfl 24 _ _ rfl w1.heap.size rfl (hC J) rfl 24 (hC hZ) (HB.newZ w1) (hist_size lJ) (by rw [hC_size, hC_size, lJ, hZ_len]) (hC_one _) ?_) | (refine wpList_load_row rfl 24 _ rfl w.heap.size rfl 24 (hC V) (0, 0) _ d0 Try.underlying24 rfl (hist_size hV) ?_) | (refine wpList_load_row rfl 24 _ rfl (w.heap.size + 1) rfl 24 (hC U) (0, 0) _ d1 Try.underlying24 rfl (hist_size hU) ?_))
  refine (C2.out _).mono ?_
  rintro e w2 ⟨rfl, hb⟩
  replace d0 := d0.below hb d0.lt
  replace d1 := d1.below hb d1.lt
  replace a1 := a1.below hb a1.lt
  replace B := B.next B.size hb
  clear hb
  obtain ⟨a2, B1⟩ := boxed B J
  replace d0 := boxed_far d0 J
  replace d1 := boxed_far d1 J
  replace a1 := boxed_far a1 J
  replace B := B1
  clear B1
  go_wp2_with (first | (refine wpList_store_row rfl 24 _ _ rfl w2.heap.size rfl (hC J) rfl 24 (hC hZ) (HB.newZ w2) (hist_size lJ) (by rw [hC_size, hC_size, lJ, hZ_len]) (hC_one _) ?_) | (refine wpList_load_row rfl 24 _ rfl w.heap.size rfl 24 (hC V) (0, 0) _ d0 Try.underlying24 rfl (hist_size hV) ?_))
  refine (C3.out _).mono ?_
  rintro e w3 ⟨rfl, hb⟩
  replace d0 := d0.below hb d0.lt
  replace d1 := d1.below hb d1.lt
  replace a1 := a1.below hb a1.lt
  replace a2 := a2.below hb a2.lt
  replace B := B.next B.size hb
  clear hb
  go_wp2_with (first | (refine wpList_load_row rfl 24 _ rfl w.heap.size rfl 24 (hC V) (0, 0) _ d0 Try.underlying24 rfl (hist_size hV) ?_))
  refine (C4.out _).mono ?_
  rintro e w4 ⟨rfl, hb⟩
  replace d0 := d0.below hb d0.lt
  replace d1 := d1.below hb d1.lt
  replace a1 := a1.below hb a1.lt
  replace a2 := a2.below hb a2.lt
  replace B := B.next B.size hb
  clear hb
  go_wp2_with fail
  refine (C5.out _ ((hI.below B).mono B.size)).mono ?_
  rintro e w5 ⟨rfl, hb⟩
  replace d0 := d0.below hb d0.lt
  replace d1 := d1.below hb d1.lt
  replace a1 := a1.below hb a1.lt
  replace a2 := a2.below hb a2.lt
  replace B := B.next B.size hb
  clear hb
  obtain ⟨a3, B1⟩ := boxed B X
  replace d0 := boxed_far d0 X
  replace d1 := boxed_far d1 X
  replace a1 := boxed_far a1 X
  replace a2 := boxed_far a2 X
  replace B := B1
  clear B1
  go_wp2_with (first | (refine wpList_store_row rfl 24 _ _ rfl w5.heap.size rfl (hC X) rfl 24 (hC hZ) (HB.newZ w5) (hist_size lX) (by rw [hC_size, hC_size, lX, hZ_len]) (hC_one _) ?_))
  refine (C6.out _ ((hI.below B).mono B.size)).mono ?_
  rintro e w6 ⟨rfl, hb⟩
  replace d0 := d0.below hb d0.lt
  replace d1 := d1.below hb d1.lt
  replace a1 := a1.below hb a1.lt
  replace a2 := a2.below hb a2.lt
  replace a3 := a3.below hb a3.lt
  replace B := B.next B.size hb
  clear hb
  obtain ⟨a4, B1⟩ := boxed B X
  replace d0 := boxed_far d0 X
  replace d1 := boxed_far d1 X
  replace a1 := boxed_far a1 X
  replace a2 := boxed_far a2 X
  replace a3 := boxed_far a3 X
  replace B := B1
  clear B1
  clear hI d0 d1
  go_wp2_with (first | (refine wpList_store_row rfl 24 _ _ rfl w6.heap.size rfl (hC X) rfl 24 (hC hZ) (HB.newZ w6) (hist_size lX) (by rw [hC_size, hC_size, lX, hZ_len]) (hC_one _) ?_))
  refine (lives38 _).mono ?_
  rintro e w7 ⟨rfl, hb⟩
  replace a1 := a1.below hb a1.lt
  replace a2 := a2.below hb a2.lt
  replace a3 := a3.below hb a3.lt
  replace a4 := a4.below hb a4.lt
  replace B := B.next B.size hb
  clear hb
  go_wp2_with (first | (refine wpList_load_row_g rfl rfl 24 _ rfl w1.heap.size rfl 24 (hC J) (0, 0) _ a1 Try.underlying24 rfl (hist_size lJ) ?_) | (refine wpList_load_row_g rfl rfl 24 _ rfl w2.heap.size rfl 24 (hC J) (0, 0) _ a2 Try.underlying24 rfl (hist_size lJ) ?_) | (refine wpList_load_row_g rfl rfl 24 _ rfl w5.heap.size rfl 24 (hC X) (0, 0) _ a3 Try.underlying24 rfl (hist_size lX) ?_) | (refine wpList_load_row_g rfl rfl 24 _ rfl w6.heap.size rfl 24 (hC X) (0, 0) _ a4 Try.underlying24 rfl (hist_size lX) ?_) | (refine wpList_eq_g (L := J.map (Value.int .i64)) lJ rfl rfl rfl _ _ _ rfl rfl rfl ?_) | (refine wpList_eq_g (L := X.map (Value.int .i64)) lX rfl rfl rfl _ _ _ rfl rfl rfl ?_))
  go_ret
  exact ⟨rfl, B⟩
abbrev spec := Rows.histAsksSpec
set_option maxRecDepth 100000 in
theorem contract (H : Type) (enc : TypeId × Value → H) (W : World) (base : Nat) (args : Array Value) (ds gs : List (DataW H)) (before : List MemPlace)
    (hval0 : ∀ (j : Nat) t v, Try.f4.params[j]? = some t → args[j]? = some v → Value.okWide Try.prog W .any base t v)
    (hW : DataW.Whole enc Try.prog Try.f4.params.toList spec.vars false W args.toList ds gs before)
    (hsz : (DataW.weightsEach Try.prog (Try.f4.params.toList ++ spec.plain.varTypes Try.prog) (ds ++ gs)).all (· ≤ reachBytes) = true) :
    Calls Try.prog 4 args W fun e W' => ∃ v, e = .returned v ∧ spec.post enc Try.prog Try.f4 false true false false W args v W' := by
  have hval : ∀ (j : Nat) t v, Try.f4.params[j]? = some t → args[j]? = some v → Value.okWide Try.prog W .any base t v := hval0
  have hW' := hW
  obtain ⟨p, q, hA0, hV, rfl, hfz, hnd⟩ := hW
  have hA : DataW.TrodAll enc Try.prog W 0 (fun _ => true) true Try.f4.params.toList args.toList ds p := hA0
  rw [Try.params4] at hA hval hsz
  obtain ⟨v0, vs0, d0, ds0, p0, q0, hargs, rfl, rfl, h0, r0⟩ := trodAll_cons hA
  obtain ⟨v1, vs1, d1, ds1, p1, q1, rfl, rfl, rfl, h1, r1⟩ := trodAll_cons r0
  obtain ⟨v2, vs2, d2, ds2, p2, q2, rfl, rfl, rfl, h2, r2⟩ := trodAll_cons r1
  obtain ⟨v3, vs3, d3, ds3, p3, q3, rfl, rfl, rfl, h3, r3⟩ := trodAll_cons r2
  obtain ⟨v4, vs4, d4, ds4, p4, q4, rfl, rfl, rfl, h4, r4⟩ := trodAll_cons r3
  obtain ⟨rfl, rfl, rfl⟩ := trodAll_nil r4
  obtain rfl : args = #[v0, v1, v2, v3, v4] := by cases args; simp_all
  obtain ⟨rfl, rfl⟩ := trodVars_none hV
  obtain ⟨V, hVl, rfl⟩ := open_hist (hval 0 _ v0 rfl rfl) h0
  obtain ⟨U, hUl, rfl⟩ := open_hist (hval 1 _ v1 rfl rfl) h1
  obtain ⟨p, rfl, rfl, rfl, wp⟩ := open_int Try.underlying2 (hval 2 _ v2 rfl rfl) h2
  obtain ⟨o, rfl, rfl, rfl, wo⟩ := open_int Try.underlying2 (hval 3 _ v3 rfl rfl) h3
  obtain ⟨A, xs, cap, rfl, hR, hlen, _⟩ := open_rM 4 Try.underlying35 (by kernel_rfl) (by kernel_rfl) (hval 4 _ v4 rfl rfl) h4
  refine (walk V U hVl hUl p o A xs cap W hR (by have := open_small Try.underlying35 bytes_mark h4 hsz 4 rfl rfl; omega)).mono fun e W' ⟨he, hb⟩ => ?_
  subst he
  exact ⟨_, rfl, law_post try_laidOut (by kernel_rfl) rfl rfl Try.underlying4 hW' rfl rfl rfl hb⟩

set_option maxRecDepth 100000 in
theorem lifted (os : Os) (started : os.Started) (H : Type) (enc : TypeId × Value → H) :
    ReturnsInHanded {} Try.checked os 4 .any (Rows.histAsksSpec.pre6 enc Try.prog Try.f4 Rows.histAsksRow.domain false) (Rows.histAsksSpec.post enc Try.prog Try.f4 false true false false) := by
  refine returnsInHanded_of_change_sized (C := Try.checked) own started (by kernel_rfl) Try.func4
    (ChangeSpec.witness6 (enc := enc) (C := Try.checked) false ⟨#[], #[.agg (hC hZ), .agg (hC hZ), .int .i64 0, .int .i64 0, .slice Option.none 0 0], []⟩ 8 (by kernel_rfl) (by kernel_rfl) (by kernel_rfl) (by kernel_rfl)) ?_
  intro W base args ds gs before hval hW hcnd hsz _
  exact contract H enc W base args ds gs before hval hW hsz

theorem over : Rows.histAsksRow.holds Try.pinned (OpenSpec.ofChange Rows.histAsksSpec) :=
  OpenClaim.holds_of_wide 4 Try.f4 rfl rfl rfl rfl rfl rfl rfl ⟨rfl, rfl, rfl, rfl, rfl⟩ rfl rfl rfl rfl rfl (by kernel_rfl) Try.func4 (by kernel_rfl)
    (of_decide_eq_true (by kernel_rfl)) (by unfold Func.isWrapper; first | (rw [if_pos (by decide +kernel)]; kernel_rfl) | (rw [if_neg (by decide +kernel)]; exact ⟨rfl, rfl⟩))
    (fun os started H enc _ => lifted os started H enc)

/-- The statement. -/
theorem proved : Rows.HistAsksSaid :=
  over
#print axioms proved
end Go.Proofs.Ytmaehcecilnglaa.histAsks
