/-
  The law BitsMakes of vergelaw05: any numbers make the set that the reference says, or none; any set has its list and its count, and any two numbers what is between them; every argument reads afterwards as before. No condition; the library's table (math/bits) is tied to its text.
-/
import Derived.Test.YtcchmkpodfjhcaaDoorL05
namespace Go.Proofs.YtcchmkpodfjhcaaDoor.bitsMakes
open Go.ChangeShapes Go.WideShapes Go.ChangeAt Go.RowKit Go.Shelf
set_option linter.unusedVariables false

set_option maxHeartbeats 1000000 in
theorem walk (A : Option Addr) (xs : List Int) (cap : Nat) (b : Nat) (hb : b < 18446744073709551616) (lo up : Int) (hn : (Lit.int .i64 up).wf = true) (w : World) (hT : Tab w) (hS : 0 < w.heap.size)
    (hI : Ints w w.heap.size A xs) (hl : xs.length ≤ 9223372036854775807) :
    Calls Tryd.prog 5 #[.slice A xs.length cap, .int .u64 (b : Int), .int .i64 lo, .int .i64 up] w fun e w' => e = .returned (.bool true) ∧ Below w.heap.size w w' := by
  have hlen := lb_len 64 b
  have c1 := of_any A xs cap w hI hl
  have c2 := rof_any A xs cap w hI hl
  have c3 := list_any b hb
  have c4 := rlist_any b hb
  have c5 := count_any b hb
  have c6 := fun W => between_any lo up W hn
  have c7 := rbetween_any lo up
  obtain ⟨L, hL⟩ : ∃ L, L = lb 64 b := ⟨_, rfl⟩
  rw [← hL] at c3 c4 c5 hlen
  obtain ⟨v, hv⟩ : ∃ v : Int, v = (ofV xs : Int) := ⟨_, rfl⟩
  obtain ⟨e, he⟩ : ∃ v : Int, v = ofE xs := ⟨_, rfl⟩
  obtain ⟨z, hz⟩ : ∃ v : Int, v = (btN lo up : Int) := ⟨_, rfl⟩
  rw [← hv, ← he] at c1 c2
  rw [← hz] at c7
  simp only [← hz] at c6
  have C1 := Lib.hid c1
  have C2 := Lib.hid c2
  have C3 := Lib.hid c3
  have C4 := Lib.hid c4
  have C5 := Lib.hid c5
  have C6 := Lib.hid c6
  have C7 := Lib.hid c7
  clear c1 c2 c3 c4 c5 c6 c7 hL hv he hz hI hn
  go_enter Tryd.func5, Tryd.ntmps5
  go_wp2_with fail
  refine (C1.out).mono ?_
  rintro e1 w1 ⟨rfl, rfl⟩
  go_wp2_with fail
  refine (C2.out).mono ?_
  rintro e1 w1 ⟨rfl, rfl⟩
  go_wp2_with fail
  refine (lives05 _ hT hS).mono ?_
  rintro e1 w1 ⟨rfl, HB⟩
  go_wp2_with fail
  refine (C3.out _ (hT.below HB hS) (Nat.lt_of_lt_of_le hS HB.size)).mono ?_
  rintro e1 w2 ⟨A1, k1, rfl, hI1, hb2⟩
  replace HB := HB.next HB.size hb2
  clear hb2
  go_wp2_with fail
  refine (C4.out _).mono ?_
  rintro e1 w3 ⟨A2, k2, rfl, hI2, hb2⟩
  replace hI1 := (hI1.below hb2).mono hb2.size
  replace HB := HB.next HB.size hb2
  clear hb2
  go_wp2_with fail
  refine (same_any _ _ L L _ _ _ hI1 hI2 (by omega) (by omega)).mono ?_
  rintro e1 w4 ⟨rfl, m, rfl⟩
  replace HB := HB.drewN m
  clear hI1 hI2
  go_wp2_with fail
  refine (C5.out _).mono ?_
  rintro e1 w4 ⟨rfl, rfl⟩
  go_wp2_with fail
  refine (C4.out _).mono ?_
  rintro e1 w5 ⟨A3, k3, rfl, hI3, hb2⟩
  replace HB := HB.next HB.size hb2
  clear hb2 hI3
  go_wp2_with fail
  refine (C6.out _).mono ?_
  rintro e1 w6 ⟨rfl, rfl⟩
  go_wp2_with fail
  refine (C7.out _).mono ?_
  rintro e1 w6 ⟨rfl, rfl⟩
  go_wp2
  go_ret
  exact ⟨rfl, HB⟩
abbrev spec := Rows.bitsMakesSpec
set_option maxRecDepth 100000 in
theorem contract (H : Type) (enc : TypeId × Value → H) (W : World) (base : Nat) (args : Array Value) (ds gs : List (DataW H)) (before : List MemPlace)
    (hval0 : ∀ (j : Nat) t v, Tryd.f5.params[j]? = some t → args[j]? = some v → Value.okWide Tryd.prog W .any base t v)
    (hW : DataW.Whole enc Tryd.prog Tryd.f5.params.toList spec.vars false W args.toList ds gs before) (hL : laidMetH Tryd.prog Rows.bitsMakesRow.laid W) :
    Calls Tryd.prog 5 args W fun e W' => ∃ v, e = .returned v ∧ spec.post enc Tryd.prog Tryd.f5 false true false false W args v W' := by
  have hval : ∀ (j : Nat) t v, Tryd.f5.params[j]? = some t → args[j]? = some v → Value.okWide Tryd.prog W .any base t v := hval0
  have hW' := hW
  obtain ⟨p, q, hA0, hV, rfl, hfz, hnd⟩ := hW
  have hA : DataW.TrodAll enc Tryd.prog W 0 (fun _ => true) true Tryd.f5.params.toList args.toList ds p := hA0
  have hT := tab_of_laid hL
  have hS := tab_size hT
  rw [Tryd.params5] at hA hval
  obtain ⟨v0, vs0, d0, ds0, p0, q0, hargs, rfl, rfl, h0, r0⟩ := trodAll_cons hA
  obtain ⟨v1, vs1, d1, ds1, p1, q1, rfl, rfl, rfl, h1, r1⟩ := trodAll_cons r0
  obtain ⟨v2, vs2, d2, ds2, p2, q2, rfl, rfl, rfl, h2, r2⟩ := trodAll_cons r1
  obtain ⟨v3, vs3, d3, ds3, p3, q3, rfl, rfl, rfl, h3, r3⟩ := trodAll_cons r2
  obtain ⟨rfl, rfl, rfl⟩ := trodAll_nil r3
  obtain rfl : args = #[v0, v1, v2, v3] := by cases args; simp_all
  obtain ⟨rfl, rfl⟩ := trodVars_none hV
  obtain ⟨A, xs, cap, rfl, hI, hl, _⟩ := open_i64s Tryd.underlying22 Tryd.underlying3 (by kernel_rfl) (hval 0 _ v0 rfl rfl) h0
  obtain ⟨b, rfl, rfl, rfl, wb⟩ := open_int Tryd.underlying23 (hval 1 _ v1 rfl rfl) h1
  obtain ⟨lo, rfl, rfl, rfl, wlo⟩ := open_int Tryd.underlying3 (hval 2 _ v2 rfl rfl) h2
  obtain ⟨up, rfl, rfl, rfl, wup⟩ := open_int Tryd.underlying3 (hval 3 _ v3 rfl rfl) h3
  obtain ⟨b1, b2⟩ := u64_bounds wb
  obtain ⟨m, rfl⟩ := Int.eq_ofNat_of_zero_le b1
  refine (walk A xs cap m (by omega) lo up wup W hT hS hI hl).mono fun e W' ⟨he, hb⟩ => ?_
  subst he
  exact ⟨_, rfl, law_post try_laidOut (by kernel_rfl) rfl rfl Tryd.underlying4 hW' rfl rfl rfl hb⟩

theorem laid_met (os : Os) : laidMet Tryd.prog Rows.bitsMakesRow.laid ((laidWorld os).forCall (fun _ _ => 0) ⟨#[], #[.slice none 0 0, .int .u64 0, .int .i64 0, .int .i64 0], []⟩).memory :=
  laidMet_of_run' 8 (by kernel_rfl) (by kernel_rfl)
theorem reads (os : Os) {H : Type} (enc : TypeId × Value → H) : ∃ places, DataW.whole enc Tryd.prog ((laidWorld os).forCall (fun _ _ => 0) ⟨#[], #[.slice none 0 0, .int .u64 0, .int .i64 0, .int .i64 0], []⟩).memory Tryd.f5.params.toList Rows.bitsMakesSpec.vars false #[.slice none 0 0, .int .u64 0, .int .i64 0, .int .i64 0].toList 8 = some ([.nil, .lit (.int .u64 0), .lit (.int .i64 0), .lit (.int .i64 0)], [], places) :=
  ⟨[], by kernel_rfl⟩
set_option maxRecDepth 100000 in
theorem lifted (os : Os) (started : os.Started) (H : Type) (enc : TypeId × Value → H) (F : Stop.Interp) :
    ReturnsInHanded {} Tryd.checked os 5 .any ((OpenSpec.ofChange Rows.bitsMakesSpec).preRow enc Tryd.prog Tryd.f5 Rows.bitsMakesRow.domain false Rows.bitsMakesRow.laid) (((OpenSpec.ofChange Rows.bitsMakesSpec).at F).post enc Tryd.prog Tryd.f5 false true false false) := by
  obtain ⟨places, hx⟩ := reads os enc
  refine returnsInHanded_of_row (C := Tryd.checked) (s := OpenSpec.ofChange Rows.bitsMakesSpec) own started (by kernel_rfl) Tryd.func5
    (witness_row_at (enc := enc) (C := Tryd.checked) false (laidWorld os) #[.slice none 0 0, .int .u64 0, .int .i64 0, .int .i64 0] rfl (by kernel_rfl) (by kernel_rfl) (by kernel_rfl)
      (OpenSpec.preRow_of_cond 8 hx (by kernel_rfl) (fun k hk => by cases hk) (by kernel_rfl) (laid_met os))) ?_
  intro W base args ds gs before hval hW _ _ _ hL _ _
  exact contract H enc W base args ds gs before hval hW hL
theorem said : Rows.BitsMakesSaid :=
  OpenClaim.holds_of_cond 5 Tryd.f5 rfl rfl rfl rfl rfl rfl rfl ⟨rfl, rfl, rfl, rfl, rfl⟩ rfl rfl rfl rfl rfl (by kernel_rfl) Tryd.func5 (by kernel_rfl)
    (of_decide_eq_true (by kernel_rfl)) (by unfold Func.isWrapper; first | (rw [if_pos (by decide +kernel)]; kernel_rfl) | (rw [if_neg (by decide +kernel)]; exact ⟨rfl, rfl⟩))
    (fun os started H enc _ F => by rw [OpenClaim.pre_eq_preRow]; exact lifted os started H enc F)
theorem plain (f : FuncId) (fn : Func) (hf : Tryd.pinned.checked.prog.funcNamed "verge/vergelaw05.BitsMakes" = some f) (hfn : Tryd.pinned.checked.prog.funcs[f]? = some fn) :
    false = Tryd.pinned.checked.prog.looks [] ∧ ∀ (j : Nat) t, fn.params[j]? = some t → Tryd.pinned.checked.prog.wantsStandIn t = false := by
  obtain rfl : f = 5 := Option.some.inj ((show Tryd.prog.funcNamed "verge/vergelaw05.BitsMakes" = some 5 by kernel_rfl).symm.trans hf) |>.symm
  obtain rfl : fn = Tryd.f5 := (Option.some.inj (Tryd.func5.symm.trans hfn)).symm
  refine ⟨by kernel_rfl, fun j t ht => ?_⟩
  have hall : (Tryd.f5.params.toList.all fun t => !(Tryd.prog.wantsStandIn t)) = true := by kernel_rfl
  have hw : Tryd.prog.wantsStandIn t = false := by simpa using List.all_eq_true.1 hall t (by simpa using Array.mem_of_getElem? ht)
  exact hw
/-- The card. -/
theorem proved : Rows.BitsMakesCardSaid :=
  Claim7.holds_tied_plain_at .later [] _ _ _ _ said (fun _ h => by cases h) (by kernel_rfl) (fun _ h => by cases h) bitsMakes_row_tie rfl ⟨rfl, rfl⟩ (by kernel_rfl) rfl plain (by kernel_rfl)
#print axioms proved
end Go.Proofs.YtcchmkpodfjhcaaDoor.bitsMakes
