/-
  The law BitsFinds of vergelaw05: of any set the first, the last, the one above a number, and the one around it, are what the reference says; every argument reads afterwards as before. No condition; the library's table (math/bits) is tied to its text.
-/
import Derived.Test.YtcchmkpodfjhcaaDoorL05
namespace Go.Proofs.YtcchmkpodfjhcaaDoor.bitsFinds
open Go.ChangeShapes Go.WideShapes Go.ChangeAt Go.RowKit Go.Shelf
set_option linter.unusedVariables false

set_option maxHeartbeats 1000000 in
theorem walk (b : Nat) (hb : b < 18446744073709551616) (n : Int) (hn : (Lit.int .i64 n).wf = true) (w : World) (hT : Tab w) (hS : 0 < w.heap.size) :
    Calls Tryd.prog 4 #[.int .u64 (b : Int), .int .i64 n] w fun e w' => e = .returned (.bool true) ∧ Below w.heap.size w w' := by
  obtain ⟨o1, h1⟩ : ∃ o, o = (lb 64 b).head? := ⟨_, rfl⟩
  obtain ⟨o2, h2⟩ : ∃ o, o = (lb 64 b).getLast? := ⟨_, rfl⟩
  obtain ⟨o3, h3⟩ : ∃ o, o = (lb 64 b).find? fun m => decide (n < m) := ⟨_, rfl⟩
  obtain ⟨o4, h4⟩ : ∃ o, o = arO n (lb 64 b) := ⟨_, rfl⟩
  have c1 := first_any b hb
  have c2 := rfirst_any b hb
  have c3 := last_any b hb
  have c4 := rlast_any b hb
  have c5 := fun W h => after_any b hb n W h hn
  have c6 := rafter_any b hb n
  have c7 := around_any b hb n
  have c8 := raround_any b hb n
  rw [← h1] at c1 c2
  rw [← h2] at c3 c4
  rw [← h3] at c5 c6
  rw [← h4] at c7 c8
  have C1 := Lib.hid c1
  have C2 := Lib.hid c2
  have C3 := Lib.hid c3
  have C4 := Lib.hid c4
  have C5 := Lib.hid c5
  have C6 := Lib.hid c6
  have C7 := Lib.hid c7
  have C8 := Lib.hid c8
  clear h1 h2 h3 h4 c1 c2 c3 c4 c5 c6 c7 c8
  unfold op2 at C1 C2 C3 C4 C5 C6 C7 C8
  go_enter Tryd.func4, Tryd.ntmps4
  go_wp2_with fail
  refine (C1.out _ hT).mono ?_
  rintro e w1 ⟨rfl, rfl⟩
  go_wp2_with fail
  refine (C2.out _).mono ?_
  rintro e w1 ⟨rfl, HB⟩
  go_wp2_with fail
  refine (C3.out _).mono ?_
  rintro e w2 ⟨rfl, rfl⟩
  go_wp2_with fail
  refine (C4.out _).mono ?_
  rintro e w2 ⟨rfl, hb2⟩
  replace HB := HB.next HB.size hb2
  clear hb2
  go_wp2_with fail
  refine (C5.out _ (hT.below HB hS)).mono ?_
  rintro e w3 ⟨rfl, rfl⟩
  go_wp2_with fail
  refine (C6.out _).mono ?_
  rintro e w3 ⟨rfl, hb2⟩
  replace HB := HB.next HB.size hb2
  clear hb2
  go_wp2_with fail
  refine (C7.out _ (hT.below HB hS)).mono ?_
  rintro e w4 ⟨rfl, rfl⟩
  go_wp2_with fail
  refine (C8.out _).mono ?_
  rintro e w4 ⟨rfl, hb2⟩
  replace HB := HB.next HB.size hb2
  clear hb2
  go_wp2_with fail
  refine (lives05 _ (hT.below HB hS) (Nat.lt_of_lt_of_le hS HB.size)).mono ?_
  rintro e w5 ⟨rfl, hb2⟩
  replace HB := HB.next HB.size hb2
  clear hb2
  go_wp2
  go_ret
  exact ⟨rfl, HB⟩
abbrev spec := Rows.bitsFindsSpec
set_option maxRecDepth 100000 in
theorem contract (H : Type) (enc : TypeId × Value → H) (W : World) (base : Nat) (args : Array Value) (ds gs : List (DataW H)) (before : List MemPlace)
    (hval0 : ∀ (j : Nat) t v, Tryd.f4.params[j]? = some t → args[j]? = some v → Value.okWide Tryd.prog W .any base t v)
    (hW : DataW.Whole enc Tryd.prog Tryd.f4.params.toList spec.vars false W args.toList ds gs before) (hL : laidMetH Tryd.prog Rows.bitsFindsRow.laid W) :
    Calls Tryd.prog 4 args W fun e W' => ∃ v, e = .returned v ∧ spec.post enc Tryd.prog Tryd.f4 false true false false W args v W' := by
  have hval : ∀ (j : Nat) t v, Tryd.f4.params[j]? = some t → args[j]? = some v → Value.okWide Tryd.prog W .any base t v := hval0
  have hW' := hW
  obtain ⟨p, q, hA0, hV, rfl, hfz, hnd⟩ := hW
  have hA : DataW.TrodAll enc Tryd.prog W 0 (fun _ => true) true Tryd.f4.params.toList args.toList ds p := hA0
  have hT := tab_of_laid hL
  have hS := tab_size hT
  rw [Tryd.params4] at hA hval
  obtain ⟨v0, vs0, d0, ds0, p0, q0, hargs, rfl, rfl, h0, r0⟩ := trodAll_cons hA
  obtain ⟨v1, vs1, d1, ds1, p1, q1, rfl, rfl, rfl, h1, r1⟩ := trodAll_cons r0
  obtain ⟨rfl, rfl, rfl⟩ := trodAll_nil r1
  obtain rfl : args = #[v0, v1] := by cases args; simp_all
  obtain ⟨rfl, rfl⟩ := trodVars_none hV
  obtain ⟨b, rfl, rfl, rfl, wb⟩ := open_int Tryd.underlying23 (hval 0 _ v0 rfl rfl) h0
  obtain ⟨n, rfl, rfl, rfl, wn⟩ := open_int Tryd.underlying3 (hval 1 _ v1 rfl rfl) h1
  obtain ⟨b1, b2⟩ := u64_bounds wb
  obtain ⟨m, rfl⟩ := Int.eq_ofNat_of_zero_le b1
  refine (walk m (by omega) n wn W hT hS).mono fun e W' ⟨he, hb⟩ => ?_
  subst he
  exact ⟨_, rfl, law_post try_laidOut (by kernel_rfl) rfl rfl Tryd.underlying4 hW' rfl rfl rfl hb⟩

theorem laid_met (os : Os) : laidMet Tryd.prog Rows.bitsFindsRow.laid ((laidWorld os).forCall (fun _ _ => 0) ⟨#[], #[.int .u64 0, .int .i64 0], []⟩).memory :=
  laidMet_of_run' 8 (by kernel_rfl) (by kernel_rfl)
theorem reads (os : Os) {H : Type} (enc : TypeId × Value → H) : ∃ places, DataW.whole enc Tryd.prog ((laidWorld os).forCall (fun _ _ => 0) ⟨#[], #[.int .u64 0, .int .i64 0], []⟩).memory Tryd.f4.params.toList Rows.bitsFindsSpec.vars false #[.int .u64 0, .int .i64 0].toList 8 = some ([.lit (.int .u64 0), .lit (.int .i64 0)], [], places) :=
  ⟨[], by kernel_rfl⟩
set_option maxRecDepth 100000 in
theorem lifted (os : Os) (started : os.Started) (H : Type) (enc : TypeId × Value → H) (F : Stop.Interp) :
    ReturnsInHanded {} Tryd.checked os 4 .any ((OpenSpec.ofChange Rows.bitsFindsSpec).preRow enc Tryd.prog Tryd.f4 Rows.bitsFindsRow.domain false Rows.bitsFindsRow.laid) (((OpenSpec.ofChange Rows.bitsFindsSpec).at F).post enc Tryd.prog Tryd.f4 false true false false) := by
  obtain ⟨places, hx⟩ := reads os enc
  refine returnsInHanded_of_row (C := Tryd.checked) (s := OpenSpec.ofChange Rows.bitsFindsSpec) own started (by kernel_rfl) Tryd.func4
    (witness_row_at (enc := enc) (C := Tryd.checked) false (laidWorld os) #[.int .u64 0, .int .i64 0] rfl (by kernel_rfl) (by kernel_rfl) (by kernel_rfl)
      (OpenSpec.preRow_of_cond 8 hx (by kernel_rfl) (fun k hk => by cases hk) (by kernel_rfl) (laid_met os))) ?_
  intro W base args ds gs before hval hW _ _ _ hL _ _
  exact contract H enc W base args ds gs before hval hW hL
theorem said : Rows.BitsFindsSaid :=
  OpenClaim.holds_of_cond 4 Tryd.f4 rfl rfl rfl rfl rfl rfl rfl ⟨rfl, rfl, rfl, rfl, rfl⟩ rfl rfl rfl rfl rfl (by kernel_rfl) Tryd.func4 (by kernel_rfl)
    (of_decide_eq_true (by kernel_rfl)) (by unfold Func.isWrapper; first | (rw [if_pos (by decide +kernel)]; kernel_rfl) | (rw [if_neg (by decide +kernel)]; exact ⟨rfl, rfl⟩))
    (fun os started H enc _ F => by rw [OpenClaim.pre_eq_preRow]; exact lifted os started H enc F)
theorem plain (f : FuncId) (fn : Func) (hf : Tryd.pinned.checked.prog.funcNamed "verge/vergelaw05.BitsFinds" = some f) (hfn : Tryd.pinned.checked.prog.funcs[f]? = some fn) :
    false = Tryd.pinned.checked.prog.looks [] ∧ ∀ (j : Nat) t, fn.params[j]? = some t → Tryd.pinned.checked.prog.wantsStandIn t = false := by
  obtain rfl : f = 4 := Option.some.inj ((show Tryd.prog.funcNamed "verge/vergelaw05.BitsFinds" = some 4 by kernel_rfl).symm.trans hf) |>.symm
  obtain rfl : fn = Tryd.f4 := (Option.some.inj (Tryd.func4.symm.trans hfn)).symm
  refine ⟨by kernel_rfl, fun j t ht => ?_⟩
  have hall : (Tryd.f4.params.toList.all fun t => !(Tryd.prog.wantsStandIn t)) = true := by kernel_rfl
  have hw : Tryd.prog.wantsStandIn t = false := by simpa using List.all_eq_true.1 hall t (by simpa using Array.mem_of_getElem? ht)
  exact hw
/-- The card. -/
theorem proved : Rows.BitsFindsCardSaid :=
  Claim7.holds_tied_plain_at .later [] _ _ _ _ said (fun _ h => by cases h) (by kernel_rfl) (fun _ h => by cases h) bitsFinds_row_tie rfl ⟨rfl, rfl⟩ (by kernel_rfl) rfl plain (by kernel_rfl)
#print axioms proved
end Go.Proofs.YtcchmkpodfjhcaaDoor.bitsFinds
