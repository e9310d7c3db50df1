/-
  The law CurveFits of vergelaw22: whatever the curve, the times and the number, Fits and Dense answer as the reference does; every argument reads afterwards as before. No condition.
-/
import Derived.Test.YtjckfgadchobfaaLw
import Derived.Test.YtjckfgadchobfaaCur5
namespace Go.Proofs.Ytjckfgadchobfaa.curveFits
open Go.ChangeShapes Go.WideShapes Go.ChangeAt Go.RowKit
set_option linter.unusedVariables false

set_option maxHeartbeats 1000000 in
theorem walk (p j a n : Int) (A : Option Addr) (xs : List Int) (cap : Nat) (w : World) (h : Ints w w.heap.size A xs) (hl : xs.length ≤ 9223372036854775807) :
    Calls Try.prog 5 #[.agg #[.int .i64 p, .int .i64 j, .int .i64 a], .slice A xs.length cap, .int .i64 n] w fun e w' => e = .returned (.bool true) ∧ Below w.heap.size w w' := by
  by_cases h1 : 200 < xs.length
  · go_enter Try.func5, Try.ntmps5
    go_wp2_with (first | (go_at_call 28; refine (lives22 _).mono ?_; rintro e w5 ⟨rfl, hb⟩))
    all_goals go_ret
    all_goals exact ⟨rfl, hb.box (Nat.le_refl _)⟩
  by_cases h2 : 200 < n ∧ n ≤ 1048576
  · obtain ⟨h3, h4⟩ := h2
    have h1' : xs.length ≤ 200 := by omega
    clear h1
    go_enter Try.func5, Try.ntmps5
    go_wp2_with (first | (go_at_call 28; refine (lives22 _).mono ?_; rintro e w5 ⟨rfl, hb⟩))
    all_goals go_ret
    all_goals exact ⟨rfl, hb.box (Nat.le_refl _)⟩
  have HH : ∀ W, Below (w.alloc (.cells #[.int .i64 p, .int .i64 j, .int .i64 a] 34)).heap.size (w.alloc (.cells #[.int .i64 p, .int .i64 j, .int .i64 a] 34)) W → Ints W W.heap.size A xs := fun W hb => (h.below (hb.box (Nat.le_refl _))).mono (hb.box (Nat.le_refl _)).size
  have HI := Lib.hid HH
  have h0 : Ints (w.alloc (.cells #[.int .i64 p, .int .i64 j, .int .i64 a] 34)) (w.alloc (.cells #[.int .i64 p, .int .i64 j, .int .i64 a] 34)).heap.size A xs := HI.out _ (Below.refl _ _)
  clear HH
  have h1' : xs.length ≤ 200 := by omega
  clear h1
  by_cases h3 : n ≤ 200
  · clear h2
    go_enter Try.func5, Try.ntmps5
    go_wp2_with fail
    refine (fits_any _ _ _ A xs _ _ h0 hl).mono ?_
    rintro e w1 ⟨rfl, HB⟩
    have q0 := box_cell HB 0 _ rfl
    have q1 := box_cell HB 1 _ rfl
    have q2 := box_cell HB 2 _ rfl
    go_wp2_with fail
    refine (rfits_val _ _ _ A xs _ _ (HI.out _ HB) hl).mono ?_
    rintro e w2 ⟨rfl, hb⟩
    replace HB := HB.next HB.size hb
    clear hb q0 q1 q2
    have q0 := box_cell HB 0 _ rfl
    have q1 := box_cell HB 1 _ rfl
    have q2 := box_cell HB 2 _ rfl
    go_wp2_with fail
    refine (dense_any _ _ _ _ _).mono ?_
    rintro e w3 ⟨B, c, rfl, hB, hb⟩
    replace HB := HB.next HB.size hb
    clear hb q0 q1 q2
    have q0 := box_cell HB 0 _ rfl
    have q1 := box_cell HB 1 _ rfl
    have q2 := box_cell HB 2 _ rfl
    go_wp2_with fail
    refine (rdense_any _ _ _ _ _).mono ?_
    rintro e w4 ⟨D, d, rfl, hD, hb⟩
    replace hB := (hB.below hb).mono hb.size
    replace HB := HB.next HB.size hb
    clear hb q0 q1 q2
    have q0 := box_cell HB 0 _ rfl
    have q1 := box_cell HB 1 _ rfl
    have q2 := box_cell HB 2 _ rfl
    go_wp2_with fail
    refine (lives22 _).mono ?_
    rintro e w5 ⟨rfl, hb⟩
    replace hB := (hB.below hb).mono hb.size
    replace hD := (hD.below hb).mono hb.size
    replace HB := HB.next HB.size hb
    clear hb q0 q1 q2
    have hdl : (deL p j a n).length ≤ 9223372036854775807 := by unfold deL; split <;> simp [dens_length]; unfold deE at *; omega
    go_wp2_with fail
    refine (same_any _ _ (deL p j a n) (deL p j a n) _ _ _ hB hD hdl hdl).mono ?_
    rintro e w6 ⟨rfl, m, rfl⟩
    go_wp2
    go_ret
    exact ⟨rfl, (HB.box (Nat.le_refl _)).drewN _⟩
  · have h4 : 1048576 < n := by omega
    clear h2 h3
    go_enter Try.func5, Try.ntmps5
    go_wp2_with fail
    refine (fits_any _ _ _ A xs _ _ h0 hl).mono ?_
    rintro e w1 ⟨rfl, HB⟩
    have q0 := box_cell HB 0 _ rfl
    have q1 := box_cell HB 1 _ rfl
    have q2 := box_cell HB 2 _ rfl
    go_wp2_with fail
    refine (rfits_val _ _ _ A xs _ _ (HI.out _ HB) hl).mono ?_
    rintro e w2 ⟨rfl, hb⟩
    replace HB := HB.next HB.size hb
    clear hb q0 q1 q2
    have q0 := box_cell HB 0 _ rfl
    have q1 := box_cell HB 1 _ rfl
    have q2 := box_cell HB 2 _ rfl
    go_wp2_with fail
    refine (dense_any _ _ _ _ _).mono ?_
    rintro e w3 ⟨B, c, rfl, hB, hb⟩
    replace HB := HB.next HB.size hb
    clear hb q0 q1 q2
    have q0 := box_cell HB 0 _ rfl
    have q1 := box_cell HB 1 _ rfl
    have q2 := box_cell HB 2 _ rfl
    go_wp2_with fail
    refine (rdense_any _ _ _ _ _).mono ?_
    rintro e w4 ⟨D, d, rfl, hD, hb⟩
    replace hB := (hB.below hb).mono hb.size
    replace HB := HB.next HB.size hb
    clear hb q0 q1 q2
    have q0 := box_cell HB 0 _ rfl
    have q1 := box_cell HB 1 _ rfl
    have q2 := box_cell HB 2 _ rfl
    go_wp2_with fail
    refine (lives22 _).mono ?_
    rintro e w5 ⟨rfl, hb⟩
    replace hB := (hB.below hb).mono hb.size
    replace hD := (hD.below hb).mono hb.size
    replace HB := HB.next HB.size hb
    clear hb q0 q1 q2
    have hdl : (deL p j a n).length ≤ 9223372036854775807 := by unfold deL; split <;> simp [dens_length]; unfold deE at *; omega
    go_wp2_with fail
    refine (same_any _ _ (deL p j a n) (deL p j a n) _ _ _ hB hD hdl hdl).mono ?_
    rintro e w6 ⟨rfl, m, rfl⟩
    go_wp2
    go_ret
    exact ⟨rfl, (HB.box (Nat.le_refl _)).drewN _⟩

abbrev spec := Rows.curveFitsSpec
set_option maxRecDepth 100000 in
theorem contract (H : Type) (enc : TypeId × Value → H) (W : World) (base : Nat) (args : Array Value) (ds gs : List (DataW H)) (before : List MemPlace)
    (hval0 : ∀ (j : Nat) t v, Try.f5.params[j]? = some t → args[j]? = some v → Value.okWide Try.prog W .any base t v)
    (hW : DataW.Whole enc Try.prog Try.f5.params.toList spec.vars false W args.toList ds gs before) :
    Calls Try.prog 5 args W fun e W' => ∃ v, e = .returned v ∧ spec.post enc Try.prog Try.f5 false true false false W args v W' := by
  have hval : ∀ (j : Nat) t v, Try.f5.params[j]? = some t → args[j]? = some v → Value.okWide Try.prog W .any base t v := hval0
  have hW' := hW
  obtain ⟨p, q, hA0, hV, rfl, hfz, hnd⟩ := hW
  have hA : DataW.TrodAll enc Try.prog W 0 (fun _ => true) true Try.f5.params.toList args.toList ds p := hA0
  rw [Try.params5] at hA hval
  obtain ⟨v0, vs0, d0, ds0, p0, q0, hargs, rfl, rfl, h0, r0⟩ := trodAll_cons hA
  obtain ⟨v1, vs1, d1, ds1, p1, q1, rfl, rfl, rfl, h1, r1⟩ := trodAll_cons r0
  obtain ⟨v2, vs2, d2, ds2, p2, q2, rfl, rfl, rfl, h2, r2⟩ := trodAll_cons r1
  obtain ⟨rfl, rfl, rfl⟩ := trodAll_nil r2
  obtain rfl : args = #[v0, v1, v2] := by cases args; simp_all
  obtain ⟨rfl, rfl⟩ := trodVars_none hV
  obtain ⟨cs, rfl, hl⟩ := open_leafy (l := [some .i64, some .i64, some .i64]) 3 (by kernel_rfl) Try.underlying34 (hval 0 _ v0 rfl rfl) h0
  obtain ⟨p, _, rfl, _, j, _, rfl, _, a, _, rfl, _, rfl⟩ := hl
  obtain ⟨A, xs, cap, rfl, hI, hlen, _⟩ := open_i64s Try.underlying39 Try.underlying2 (by kernel_rfl) (hval 1 _ v1 rfl rfl) h1
  obtain ⟨n, rfl, rfl, rfl, wn⟩ := open_int Try.underlying3 (hval 2 _ v2 rfl rfl) h2
  refine (walk p j a n A xs cap W hI hlen).mono fun e W' ⟨he, hb⟩ => ?_
  subst he
  exact ⟨_, rfl, law_post try_laidOut (by kernel_rfl) rfl rfl Try.underlying4 hW' rfl rfl rfl hb⟩

set_option maxRecDepth 100000 in
theorem lifted (os : Os) (started : os.Started) (H : Type) (enc : TypeId × Value → H) :
    ReturnsInHanded {} Try.checked os 5 .any (Rows.curveFitsSpec.pre6 enc Try.prog Try.f5 Rows.curveFitsRow.domain false) (Rows.curveFitsSpec.post enc Try.prog Try.f5 false true false false) := by
  refine returnsInHanded_of_change (C := Try.checked) own started (by kernel_rfl) Try.func5
    (ChangeSpec.witness6 (enc := enc) (C := Try.checked) false ⟨#[], #[.agg #[.int .i64 0, .int .i64 0, .int .i64 0], .slice none 0 0, .int .i64 0], []⟩ 8 (by kernel_rfl) (by kernel_rfl) (by kernel_rfl) (by kernel_rfl)) ?_
  intro W base args ds gs before hval hW hcnd _
  exact contract H enc W base args ds gs before hval hW

theorem over : Rows.curveFitsRow.holds Try.pinned (OpenSpec.ofChange Rows.curveFitsSpec) :=
  OpenClaim.holds_of_wide 5 Try.f5 rfl rfl rfl rfl rfl rfl rfl ⟨rfl, rfl, rfl, rfl, rfl⟩ rfl rfl rfl rfl rfl (by kernel_rfl) Try.func5 (by kernel_rfl)
    (of_decide_eq_true (by kernel_rfl)) (by unfold Func.isWrapper; first | (rw [if_pos (by decide +kernel)]; kernel_rfl) | (rw [if_neg (by decide +kernel)]; exact ⟨rfl, rfl⟩))
    (fun os started H enc _ => lifted os started H enc)

/-- The statement. -/
theorem proved : Rows.CurveFitsSaid :=
  over
#print axioms proved
end Go.Proofs.Ytjckfgadchobfaa.curveFits
