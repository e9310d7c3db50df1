/-
  The law CurveBounds of vergelaw22: whatever the curve, the length and the number, Check, Most and Gap answer as the reference does; and every argument reads afterwards as before. No condition.
-/
import Derived.Test.YtjckfgadchobfaaLw
import Derived.Test.YtjckfgadchobfaaCur5
namespace Go.Proofs.Ytjckfgadchobfaa.curveBounds
open Go.ChangeShapes Go.WideShapes Go.ChangeAt Go.RowKit
set_option linter.unusedVariables false

set_option maxHeartbeats 1000000 in
theorem walk (p j a x n : Int) (w : World) :
    Calls Try.prog 4 #[.agg #[.int .i64 p, .int .i64 j, .int .i64 a], .int .i64 x, .int .i64 n] w fun e w' => e = .returned (.bool true) ∧ Below w.heap.size w w' := by
  go_enter Try.func4, Try.ntmps4
  go_wp2_with fail
  refine (most_any _ _ _ _ _).mono ?_
  rintro e w1 ⟨rfl, HB⟩
  have q0 := box_cell HB 0 _ rfl
  have q1 := box_cell HB 1 _ rfl
  have q2 := box_cell HB 2 _ rfl
  go_wp2_with fail
  refine (rmost_any _ _ _ _ _).mono ?_
  rintro e w2 ⟨rfl, hb⟩
  replace HB := HB.next HB.size hb
  clear hb q0 q1 q2
  have q0 := box_cell HB 0 _ rfl
  have q1 := box_cell HB 1 _ rfl
  have q2 := box_cell HB 2 _ rfl
  go_wp2_with fail
  refine (gapE_any _ _ _ _ _).mono ?_
  rintro e w3 ⟨rfl, hb⟩
  replace HB := HB.next HB.size hb
  clear hb q0 q1 q2
  have q0 := box_cell HB 0 _ rfl
  have q1 := box_cell HB 1 _ rfl
  have q2 := box_cell HB 2 _ rfl
  go_wp2_with fail
  refine (rgapE_any _ _ _ _ _).mono ?_
  rintro e w4 ⟨rfl, hb⟩
  replace HB := HB.next HB.size hb
  clear hb q0 q1 q2
  have q0 := box_cell HB 0 _ rfl
  have q1 := box_cell HB 1 _ rfl
  have q2 := box_cell HB 2 _ rfl
  go_wp2_with fail
  go_region_held3 (fun W => W.cell? ⟨w.heap.size, 0, none⟩ = some (.int .i64 p) ∧ W.cell? ⟨w.heap.size, 1, none⟩ = some (.int .i64 j) ∧ W.cell? ⟨w.heap.size, 2, none⟩ = some (.int .i64 a)) ((first | exact ⟨box_cell HB 0 _ rfl, box_cell HB 1 _ rfl, box_cell HB 2 _ rfl⟩ | go_keep)) (first | (go_at_call 28; refine (lives22 _).mono ?_; rintro e w5 ⟨rfl, hb⟩; replace HB := HB.drew.next HB.size hb) | (go_at_call 29; refine (ccheck_any _ _ _ _).mono ?_; rintro e w6 ⟨rfl, hb⟩; replace HB := HB.next HB.size hb) | (go_at_call 30; refine (rccheck_any _ _ _ _).mono ?_; rintro e w7 ⟨rfl, hb⟩; replace HB := HB.next HB.size hb))
  go_wp2
  go_ret
  exact ⟨rfl, HB.box (Nat.le_refl _)⟩
abbrev spec := Rows.curveBoundsSpec
set_option maxRecDepth 100000 in
theorem contract (H : Type) (enc : TypeId × Value → H) (W : World) (base : Nat) (args : Array Value) (ds gs : List (DataW H)) (before : List MemPlace)
    (hval0 : ∀ (j : Nat) t v, Try.f4.params[j]? = some t → args[j]? = some v → Value.okWide Try.prog W .any base t v)
    (hW : DataW.Whole enc Try.prog Try.f4.params.toList spec.vars false W args.toList ds gs before) :
    Calls Try.prog 4 args W fun e W' => ∃ v, e = .returned v ∧ spec.post enc Try.prog Try.f4 false true false false W args v W' := by
  have hval : ∀ (j : Nat) t v, Try.f4.params[j]? = some t → args[j]? = some v → Value.okWide Try.prog W .any base t v := hval0
  have hW' := hW
  obtain ⟨p, q, hA0, hV, rfl, hfz, hnd⟩ := hW
  have hA : DataW.TrodAll enc Try.prog W 0 (fun _ => true) true Try.f4.params.toList args.toList ds p := hA0
  rw [Try.params4] at hA hval
  obtain ⟨v0, vs0, d0, ds0, p0, q0, hargs, rfl, rfl, h0, r0⟩ := trodAll_cons hA
  obtain ⟨v1, vs1, d1, ds1, p1, q1, rfl, rfl, rfl, h1, r1⟩ := trodAll_cons r0
  obtain ⟨v2, vs2, d2, ds2, p2, q2, rfl, rfl, rfl, h2, r2⟩ := trodAll_cons r1
  obtain ⟨rfl, rfl, rfl⟩ := trodAll_nil r2
  obtain rfl : args = #[v0, v1, v2] := by cases args; simp_all
  obtain ⟨rfl, rfl⟩ := trodVars_none hV
  obtain ⟨cs, rfl, hl⟩ := open_leafy (l := [some .i64, some .i64, some .i64]) 3 (by kernel_rfl) Try.underlying34 (hval 0 _ v0 rfl rfl) h0
  obtain ⟨p, _, rfl, _, j, _, rfl, _, a, _, rfl, _, rfl⟩ := hl
  obtain ⟨x, rfl, rfl, rfl, wx⟩ := open_int Try.underlying2 (hval 1 _ v1 rfl rfl) h1
  obtain ⟨n, rfl, rfl, rfl, wn⟩ := open_int Try.underlying3 (hval 2 _ v2 rfl rfl) h2
  refine (walk p j a x n W).mono fun e W' ⟨he, hb⟩ => ?_
  subst he
  exact ⟨_, rfl, law_post try_laidOut (by kernel_rfl) rfl rfl Try.underlying4 hW' rfl rfl rfl hb⟩

set_option maxRecDepth 100000 in
theorem lifted (os : Os) (started : os.Started) (H : Type) (enc : TypeId × Value → H) :
    ReturnsInHanded {} Try.checked os 4 .any (Rows.curveBoundsSpec.pre6 enc Try.prog Try.f4 Rows.curveBoundsRow.domain false) (Rows.curveBoundsSpec.post enc Try.prog Try.f4 false true false false) := by
  refine returnsInHanded_of_change (C := Try.checked) own started (by kernel_rfl) Try.func4
    (ChangeSpec.witness6 (enc := enc) (C := Try.checked) false ⟨#[], #[.agg #[.int .i64 0, .int .i64 0, .int .i64 0], .int .i64 0, .int .i64 0], []⟩ 8 (by kernel_rfl) (by kernel_rfl) (by kernel_rfl) (by kernel_rfl)) ?_
  intro W base args ds gs before hval hW hcnd _
  exact contract H enc W base args ds gs before hval hW

theorem over : Rows.curveBoundsRow.holds Try.pinned (OpenSpec.ofChange Rows.curveBoundsSpec) :=
  OpenClaim.holds_of_wide 4 Try.f4 rfl rfl rfl rfl rfl rfl rfl ⟨rfl, rfl, rfl, rfl, rfl⟩ rfl rfl rfl rfl rfl (by kernel_rfl) Try.func4 (by kernel_rfl)
    (of_decide_eq_true (by kernel_rfl)) (by unfold Func.isWrapper; first | (rw [if_pos (by decide +kernel)]; kernel_rfl) | (rw [if_neg (by decide +kernel)]; exact ⟨rfl, rfl⟩))
    (fun os started H enc _ => lifted os started H enc)

/-- The statement. -/
theorem proved : Rows.CurveBoundsSaid :=
  over
#print axioms proved
end Go.Proofs.Ytjckfgadchobfaa.curveBounds
