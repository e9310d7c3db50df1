/-
  The law CurveParts of vergelaw22: in a longer stretch there may be at least as many; in two stretches together at least as many as in one as long as both. No condition.
-/
import Derived.Test.YtjckfgadchobfaaLw
import Derived.Test.YtjckfgadchobfaaCur5
import Derived.Test.YtjckfgadchobfaaCurQ
namespace Go.Proofs.Ytjckfgadchobfaa.curveParts
open Go.ChangeShapes Go.WideShapes Go.ChangeAt Go.RowKit
set_option linter.unusedVariables false

theorem most_bd {p j a x : Int} (hc : curE p j a = 0) (hp : 1 ≤ p) (ha : 1 ≤ a) (hj : 0 ≤ j) (x0 : 0 ≤ x) : 0 ≤ moV p j a x ∧ moV p j a x ≤ x := by
  have h1 := up_nonneg (x := x + j) hp (by omega)
  have h2 := up_nonneg (x := x) ha x0
  have h3 := (up_le x a x0 ha).2
  unfold moV upD at *
  split
  · omega
  · split <;> omega
set_option maxHeartbeats 1000000 in
theorem walk (p j a x y : Int) (w : World) :
    Calls Try.prog 8 #[.agg #[.int .i64 p, .int .i64 j, .int .i64 a], .int .i64 x, .int .i64 y] w fun e w' => e = .returned (.bool true) ∧ Below w.heap.size w w' := by
  by_cases hr : (0 ≤ x ∧ x ≤ 2251799813685248) ∧ (0 ≤ y ∧ y ≤ 2251799813685248)
  · obtain ⟨⟨x0, x1⟩, ⟨y0, y1⟩⟩ := hr
    by_cases hcu : 1 ≤ p ∧ p ≤ 1099511627776 ∧ 0 ≤ j ∧ j ≤ 1099511627776 ∧ 1 ≤ a ∧ a ≤ p
    · have hE : curE p j a = 0 := by unfold curE; rw [if_pos hcu]
      obtain ⟨p1, p2, j1, j2, a1, a2⟩ := hcu
      have e1 : moE p j a x = 0 := by unfold moE; omega
      have e2 : moE p j a y = 0 := by unfold moE; omega
      have e3 : moE p j a (x + y) = 0 := by unfold moE; omega
      obtain ⟨m1, m2, m3⟩ := most_more hE p1 a1 a2 j1 x0 x1 y0 y1
      obtain ⟨b1, b2⟩ := most_bd hE p1 a1 j1 x0
      obtain ⟨b3, b4⟩ := most_bd hE p1 a1 j1 y0
      obtain ⟨b5, b6⟩ := most_bd (x := x + y) hE p1 a1 j1 (by omega)
      go_enter Try.func8, Try.ntmps8
      go_wp2_with fail
      refine (lives22 _).mono ?_
      rintro e w0 ⟨rfl, HB⟩
      have q0 := box_cell HB 0 _ rfl
      have q1 := box_cell HB 1 _ rfl
      have q2 := box_cell HB 2 _ rfl
      go_wp2_with fail
      refine (most_any _ _ _ x _).mono ?_
      rintro e w1 ⟨rfl, hb⟩
      replace HB := HB.next HB.size hb
      clear hb q0 q1 q2
      have q0 := box_cell HB 0 _ rfl
      have q1 := box_cell HB 1 _ rfl
      have q2 := box_cell HB 2 _ rfl
      go_wp2_with fail
      refine (most_any _ _ _ y _).mono ?_
      rintro e w2 ⟨rfl, hb⟩
      replace HB := HB.next HB.size hb
      clear hb q0 q1 q2
      have q0 := box_cell HB 0 _ rfl
      have q1 := box_cell HB 1 _ rfl
      have q2 := box_cell HB 2 _ rfl
      go_wp2_with fail
      refine (most_any _ _ _ (x + y) _).mono ?_
      rintro e w3 ⟨rfl, hb⟩
      replace HB := HB.next HB.size hb
      clear hb q0 q1 q2
      have q0 := box_cell HB 0 _ rfl
      have q1 := box_cell HB 1 _ rfl
      have q2 := box_cell HB 2 _ rfl
      go_wp2
      all_goals go_ret
      all_goals exact ⟨ret_bool (by simp <;> omega), HB.box (Nat.le_refl _)⟩
    · have hE : curE p j a = 2 := by unfold curE; rw [if_neg hcu]
      have e1 : moE p j a x = 2 := by unfold moE; omega
      have e2 : moE p j a y = 2 := by unfold moE; omega
      have e3 : moE p j a (x + y) = 2 := by unfold moE; omega
      go_enter Try.func8, Try.ntmps8
      go_wp2_with fail
      refine (lives22 _).mono ?_
      rintro e w0 ⟨rfl, HB⟩
      have q0 := box_cell HB 0 _ rfl
      have q1 := box_cell HB 1 _ rfl
      have q2 := box_cell HB 2 _ rfl
      go_wp2_with fail
      refine (most_any _ _ _ x _).mono ?_
      rintro e w1 ⟨rfl, hb⟩
      replace HB := HB.next HB.size hb
      clear hb q0 q1 q2
      have q0 := box_cell HB 0 _ rfl
      have q1 := box_cell HB 1 _ rfl
      have q2 := box_cell HB 2 _ rfl
      go_wp2_with fail
      refine (most_any _ _ _ y _).mono ?_
      rintro e w2 ⟨rfl, hb⟩
      replace HB := HB.next HB.size hb
      clear hb q0 q1 q2
      have q0 := box_cell HB 0 _ rfl
      have q1 := box_cell HB 1 _ rfl
      have q2 := box_cell HB 2 _ rfl
      go_wp2_with fail
      refine (most_any _ _ _ (x + y) _).mono ?_
      rintro e w3 ⟨rfl, hb⟩
      replace HB := HB.next HB.size hb
      clear hb q0 q1 q2
      have q0 := box_cell HB 0 _ rfl
      have q1 := box_cell HB 1 _ rfl
      have q2 := box_cell HB 2 _ rfl
      go_wp2
      all_goals go_ret
      all_goals exact ⟨ret_bool (by simp <;> omega), HB.box (Nat.le_refl _)⟩
  · go_enter Try.func8, Try.ntmps8
    go_wp2_with fail
    refine (lives22 _).mono ?_
    rintro e w0 ⟨rfl, HB⟩
    have q0 := box_cell HB 0 _ rfl
    have q1 := box_cell HB 1 _ rfl
    have q2 := box_cell HB 2 _ rfl
    go_wp2_with fail
    all_goals first | (exfalso; omega) | skip
    all_goals go_ret
    all_goals exact ⟨rfl, HB.box (Nat.le_refl _)⟩

abbrev spec := Rows.curvePartsSpec
set_option maxRecDepth 100000 in
theorem contract (H : Type) (enc : TypeId × Value → H) (W : World) (base : Nat) (args : Array Value) (ds gs : List (DataW H)) (before : List MemPlace)
    (hval0 : ∀ (j : Nat) t v, Try.f8.params[j]? = some t → args[j]? = some v → Value.okWide Try.prog W .any base t v)
    (hW : DataW.Whole enc Try.prog Try.f8.params.toList spec.vars false W args.toList ds gs before) :
    Calls Try.prog 8 args W fun e W' => ∃ v, e = .returned v ∧ spec.post enc Try.prog Try.f8 false true false false W args v W' := by
  have hval : ∀ (j : Nat) t v, Try.f8.params[j]? = some t → args[j]? = some v → Value.okWide Try.prog W .any base t v := hval0
  have hW' := hW
  obtain ⟨p, q, hA0, hV, rfl, hfz, hnd⟩ := hW
  have hA : DataW.TrodAll enc Try.prog W 0 (fun _ => true) true Try.f8.params.toList args.toList ds p := hA0
  rw [Try.params8] at hA hval
  obtain ⟨v0, vs0, d0, ds0, p0, q0, hargs, rfl, rfl, h0, r0⟩ := trodAll_cons hA
  obtain ⟨v1, vs1, d1, ds1, p1, q1, rfl, rfl, rfl, h1, r1⟩ := trodAll_cons r0
  obtain ⟨v2, vs2, d2, ds2, p2, q2, rfl, rfl, rfl, h2, r2⟩ := trodAll_cons r1
  obtain ⟨rfl, rfl, rfl⟩ := trodAll_nil r2
  obtain rfl : args = #[v0, v1, v2] := by cases args; simp_all
  obtain ⟨rfl, rfl⟩ := trodVars_none hV
  obtain ⟨cs, rfl, hl⟩ := open_leafy (l := [some .i64, some .i64, some .i64]) 3 (by kernel_rfl) Try.underlying34 (hval 0 _ v0 rfl rfl) h0
  obtain ⟨p, _, rfl, _, j, _, rfl, _, a, _, rfl, _, rfl⟩ := hl
  obtain ⟨x, rfl, rfl, rfl, wx⟩ := open_int Try.underlying2 (hval 1 _ v1 rfl rfl) h1
  obtain ⟨y, rfl, rfl, rfl, wy⟩ := open_int Try.underlying2 (hval 2 _ v2 rfl rfl) h2
  refine (walk p j a x y W).mono fun e W' ⟨he, hb⟩ => ?_
  subst he
  exact ⟨_, rfl, law_post try_laidOut (by kernel_rfl) rfl rfl Try.underlying4 hW' rfl rfl rfl hb⟩

set_option maxRecDepth 100000 in
theorem lifted (os : Os) (started : os.Started) (H : Type) (enc : TypeId × Value → H) :
    ReturnsInHanded {} Try.checked os 8 .any (Rows.curvePartsSpec.pre6 enc Try.prog Try.f8 Rows.curvePartsRow.domain false) (Rows.curvePartsSpec.post enc Try.prog Try.f8 false true false false) := by
  refine returnsInHanded_of_change (C := Try.checked) own started (by kernel_rfl) Try.func8
    (ChangeSpec.witness6 (enc := enc) (C := Try.checked) false ⟨#[], #[.agg #[.int .i64 0, .int .i64 0, .int .i64 0], .int .i64 0, .int .i64 0], []⟩ 8 (by kernel_rfl) (by kernel_rfl) (by kernel_rfl) (by kernel_rfl)) ?_
  intro W base args ds gs before hval hW hcnd _
  exact contract H enc W base args ds gs before hval hW

theorem over : Rows.curvePartsRow.holds Try.pinned (OpenSpec.ofChange Rows.curvePartsSpec) :=
  OpenClaim.holds_of_wide 8 Try.f8 rfl rfl rfl rfl rfl rfl rfl ⟨rfl, rfl, rfl, rfl, rfl⟩ rfl rfl rfl rfl rfl (by kernel_rfl) Try.func8 (by kernel_rfl)
    (of_decide_eq_true (by kernel_rfl)) (by unfold Func.isWrapper; first | (rw [if_pos (by decide +kernel)]; kernel_rfl) | (rw [if_neg (by decide +kernel)]; exact ⟨rfl, rfl⟩))
    (fun os started H enc _ => lifted os started H enc)

/-- The statement. -/
theorem proved : Rows.CurvePartsSaid :=
  over
#print axioms proved
end Go.Proofs.Ytjckfgadchobfaa.curveParts
