/-
  The law SupplyBounds of vergelaw24: any thread, any line, and any budget has the bound that the document says, or none. No condition.
-/
import Derived.Test.YtjckfgadchobfaaLw
import Derived.Test.YtjckfgadchobfaaLod4
namespace Go.Proofs.Ytjckfgadchobfaa.supplyBounds
open Go.ChangeShapes Go.WideShapes Go.ChangeAt Go.RowKit
set_option linter.unusedVariables false

set_option maxHeartbeats 1000000 in
theorem walk (ta tb tc td xa xb xc xd b p wd : Int) (w : World) :
    Calls Try.prog 3 #[.agg #[.int .i64 ta, .int .i64 tb, .int .i64 tc, .int .i64 td], .agg #[.int .i64 xa, .int .i64 xb, .int .i64 xc, .int .i64 xd], .int .i64 b, .int .i64 p, .int .i64 wd] w fun e w' => e = .returned (.bool true) ∧ Below w.heap.size w w' := by
  go_enter Try.func3, Try.ntmps3
  go_wp2_with fail
  refine (thread_any _ _ _ _ _ _).mono ?_
  rintro e w1 ⟨rfl, HB⟩
  have hT := HB.box (Nat.le_refl _)
  have q0 := box_cell hT 0 _ rfl
  have q1 := box_cell hT 1 _ rfl
  have q2 := box_cell hT 2 _ rfl
  have q3 := box_cell hT 3 _ rfl
  have r0 := box_cell HB 0 _ rfl
  have r1 := box_cell HB 1 _ rfl
  have r2 := box_cell HB 2 _ rfl
  have r3 := box_cell HB 3 _ rfl
  simp only [World.size_alloc] at r0 r1 r2 r3
  clear hT
  go_wp2_with fail
  refine (rThread_any _ _ _ _ _ _).mono ?_
  rintro e w2 ⟨rfl, hb⟩
  replace HB := HB.next HB.size hb
  clear hb q0 q1 q2 q3 r0 r1 r2 r3
  have hT := HB.box (Nat.le_refl _)
  have q0 := box_cell hT 0 _ rfl
  have q1 := box_cell hT 1 _ rfl
  have q2 := box_cell hT 2 _ rfl
  have q3 := box_cell hT 3 _ rfl
  have r0 := box_cell HB 0 _ rfl
  have r1 := box_cell HB 1 _ rfl
  have r2 := box_cell HB 2 _ rfl
  have r3 := box_cell HB 3 _ rfl
  simp only [World.size_alloc] at r0 r1 r2 r3
  clear hT
  go_wp2_with fail
  refine (line_any _ _ _ _ _ _).mono ?_
  rintro e w3 ⟨rfl, hb⟩
  replace HB := HB.next HB.size hb
  clear hb q0 q1 q2 q3 r0 r1 r2 r3
  have hT := HB.box (Nat.le_refl _)
  have q0 := box_cell hT 0 _ rfl
  have q1 := box_cell hT 1 _ rfl
  have q2 := box_cell hT 2 _ rfl
  have q3 := box_cell hT 3 _ rfl
  have r0 := box_cell HB 0 _ rfl
  have r1 := box_cell HB 1 _ rfl
  have r2 := box_cell HB 2 _ rfl
  have r3 := box_cell HB 3 _ rfl
  simp only [World.size_alloc] at r0 r1 r2 r3
  clear hT
  go_wp2_with fail
  refine (rLine_any _ _ _ _ _ _).mono ?_
  rintro e w4 ⟨rfl, hb⟩
  replace HB := HB.next HB.size hb
  clear hb q0 q1 q2 q3 r0 r1 r2 r3
  have hT := HB.box (Nat.le_refl _)
  have q0 := box_cell hT 0 _ rfl
  have q1 := box_cell hT 1 _ rfl
  have q2 := box_cell hT 2 _ rfl
  have q3 := box_cell hT 3 _ rfl
  have r0 := box_cell HB 0 _ rfl
  have r1 := box_cell HB 1 _ rfl
  have r2 := box_cell HB 2 _ rfl
  have r3 := box_cell HB 3 _ rfl
  simp only [World.size_alloc] at r0 r1 r2 r3
  clear hT
  go_wp2_with fail
  refine (share_any _ _ _ _).mono ?_
  rintro e w5 ⟨rfl, rfl⟩
  go_wp2_with fail
  refine (rshare_any _ _ _ _).mono ?_
  rintro e w6 ⟨rfl, rfl⟩
  go_wp2_with fail
  refine (lives24 _).mono ?_
  rintro e w7 ⟨rfl, hb⟩
  replace HB := HB.next HB.size hb
  clear hb q0 q1 q2 q3 r0 r1 r2 r3
  have hT := HB.box (Nat.le_refl _)
  have q0 := box_cell hT 0 _ rfl
  have q1 := box_cell hT 1 _ rfl
  have q2 := box_cell hT 2 _ rfl
  have q3 := box_cell hT 3 _ rfl
  have r0 := box_cell HB 0 _ rfl
  have r1 := box_cell HB 1 _ rfl
  have r2 := box_cell HB 2 _ rfl
  have r3 := box_cell HB 3 _ rfl
  simp only [World.size_alloc] at r0 r1 r2 r3
  clear hT
  go_wp2
  go_ret
  exact ⟨rfl, (HB.box (Nat.le_refl _)).box (Nat.le_refl _)⟩

abbrev spec := Rows.supplyBoundsSpec
set_option maxRecDepth 100000 in
theorem contract (H : Type) (enc : TypeId × Value → H) (W : World) (base : Nat) (args : Array Value) (ds gs : List (DataW H)) (before : List MemPlace)
    (hval0 : ∀ (j : Nat) t v, Try.f3.params[j]? = some t → args[j]? = some v → Value.okWide Try.prog W .any base t v)
    (hW : DataW.Whole enc Try.prog Try.f3.params.toList spec.vars false W args.toList ds gs before) :
    Calls Try.prog 3 args W fun e W' => ∃ v, e = .returned v ∧ spec.post enc Try.prog Try.f3 false true false false W args v W' := by
  have hval : ∀ (j : Nat) t v, Try.f3.params[j]? = some t → args[j]? = some v → Value.okWide Try.prog W .any base t v := hval0
  have hW' := hW
  obtain ⟨p, q, hA0, hV, rfl, hfz, hnd⟩ := hW
  have hA : DataW.TrodAll enc Try.prog W 0 (fun _ => true) true Try.f3.params.toList args.toList ds p := hA0
  rw [Try.params3] at hA hval
  obtain ⟨v0, vs0, d0, ds0, p0, q0, hargs, rfl, rfl, h0, r0⟩ := trodAll_cons hA
  obtain ⟨v1, vs1, d1, ds1, p1, q1, rfl, rfl, rfl, h1, r1⟩ := trodAll_cons r0
  obtain ⟨v2, vs2, d2, ds2, p2, q2, rfl, rfl, rfl, h2, r2⟩ := trodAll_cons r1
  obtain ⟨v3, vs3, d3, ds3, p3, q3, rfl, rfl, rfl, h3, r3⟩ := trodAll_cons r2
  obtain ⟨v4, vs4, d4, ds4, p4, q4, rfl, rfl, rfl, h4, r4⟩ := trodAll_cons r3
  obtain ⟨rfl, rfl, rfl⟩ := trodAll_nil r4
  obtain rfl : args = #[v0, v1, v2, v3, v4] := by cases args; simp_all
  obtain ⟨rfl, rfl⟩ := trodVars_none hV
  obtain ⟨cs, rfl, hl⟩ := open_leafy (l := [some .i64, some .i64, some .i64, some .i64]) 4 (by kernel_rfl) Try.underlying23 (hval 0 _ v0 rfl rfl) h0
  obtain ⟨ta, _, rfl, _, tb, _, rfl, _, tc, _, rfl, _, td, _, rfl, _, rfl⟩ := hl
  obtain ⟨cs2, rfl, hl2⟩ := open_leafy (l := [some .i64, some .i64, some .i64, some .i64]) 4 (by kernel_rfl) Try.underlying25 (hval 1 _ v1 rfl rfl) h1
  obtain ⟨xa, _, rfl, _, xb, _, rfl, _, xc, _, rfl, _, xd, _, rfl, _, rfl⟩ := hl2
  obtain ⟨b, rfl, rfl, rfl, bx⟩ := open_int Try.underlying2 (hval 2 _ v2 rfl rfl) h2
  obtain ⟨p, rfl, rfl, rfl, px⟩ := open_int Try.underlying2 (hval 3 _ v3 rfl rfl) h3
  obtain ⟨wd, rfl, rfl, rfl, wx⟩ := open_int Try.underlying2 (hval 4 _ v4 rfl rfl) h4
  refine (walk ta tb tc td xa xb xc xd b p wd W).mono fun e W' ⟨he, hb⟩ => ?_
  subst he
  exact ⟨_, rfl, law_post try_laidOut (by kernel_rfl) rfl rfl Try.underlying4 hW' rfl rfl rfl hb⟩

set_option maxRecDepth 100000 in
theorem lifted (os : Os) (started : os.Started) (H : Type) (enc : TypeId × Value → H) :
    ReturnsInHanded {} Try.checked os 3 .any (Rows.supplyBoundsSpec.pre6 enc Try.prog Try.f3 Rows.supplyBoundsRow.domain false) (Rows.supplyBoundsSpec.post enc Try.prog Try.f3 false true false false) := by
  refine returnsInHanded_of_change (C := Try.checked) own started (by kernel_rfl) Try.func3
    (ChangeSpec.witness6 (enc := enc) (C := Try.checked) false ⟨#[], #[.agg #[.int .i64 0, .int .i64 0, .int .i64 0, .int .i64 0], .agg #[.int .i64 0, .int .i64 0, .int .i64 0, .int .i64 0], .int .i64 0, .int .i64 0, .int .i64 0], []⟩ 8 (by kernel_rfl) (by kernel_rfl) (by kernel_rfl) (by kernel_rfl)) ?_
  intro W base args ds gs before hval hW hcnd _
  exact contract H enc W base args ds gs before hval hW

theorem over : Rows.supplyBoundsRow.holds Try.pinned (OpenSpec.ofChange Rows.supplyBoundsSpec) :=
  OpenClaim.holds_of_wide 3 Try.f3 rfl rfl rfl rfl rfl rfl rfl ⟨rfl, rfl, rfl, rfl, rfl⟩ rfl rfl rfl rfl rfl (by kernel_rfl) Try.func3 (by kernel_rfl)
    (of_decide_eq_true (by kernel_rfl)) (by unfold Func.isWrapper; first | (rw [if_pos (by decide +kernel)]; kernel_rfl) | (rw [if_neg (by decide +kernel)]; exact ⟨rfl, rfl⟩))
    (fun os started H enc _ => lifted os started H enc)

/-- The statement. -/
theorem proved : Rows.SupplyBoundsSaid :=
  over
#print axioms proved
end Go.Proofs.Ytjckfgadchobfaa.supplyBounds
