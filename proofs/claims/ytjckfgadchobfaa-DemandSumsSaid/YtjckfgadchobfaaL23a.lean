/-
  The law DemandSums of vergelaw23: whatever the loads, the load and the length, Check, All, One and Use answer as the reference does. No condition.
-/
import Derived.Test.YtjckfgadchobfaaLw
import Derived.Test.YtjckfgadchobfaaDem5
namespace Go.Proofs.Ytjckfgadchobfaa.demandSums
open Go.ChangeShapes Go.WideShapes Go.ChangeAt Go.RowKit
set_option linter.unusedVariables false

set_option maxHeartbeats 1000000 in
theorem walk (A : Option Addr) (xs : List Q4) (cap : Nat) (p j a c wd : Int) (w : World) (h : R4 w w.heap.size A xs) (hl : xs.length ≤ 9223372036854775807) :
    Calls Try.prog 9 #[.slice A xs.length cap, .agg #[.int .i64 p, .int .i64 j, .int .i64 a, .int .i64 c], .int .i64 wd] w fun e w' => e = .returned (.bool true) ∧ Below w.heap.size w w' := by
  have HH : ∀ W, Below (w.alloc (.cells #[.int .i64 p, .int .i64 j, .int .i64 a, .int .i64 c] 51)).heap.size (w.alloc (.cells #[.int .i64 p, .int .i64 j, .int .i64 a, .int .i64 c] 51)) W → R4 W W.heap.size A xs := fun W hb => (h.below (hb.box (Nat.le_refl _))).mono (hb.box (Nat.le_refl _)).size
  have HI := Lib.hid HH
  clear HH
  go_enter Try.func9, Try.ntmps9
  go_wp2_with fail
  refine (all_any A xs _ _ _ (HI.out _ (Below.refl _ _)) hl).mono ?_
  rintro e w1 ⟨rfl, HB⟩
  have q0 := box_cell HB 0 _ rfl
  have q1 := box_cell HB 1 _ rfl
  have q2 := box_cell HB 2 _ rfl
  have q3 := box_cell HB 3 _ rfl
  go_wp2_with fail
  refine (rall_any A xs _ _ _ (HI.out _ HB) hl).mono ?_
  rintro e w2 ⟨rfl, hb⟩
  replace HB := HB.next HB.size hb
  clear hb q0 q1 q2 q3
  have q0 := box_cell HB 0 _ rfl
  have q1 := box_cell HB 1 _ rfl
  have q2 := box_cell HB 2 _ rfl
  have q3 := box_cell HB 3 _ rfl
  go_wp2_with fail
  refine (one_any _ _ _ _ _ _).mono ?_
  rintro e w3 ⟨rfl, hb⟩
  replace HB := HB.next HB.size hb
  clear hb q0 q1 q2 q3
  have q0 := box_cell HB 0 _ rfl
  have q1 := box_cell HB 1 _ rfl
  have q2 := box_cell HB 2 _ rfl
  have q3 := box_cell HB 3 _ rfl
  go_wp2_with fail
  refine (rone_any _ _ _ _ _ _).mono ?_
  rintro e w4 ⟨rfl, hb⟩
  replace HB := HB.next HB.size hb
  clear hb q0 q1 q2 q3
  have q0 := box_cell HB 0 _ rfl
  have q1 := box_cell HB 1 _ rfl
  have q2 := box_cell HB 2 _ rfl
  have q3 := box_cell HB 3 _ rfl
  go_wp2_with fail
  refine (use_any A xs _ _ (HI.out _ HB) hl).mono ?_
  rintro e w5 ⟨rfl, hb⟩
  replace HB := HB.next HB.size hb
  clear hb q0 q1 q2 q3
  have q0 := box_cell HB 0 _ rfl
  have q1 := box_cell HB 1 _ rfl
  have q2 := box_cell HB 2 _ rfl
  have q3 := box_cell HB 3 _ rfl
  go_wp2_with fail
  refine (ruse_any A xs _ _ (HI.out _ HB) hl).mono ?_
  rintro e w6 ⟨rfl, hb⟩
  replace HB := HB.next HB.size hb
  clear hb q0 q1 q2 q3
  have q0 := box_cell HB 0 _ rfl
  have q1 := box_cell HB 1 _ rfl
  have q2 := box_cell HB 2 _ rfl
  have q3 := box_cell HB 3 _ rfl
  go_wp2_with fail
  refine (lives23 _).mono ?_
  rintro e w7 ⟨rfl, hb⟩
  replace HB := HB.next HB.size hb
  clear hb q0 q1 q2 q3
  have q0 := box_cell HB 0 _ rfl
  have q1 := box_cell HB 1 _ rfl
  have q2 := box_cell HB 2 _ rfl
  have q3 := box_cell HB 3 _ rfl
  go_wp2_with fail
  refine (dcheck_any A xs _ _ (HI.out _ HB) hl).mono ?_
  rintro e w8 ⟨rfl, hb⟩
  replace HB := HB.next HB.size hb
  clear hb q0 q1 q2 q3
  have q0 := box_cell HB 0 _ rfl
  have q1 := box_cell HB 1 _ rfl
  have q2 := box_cell HB 2 _ rfl
  have q3 := box_cell HB 3 _ rfl
  go_wp2_with fail
  refine (rdcheck_any A xs _ _ (HI.out _ HB) hl).mono ?_
  rintro e w9 ⟨rfl, hb⟩
  replace HB := HB.next HB.size hb
  clear hb q0 q1 q2 q3
  have q0 := box_cell HB 0 _ rfl
  have q1 := box_cell HB 1 _ rfl
  have q2 := box_cell HB 2 _ rfl
  have q3 := box_cell HB 3 _ rfl
  go_wp2
  go_ret
  exact ⟨rfl, HB.box (Nat.le_refl _)⟩

abbrev spec := Rows.demandSumsSpec
set_option maxRecDepth 100000 in
theorem contract (H : Type) (enc : TypeId × Value → H) (W : World) (base : Nat) (args : Array Value) (ds gs : List (DataW H)) (before : List MemPlace)
    (hval0 : ∀ (j : Nat) t v, Try.f9.params[j]? = some t → args[j]? = some v → Value.okWide Try.prog W .any base t v)
    (hW : DataW.Whole enc Try.prog Try.f9.params.toList spec.vars false W args.toList ds gs before) :
    Calls Try.prog 9 args W fun e W' => ∃ v, e = .returned v ∧ spec.post enc Try.prog Try.f9 false true false false W args v W' := by
  have hval : ∀ (j : Nat) t v, Try.f9.params[j]? = some t → args[j]? = some v → Value.okWide Try.prog W .any base t v := hval0
  have hW' := hW
  obtain ⟨p, q, hA0, hV, rfl, hfz, hnd⟩ := hW
  have hA : DataW.TrodAll enc Try.prog W 0 (fun _ => true) true Try.f9.params.toList args.toList ds p := hA0
  rw [Try.params9] at hA hval
  obtain ⟨v0, vs0, d0, ds0, p0, q0, hargs, rfl, rfl, h0, r0⟩ := trodAll_cons hA
  obtain ⟨v1, vs1, d1, ds1, p1, q1, rfl, rfl, rfl, h1, r1⟩ := trodAll_cons r0
  obtain ⟨v2, vs2, d2, ds2, p2, q2, rfl, rfl, rfl, h2, r2⟩ := trodAll_cons r1
  obtain ⟨rfl, rfl, rfl⟩ := trodAll_nil r2
  obtain rfl : args = #[v0, v1, v2] := by cases args; simp_all
  obtain ⟨rfl, rfl⟩ := trodVars_none hV
  obtain ⟨A, xs, cap, rfl, hR, hlen, _⟩ := open_r4 4 Try.underlying49 (by kernel_rfl) (by kernel_rfl) (hval 0 _ v0 rfl rfl) h0
  obtain ⟨cs, rfl, hl⟩ := open_leafy (l := [some .i64, some .i64, some .i64, some .i64]) 4 (by kernel_rfl) Try.underlying51 (hval 1 _ v1 rfl rfl) h1
  obtain ⟨p, _, rfl, _, j, _, rfl, _, a, _, rfl, _, c, _, rfl, _, rfl⟩ := hl
  obtain ⟨wd, rfl, rfl, rfl, wx⟩ := open_int Try.underlying2 (hval 2 _ v2 rfl rfl) h2
  refine (walk A xs cap p j a c wd W hR hlen).mono fun e W' ⟨he, hb⟩ => ?_
  subst he
  exact ⟨_, rfl, law_post try_laidOut (by kernel_rfl) rfl rfl Try.underlying4 hW' rfl rfl rfl hb⟩

set_option maxRecDepth 100000 in
theorem lifted (os : Os) (started : os.Started) (H : Type) (enc : TypeId × Value → H) :
    ReturnsInHanded {} Try.checked os 9 .any (Rows.demandSumsSpec.pre6 enc Try.prog Try.f9 Rows.demandSumsRow.domain false) (Rows.demandSumsSpec.post enc Try.prog Try.f9 false true false false) := by
  refine returnsInHanded_of_change (C := Try.checked) own started (by kernel_rfl) Try.func9
    (ChangeSpec.witness6 (enc := enc) (C := Try.checked) false ⟨#[], #[.slice none 0 0, .agg #[.int .i64 0, .int .i64 0, .int .i64 0, .int .i64 0], .int .i64 0], []⟩ 8 (by kernel_rfl) (by kernel_rfl) (by kernel_rfl) (by kernel_rfl)) ?_
  intro W base args ds gs before hval hW hcnd _
  exact contract H enc W base args ds gs before hval hW

theorem over : Rows.demandSumsRow.holds Try.pinned (OpenSpec.ofChange Rows.demandSumsSpec) :=
  OpenClaim.holds_of_wide 9 Try.f9 rfl rfl rfl rfl rfl rfl rfl ⟨rfl, rfl, rfl, rfl, rfl⟩ rfl rfl rfl rfl rfl (by kernel_rfl) Try.func9 (by kernel_rfl)
    (of_decide_eq_true (by kernel_rfl)) (by unfold Func.isWrapper; first | (rw [if_pos (by decide +kernel)]; kernel_rfl) | (rw [if_neg (by decide +kernel)]; exact ⟨rfl, rfl⟩))
    (fun os started H enc _ => lifted os started H enc)

/-- The statement. -/
theorem proved : Rows.DemandSumsSaid :=
  over
#print axioms proved
end Go.Proofs.Ytjckfgadchobfaa.demandSums
