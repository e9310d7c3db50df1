/-
  The law SolveLeast of vergelaw25: what is found is base and the demand of as long, and nothing less is as long as base and its own demand. No condition.
-/
import Derived.Test.YtjckfgadchobfaaLw
import Derived.Test.YtjckfgadchobfaaSolQ
namespace Go.Proofs.Ytjckfgadchobfaa.solveLeast
open Go.ChangeShapes Go.WideShapes Go.ChangeAt Go.RowKit
set_option linter.unusedVariables false

set_option maxHeartbeats 1600000 in
theorem walk (b : Int) (A : Option Addr) (xs : List Q4) (cap : Nat) (lim less : Int) (w : World) (h : R4 w w.heap.size A xs) (hl : xs.length ≤ 9223372036854775807) :
    Calls Try.prog 13 #[.int .i64 b, .slice A xs.length cap, .int .i64 lim, .int .i64 less] w fun e w' => e = .returned (.bool true) ∧ Below w.heap.size w w' := by
  by_cases he : stE b xs lim = 0
  · obtain ⟨z, e, a1, a2, a3, a4, a5, a6, a7⟩ := so_least he
    by_cases hlt : b ≤ less ∧ less < z
    · obtain ⟨r1, r2⟩ := a7 less hlt.1 hlt.2
      obtain ⟨t1, t2⟩ := hlt
      clear a7
      go_enter Try.func13, Try.ntmps13
      go_wp2_with fail
      refine (lives25 _).mono ?_
      rintro e w1 ⟨rfl, HB⟩
      go_wp2_with fail
      refine (solve_any _ A xs _ _ _ ((h.below HB).mono HB.size) hl).mono ?_
      rintro e w2 ⟨rfl, hb⟩
      replace HB := HB.next HB.size hb
      clear hb
      rw [e]
      clear e
      go_wp2_with fail
      refine (round_any _ A xs _ _ _ ((h.below HB).mono HB.size) hl).mono ?_
      rintro e w3 ⟨rfl, hb⟩
      replace HB := HB.next HB.size hb
      clear hb
      go_wp2_with fail
      refine (round_any _ A xs _ _ _ ((h.below HB).mono HB.size) hl).mono ?_
      rintro e w4 ⟨rfl, hb⟩
      replace HB := HB.next HB.size hb
      clear hb
      go_wp2
      all_goals go_ret
      all_goals exact ⟨by simp; try omega, HB⟩
    · have hlt' : less < b ∨ z ≤ less := by omega
      clear a7 hlt
      rcases hlt' with hlt | hlt
      all_goals
        go_enter Try.func13, Try.ntmps13
        go_wp2_with fail
        refine (lives25 _).mono ?_
        rintro e w1 ⟨rfl, HB⟩
        go_wp2_with fail
        refine (solve_any _ A xs _ _ _ ((h.below HB).mono HB.size) hl).mono ?_
        rintro e w2 ⟨rfl, hb⟩
        replace HB := HB.next HB.size hb
        clear hb
        rw [e]
        clear e
        go_wp2_with fail
        refine (round_any _ A xs _ _ _ ((h.below HB).mono HB.size) hl).mono ?_
        rintro e w3 ⟨rfl, hb⟩
        replace HB := HB.next HB.size hb
        clear hb
        go_wp2
        all_goals first | (exfalso; omega) | skip
        all_goals go_ret
        all_goals exact ⟨rfl, HB⟩
  · have e := (st_bad he).1
    go_enter Try.func13, Try.ntmps13
    go_wp2_with fail
    refine (lives25 _).mono ?_
    rintro e w1 ⟨rfl, HB⟩
    go_wp2_with fail
    refine (solve_any _ A xs _ _ _ ((h.below HB).mono HB.size) hl).mono ?_
    rintro e w2 ⟨rfl, hb⟩
    replace HB := HB.next HB.size hb
    clear hb
    rw [e]
    clear e
    go_wp2
    go_ret
    exact ⟨rfl, HB⟩

abbrev spec := Rows.solveLeastSpec
set_option maxRecDepth 100000 in
theorem contract (H : Type) (enc : TypeId × Value → H) (W : World) (base : Nat) (args : Array Value) (ds gs : List (DataW H)) (before : List MemPlace)
    (hval0 : ∀ (j : Nat) t v, Try.f13.params[j]? = some t → args[j]? = some v → Value.okWide Try.prog W .any base t v)
    (hW : DataW.Whole enc Try.prog Try.f13.params.toList spec.vars false W args.toList ds gs before) :
    Calls Try.prog 13 args W fun e W' => ∃ v, e = .returned v ∧ spec.post enc Try.prog Try.f13 false true false false W args v W' := by
  have hval : ∀ (j : Nat) t v, Try.f13.params[j]? = some t → args[j]? = some v → Value.okWide Try.prog W .any base t v := hval0
  have hW' := hW
  obtain ⟨p, q, hA0, hV, rfl, hfz, hnd⟩ := hW
  have hA : DataW.TrodAll enc Try.prog W 0 (fun _ => true) true Try.f13.params.toList args.toList ds p := hA0
  rw [Try.params13] at hA hval
  obtain ⟨v0, vs0, d0, ds0, p0, q0, hargs, rfl, rfl, h0, r0⟩ := trodAll_cons hA
  obtain ⟨v1, vs1, d1, ds1, p1, q1, rfl, rfl, rfl, h1, r1⟩ := trodAll_cons r0
  obtain ⟨v2, vs2, d2, ds2, p2, q2, rfl, rfl, rfl, h2, r2⟩ := trodAll_cons r1
  obtain ⟨v3, vs3, d3, ds3, p3, q3, rfl, rfl, rfl, h3, r3⟩ := trodAll_cons r2
  obtain ⟨rfl, rfl, rfl⟩ := trodAll_nil r3
  obtain rfl : args = #[v0, v1, v2, v3] := by cases args; simp_all
  obtain ⟨rfl, rfl⟩ := trodVars_none hV
  obtain ⟨b, rfl, rfl, rfl, bx⟩ := open_int Try.underlying2 (hval 0 _ v0 rfl rfl) h0
  obtain ⟨A, xs, cap, rfl, hR, hlen, _⟩ := open_r4 4 Try.underlying49 (by kernel_rfl) (by kernel_rfl) (hval 1 _ v1 rfl rfl) h1
  obtain ⟨lim, rfl, rfl, rfl, lx⟩ := open_int Try.underlying2 (hval 2 _ v2 rfl rfl) h2
  obtain ⟨wd, rfl, rfl, rfl, wx⟩ := open_int Try.underlying2 (hval 3 _ v3 rfl rfl) h3
  refine (walk b A xs cap lim wd W hR hlen).mono fun e W' ⟨he, hb⟩ => ?_
  subst he
  exact ⟨_, rfl, law_post try_laidOut (by kernel_rfl) rfl rfl Try.underlying4 hW' rfl rfl rfl hb⟩

set_option maxRecDepth 100000 in
theorem lifted (os : Os) (started : os.Started) (H : Type) (enc : TypeId × Value → H) :
    ReturnsInHanded {} Try.checked os 13 .any (Rows.solveLeastSpec.pre6 enc Try.prog Try.f13 Rows.solveLeastRow.domain false) (Rows.solveLeastSpec.post enc Try.prog Try.f13 false true false false) := by
  refine returnsInHanded_of_change (C := Try.checked) own started (by kernel_rfl) Try.func13
    (ChangeSpec.witness6 (enc := enc) (C := Try.checked) false ⟨#[], #[.int .i64 0, .slice none 0 0, .int .i64 0, .int .i64 0], []⟩ 8 (by kernel_rfl) (by kernel_rfl) (by kernel_rfl) (by kernel_rfl)) ?_
  intro W base args ds gs before hval hW hcnd _
  exact contract H enc W base args ds gs before hval hW

theorem over : Rows.solveLeastRow.holds Try.pinned (OpenSpec.ofChange Rows.solveLeastSpec) :=
  OpenClaim.holds_of_wide 13 Try.f13 rfl rfl rfl rfl rfl rfl rfl ⟨rfl, rfl, rfl, rfl, rfl⟩ rfl rfl rfl rfl rfl (by kernel_rfl) Try.func13 (by kernel_rfl)
    (of_decide_eq_true (by kernel_rfl)) (by unfold Func.isWrapper; first | (rw [if_pos (by decide +kernel)]; kernel_rfl) | (rw [if_neg (by decide +kernel)]; exact ⟨rfl, rfl⟩))
    (fun os started H enc _ => lifted os started H enc)

/-- The statement. -/
theorem proved : Rows.SolveLeastSaid :=
  over
#print axioms proved
end Go.Proofs.Ytjckfgadchobfaa.solveLeast
