/-
  The law TopLevels of vergetop: tasks stand in the queue at their levels; the first one is one of the greatest level; whoever holds a mutex is at its ceiling at least; every argument reads afterwards as before. No condition.
-/
import Derived.Test.YtcchmkpodfjhcaaCT5
import Derived.Test.YtcchmkpodfjhcaaV3
namespace Go.Proofs.Ytcchmkpodfjhcaa.topLevels
open Go.ChangeShapes Go.WideShapes Go.ChangeAt Go.RowKit
set_option linter.unusedVariables false
theorem leaves_lock : leaves Try.prog 3 60 = some [some .i64, some .i64, none] := by kernel_rfl
theorem walk (A1 A2 A3 : Option Addr) (xs cs : List Int) (ls : List QL3) (c1 c2 c3 : Nat) (w : World) (hxs : Ints w w.heap.size A1 xs) (hcs : Ints w w.heap.size A2 cs) (hls : RL3 w w.heap.size A3 ls) (h1 : xs.length ≤ 9223372036854775807) (h3 : ls.length ≤ 9223372036854775807) :
    Calls Try.prog 5 #[.slice A1 xs.length c1, .slice A2 cs.length c2, .slice A3 ls.length c3] w fun e w' => e = .returned (.bool true) ∧ Below w.heap.size w w' := by
  by_cases hb : 16 < cs.length ∨ cs.any oddP = true
  · exact levels_bad A1 A2 A3 xs cs ls c1 c2 c3 w hcs h1 h3 hb
  · have hc : ¬ 16 < cs.length := fun h => hb (.inl h)
    have ha : cs.any oddP = false := by
      cases h : cs.any oddP with
      | false => rfl
      | true => exact absurd (.inr h) hb
    exact levels_ok A1 A2 A3 xs cs ls c1 c2 c3 w hxs hcs hls h1 h3 (by omega) ha
abbrev spec := Rows.topLevelsSpec
set_option maxRecDepth 100000 in
theorem contract (H : Type) (enc : TypeId × Value → H) (W : World) (base : Nat) (args : Array Value) (ds gs : List (DataW H)) (before : List MemPlace)
    (hval0 : ∀ (j : Nat) t v, Try.f5.params[j]? = some t → args[j]? = some v → Value.okWide Try.prog W .any base t v)
    (hW : DataW.Whole enc Try.prog Try.f5.params.toList spec.vars false W args.toList ds gs before) :
    Calls Try.prog 5 args W fun e W' => ∃ v, e = .returned v ∧ spec.post enc Try.prog Try.f5 false true false false W args v W' := by
  have hval : ∀ (j : Nat) t v, Try.f5.params[j]? = some t → args[j]? = some v → Value.okWide Try.prog W .any base t v := hval0
  have hW' := hW
  obtain ⟨p, q, hA0, hV, rfl, hfz, hnd⟩ := hW
  have hA : DataW.TrodAll enc Try.prog W 0 (fun _ => true) true Try.f5.params.toList args.toList ds p := hA0
  rw [Try.params5] at hA hval
  obtain ⟨v0, vs0, d0, ds0, p0, q0, hargs, rfl, rfl, h0, r0⟩ := trodAll_cons hA
  obtain ⟨v1, vs1, d1, ds1, p1, q1, rfl, rfl, rfl, h1, r1⟩ := trodAll_cons r0
  obtain ⟨v2, vs2, d2, ds2, p2, q2, rfl, rfl, rfl, h2, r2⟩ := trodAll_cons r1
  obtain ⟨rfl, rfl, rfl⟩ := trodAll_nil r2
  obtain rfl : args = #[v0, v1, v2] := by cases args; simp_all
  obtain ⟨rfl, rfl⟩ := trodVars_none hV
  obtain ⟨A1, xs, c1, rfl, hI1, hl1, _⟩ := open_i64s Try.underlying28 Try.underlying3 (by kernel_rfl) (hval 0 _ v0 rfl rfl) h0
  obtain ⟨A2, cs, c2, rfl, hI2, hl2, _⟩ := open_i64s Try.underlying28 Try.underlying3 (by kernel_rfl) (hval 1 _ v1 rfl rfl) h1
  obtain ⟨A3, ls, c3, rfl, hI3, hl3, _⟩ := open_rl3 3 Try.underlying52 leaves_lock (by kernel_rfl) (hval 2 _ v2 rfl rfl) h2
  refine (walk A1 A2 A3 xs cs ls c1 c2 c3 W hI1 hI2 hI3 hl1 hl3).mono fun e W' ⟨he, hb⟩ => ?_
  subst he
  exact ⟨_, rfl, law_post try_laidOut (by kernel_rfl) rfl rfl Try.underlying4 hW' rfl rfl rfl hb⟩

set_option maxRecDepth 100000 in
theorem lifted (os : Os) (started : os.Started) (H : Type) (enc : TypeId × Value → H) :
    ReturnsInHanded {} Try.checked os 5 .any (Rows.topLevelsSpec.pre6 enc Try.prog Try.f5 Rows.topLevelsRow.domain false) (Rows.topLevelsSpec.post enc Try.prog Try.f5 false true false false) := by
  refine returnsInHanded_of_change (C := Try.checked) own started (by kernel_rfl) Try.func5
    (ChangeSpec.witness6 (enc := enc) (C := Try.checked) false ⟨#[], #[.slice none 0 0, .slice none 0 0, .slice none 0 0], []⟩ 8 (by kernel_rfl) (by kernel_rfl) (by kernel_rfl) (by kernel_rfl)) ?_
  intro W base args ds gs before hval hW hcnd _
  exact contract H enc W base args ds gs before hval hW

theorem over : Rows.topLevelsRow.holds Try.pinned (OpenSpec.ofChange Rows.topLevelsSpec) :=
  OpenClaim.holds_of_wide 5 Try.f5 rfl rfl rfl rfl rfl rfl rfl ⟨rfl, rfl, rfl, rfl, rfl⟩ rfl rfl rfl rfl rfl (by kernel_rfl) Try.func5 (by kernel_rfl)
    (of_decide_eq_true (by kernel_rfl)) (by unfold Func.isWrapper; first | (rw [if_pos (by decide +kernel)]; kernel_rfl) | (rw [if_neg (by decide +kernel)]; exact ⟨rfl, rfl⟩))
    (fun os started H enc _ => lifted os started H enc)

/-- The statement. -/
theorem proved : Rows.TopLevelsSaid :=
  over
#print axioms proved
end Go.Proofs.Ytcchmkpodfjhcaa.topLevels
