/-
  The law SolveRises of vergelaw25: the steps of a search rise, from base on. No condition.
-/
import Derived.Test.YtjckfgadchobfaaLw
import Derived.Test.YtjckfgadchobfaaSolQ
namespace Go.Proofs.Ytjckfgadchobfaa.solveRises
open Go.ChangeShapes Go.WideShapes Go.ChangeAt Go.RowKit
set_option linter.unusedVariables false

set_option maxHeartbeats 1600000 in
theorem walk (b : Int) (A : Option Addr) (xs : List Q4) (cap : Nat) (lim : Int) (w : World) (h : R4 w w.heap.size A xs) (hl : xs.length ≤ 9223372036854775807) :
    Calls Try.prog 15 #[.int .i64 b, .slice A xs.length cap, .int .i64 lim] w fun e w' => e = .returned (.bool true) ∧ Below w.heap.size w w' := by
  by_cases he : stE b xs lim = 0
  · obtain ⟨r, e, a1, a2⟩ := st_rises he
    obtain ⟨L, eL⟩ : ∃ L, L = b :: r := ⟨_, rfl⟩
    have hlen := stL_len b xs lim
    rw [e, ← eL] at hlen
    have hpos : 0 < L.length := by rw [eL]; simp
    have h0 : L[0]? = some b := by rw [eL]; rfl
    rw [← eL] at e a1 a2
    have H1 := Lib.hid a1
    have H2 := Lib.hid a2
    have H0 := Lib.hid h0
    clear a1 a2 h0 eL
    go_enter Try.func15, Try.ntmps15
    go_wp2_with fail
    refine (lives25 _).mono ?_
    rintro e w1 ⟨rfl, HB⟩
    go_wp2_with fail
    refine (sts_any _ A xs _ _ _ ((h.below HB).mono HB.size) hl).mono ?_
    rintro e w2 ⟨A2, c2, rfl, hI, hb⟩
    replace HB := HB.next HB.size hb
    clear hb
    rw [e] at hI ⊢
    obtain ⟨bb, off, rfl, hbB, hc⟩ := hI hpos
    have HC := Lib.hid hc
    clear hc hI e
    go_wp2_with fail
    go_loop [27] (fun i => ∃ (k : Nat), k ≤ L.length ∧ i = .int .i64 k) (fun i => L.length - (intOf i).toNat)
    case atStart => exact ⟨0, by omega, rfl⟩
    case round =>
      obtain ⟨k, hk, rfl⟩ := hrel
      by_cases hlt : k < L.length
      · obtain ⟨a, ha⟩ : ∃ a, L[k]? = some a := ⟨L[k], List.getElem?_eq_getElem hlt⟩
        have c1 := HC.out k hlt
        rw [ha] at c1
        simp only [Option.getD_some] at c1
        obtain ⟨g1, g2⟩ := H1.out k a ha
        cases k with
        | zero =>
          have hab : a = b := by have := H0.out; rw [ha] at this; exact Option.some.inj this
          subst hab
          simp only [Nat.add_zero] at c1
          clear ha
          go_wp2
          go_round
          case rel => exact ⟨1, by omega, by go_num⟩
          case measure => simp [intOf]; omega
        | succ j =>
          obtain ⟨c, hcj⟩ : ∃ c, L[j]? = some c := ⟨L[j], List.getElem?_eq_getElem (by omega)⟩
          have c0 := HC.out j (by omega)
          rw [hcj] at c0
          simp only [Option.getD_some] at c0
          have hac := H2.out j c a hcj ha
          have hw : IntKind.i64.wrap (((j + 1 : Nat) : Int) - 1) = (j : Int) := by rw [IntWalk.i64_in _ (by omega)]; omega
          clear ha hcj
          go_wp2
          go_round
          case rel => exact ⟨j + 1 + 1, by omega, by go_num⟩
          case measure => simp [intOf]; omega
      · have hp : 0 < (L.length : Int) := by omega
        go_wp2
        go_ret
        exact ⟨by simp; try omega, HB⟩
  · have e := (st_bad he).2
    go_enter Try.func15, Try.ntmps15
    go_wp2_with fail
    refine (lives25 _).mono ?_
    rintro e w1 ⟨rfl, HB⟩
    go_wp2_with fail
    refine (sts_any _ A xs _ _ _ ((h.below HB).mono HB.size) hl).mono ?_
    rintro e w2 ⟨A2, c2, rfl, hI, hb⟩
    replace HB := HB.next HB.size hb
    clear hb
    rw [e]
    clear e hI
    go_wp2
    go_ret
    exact ⟨rfl, HB⟩

abbrev spec := Rows.solveRisesSpec
set_option maxRecDepth 100000 in
theorem contract (H : Type) (enc : TypeId × Value → H) (W : World) (base : Nat) (args : Array Value) (ds gs : List (DataW H)) (before : List MemPlace)
    (hval0 : ∀ (j : Nat) t v, Try.f15.params[j]? = some t → args[j]? = some v → Value.okWide Try.prog W .any base t v)
    (hW : DataW.Whole enc Try.prog Try.f15.params.toList spec.vars false W args.toList ds gs before) :
    Calls Try.prog 15 args W fun e W' => ∃ v, e = .returned v ∧ spec.post enc Try.prog Try.f15 false true false false W args v W' := by
  have hval : ∀ (j : Nat) t v, Try.f15.params[j]? = some t → args[j]? = some v → Value.okWide Try.prog W .any base t v := hval0
  have hW' := hW
  obtain ⟨p, q, hA0, hV, rfl, hfz, hnd⟩ := hW
  have hA : DataW.TrodAll enc Try.prog W 0 (fun _ => true) true Try.f15.params.toList args.toList ds p := hA0
  rw [Try.params15] at hA hval
  obtain ⟨v0, vs0, d0, ds0, p0, q0, hargs, rfl, rfl, h0, r0⟩ := trodAll_cons hA
  obtain ⟨v1, vs1, d1, ds1, p1, q1, rfl, rfl, rfl, h1, r1⟩ := trodAll_cons r0
  obtain ⟨v2, vs2, d2, ds2, p2, q2, rfl, rfl, rfl, h2, r2⟩ := trodAll_cons r1
  obtain ⟨rfl, rfl, rfl⟩ := trodAll_nil r2
  obtain rfl : args = #[v0, v1, v2] := by cases args; simp_all
  obtain ⟨rfl, rfl⟩ := trodVars_none hV
  obtain ⟨b, rfl, rfl, rfl, bx⟩ := open_int Try.underlying2 (hval 0 _ v0 rfl rfl) h0
  obtain ⟨A, xs, cap, rfl, hR, hlen, _⟩ := open_r4 4 Try.underlying49 (by kernel_rfl) (by kernel_rfl) (hval 1 _ v1 rfl rfl) h1
  obtain ⟨lim, rfl, rfl, rfl, lx⟩ := open_int Try.underlying2 (hval 2 _ v2 rfl rfl) h2
  refine (walk b A xs cap lim W hR hlen).mono fun e W' ⟨he, hb⟩ => ?_
  subst he
  exact ⟨_, rfl, law_post try_laidOut (by kernel_rfl) rfl rfl Try.underlying4 hW' rfl rfl rfl hb⟩

set_option maxRecDepth 100000 in
theorem lifted (os : Os) (started : os.Started) (H : Type) (enc : TypeId × Value → H) :
    ReturnsInHanded {} Try.checked os 15 .any (Rows.solveRisesSpec.pre6 enc Try.prog Try.f15 Rows.solveRisesRow.domain false) (Rows.solveRisesSpec.post enc Try.prog Try.f15 false true false false) := by
  refine returnsInHanded_of_change (C := Try.checked) own started (by kernel_rfl) Try.func15
    (ChangeSpec.witness6 (enc := enc) (C := Try.checked) false ⟨#[], #[.int .i64 0, .slice none 0 0, .int .i64 0], []⟩ 8 (by kernel_rfl) (by kernel_rfl) (by kernel_rfl) (by kernel_rfl)) ?_
  intro W base args ds gs before hval hW hcnd _
  exact contract H enc W base args ds gs before hval hW

theorem over : Rows.solveRisesRow.holds Try.pinned (OpenSpec.ofChange Rows.solveRisesSpec) :=
  OpenClaim.holds_of_wide 15 Try.f15 rfl rfl rfl rfl rfl rfl rfl ⟨rfl, rfl, rfl, rfl, rfl⟩ rfl rfl rfl rfl rfl (by kernel_rfl) Try.func15 (by kernel_rfl)
    (of_decide_eq_true (by kernel_rfl)) (by unfold Func.isWrapper; first | (rw [if_pos (by decide +kernel)]; kernel_rfl) | (rw [if_neg (by decide +kernel)]; exact ⟨rfl, rfl⟩))
    (fun os started H enc _ => lifted os started H enc)

/-- The statement. -/
theorem proved : Rows.SolveRisesSaid :=
  over
#print axioms proved
end Go.Proofs.Ytjckfgadchobfaa.solveRises
