/-
  The law SolveMore of vergelaw25: with more loads, or a greater base, it takes no less; with none it takes just the base. No condition.
-/
import Derived.Test.YtjckfgadchobfaaLw
import Derived.Test.YtjckfgadchobfaaSolQ
import Derived.OpenShut
namespace Go.Proofs.Ytjckfgadchobfaa.solveMore
open Go.ChangeShapes Go.WideShapes Go.ChangeAt Go.RowKit
set_option linter.unusedVariables false

theorem info_load : (Try.prog.info? 51).map (fun i => (i.zero, i.size, i.bytes)) = some (some (.agg #[.int .i64 0, .int .i64 0, .int .i64 0, .int .i64 0]), 4, 32) := by kernel_rfl
theorem bytes_load : Try.prog.bytesOf 51 = 32 := by kernel_rfl
theorem soV_bd (b : Int) (xs : List Q4) (lim : Int) : 0 ≤ soV b xs lim ∧ soV b xs lim ≤ 4503599627370496 := by
  by_cases h : stE b xs lim = 0
  · obtain ⟨z, e, a1, a2, a3, a4, a5, a6, a7⟩ := so_least h
    omega
  · rw [(st_bad h).1]; omega
set_option maxHeartbeats 1600000 in
theorem walk (b more : Int) (A A2 : Option Addr) (l m : List Q4) (cap cap2 : Nat) (lim : Int) (w : World) (h : R4 w w.heap.size A l) (hm : R4 w w.heap.size A2 m) (hl : l.length ≤ 4398046511104) (hlm : m.length ≤ 4398046511104)
    (hn1 : A = none → cap = 0) (hn2 : A2 = none → cap2 = 0) (hb0 : -9223372036854775808 ≤ b) :
    Calls Try.prog 14 #[.int .i64 b, .int .i64 more, .slice A l.length cap, .slice A2 m.length cap2, .int .i64 lim] w fun e w' => e = .returned (.bool true) ∧ Below w.heap.size w w' := by
  by_cases hwd : 0 ≤ more ∧ more ≤ 2251799813685248 ∧ b ≤ 2251799813685248
  · obtain ⟨w0', w1', v0'⟩ := hwd
    by_cases hc : 256 < l.length + m.length
    · go_enter Try.func14, Try.ntmps14
      go_wp2_with fail
      refine (lives25 _).mono ?_
      rintro e w0 ⟨rfl, HB⟩
      go_wp2
      all_goals first | (exfalso; omega) | skip
      all_goals go_ret
      all_goals exact ⟨rfl, HB⟩
    · have hc1 : l.length + m.length ≤ 256 := by omega
      have hsum : (l.length : Int) + (m.length : Int) ≤ 256 := by omega
      obtain ⟨i0, hi, hz0, hz1, hz2⟩ := info_parts info_load
      go_enter Try.func14, Try.ntmps14
      go_wp2_with fail
      refine (lives25 _).mono ?_
      rintro e w0 ⟨rfl, HB⟩
      go_wp2_with fail
      refine (solve_any _ A l _ _ _ ((h.below HB).mono HB.size) (by omega)).mono ?_
      rintro e w2 ⟨rfl, hb⟩
      replace HB := HB.next HB.size hb
      clear hb
      go_wp2_with (first
        | (at_builtin; refine wpList_app4 rfl _ _ 49 rfl w.heap.size 51 i0 (.agg #[.int .i64 0, .int .i64 0, .int .i64 0, .int .i64 0]) 32 Try.underlying49 hi hz0 hz1 hz2 rfl (by decide) _ 0 [] rfl (World.ownsRow_made w2 #[] 0 HB.size (by decide) rfl) A l cap w.heap.size rfl (h.below (HB.alloc HB.size _)) hn1 (by omega) (by simp; have := HB.size; omega) ?_; intro v1 w3 own1 hb1; have HB1 := (HB.alloc HB.size _).trans hb1)
        | (at_builtin; refine wpList_app4 rfl _ _ 49 rfl w.heap.size 51 i0 (.agg #[.int .i64 0, .int .i64 0, .int .i64 0, .int .i64 0]) 32 Try.underlying49 hi hz0 hz1 hz2 rfl (by decide) v1 (0 + l.length) ([] ++ l.flatMap Q4.cells) rfl own1 A2 m cap2 w.heap.size rfl (hm.below HB1) hn2 (by omega) (by have := HB1.size; omega) ?_; intro v2 w4 own2 hb2; rw [show [] ++ l.flatMap Q4.cells ++ m.flatMap Q4.cells = (l ++ m).flatMap Q4.cells from by simp] at own2; obtain ⟨A3, c3, rfl, hR3⟩ := ownR4 own2; replace HB := HB1.trans hb2))
      have hcb := solve_any b A3 (l ++ m) c3 lim w4 hR3 (by simp; omega)
      rw [List.length_append] at hcb
      refine hcb.mono ?_
      rintro e w2 ⟨rfl, hb⟩
      replace HB := HB.next HB.size hb
      clear hb hcb hb1 HB1 own1
      go_wp2_with fail
      refine (solve_any (b + more) A l _ _ _ ((h.below HB).mono HB.size) (by omega)).mono ?_
      rintro e w2 ⟨rfl, hb⟩
      replace HB := HB.next HB.size hb
      clear hb
      go_wp2_with fail
      refine (solve_any _ _ [] _ _ _ (R4.nil _ _ _) (by simp)).mono ?_
      rintro e w2 ⟨rfl, hb⟩
      replace HB := HB.next HB.size hb
      clear hb
      have b1 := soV_bd b l lim
      have b2 := soV_bd b (l ++ m) lim
      have b3 := soV_bd (b + more) l lim
      have b4 := soV_bd b [] lim
      by_cases p1 : stE b l lim = 0
      · have p4 := st_nil p1
        have e4 := so_nil p4
        by_cases p2 : stE b (l ++ m) lim = 0
        · have g1 := so_app p1 p2
          by_cases p3 : stE (b + more) l lim = 0
          · have g2 := so_base w0' p1 p3
            go_wp2
            all_goals first | (exfalso; omega) | skip
            all_goals go_ret
            all_goals exact ⟨by first | rfl | (simp; done) | (simp; omega), HB⟩
          · go_wp2
            all_goals first | (exfalso; omega) | skip
            all_goals go_ret
            all_goals exact ⟨by first | rfl | (simp; done) | (simp; omega), HB⟩
        · by_cases p3 : stE (b + more) l lim = 0
          · have g2 := so_base w0' p1 p3
            go_wp2
            all_goals first | (exfalso; omega) | skip
            all_goals go_ret
            all_goals exact ⟨by first | rfl | (simp; done) | (simp; omega), HB⟩
          · go_wp2
            all_goals first | (exfalso; omega) | skip
            all_goals go_ret
            all_goals exact ⟨by first | rfl | (simp; done) | (simp; omega), HB⟩
      · by_cases p4 : stE b [] lim = 0
        · have e4 := so_nil p4
          go_wp2
          all_goals first | (exfalso; omega) | skip
          all_goals go_ret
          all_goals exact ⟨by first | rfl | (simp; done) | (simp; omega), HB⟩
        · go_wp2
          all_goals first | (exfalso; omega) | skip
          all_goals go_ret
          all_goals exact ⟨by first | rfl | (simp; done) | (simp; omega), HB⟩
  · go_enter Try.func14, Try.ntmps14
    go_wp2_with fail
    refine (lives25 _).mono ?_
    rintro e w0 ⟨rfl, HB⟩
    go_wp2
    all_goals first | (exfalso; omega) | skip
    all_goals go_ret
    all_goals exact ⟨rfl, HB⟩

abbrev spec := Rows.solveMoreSpec
set_option maxRecDepth 100000 in
theorem contract (H : Type) (enc : TypeId × Value → H) (W : World) (base : Nat) (args : Array Value) (ds gs : List (DataW H)) (before : List MemPlace)
    (hval0 : ∀ (j : Nat) t v, Try.f14.params[j]? = some t → args[j]? = some v → Value.okWide Try.prog W .any base t v)
    (hW : DataW.Whole enc Try.prog Try.f14.params.toList spec.vars false W args.toList ds gs before)
    (hsz : (DataW.weightsEach Try.prog (Try.f14.params.toList ++ spec.plain.varTypes Try.prog) (ds ++ gs)).all (· ≤ reachBytes) = true) :
    Calls Try.prog 14 args W fun e W' => ∃ v, e = .returned v ∧ spec.post enc Try.prog Try.f14 false true false false W args v W' := by
  have hval : ∀ (j : Nat) t v, Try.f14.params[j]? = some t → args[j]? = some v → Value.okWide Try.prog W .any base t v := hval0
  have hW' := hW
  obtain ⟨p, q, hA0, hV, rfl, hfz, hnd⟩ := hW
  have hA : DataW.TrodAll enc Try.prog W 0 (fun _ => true) true Try.f14.params.toList args.toList ds p := hA0
  rw [Try.params14] at hA hval hsz
  obtain ⟨v0, vs0, d0, ds0, p0, q0, hargs, rfl, rfl, h0, r0⟩ := trodAll_cons hA
  obtain ⟨v1, vs1, d1, ds1, p1, q1, rfl, rfl, rfl, h1, r1⟩ := trodAll_cons r0
  obtain ⟨v2, vs2, d2, ds2, p2, q2, rfl, rfl, rfl, h2, r2⟩ := trodAll_cons r1
  obtain ⟨v3, vs3, d3, ds3, p3, q3, rfl, rfl, rfl, h3, r3⟩ := trodAll_cons r2
  obtain ⟨v4, vs4, d4, ds4, p4, q4, rfl, rfl, rfl, h4, r4⟩ := trodAll_cons r3
  obtain ⟨rfl, rfl, rfl⟩ := trodAll_nil r4
  obtain rfl : args = #[v0, v1, v2, v3, v4] := by cases args; simp_all
  obtain ⟨rfl, rfl⟩ := trodVars_none hV
  obtain ⟨b, rfl, rfl, rfl, bx⟩ := open_int Try.underlying2 (hval 0 _ v0 rfl rfl) h0
  obtain ⟨more, rfl, rfl, rfl, mx⟩ := open_int Try.underlying2 (hval 1 _ v1 rfl rfl) h1
  obtain ⟨A, xs, cap, rfl, hR, hlen, _⟩ := open_r4 4 Try.underlying49 (by kernel_rfl) (by kernel_rfl) (hval 2 _ v2 rfl rfl) h2
  obtain ⟨A2, ys, cap2, rfl, hR2, hlen2, _⟩ := open_r4 4 Try.underlying49 (by kernel_rfl) (by kernel_rfl) (hval 3 _ v3 rfl rfl) h3
  obtain ⟨lim, rfl, rfl, rfl, lx⟩ := open_int Try.underlying2 (hval 4 _ v4 rfl rfl) h4
  refine (walk b more A A2 xs ys cap cap2 lim W hR hR2 (by have := open_small Try.underlying49 bytes_load h2 hsz 2 rfl rfl; omega) (by have := open_small Try.underlying49 bytes_load h3 hsz 3 rfl rfl; omega) (open_nilcap Try.underlying49 h2) (open_nilcap Try.underlying49 h3) (bounds_i64 bx).1).mono fun e W' ⟨he, hb⟩ => ?_
  subst he
  exact ⟨_, rfl, law_post try_laidOut (by kernel_rfl) rfl rfl Try.underlying4 hW' rfl rfl rfl hb⟩

set_option maxRecDepth 100000 in
theorem lifted (os : Os) (started : os.Started) (H : Type) (enc : TypeId × Value → H) :
    ReturnsInHanded {} Try.checked os 14 .any (Rows.solveMoreSpec.pre6 enc Try.prog Try.f14 Rows.solveMoreRow.domain false) (Rows.solveMoreSpec.post enc Try.prog Try.f14 false true false false) := by
  refine returnsInHanded_of_change_sized (C := Try.checked) own started (by kernel_rfl) Try.func14
    (ChangeSpec.witness6 (enc := enc) (C := Try.checked) false ⟨#[], #[.int .i64 0, .int .i64 0, .slice none 0 0, .slice none 0 0, .int .i64 0], []⟩ 8 (by kernel_rfl) (by kernel_rfl) (by kernel_rfl) (by kernel_rfl)) ?_
  intro W base args ds gs before hval hW hcnd hsz _
  exact contract H enc W base args ds gs before hval hW hsz

theorem over : Rows.solveMoreRow.holds Try.pinned (OpenSpec.ofChange Rows.solveMoreSpec) :=
  OpenClaim.holds_of_wide 14 Try.f14 rfl rfl rfl rfl rfl rfl rfl ⟨rfl, rfl, rfl, rfl, rfl⟩ rfl rfl rfl rfl rfl (by kernel_rfl) Try.func14 (by kernel_rfl)
    (of_decide_eq_true (by kernel_rfl)) (by unfold Func.isWrapper; first | (rw [if_pos (by decide +kernel)]; kernel_rfl) | (rw [if_neg (by decide +kernel)]; exact ⟨rfl, rfl⟩))
    (fun os started H enc _ => lifted os started H enc)

/-- The statement. -/
theorem proved : Rows.SolveMoreSaid :=
  over
#print axioms proved
end Go.Proofs.Ytjckfgadchobfaa.solveMore
