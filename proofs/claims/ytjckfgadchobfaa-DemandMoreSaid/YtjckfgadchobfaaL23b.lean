/-
  The law DemandMore of vergelaw23: of two lists as much as of both; in a longer stretch no less. No condition.
-/
import Derived.Test.YtjckfgadchobfaaLw
import Derived.Test.YtjckfgadchobfaaApp
namespace Go.Proofs.Ytjckfgadchobfaa.demandMore
open Go.ChangeShapes Go.WideShapes Go.ChangeAt Go.RowKit
set_option linter.unusedVariables false

theorem info_load : (Try.prog.info? 51).map (fun i => (i.zero, i.size, i.bytes)) = some (some (.agg #[.int .i64 0, .int .i64 0, .int .i64 0, .int .i64 0]), 4, 32) := by kernel_rfl
theorem bytes_load : Try.prog.bytesOf 51 = 32 := by kernel_rfl
set_option maxHeartbeats 1600000 in
theorem walk (A A2 : Option Addr) (l m : List Q4) (cap cap2 : Nat) (wd v : Int) (w : World) (h : R4 w w.heap.size A l) (hm : R4 w w.heap.size A2 m) (hl : l.length ≤ 4398046511104) (hlm : m.length ≤ 4398046511104)
    (hn1 : A = none → cap = 0) (hn2 : A2 = none → cap2 = 0) :
    Calls Try.prog 10 #[.slice A l.length cap, .slice A2 m.length cap2, .int .i64 wd, .int .i64 v] w fun e w' => e = .returned (.bool true) ∧ Below w.heap.size w w' := by
  by_cases hwd : 0 ≤ wd ∧ wd ≤ 2251799813685248 ∧ 0 ≤ v ∧ v ≤ 2251799813685248
  · obtain ⟨w0', w1', v0', v1'⟩ := hwd
    by_cases hc : 256 < l.length + m.length
    · go_enter Try.func10, Try.ntmps10
      go_wp2_with fail
      refine (lives23 _).mono ?_
      rintro e w0 ⟨rfl, HB⟩
      go_wp2
      all_goals first | (exfalso; omega) | skip
      all_goals go_ret
      all_goals exact ⟨rfl, HB⟩
    · have hlaw := more_law (l := l) (m := m) (by omega) w0' w1' v0' v1'
      have HLaw := Lib.hid hlaw
      clear hlaw
      have hc1 : l.length + m.length ≤ 256 := by omega
      have hsum : (l.length : Int) + (m.length : Int) ≤ 256 := by omega
      go_enter Try.func10, Try.ntmps10
      go_wp2_with fail
      refine (lives23 _).mono ?_
      rintro e w0 ⟨rfl, HB⟩
      go_wp2_with fail
      refine (all_any A l _ _ _ ((h.below HB).mono HB.size) (by omega)).mono ?_
      rintro e w2 ⟨rfl, hb⟩
      replace HB := HB.next HB.size hb
      clear hb
      go_wp2_with fail
      refine (all_any A2 m _ _ _ ((hm.below HB).mono HB.size) (by omega)).mono ?_
      rintro e w2 ⟨rfl, hb⟩
      replace HB := HB.next HB.size hb
      clear hb
      obtain ⟨i0, hi, hz0, hz1, hz2⟩ := info_parts info_load
      go_wp2_with (first
        | (at_builtin; refine wpList_app4 rfl _ _ 49 rfl w.heap.size 51 i0 (.agg #[.int .i64 0, .int .i64 0, .int .i64 0, .int .i64 0]) 32 Try.underlying49 hi hz0 hz1 hz2 rfl (by decide) _ 0 [] rfl (World.ownsRow_made w2 #[] 0 HB.size (by decide) rfl) A l cap w.heap.size rfl (h.below (HB.alloc HB.size _)) hn1 (by omega) (by simp; have := HB.size; omega) ?_; intro v1 w3 own1 hb1; have HB1 := (HB.alloc HB.size _).trans hb1)
        | (at_builtin; refine wpList_app4 rfl _ _ 49 rfl w.heap.size 51 i0 (.agg #[.int .i64 0, .int .i64 0, .int .i64 0, .int .i64 0]) 32 Try.underlying49 hi hz0 hz1 hz2 rfl (by decide) v1 (0 + l.length) ([] ++ l.flatMap Q4.cells) rfl own1 A2 m cap2 w.heap.size rfl (hm.below HB1) hn2 (by omega) (by have := HB1.size; omega) ?_; intro v2 w4 own2 hb2; rw [show [] ++ l.flatMap Q4.cells ++ m.flatMap Q4.cells = (l ++ m).flatMap Q4.cells from by simp] at own2; obtain ⟨A3, c3, rfl, hR3⟩ := ownR4 own2; replace HB := HB1.trans hb2))
      have hcb := all_any A3 (l ++ m) c3 wd w4 hR3 (by simp; omega)
      rw [List.length_append] at hcb
      refine hcb.mono ?_
      rintro e w2 ⟨rfl, hb⟩
      replace HB := HB.next HB.size hb
      clear hb hcb hb1 HB1 own1
      go_wp2_with fail
      refine (all_any A l _ (wd + v) _ ((h.below HB).mono HB.size) (by omega)).mono ?_
      rintro e w2 ⟨rfl, hb⟩
      replace HB := HB.next HB.size hb
      clear hb
      have b1 := alV_bd l wd
      have b2 := alV_bd m wd
      have b3 := alV_bd (l ++ m) wd
      have b4 := alV_bd l (wd + v)
      have law := HLaw.out
      clear HLaw
      rcases law with ⟨e1 | ⟨e1, e2⟩, e3⟩ | ⟨⟨e1, e2, e3, e4⟩ | ⟨e1, e2 | e2, e3⟩ | ⟨e1, e2, e3⟩ | ⟨e1, e2, e3, e4⟩, e5 | ⟨e5, e6, e7⟩⟩
      · go_wp2
        all_goals first | (exfalso; omega) | skip
        all_goals go_ret
        all_goals exact ⟨by first | rfl | (simp; done) | (simp; omega), HB⟩
      · have e1' : (alE l wd == 2) = false := by simpa using e1
        go_wp2
        all_goals first | (exfalso; omega) | skip
        all_goals go_ret
        all_goals exact ⟨by first | rfl | (simp; done) | (simp; omega), HB⟩
      · rw [e4]
        go_wp2
        all_goals first | (exfalso; omega) | skip
        all_goals go_ret
        all_goals exact ⟨by first | rfl | (simp; done) | (simp; omega), HB⟩
      · rw [e4]
        go_wp2
        all_goals first | (exfalso; omega) | skip
        all_goals go_ret
        all_goals exact ⟨by first | rfl | (simp; done) | (simp; omega), HB⟩
      · go_wp2
        all_goals first | (exfalso; omega) | skip
        all_goals go_ret
        all_goals exact ⟨by first | rfl | (simp; done) | (simp; omega), HB⟩
      · exfalso
        omega
      · go_wp2
        all_goals first | (exfalso; omega) | skip
        all_goals go_ret
        all_goals exact ⟨by first | rfl | (simp; done) | (simp; omega), HB⟩
      · exfalso
        omega
      · go_wp2
        all_goals first | (exfalso; omega) | skip
        all_goals go_ret
        all_goals exact ⟨by first | rfl | (simp; done) | (simp; omega), HB⟩
      · go_wp2
        all_goals first | (exfalso; omega) | skip
        all_goals go_ret
        all_goals exact ⟨by first | rfl | (simp; done) | (simp; omega), HB⟩
      · go_wp2
        all_goals first | (exfalso; omega) | skip
        all_goals go_ret
        all_goals exact ⟨by first | rfl | (simp; done) | (simp; omega), HB⟩
      · go_wp2
        all_goals first | (exfalso; omega) | skip
        all_goals go_ret
        all_goals exact ⟨by first | rfl | (simp; done) | (simp; omega), HB⟩
  · go_enter Try.func10, Try.ntmps10
    go_wp2_with fail
    refine (lives23 _).mono ?_
    rintro e w0 ⟨rfl, HB⟩
    go_wp2
    all_goals first | (exfalso; omega) | skip
    all_goals go_ret
    all_goals exact ⟨rfl, HB⟩

abbrev spec := Rows.demandMoreSpec
set_option maxRecDepth 100000 in
theorem contract (H : Type) (enc : TypeId × Value → H) (W : World) (base : Nat) (args : Array Value) (ds gs : List (DataW H)) (before : List MemPlace)
    (hval0 : ∀ (j : Nat) t v, Try.f10.params[j]? = some t → args[j]? = some v → Value.okWide Try.prog W .any base t v)
    (hW : DataW.Whole enc Try.prog Try.f10.params.toList spec.vars false W args.toList ds gs before)
    (hsz : (DataW.weightsEach Try.prog (Try.f10.params.toList ++ spec.plain.varTypes Try.prog) (ds ++ gs)).all (· ≤ reachBytes) = true) :
    Calls Try.prog 10 args W fun e W' => ∃ v, e = .returned v ∧ spec.post enc Try.prog Try.f10 false true false false W args v W' := by
  have hval : ∀ (j : Nat) t v, Try.f10.params[j]? = some t → args[j]? = some v → Value.okWide Try.prog W .any base t v := hval0
  have hW' := hW
  obtain ⟨p, q, hA0, hV, rfl, hfz, hnd⟩ := hW
  have hA : DataW.TrodAll enc Try.prog W 0 (fun _ => true) true Try.f10.params.toList args.toList ds p := hA0
  rw [Try.params10] at hA hval hsz
  obtain ⟨v0, vs0, d0, ds0, p0, q0, hargs, rfl, rfl, h0, r0⟩ := trodAll_cons hA
  obtain ⟨v1, vs1, d1, ds1, p1, q1, rfl, rfl, rfl, h1, r1⟩ := trodAll_cons r0
  obtain ⟨v2, vs2, d2, ds2, p2, q2, rfl, rfl, rfl, h2, r2⟩ := trodAll_cons r1
  obtain ⟨v3, vs3, d3, ds3, p3, q3, rfl, rfl, rfl, h3, r3⟩ := trodAll_cons r2
  obtain ⟨rfl, rfl, rfl⟩ := trodAll_nil r3
  obtain rfl : args = #[v0, v1, v2, v3] := by cases args; simp_all
  obtain ⟨rfl, rfl⟩ := trodVars_none hV
  obtain ⟨A, xs, cap, rfl, hR, hlen, _⟩ := open_r4 4 Try.underlying49 (by kernel_rfl) (by kernel_rfl) (hval 0 _ v0 rfl rfl) h0
  obtain ⟨A2, ys, cap2, rfl, hR2, hlen2, _⟩ := open_r4 4 Try.underlying49 (by kernel_rfl) (by kernel_rfl) (hval 1 _ v1 rfl rfl) h1
  obtain ⟨wd, rfl, rfl, rfl, wx⟩ := open_int Try.underlying2 (hval 2 _ v2 rfl rfl) h2
  obtain ⟨vv, rfl, rfl, rfl, vx⟩ := open_int Try.underlying2 (hval 3 _ v3 rfl rfl) h3
  refine (walk A A2 xs ys cap cap2 wd vv W hR hR2 (by have := open_small Try.underlying49 bytes_load h0 hsz 0 rfl rfl; omega) (by have := open_small Try.underlying49 bytes_load h1 hsz 1 rfl rfl; omega) (open_nilcap Try.underlying49 h0) (open_nilcap Try.underlying49 h1)).mono fun e W' ⟨he, hb⟩ => ?_
  subst he
  exact ⟨_, rfl, law_post try_laidOut (by kernel_rfl) rfl rfl Try.underlying4 hW' rfl rfl rfl hb⟩

set_option maxRecDepth 100000 in
theorem lifted (os : Os) (started : os.Started) (H : Type) (enc : TypeId × Value → H) :
    ReturnsInHanded {} Try.checked os 10 .any (Rows.demandMoreSpec.pre6 enc Try.prog Try.f10 Rows.demandMoreRow.domain false) (Rows.demandMoreSpec.post enc Try.prog Try.f10 false true false false) := by
  refine returnsInHanded_of_change_sized (C := Try.checked) own started (by kernel_rfl) Try.func10
    (ChangeSpec.witness6 (enc := enc) (C := Try.checked) false ⟨#[], #[.slice none 0 0, .slice none 0 0, .int .i64 0, .int .i64 0], []⟩ 8 (by kernel_rfl) (by kernel_rfl) (by kernel_rfl) (by kernel_rfl)) ?_
  intro W base args ds gs before hval hW hcnd hsz _
  exact contract H enc W base args ds gs before hval hW hsz

theorem over : Rows.demandMoreRow.holds Try.pinned (OpenSpec.ofChange Rows.demandMoreSpec) :=
  OpenClaim.holds_of_wide 10 Try.f10 rfl rfl rfl rfl rfl rfl rfl ⟨rfl, rfl, rfl, rfl, rfl⟩ rfl rfl rfl rfl rfl (by kernel_rfl) Try.func10 (by kernel_rfl)
    (of_decide_eq_true (by kernel_rfl)) (by unfold Func.isWrapper; first | (rw [if_pos (by decide +kernel)]; kernel_rfl) | (rw [if_neg (by decide +kernel)]; exact ⟨rfl, rfl⟩))
    (fun os started H enc _ => lifted os started H enc)

/-- The statement. -/
theorem proved : Rows.DemandMoreSaid :=
  over
#print axioms proved
end Go.Proofs.Ytjckfgadchobfaa.demandMore
