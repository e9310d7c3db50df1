/-
  The law CurveDense of vergelaw22: dense arrivals fit, and in the stretch of any length from 0 on there are as many as may be. No condition.
-/
import Derived.Test.YtjckfgadchobfaaLw
import Derived.Test.YtjckfgadchobfaaCur5
import Derived.Test.YtjckfgadchobfaaCurQ
namespace Go.Proofs.Ytjckfgadchobfaa.curveDense
open Go.ChangeShapes Go.WideShapes Go.ChangeAt Go.RowKit
set_option linter.unusedVariables false

theorem belowN_bd (x : Int) (l : List Int) : 0 ≤ belowN x l ∧ belowN x l ≤ l.length := by
  unfold belowN
  exact ⟨by omega, by have := List.length_filter_le (fun t => decide (t < x)) l; omega⟩
theorem take_snoc {xs : List Int} {k : Nat} (h : k < xs.length) : xs.take (k + 1) = xs.take k ++ [xs[k]?.getD 0] := by
  rw [List.take_succ_eq_append_getElem h]; simp [h]
set_option maxHeartbeats 1000000 in
theorem walk (p j a n x : Int) (w : World) :
    Calls Try.prog 7 #[.agg #[.int .i64 p, .int .i64 j, .int .i64 a], .int .i64 n, .int .i64 x] w fun e w' => e = .returned (.bool true) ∧ Below w.heap.size w w' := by
  by_cases hn : 100 < n
  · go_enter Try.func7, Try.ntmps7
    go_wp2_with fail
    refine (lives22 _).mono ?_
    rintro e w0 ⟨rfl, HB⟩
    have q0 := box_cell HB 0 _ rfl
    have q1 := box_cell HB 1 _ rfl
    have q2 := box_cell HB 2 _ rfl
    go_wp2_with fail
    go_ret
    exact ⟨rfl, HB.box (Nat.le_refl _)⟩
  have hn' : n ≤ 100 := by omega
  clear hn
  by_cases hd : deE p j a n = 0
  · have hcu : 1 ≤ p ∧ p ≤ 1099511627776 ∧ 0 ≤ j ∧ j ≤ 1099511627776 ∧ 1 ≤ a ∧ a ≤ p := by
      unfold deE at hd
      split at hd
      · omega
      · rename_i h; unfold curE at h; split at h <;> omega
    have hE : curE p j a = 0 := by unfold curE; rw [if_pos hcu]
    have n0 : 0 ≤ n := by unfold deE at hd; omega
    obtain ⟨N, rfl⟩ := Int.eq_ofNat_of_zero_le n0
    obtain ⟨p1, p2, j1, j2, a1, a2⟩ := hcu
    have hL : deL p j a N = dens p j a N := by unfold deL; rw [if_pos hd, Int.toNat_natCast]
    have hLL : (deL p j a N).length = N := by rw [hL, dens_length]
    obtain ⟨f1, f2⟩ := dens_fits (p := p) (j := j) (a := a) (n := N) hE j1 a1 a2 (by omega) (by unfold deE at hd; omega)
    have HL := Lib.hid hL
    clear hL
    by_cases hx : 0 ≤ x ∧ x ≤ 4503599627370496
    · have e1 : moE p j a x = 0 := by unfold moE; omega
      have hm := dens_below hE p1 a1 j1 hx.1 hx.2 N
      have HM := Lib.hid hm
      clear hm
      go_enter Try.func7, Try.ntmps7
      go_wp2_with fail
      refine (lives22 _).mono ?_
      rintro e w0 ⟨rfl, HB⟩
      have q0 := box_cell HB 0 _ rfl
      have q1 := box_cell HB 1 _ rfl
      have q2 := box_cell HB 2 _ rfl
      go_wp2_with fail
      refine (dense_any _ _ _ _ _).mono ?_
      rintro e w1 ⟨A, c, rfl, hD, hb⟩
      rw [HL.out] at hD
      replace HB := HB.next HB.size hb
      clear hb q0 q1 q2
      have q0 := box_cell HB 0 _ rfl
      have q1 := box_cell HB 1 _ rfl
      have q2 := box_cell HB 2 _ rfl
      have hfc := fits_any p j a A (dens p j a N) c w1 hD (by rw [dens_length]; omega)
      rw [dens_length, f1, f2] at hfc
      have HFC := Lib.hid hfc
      clear hfc
      go_wp2_with fail
      refine (HFC.out).mono ?_
      rintro e w2 ⟨rfl, hb⟩
      replace hD := (hD.below hb).mono hb.size
      replace HB := HB.next HB.size hb
      clear hb q0 q1 q2
      have q0 := box_cell HB 0 _ rfl
      have q1 := box_cell HB 1 _ rfl
      have q2 := box_cell HB 2 _ rfl
      go_wp2_with fail
      refine (most_any _ _ _ x _).mono ?_
      rintro e w3 ⟨rfl, hb⟩
      replace hD := (hD.below hb).mono hb.size
      replace HB := HB.next HB.size hb
      clear hb q0 q1 q2
      have q0 := box_cell HB 0 _ rfl
      have q1 := box_cell HB 1 _ rfl
      have q2 := box_cell HB 2 _ rfl
      go_wp2_with fail
      go_loop [13, 58] (fun u i => ∃ (k : Nat) (m : Int), k ≤ N ∧ i = .int .i64 k ∧ u = .int .i64 m ∧ 0 ≤ m ∧ m ≤ k ∧ Hid (m = belowN x ((dens p j a N).take k))) (fun _ i => N - (intOf i).toNat)
      case atStart => exact ⟨0, 0, by omega, rfl, rfl, by omega, by omega, rfl⟩
      case round =>
        obtain ⟨k, m, hk, rfl, rfl, m0, m1, hm⟩ := hrel
        by_cases hlt : k < N
        · obtain ⟨b, off, rfl, hbB, hc⟩ := hD (by rw [dens_length]; omega)
          have hc1 := hc k (by rw [dens_length]; omega)
          obtain ⟨t, et⟩ : ∃ t, t = (dens p j a N)[k]?.getD 0 := ⟨_, rfl⟩
          rw [← et] at hc1
          have hs := belowN_snoc x ((dens p j a N).take k) t
          rw [et, ← take_snoc (by rw [dens_length]; omega), ← et] at hs
          have HS := Lib.hid hs
          clear hs et hc
          by_cases htx : t < x
          · go_wp2
            go_round
            case rel => exact ⟨k + 1, m + 1, by omega, by go_num, rfl, by omega, by omega, by have h1 := HS.out; rw [if_pos htx] at h1; have h2 := hm.out; unfold Hid; omega⟩
            case measure => simp [intOf]; omega
          · go_wp2
            go_round
            case rel => exact ⟨k + 1, m, by omega, by go_num, rfl, by omega, by omega, by have h1 := HS.out; rw [if_neg (by omega)] at h1; have h2 := hm.out; unfold Hid; omega⟩
            case measure => simp [intOf]; omega
        · have hk' : k = N := by omega
          have hmm : m = min (moV p j a x) N := by
            have := hm.out
            rw [hk', List.take_of_length_le (by rw [dens_length]; omega), HM.out] at this
            exact this
          clear hk'
          by_cases hmin : moV p j a x ≤ N
          · have hb1 : (m == moV p j a x) = true := by simp; omega
            clear hmm
            go_wp2
            all_goals go_ret
            all_goals exact ⟨ret_bool (by simp <;> omega), HB.box (Nat.le_refl _)⟩
          · have hb1 : (m == (N : Int)) = true := by simp; omega
            have hmin' : (N : Int) < moV p j a x := by omega
            clear hmm hmin
            go_wp2
            all_goals go_ret
            all_goals exact ⟨ret_bool (by simp <;> omega), HB.box (Nat.le_refl _)⟩
    · have e1 : moE p j a x = 1 := by unfold moE; omega
      go_enter Try.func7, Try.ntmps7
      go_wp2_with fail
      refine (lives22 _).mono ?_
      rintro e w0 ⟨rfl, HB⟩
      have q0 := box_cell HB 0 _ rfl
      have q1 := box_cell HB 1 _ rfl
      have q2 := box_cell HB 2 _ rfl
      go_wp2_with fail
      refine (dense_any _ _ _ _ _).mono ?_
      rintro e w1 ⟨A, c, rfl, hD, hb⟩
      rw [HL.out] at hD
      replace HB := HB.next HB.size hb
      clear hb q0 q1 q2
      have q0 := box_cell HB 0 _ rfl
      have q1 := box_cell HB 1 _ rfl
      have q2 := box_cell HB 2 _ rfl
      have hfc := fits_any p j a A (dens p j a N) c w1 hD (by rw [dens_length]; omega)
      rw [dens_length, f1, f2] at hfc
      have HFC := Lib.hid hfc
      clear hfc
      go_wp2_with fail
      refine (HFC.out).mono ?_
      rintro e w2 ⟨rfl, hb⟩
      replace hD := (hD.below hb).mono hb.size
      replace HB := HB.next HB.size hb
      clear hb q0 q1 q2
      have q0 := box_cell HB 0 _ rfl
      have q1 := box_cell HB 1 _ rfl
      have q2 := box_cell HB 2 _ rfl
      go_wp2_with fail
      refine (most_any _ _ _ x _).mono ?_
      rintro e w3 ⟨rfl, hb⟩
      replace hD := (hD.below hb).mono hb.size
      replace HB := HB.next HB.size hb
      clear hb q0 q1 q2
      have q0 := box_cell HB 0 _ rfl
      have q1 := box_cell HB 1 _ rfl
      have q2 := box_cell HB 2 _ rfl
      go_wp2_with fail
      go_loop [13, 58] (fun u i => ∃ (k : Nat) (m : Int), k ≤ N ∧ i = .int .i64 k ∧ u = .int .i64 m ∧ 0 ≤ m ∧ m ≤ k ∧ Hid (m = belowN x ((dens p j a N).take k))) (fun _ i => N - (intOf i).toNat)
      case atStart => exact ⟨0, 0, by omega, rfl, rfl, by omega, by omega, rfl⟩
      case round =>
        obtain ⟨k, m, hk, rfl, rfl, m0, m1, hm⟩ := hrel
        by_cases hlt : k < N
        · obtain ⟨b, off, rfl, hbB, hc⟩ := hD (by rw [dens_length]; omega)
          have hc1 := hc k (by rw [dens_length]; omega)
          obtain ⟨t, et⟩ : ∃ t, t = (dens p j a N)[k]?.getD 0 := ⟨_, rfl⟩
          rw [← et] at hc1
          have hs := belowN_snoc x ((dens p j a N).take k) t
          rw [et, ← take_snoc (by rw [dens_length]; omega), ← et] at hs
          have HS := Lib.hid hs
          clear hs et hc
          by_cases htx : t < x
          · go_wp2
            go_round
            case rel => exact ⟨k + 1, m + 1, by omega, by go_num, rfl, by omega, by omega, by have h1 := HS.out; rw [if_pos htx] at h1; have h2 := hm.out; unfold Hid; omega⟩
            case measure => simp [intOf]; omega
          · go_wp2
            go_round
            case rel => exact ⟨k + 1, m, by omega, by go_num, rfl, by omega, by omega, by have h1 := HS.out; rw [if_neg (by omega)] at h1; have h2 := hm.out; unfold Hid; omega⟩
            case measure => simp [intOf]; omega
        · go_wp2
          all_goals go_ret
          all_goals exact ⟨ret_bool (by simp <;> omega), HB.box (Nat.le_refl _)⟩
  · have hL : deL p j a n = [] := by unfold deL; rw [if_neg hd]
    have hLL : (deL p j a n).length = 0 := by rw [hL]; rfl
    have hd' : (deE p j a n != 0) = true := by simpa using hd
    clear hL hd
    go_enter Try.func7, Try.ntmps7
    go_wp2_with fail
    refine (lives22 _).mono ?_
    rintro e w0 ⟨rfl, HB⟩
    have q0 := box_cell HB 0 _ rfl
    have q1 := box_cell HB 1 _ rfl
    have q2 := box_cell HB 2 _ rfl
    go_wp2_with fail
    refine (dense_any _ _ _ _ _).mono ?_
    rintro e w1 ⟨A, c, rfl, hD, hb⟩
    replace HB := HB.next HB.size hb
    clear hb q0 q1 q2
    have q0 := box_cell HB 0 _ rfl
    have q1 := box_cell HB 1 _ rfl
    have q2 := box_cell HB 2 _ rfl
    go_wp2
    go_ret
    exact ⟨rfl, HB.box (Nat.le_refl _)⟩

abbrev spec := Rows.curveDenseSpec
set_option maxRecDepth 100000 in
theorem contract (H : Type) (enc : TypeId × Value → H) (W : World) (base : Nat) (args : Array Value) (ds gs : List (DataW H)) (before : List MemPlace)
    (hval0 : ∀ (j : Nat) t v, Try.f7.params[j]? = some t → args[j]? = some v → Value.okWide Try.prog W .any base t v)
    (hW : DataW.Whole enc Try.prog Try.f7.params.toList spec.vars false W args.toList ds gs before) :
    Calls Try.prog 7 args W fun e W' => ∃ v, e = .returned v ∧ spec.post enc Try.prog Try.f7 false true false false W args v W' := by
  have hval : ∀ (j : Nat) t v, Try.f7.params[j]? = some t → args[j]? = some v → Value.okWide Try.prog W .any base t v := hval0
  have hW' := hW
  obtain ⟨p, q, hA0, hV, rfl, hfz, hnd⟩ := hW
  have hA : DataW.TrodAll enc Try.prog W 0 (fun _ => true) true Try.f7.params.toList args.toList ds p := hA0
  rw [Try.params7] at hA hval
  obtain ⟨v0, vs0, d0, ds0, p0, q0, hargs, rfl, rfl, h0, r0⟩ := trodAll_cons hA
  obtain ⟨v1, vs1, d1, ds1, p1, q1, rfl, rfl, rfl, h1, r1⟩ := trodAll_cons r0
  obtain ⟨v2, vs2, d2, ds2, p2, q2, rfl, rfl, rfl, h2, r2⟩ := trodAll_cons r1
  obtain ⟨rfl, rfl, rfl⟩ := trodAll_nil r2
  obtain rfl : args = #[v0, v1, v2] := by cases args; simp_all
  obtain ⟨rfl, rfl⟩ := trodVars_none hV
  obtain ⟨cs, rfl, hl⟩ := open_leafy (l := [some .i64, some .i64, some .i64]) 3 (by kernel_rfl) Try.underlying34 (hval 0 _ v0 rfl rfl) h0
  obtain ⟨p, _, rfl, _, j, _, rfl, _, a, _, rfl, _, rfl⟩ := hl
  obtain ⟨n, rfl, rfl, rfl, wn⟩ := open_int Try.underlying3 (hval 1 _ v1 rfl rfl) h1
  obtain ⟨x, rfl, rfl, rfl, wx⟩ := open_int Try.underlying2 (hval 2 _ v2 rfl rfl) h2
  refine (walk p j a n x W).mono fun e W' ⟨he, hb⟩ => ?_
  subst he
  exact ⟨_, rfl, law_post try_laidOut (by kernel_rfl) rfl rfl Try.underlying4 hW' rfl rfl rfl hb⟩

set_option maxRecDepth 100000 in
theorem lifted (os : Os) (started : os.Started) (H : Type) (enc : TypeId × Value → H) :
    ReturnsInHanded {} Try.checked os 7 .any (Rows.curveDenseSpec.pre6 enc Try.prog Try.f7 Rows.curveDenseRow.domain false) (Rows.curveDenseSpec.post enc Try.prog Try.f7 false true false false) := by
  refine returnsInHanded_of_change (C := Try.checked) own started (by kernel_rfl) Try.func7
    (ChangeSpec.witness6 (enc := enc) (C := Try.checked) false ⟨#[], #[.agg #[.int .i64 0, .int .i64 0, .int .i64 0], .int .i64 0, .int .i64 0], []⟩ 8 (by kernel_rfl) (by kernel_rfl) (by kernel_rfl) (by kernel_rfl)) ?_
  intro W base args ds gs before hval hW hcnd _
  exact contract H enc W base args ds gs before hval hW

theorem over : Rows.curveDenseRow.holds Try.pinned (OpenSpec.ofChange Rows.curveDenseSpec) :=
  OpenClaim.holds_of_wide 7 Try.f7 rfl rfl rfl rfl rfl rfl rfl ⟨rfl, rfl, rfl, rfl, rfl⟩ rfl rfl rfl rfl rfl (by kernel_rfl) Try.func7 (by kernel_rfl)
    (of_decide_eq_true (by kernel_rfl)) (by unfold Func.isWrapper; first | (rw [if_pos (by decide +kernel)]; kernel_rfl) | (rw [if_neg (by decide +kernel)]; exact ⟨rfl, rfl⟩))
    (fun os started H enc _ => lifted os started H enc)

/-- The statement. -/
theorem proved : Rows.CurveDenseSaid :=
  over
#print axioms proved
end Go.Proofs.Ytjckfgadchobfaa.curveDense
