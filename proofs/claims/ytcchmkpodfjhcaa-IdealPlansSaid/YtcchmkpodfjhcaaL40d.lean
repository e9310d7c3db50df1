/-
  The law IdealPlans of vergelaw40: any pieces are right or not, are done, wait, and keep the schedule busy, as the document says, or not; every argument reads afterwards as before. No condition.
-/
import Derived.Test.YtcchmkpodfjhcaaL40
import Derived.Test.YtcchmkpodfjhcaaK4
namespace Go.Proofs.Ytcchmkpodfjhcaa.idealPlans
open Go.ChangeShapes Go.WideShapes Go.ChangeAt Go.RowKit
set_option linter.unusedVariables false
theorem leaves_pc : leaves Try.prog 3 108 = some [some .i64, some .i64, some .i64] := by kernel_rfl
theorem fin_len (xs : List Q3) : (finE xs).length ≤ 4096 := by
  unfold finE
  split
  · rename_i h
    rw [dE_len]
    exact (Rt.of (whyE_ok.1 h).1).len
  · simp
theorem wt_len (xs : List Q3) : (wtE xs).length ≤ 4096 := by
  unfold wtE
  split
  · rename_i h
    rw [waitE_len, dE_len]
    have := (Rt.of (whyE_ok.1 h).1).len
    omega
  · simp
theorem busy_len (xs : List Q3) : (busyE xs).length ≤ 4096 := by
  unfold busyE
  split
  · rename_i h
    have hR := Rt.of (whyE_ok.1 h).1
    have h1 := hR.fr.len hR.si
    have h2 := hR.len
    have : (pcs xs).n = xs.length := rfl
    omega
  · simp
set_option maxRecDepth 100000 in
set_option maxHeartbeats 16000000 in
theorem walk (A : Option Addr) (xs : List Q3) (cap : Nat) (w : World) (hx : R3 w w.heap.size A xs) (hlm : xs.length ≤ 9223372036854775807) :
    Calls Try.prog 9 #[.slice A xs.length cap] w fun e w' => e = .returned (.bool true) ∧ Below w.heap.size w w' := by
  have HX := Kept.mk hx
  clear hx
  by_cases hl : 100 < xs.length ∧ xs.length ≤ 4096
  · have d1 : decide ((100 : Int) < (xs.length : Int)) = true := decide_eq_true (by omega)
    have d2 : decide ((xs.length : Int) ≤ 4096) = true := decide_eq_true (by omega)
    go_enter Try.func9, Try.ntmps9
    go_wp2_with fail
    refine (lives_any w).mono ?_
    rintro e w1 ⟨rfl, b1⟩
    go_wp2
    go_ret
    exact ⟨rfl, b1⟩
  · have HM := Kept.mk (show ∀ W : World, R3 W W.heap.size A xs → Calls Try.prog 56 #[.slice A xs.length cap] W (IRes W (finE xs) (whyE xs)) ∧ Calls Try.prog 58 #[.slice A xs.length cap] W (IRes W (wtE xs) (whyE xs)) ∧ Calls Try.prog 60 #[.slice A xs.length cap] W (BRes W (busyE xs) (whyE xs)) ∧ Calls Try.prog 57 #[.slice A xs.length cap] W (IRes W (finE xs) (whyE xs)) ∧ Calls Try.prog 59 #[.slice A xs.length cap] W (IRes W (wtE xs) (whyE xs)) ∧ Calls Try.prog 61 #[.slice A xs.length cap] W (BRes W (busyE xs) (whyE xs)) from
      fun W h => ⟨finish_any h, waits_any h, busy_any h, (rfinish_any h).mono fun e w' h => h.ires, rwaits_any h, rbusy_any h⟩)
    have HC := Kept.mk (fun (W : World) (h : R3 W W.heap.size A xs) => And.intro (check_any A xs cap W h) (rcheck_any A xs cap W h))
    obtain ⟨L1, hL1⟩ : ∃ L, L = finE xs := ⟨_, rfl⟩
    obtain ⟨L2, hL2⟩ : ∃ L, L = wtE xs := ⟨_, rfl⟩
    obtain ⟨L3, hL3⟩ : ∃ L, L = busyE xs := ⟨_, rfl⟩
    obtain ⟨y, hy⟩ : ∃ y, y = whyE xs := ⟨_, rfl⟩
    obtain ⟨c, hc⟩ : ∃ c, c = chk xs := ⟨_, rfl⟩
    have g1 : L1.length ≤ 4096 := by rw [hL1]; exact fin_len xs
    have g2 : L2.length ≤ 4096 := by rw [hL2]; exact wt_len xs
    have g3 : L3.length ≤ 4096 := by rw [hL3]; exact busy_len xs
    rw [← hL1, ← hL2, ← hL3, ← hy] at HM
    rw [← hc] at HC
    have HG := Kept.mk (show L1.length ≤ 9223372036854775807 ∧ L2.length ≤ 9223372036854775807 ∧ L3.length ≤ 9223372036854775807 from ⟨by omega, by omega, by omega⟩)
    have HS := Kept.mk (fun (W : World) (A B : Option Addr) (c d : Nat) (h1 : Ints W W.heap.size A L1) (h2 : Ints W W.heap.size B L1) => show Calls Try.prog 64 #[.slice A L1.length c, .slice B L1.length d] W (fun e w' => e = .returned (.bool true) ∧ ∃ n, w' = W.drewN n) from (same13_any A B L1 L1 c d W h1 h2 HG.out.1 HG.out.1).mono fun e w' h => ⟨h.1.trans (by rw [decide_eq_true rfl]), by obtain ⟨n, hn⟩ := h.2; exact ⟨n, hn⟩⟩)
    have HS2 := Kept.mk (fun (W : World) (A B : Option Addr) (c d : Nat) (h1 : Ints W W.heap.size A L2) (h2 : Ints W W.heap.size B L2) => show Calls Try.prog 64 #[.slice A L2.length c, .slice B L2.length d] W (fun e w' => e = .returned (.bool true) ∧ ∃ n, w' = W.drewN n) from (same13_any A B L2 L2 c d W h1 h2 HG.out.2.1 HG.out.2.1).mono fun e w' h => ⟨h.1.trans (by rw [decide_eq_true rfl]), by obtain ⟨n, hn⟩ := h.2; exact ⟨n, hn⟩⟩)
    have HS3 := Kept.mk (fun (W : World) (A B : Option Addr) (c d : Nat) (h1 : RI W W.heap.size A L3) (h2 : RI W W.heap.size B L3) => show Calls Try.prog 65 #[.slice A L3.length c, .slice B L3.length d] W (fun e w' => e = .returned (.bool true) ∧ ∃ n, w' = W.drewN n) from (same40_any A B L3 L3 c d W h1 h2 HG.out.2.2 HG.out.2.2).mono fun e w' h => ⟨h.1.trans (by rw [decide_eq_true rfl]), by obtain ⟨n, hn⟩ := h.2; exact ⟨n, hn⟩⟩)
    clear hL1 hL2 hL3 hy hc g1 g2 g3
    have hyy : (y == y) = true := by simp
    have hcc : (c == c) = true := by simp
    obtain ⟨n, hn⟩ : ∃ n : Nat, n = xs.length := ⟨_, rfl⟩
    rw [← hn] at HM HC hl ⊢
    have d1 : (decide ((100 : Int) < (n : Int)) && decide ((n : Int) ≤ 4096)) = false := by
      rw [Bool.and_eq_false_iff, decide_eq_false_iff_not, decide_eq_false_iff_not]; omega
    have HD := Kept.mk d1
    clear hn hlm
    go_enter Try.func9, Try.ntmps9
    go_upto_region 1 with fail
    go_cut [22] from 15 to 22 (fun s wx => s = .bool false ∧ wx = w)
    case first =>
      by_cases h1 : 100 < n
      · have t1 : decide ((100 : Int) < (n : Int)) = true := decide_eq_true (by omega)
        have t2 : decide ((n : Int) ≤ 4096) = false := decide_eq_false (by omega)
        clear hl d1
        go_wp2
        go_meet
        exact ⟨rfl, rfl⟩
      · have t1 : decide ((100 : Int) < (n : Int)) = false := decide_eq_false (by omega)
        clear hl d1
        go_wp2
        go_meet
        exact ⟨rfl, rfl⟩
    case rest =>
      obtain ⟨rfl, rfl⟩ := hcut
      clear hl d1
      go_wp2_with fail
      refine (HM.out _ HX.out).1.mono ?_
      rintro e w1 ⟨A1, c1, rfl, i1, b1⟩
      have B1 := Kept.mk b1
      have X1 := Kept.mk ((HX.out.below b1).mono b1.size)
      have I1 := Kept.mk i1
      clear b1 i1
      go_wp2_with fail
      refine (HM.out _ X1.out).2.2.2.1.mono ?_
      rintro e w2 ⟨A2, c2, rfl, i2, b2⟩
      have B2 := Kept.mk (B1.out.trans (b2.mono B1.out.size))
      have X2 := Kept.mk ((X1.out.below b2).mono b2.size)
      have I12 := Kept.mk ((I1.out.below b2).mono b2.size)
      have I2 := Kept.mk i2
      clear b2 i2 B1 X1 I1
      go_wp2_with fail
      refine (HM.out _ X2.out).2.1.mono ?_
      rintro e w3 ⟨A3, c3, rfl, i3, b3⟩
      have B3 := Kept.mk (B2.out.trans (b3.mono B2.out.size))
      have X3 := Kept.mk ((X2.out.below b3).mono b3.size)
      have I13 := Kept.mk ((I12.out.below b3).mono b3.size)
      have I23 := Kept.mk ((I2.out.below b3).mono b3.size)
      have I3 := Kept.mk i3
      clear b3 i3 B2 X2 I12 I2
      go_wp2_with fail
      refine (HM.out _ X3.out).2.2.2.2.1.mono ?_
      rintro e w4 ⟨A4, c4, rfl, i4, b4⟩
      have B4 := Kept.mk (B3.out.trans (b4.mono B3.out.size))
      have X4 := Kept.mk ((X3.out.below b4).mono b4.size)
      have I14 := Kept.mk ((I13.out.below b4).mono b4.size)
      have I24 := Kept.mk ((I23.out.below b4).mono b4.size)
      have I34 := Kept.mk ((I3.out.below b4).mono b4.size)
      have I4 := Kept.mk i4
      clear b4 i4 B3 X3 I13 I23 I3
      go_wp2_with fail
      refine (HM.out _ X4.out).2.2.1.mono ?_
      rintro e w5 ⟨A5, c5, rfl, i5, b5⟩
      have B5 := Kept.mk (B4.out.trans (b5.mono B4.out.size))
      have X5 := Kept.mk ((X4.out.below b5).mono b5.size)
      have I15 := Kept.mk ((I14.out.below b5).mono b5.size)
      have I25 := Kept.mk ((I24.out.below b5).mono b5.size)
      have I35 := Kept.mk ((I34.out.below b5).mono b5.size)
      have I45 := Kept.mk ((I4.out.below b5).mono b5.size)
      have I5 := Kept.mk i5
      clear b5 i5 B4 X4 I14 I24 I34 I4
      go_wp2_with fail
      refine (HM.out _ X5.out).2.2.2.2.2.mono ?_
      rintro e w6 ⟨A6, c6, rfl, i6, b6⟩
      have B6 := Kept.mk (B5.out.trans (b6.mono B5.out.size))
      have X6 := Kept.mk ((X5.out.below b6).mono b6.size)
      have I16 := Kept.mk ((I15.out.below b6).mono b6.size)
      have I26 := Kept.mk ((I25.out.below b6).mono b6.size)
      have I36 := Kept.mk ((I35.out.below b6).mono b6.size)
      have I46 := Kept.mk ((I45.out.below b6).mono b6.size)
      have I56 := Kept.mk ((I5.out.below b6).mono b6.size)
      have I6 := Kept.mk i6
      clear b6 i6 B5 X5 I15 I25 I35 I45 I5
      obtain ⟨n1, hn1⟩ : ∃ n1, n1 = L1.length := ⟨_, rfl⟩
      obtain ⟨n2, hn2⟩ : ∃ n2, n2 = L2.length := ⟨_, rfl⟩
      obtain ⟨n3, hn3⟩ : ∃ n3, n3 = L3.length := ⟨_, rfl⟩
      rw [← hn1] at HS
      rw [← hn2] at HS2
      rw [← hn3] at HS3
      rw [← hn1, ← hn2, ← hn3]
      clear hn1 hn2 hn3 HM
      go_wp2_with fail
      refine (lives_any w6).mono ?_
      rintro e w7 ⟨rfl, b7⟩
      have B7 := Kept.mk (B6.out.trans (b7.mono B6.out.size))
      have X7 := Kept.mk ((X6.out.below b7).mono b7.size)
      have E7 := Kept.mk b7
      clear b7 X6 B6
      go_wp2_with fail
      refine (HC.out _ X7.out).1.mono ?_
      rintro e w8 ⟨rfl, b8⟩
      have B8 := Kept.mk (B7.out.trans (b8.mono B7.out.size))
      have X8 := Kept.mk ((X7.out.below b8).mono b8.size)
      have E8 := Kept.mk (E7.out.trans (b8.mono E7.out.size))
      clear b8 X7 B7 E7
      go_wp2_with fail
      refine (HC.out _ X8.out).2.mono ?_
      rintro e w9 ⟨rfl, b9⟩
      have B9 := Kept.mk (B8.out.trans (b9.mono B8.out.size))
      have E9 := Kept.mk (E8.out.trans (b9.mono E8.out.size))
      have J1 := Kept.mk ((I16.out.below E9.out).mono E9.out.size)
      have J2 := Kept.mk ((I26.out.below E9.out).mono E9.out.size)
      have J3 := Kept.mk ((I36.out.below E9.out).mono E9.out.size)
      have J4 := Kept.mk ((I46.out.below E9.out).mono E9.out.size)
      have J5 := Kept.mk ((I56.out.below E9.out).mono E9.out.size)
      have J6 := Kept.mk ((I6.out.below E9.out).mono E9.out.size)
      clear b9 X8 B8 E8 I16 I26 I36 I46 I56 I6
      go_wp2_with fail
      refine (HS.out _ _ _ c1 c2 J1.out J2.out).mono ?_
      rintro e w10 ⟨rfl, m1, hm1⟩
      have b10 : Below w9.heap.size w9 w10 := by rw [hm1]; exact (Below.refl _ _).drewN _
      have B10 := Kept.mk (B9.out.trans (b10.mono B9.out.size))
      have K3 := Kept.mk ((J3.out.below b10).mono b10.size)
      have K4 := Kept.mk ((J4.out.below b10).mono b10.size)
      have K5 := Kept.mk ((J5.out.below b10).mono b10.size)
      have K6 := Kept.mk ((J6.out.below b10).mono b10.size)
      clear hm1 b10 B9 J1 J2 J3 J4 J5 J6 E9
      go_wp2_with fail
      refine (HS2.out _ _ _ c3 c4 K3.out K4.out).mono ?_
      rintro e w11 ⟨rfl, m2, hm2⟩
      have b11 : Below w10.heap.size w10 w11 := by rw [hm2]; exact (Below.refl _ _).drewN _
      have B11 := Kept.mk (B10.out.trans (b11.mono B10.out.size))
      have M5 := Kept.mk ((K5.out.below b11).mono b11.size)
      have M6 := Kept.mk ((K6.out.below b11).mono b11.size)
      clear hm2 b11 B10 K3 K4 K5 K6
      go_wp2_with fail
      refine (HS3.out _ _ _ c5 c6 M5.out M6.out).mono ?_
      rintro e w12 ⟨rfl, m3, hm3⟩
      have b12 : Below w11.heap.size w11 w12 := by rw [hm3]; exact (Below.refl _ _).drewN _
      have B12 := Kept.mk (B11.out.trans (b12.mono B11.out.size))
      clear hm3 b12 B11 M5 M6
      go_wp2_with fail
      go_ret
      exact ⟨rfl, B12.out⟩
abbrev spec := Rows.idealPlansSpec
set_option maxRecDepth 100000 in
theorem contract (H : Type) (enc : TypeId × Value → H) (W : World) (base : Nat) (args : Array Value) (ds gs : List (DataW H)) (before : List MemPlace)
    (hval0 : ∀ (j : Nat) t v, Try.f9.params[j]? = some t → args[j]? = some v → Value.okWide Try.prog W .any base t v)
    (hW : DataW.Whole enc Try.prog Try.f9.params.toList spec.vars false W args.toList ds gs before) :
    Calls Try.prog 9 args W fun e W' => ∃ v, e = .returned v ∧ spec.post enc Try.prog Try.f9 false true false false W args v W' := by
  have hval : ∀ (j : Nat) t v, Try.f9.params[j]? = some t → args[j]? = some v → Value.okWide Try.prog W .any base t v := hval0
  have hW' := hW
  obtain ⟨p, q, hA0, hV, rfl, hfz, hnd⟩ := hW
  have hA : DataW.TrodAll enc Try.prog W 0 (fun _ => true) true Try.f9.params.toList args.toList ds p := hA0
  rw [Try.params9] at hA hval
  obtain ⟨v0, vs0, d0, ds0, p0, q0, hargs, rfl, rfl, h0, r0⟩ := trodAll_cons hA
  obtain ⟨rfl, rfl, rfl⟩ := trodAll_nil r0
  obtain rfl : args = #[v0] := by cases args; simp_all
  obtain ⟨rfl, rfl⟩ := trodVars_none hV
  obtain ⟨A, xs, cap, rfl, hI, hl, hwf⟩ := open_r3 3 Try.underlying84 leaves_pc (by kernel_rfl) (hval 0 _ v0 rfl rfl) h0
  refine (walk A xs cap W hI hl).mono fun e W' ⟨he, hb⟩ => ?_
  subst he
  exact ⟨_, rfl, law_post try_laidOut (by kernel_rfl) rfl rfl Try.underlying4 hW' rfl rfl rfl hb⟩

set_option maxRecDepth 100000 in
theorem lifted (os : Os) (started : os.Started) (H : Type) (enc : TypeId × Value → H) :
    ReturnsInHanded {} Try.checked os 9 .any (Rows.idealPlansSpec.pre6 enc Try.prog Try.f9 Rows.idealPlansRow.domain false) (Rows.idealPlansSpec.post enc Try.prog Try.f9 false true false false) := by
  refine returnsInHanded_of_change (C := Try.checked) own started (by kernel_rfl) Try.func9
    (ChangeSpec.witness6 (enc := enc) (C := Try.checked) false ⟨#[], #[.slice none 0 0], []⟩ 8 (by kernel_rfl) (by kernel_rfl) (by kernel_rfl) (by kernel_rfl)) ?_
  intro W base args ds gs before hval hW hcnd _
  exact contract H enc W base args ds gs before hval hW

theorem over : Rows.idealPlansRow.holds Try.pinned (OpenSpec.ofChange Rows.idealPlansSpec) :=
  OpenClaim.holds_of_wide 9 Try.f9 rfl rfl rfl rfl rfl rfl rfl ⟨rfl, rfl, rfl, rfl, rfl⟩ rfl rfl rfl rfl rfl (by kernel_rfl) Try.func9 (by kernel_rfl)
    (of_decide_eq_true (by kernel_rfl)) (by unfold Func.isWrapper; first | (rw [if_pos (by decide +kernel)]; kernel_rfl) | (rw [if_neg (by decide +kernel)]; exact ⟨rfl, rfl⟩))
    (fun os started H enc _ => lifted os started H enc)

/-- The statement. -/
theorem proved : Rows.IdealPlansSaid :=
  over
#print axioms proved
end Go.Proofs.Ytcchmkpodfjhcaa.idealPlans
