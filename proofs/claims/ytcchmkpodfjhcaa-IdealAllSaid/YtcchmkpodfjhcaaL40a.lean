/-
  The law IdealAll of vergelaw40: the busy stretches are together as long as all that the pieces take, no piece is done ahead of its time and cost, and the last one is done when the last stretch ends; every argument reads afterwards as before. No condition.
-/
import Derived.Test.YtcchmkpodfjhcaaL40
namespace Go.Proofs.Ytcchmkpodfjhcaa.idealAll
open Go.ChangeShapes Go.WideShapes Go.ChangeAt Go.RowKit
set_option linter.unusedVariables false
theorem leaves_pc : leaves Try.prog 3 108 = some [some .i64, some .i64, some .i64] := by kernel_rfl
theorem okB_take : ∀ (b : List (Nat × Nat)) (e : Int) (k : Nat), okB e b → okB e (b.take k)
  | [], _, k, _ => by simp [okB]
  | x :: r, e, 0, _ => trivial
  | x :: r, e, k + 1, h => ⟨h.1, h.2.1, okB_take r _ k h.2.2⟩
theorem lenB_append (a b : List (Nat × Nat)) : lenB (a ++ b) = lenB a + lenB b := by simp [lenB]
theorem lenB_take (b : List (Nat × Nat)) (k : Nat) : lenB (b.take k) ≤ lenB b := by
  have := lenB_append (b.take k) (b.drop k)
  rw [List.take_append_drop] at this
  omega
/-- When the last of the first k is done. -/
def lastF (f : Nat → Nat) : Nat → Nat
  | 0 => 0
  | k + 1 => max (lastF f k) (f k)
theorem lastF_le {f : Nat → Nat} {t : Nat} : ∀ {k : Nat}, (∀ i, i < k → f i ≤ t) → lastF f k ≤ t
  | 0, _ => Nat.zero_le _
  | k + 1, h => by
    have a := lastF_le (k := k) fun i hi => h i (by omega)
    have b := h k (by omega)
    rw [lastF]; omega
theorem lastF_ge {f : Nat → Nat} : ∀ {k i : Nat}, i < k → f i ≤ lastF f k
  | k + 1, i, h => by
    rw [lastF]
    by_cases e : i = k
    · subst e; omega
    · have := lastF_ge (f := f) (k := k) (i := i) (by omega)
      omega
set_option maxRecDepth 100000 in
set_option maxHeartbeats 16000000 in
theorem walk (A : Option Addr) (xs : List Q3) (cap : Nat) (w : World) (hx : R3 w w.heap.size A xs) (hlm : xs.length ≤ 9223372036854775807) :
    Calls Try.prog 11 #[.slice A xs.length cap] w fun e w' => e = .returned (.bool true) ∧ Below w.heap.size w w' := by
  have HX := Kept.mk hx
  clear hx
  go_enter Try.func11, Try.ntmps11
  go_wp2_with fail
  refine (lives_any w).mono ?_
  rintro e w1 ⟨rfl, b1⟩
  have B1 := Kept.mk b1
  have X1 := Kept.mk ((HX.out.below b1).mono b1.size)
  clear b1 HX
  by_cases hl : xs.length ≤ 200
  · have hl2 : decide ((200 : Int) < (xs.length : Int)) = false := decide_eq_false (by omega)
    by_cases hy : whyE xs = 0
    · -- all is right
      have hR : Rt xs := Rt.of (whyE_ok.1 hy).1
      have hE := hR.ended
      have HF := Kept.mk (fin_of (w := w1) (A := A) (cap := cap) (finE_ok hy) hy rfl (dE_len xs) X1.out)
      have HB := Kept.mk (fun (W : World) (hx : R3 W W.heap.size A xs) => busy_of (w := W) (A := A) (cap := cap) (show busyE xs = (sE xs).busy by unfold busyE; rw [if_pos hy]) hy rfl rfl hx)
      obtain ⟨nb, hnb⟩ : ∃ nb, nb = (sE xs).busy.length := ⟨_, rfl⟩
      rw [← hnb] at HB
      have HNB := Kept.mk hnb
      have hnb2 : nb ≤ xs.length := by rw [hnb]; exact hR.fr.len hR.si
      have HR := Kept.mk hR
      have HE := Kept.mk hE
      clear hy hR hE hnb
      go_wp2_with fail
      refine HF.out.mono ?_
      rintro e w2 ⟨A2, n2, rfl, hI2, b2⟩
      have B2 := Kept.mk (B1.out.trans (b2.mono B1.out.size))
      have X2 := Kept.mk ((X1.out.below b2).mono b2.size)
      have I2 := Kept.mk hI2
      clear B1 X1 HF hI2 b2
      go_wp2_with fail
      refine (HB.out w2 X2.out).mono ?_
      rintro e w3 ⟨A3, n3, rfl, hI3, b3⟩
      have B3 := Kept.mk (B2.out.trans (b3.mono B2.out.size))
      have X3 := Kept.mk ((X2.out.below b3).mono b3.size)
      have I3 := Kept.mk ((I2.out.below b3).mono b3.size)
      have R3' := Kept.mk hI3
      clear B2 X2 I2 HB hI3 b3
      go_wp2_with fail
      have hnn : ((xs.length : Int) != (xs.length : Int)) = false := by simp
      go_loopw [7, 8, 50] (fun u v t wr => ∃ k : Nat, k ≤ xs.length ∧ t = .int .i64 k ∧ u = .int .i64 (sm (pcs xs).C k : Int) ∧ v = .int .i64 (lastF (sE xs).done k : Int) ∧ Below w3.heap.size w3 wr) (fun _ _ t _ => xs.length - (intOf t).toNat)
      case atStart => exact ⟨0, by omega, rfl, rfl, rfl, Below.refl _ _⟩
      case round =>
        obtain ⟨k, hk, rfl, rfl, rfl, hb⟩ := hrel
        by_cases hlt : k < xs.length
        · have ik : (k : Int) < (xs.length : Int) := by omega
          obtain ⟨b, off, rfl, hbB, hc⟩ := (X3.out.below hb) (by omega)
          obtain ⟨q, hq, hqo, hqa, hqb, hqc⟩ := HR.out.at hlt
          obtain ⟨e1, e2, e3⟩ := hc k q hq
          obtain ⟨b2, off2, rfl, hbB2, hc2⟩ := (I3.out.below hb) (by rw [dE_len]; omega)
          have ef := hc2 k (by rw [dE_len]; omega)
          rw [dE_at xs hlt, Option.getD_some] at ef
          have hdn := HR.out.done hlt
          have hsm : sm (pcs xs).C (k + 1) = sm (pcs xs).C k + (pcs xs).C k := rfl
          have hlf : lastF (sE xs).done (k + 1) = max (lastF (sE xs).done k) ((sE xs).done k) := rfl
          have hsmb : sm (pcs xs).C k ≤ k * 1099511627776 := smE_mul (fun i hi => HR.out.C1 i (by show i < xs.length; omega))
          have hlb : lastF (sE xs).done k ≤ 9007199254740992 := lastF_le (fun i hi => (HR.out.done (by omega)).2)
          obtain ⟨qa, qb, qc⟩ := q
          simp only at e1 e2 e3 hqa hqb hqc
          have g1 : 0 ≤ qb := by omega
          have g2 : qb ≤ 4503599627370496 := hqo.b1
          have g3 : 1 ≤ qc := hqo.c0
          have g4 : qc ≤ 1099511627776 := hqo.c1
          obtain ⟨t, ht⟩ : ∃ t : Nat, t = (sE xs).done k := ⟨_, rfl⟩
          obtain ⟨s0, hs0⟩ : ∃ s0 : Nat, s0 = sm (pcs xs).C k := ⟨_, rfl⟩
          obtain ⟨s1, hs1⟩ : ∃ s1 : Nat, s1 = sm (pcs xs).C (k + 1) := ⟨_, rfl⟩
          obtain ⟨l0, hl0⟩ : ∃ l0 : Nat, l0 = lastF (sE xs).done k := ⟨_, rfl⟩
          obtain ⟨l1, hl1⟩ : ∃ l1 : Nat, l1 = lastF (sE xs).done (k + 1) := ⟨_, rfl⟩
          rw [← ht] at ef hdn
          rw [← hs0, ← hl0]
          have g5 : (t : Int) ≤ 9007199254740992 := by omega
          have hge : decide ((t : Int) < qb + qc) = false := decide_eq_false (by omega)
          have g6 : (s0 : Int) ≤ 439804651110400 := by have : k * 1099511627776 ≤ 200 * 1099511627776 := Nat.mul_le_mul_right _ (by omega); omega
          have hsum : (s0 : Int) + qc = (s1 : Int) := by omega
          have HMX := Kept.mk (show max (l0 : Int) (t : Int) = (l1 : Int) by omega)
          have HB2 := Kept.mk (hb.alloc hb.size (.cells #[.int .i64 qa, .int .i64 qb, .int .i64 qc] 108))
          have HS1 := Kept.mk hs1
          have HL1 := Kept.mk hl1
          have hef : (wr.alloc (.cells #[.int .i64 qa, .int .i64 qb, .int .i64 qc] 108)).cell? ⟨b2, off2 + k, none⟩ = some (.int .i64 (t : Int)) := ((below_box wr _).cell (p := ⟨b2, off2 + k, none⟩) (by have := hb.size; show b2 < _; omega)).trans ef
          have HXC := Kept.mk (show (wr.alloc (.cells #[.int .i64 qa, .int .i64 qb, .int .i64 qc] 108)).cell? ⟨wr.heap.size, 1, none⟩ = some (.int .i64 qb) ∧ (wr.alloc (.cells #[.int .i64 qa, .int .i64 qb, .int .i64 qc] 108)).cell? ⟨wr.heap.size, 2, none⟩ = some (.int .i64 qc) from ⟨cell_of_row _ _ 1 _ _ _ (heap_alloc_new _ _), cell_of_row _ _ 2 _ _ _ (heap_alloc_new _ _)⟩)
          clear hc hq hqo hqa hqb hqc hc2 hdn hsm hlf hsmb hlb ht hs0 hs1 hl0 hl1 hb
          go_upto_region 15 with fail
          obtain ⟨wa, hwa⟩ : ∃ wa, wa = wr.alloc (.cells #[.int .i64 qa, .int .i64 qb, .int .i64 qc] 108) := ⟨_, rfl⟩
          obtain ⟨xb, hxb⟩ : ∃ xb, xb = wr.heap.size := ⟨_, rfl⟩
          rw [← hwa] at hef HB2 ⊢
          rw [← hwa, ← hxb] at HXC
          rw [← hxb]
          obtain ⟨x1, x2⟩ := HXC.out
          clear hwa hxb HXC ef e1 e2 e3
          go_quiet (fail)
          go_wp2
          go_roundw
          case rel => exact ⟨k + 1, by omega, by go_num, by rw [← HS1.out], by rw [HMX.out, ← HL1.out], HB2.out.drewN _⟩
          case measure => simp [intOf]; omega
        · have hke : k = xs.length := by omega
          have ik : decide ((k : Int) < (xs.length : Int)) = false := decide_eq_false (by omega)
          have hsb : sm (pcs xs).C k ≤ k * 1099511627776 := smE_mul (fun i hi => HR.out.C1 i (by show i < xs.length; omega))
          obtain ⟨s0, hs0⟩ : ∃ s0 : Nat, s0 = sm (pcs xs).C k := ⟨_, rfl⟩
          obtain ⟨l0, hl0⟩ : ∃ l0 : Nat, l0 = lastF (sE xs).done k := ⟨_, rfl⟩
          rw [← hs0, ← hl0]
          have g6 : (s0 : Int) ≤ 439804651110400 := by have : k * 1099511627776 ≤ 200 * 1099511627776 := Nat.mul_le_mul_right _ (by omega); omega
          have HSUM := Kept.mk (show lenB (sE xs).busy = s0 by rw [HE.out.sum, hs0, hke]; rfl)
          have HEND := Kept.mk (show xs.length = 0 ∨ endB (-1) (sE xs).busy = (l0 : Int) from by
            rcases HE.out.ends with ⟨_, h0⟩ | ⟨bb, f, t, e, h1, i, h2, h3⟩
            · exact .inl h0
            · right
              rw [e, endB_snoc, hl0, hke]
              have h4 : lastF (sE xs).done xs.length ≤ t := lastF_le h1
              have h5 := lastF_ge (f := (sE xs).done) (k := xs.length) h2
              rw [h3] at h5
              omega)
          have HB2 := Kept.mk hb
          clear hke hsb hs0 hl0 hb
          go_wp2_with fail
          go_loopw [7, 9, 78] (fun u v t wr => ∃ j : Nat, j ≤ nb ∧ t = .int .i64 j ∧ u = .int .i64 ((s0 : Int) - (lenB ((sE xs).busy.take j) : Int)) ∧ v = .int .i64 (endB (-1) ((sE xs).busy.take j)) ∧ Below w3.heap.size w3 wr) (fun _ _ t _ => nb - (intOf t).toNat)
          case atStart => exact ⟨0, by omega, rfl, by simp [lenB], by simp [endB], HB2.out⟩
          case round =>
            clear HB2
            obtain ⟨j, hj, rfl, rfl, rfl, hb⟩ := hrel
            by_cases hlt2 : j < nb
            · have ij : (j : Int) < (nb : Int) := by omega
              obtain ⟨x, hx⟩ : ∃ x, (sE xs).busy[j]? = some x := ⟨(sE xs).busy[j]'(by have := HNB.out; omega), List.getElem?_eq_getElem _⟩
              obtain ⟨b, off, rfl, hbB, hc⟩ := (R3'.out.below hb) (by have := HNB.out; omega)
              obtain ⟨e1, e2⟩ := hc j x hx
              have htk : (sE xs).busy.take (j + 1) = (sE xs).busy.take j ++ [x] := by rw [List.take_add_one, hx]; rfl
              have hok := okB_take _ (-1) (j + 1) HE.out.ok
              rw [htk, okB_snoc] at hok
              have hlen1 : lenB ((sE xs).busy.take (j + 1)) = lenB ((sE xs).busy.take j) + (x.2 - x.1) := by rw [htk, lenB_snoc]
              have hlen2 := lenB_take (sE xs).busy (j + 1)
              have hend1 : endB (-1) ((sE xs).busy.take (j + 1)) = (x.2 : Int) := by rw [htk, endB_snoc]
              obtain ⟨jj, hjj, hja⟩ := HR.out.fr.b x (List.mem_of_getElem? hx)
              have hAb := HR.out.A jj hjj
              obtain ⟨xf, xt⟩ := x
              simp only at e1 e2 hok hlen1 hend1 hja
              obtain ⟨d0, hd0⟩ : ∃ d0 : Nat, d0 = lenB ((sE xs).busy.take j) := ⟨_, rfl⟩
              obtain ⟨d1, hd1⟩ : ∃ d1 : Nat, d1 = lenB ((sE xs).busy.take (j + 1)) := ⟨_, rfl⟩
              obtain ⟨en, hen⟩ : ∃ en, en = endB (-1) ((sE xs).busy.take j) := ⟨_, rfl⟩
              rw [← hd0, ← hd1] at hlen1
              rw [← hd1, HSUM.out] at hlen2
              rw [← hen] at hok
              rw [← hd0, ← hen]
              have t1 : decide ((xf : Int) ≤ en) = false := decide_eq_false (by omega)
              have t2 : decide ((xt : Int) ≤ (xf : Int)) = false := decide_eq_false (by omega)
              have t3 : decide (xt ≤ xf) = false := decide_eq_false (by omega)
              have t4 : (xf : Int) ≤ 4503599627370496 := by omega
              have t5 : (xt : Int) ≤ 9007199254740992 := by omega
              obtain ⟨u0, hu0⟩ : ∃ u0 : Int, u0 = (s0 : Int) - (d0 : Int) := ⟨_, rfl⟩
              obtain ⟨u1, hu1⟩ : ∃ u1 : Int, u1 = (s0 : Int) - (d1 : Int) := ⟨_, rfl⟩
              obtain ⟨dd, hdd⟩ : ∃ dd : Nat, dd = xt - xf := ⟨_, rfl⟩
              rw [← hu0]
              have t6 : (xt : Int) - (xf : Int) = (dd : Int) := by omega
              have t7 : u0 - (dd : Int) = u1 := by omega
              have t8 : 0 ≤ u0 ∧ u0 ≤ 439804651110400 := by omega
              have t9 : 0 ≤ u1 ∧ u1 ≤ 439804651110400 := by omega
              have t10 : (dd : Int) ≤ 9007199254740992 := by omega
              obtain ⟨t8a, t8b⟩ := t8
              obtain ⟨t9a, t9b⟩ := t9
              have HB3 := Kept.mk (hb.alloc hb.size (.cells #[.int .i64 (xf : Int), .int .i64 (xt : Int)] 110))
              have HU1 := Kept.mk (show u1 = (s0 : Int) - (lenB ((sE xs).busy.take (j + 1)) : Int) by rw [hu1, hd1])
              have HEN := Kept.mk hend1
              clear hc hx htk hok hlen1 hlen2 hend1 hja hAb hjj hd0 hd1 hen hu0 hu1 hdd hb
              go_wp2_with fail
              go_roundw
              case rel => exact ⟨j + 1, by omega, by go_num, by rw [← HU1.out], by rw [HEN.out], HB3.out⟩
              case measure => simp [intOf]; omega
            · have hje : j = nb := by omega
              have ij : decide ((j : Int) < (nb : Int)) = false := decide_eq_false (by omega)
              have hz : (s0 : Int) - (lenB ((sE xs).busy.take j) : Int) = 0 := by
                rw [hje, HNB.out, List.take_length, HSUM.out]; omega
              have he : endB (-1) ((sE xs).busy.take j) = endB (-1) (sE xs).busy := by rw [hje, HNB.out, List.take_length]
              rw [hz, he]
              obtain ⟨en, hen⟩ : ∃ en, en = endB (-1) (sE xs).busy := ⟨_, rfl⟩
              rw [← hen] at HEND ⊢
              have HBF := Kept.mk (B3.out.trans (hb.mono B3.out.size))
              clear hz he hen hje hb
              by_cases h0 : xs.length = 0
              · have hn0 : ((xs.length : Int) == 0) = true := by rw [beq_iff_eq]; omega
                clear h0
                go_wp2
                go_ret
                exact ⟨rfl, HBF.out⟩
              · have hn0 : ((xs.length : Int) == 0) = false := by rw [beq_eq_false_iff_ne]; omega
                have hee : (en == (l0 : Int)) = true := by
                  rcases HEND.out with h | h
                  · exact absurd h h0
                  · rw [h]; simp
                clear h0
                go_wp2
                go_ret
                exact ⟨rfl, HBF.out⟩
    · -- an error
      have HF := Kept.mk (fin_of (w := w1) (A := A) (cap := cap) (finE_bad hy) rfl rfl rfl X1.out)
      have HB := Kept.mk (fun (W : World) (hx : R3 W W.heap.size A xs) => busy_of (w := W) (A := A) (cap := cap) (show busyE xs = [] by unfold busyE; rw [if_neg hy]) rfl rfl rfl hx)
      have hne : (whyE xs != 0) = true := by simp [hy]
      obtain ⟨y, hyy⟩ : ∃ y, y = whyE xs := ⟨_, rfl⟩
      rw [← hyy] at HF HB hne
      have hey : (y == y) = true := by simp
      clear hy hyy
      go_wp2_with fail
      refine HF.out.mono ?_
      rintro e w2 ⟨A2, n2, rfl, hI2, b2⟩
      have B2 := Kept.mk (B1.out.trans (b2.mono B1.out.size))
      have X2 := Kept.mk ((X1.out.below b2).mono b2.size)
      clear B1 X1 HF hI2 b2
      go_wp2_with fail
      refine (HB.out w2 X2.out).mono ?_
      rintro e w3 ⟨A3, n3, rfl, hI3, b3⟩
      have B3 := Kept.mk (B2.out.trans (b3.mono B2.out.size))
      clear B2 X2 HB hI3 b3
      go_wp2
      go_ret
      exact ⟨rfl, B3.out⟩
  · have hl2 : decide ((200 : Int) < (xs.length : Int)) = true := decide_eq_true (by omega)
    go_wp2
    go_ret
    exact ⟨rfl, B1.out⟩
abbrev spec := Rows.idealAllSpec
set_option maxRecDepth 100000 in
theorem contract (H : Type) (enc : TypeId × Value → H) (W : World) (base : Nat) (args : Array Value) (ds gs : List (DataW H)) (before : List MemPlace)
    (hval0 : ∀ (j : Nat) t v, Try.f11.params[j]? = some t → args[j]? = some v → Value.okWide Try.prog W .any base t v)
    (hW : DataW.Whole enc Try.prog Try.f11.params.toList spec.vars false W args.toList ds gs before) :
    Calls Try.prog 11 args W fun e W' => ∃ v, e = .returned v ∧ spec.post enc Try.prog Try.f11 false true false false W args v W' := by
  have hval : ∀ (j : Nat) t v, Try.f11.params[j]? = some t → args[j]? = some v → Value.okWide Try.prog W .any base t v := hval0
  have hW' := hW
  obtain ⟨p, q, hA0, hV, rfl, hfz, hnd⟩ := hW
  have hA : DataW.TrodAll enc Try.prog W 0 (fun _ => true) true Try.f11.params.toList args.toList ds p := hA0
  rw [Try.params11] at hA hval
  obtain ⟨v0, vs0, d0, ds0, p0, q0, hargs, rfl, rfl, h0, r0⟩ := trodAll_cons hA
  obtain ⟨rfl, rfl, rfl⟩ := trodAll_nil r0
  obtain rfl : args = #[v0] := by cases args; simp_all
  obtain ⟨rfl, rfl⟩ := trodVars_none hV
  obtain ⟨A, xs, cap, rfl, hI, hl, hwf⟩ := open_r3 3 Try.underlying84 leaves_pc (by kernel_rfl) (hval 0 _ v0 rfl rfl) h0
  refine (walk A xs cap W hI hl).mono fun e W' ⟨he, hb⟩ => ?_
  subst he
  exact ⟨_, rfl, law_post try_laidOut (by kernel_rfl) rfl rfl Try.underlying4 hW' rfl rfl rfl hb⟩

set_option maxRecDepth 100000 in
theorem lifted (os : Os) (started : os.Started) (H : Type) (enc : TypeId × Value → H) :
    ReturnsInHanded {} Try.checked os 11 .any (Rows.idealAllSpec.pre6 enc Try.prog Try.f11 Rows.idealAllRow.domain false) (Rows.idealAllSpec.post enc Try.prog Try.f11 false true false false) := by
  refine returnsInHanded_of_change (C := Try.checked) own started (by kernel_rfl) Try.func11
    (ChangeSpec.witness6 (enc := enc) (C := Try.checked) false ⟨#[], #[.slice none 0 0], []⟩ 8 (by kernel_rfl) (by kernel_rfl) (by kernel_rfl) (by kernel_rfl)) ?_
  intro W base args ds gs before hval hW hcnd _
  exact contract H enc W base args ds gs before hval hW

theorem over : Rows.idealAllRow.holds Try.pinned (OpenSpec.ofChange Rows.idealAllSpec) :=
  OpenClaim.holds_of_wide 11 Try.f11 rfl rfl rfl rfl rfl rfl rfl ⟨rfl, rfl, rfl, rfl, rfl⟩ rfl rfl rfl rfl rfl (by kernel_rfl) Try.func11 (by kernel_rfl)
    (of_decide_eq_true (by kernel_rfl)) (by unfold Func.isWrapper; first | (rw [if_pos (by decide +kernel)]; kernel_rfl) | (rw [if_neg (by decide +kernel)]; exact ⟨rfl, rfl⟩))
    (fun os started H enc _ => lifted os started H enc)

/-- The statement. -/
theorem proved : Rows.IdealAllSaid :=
  over
#print axioms proved
end Go.Proofs.Ytcchmkpodfjhcaa.idealAll
