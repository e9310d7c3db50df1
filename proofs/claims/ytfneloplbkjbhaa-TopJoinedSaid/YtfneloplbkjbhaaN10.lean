/-
  rta.Bound.
-/
import Derived.Test.YtfneloplbkjbhaaN9
namespace Go.Proofs.Ytfneloplbkjbhaa
open Go.RowKit Go.Shelf
set_option linter.unusedVariables false
attribute [local go_sem] Oper.semAt_some
theorem lagV_bd {c : Cf} (ok : OkC c) (x : Tk) : 0 ≤ lagV c.mn x ∧ lagV c.mn x ≤ 1073741824 := by
  have := ok.m1
  have := ok.m2
  unfold lagV
  split <;> omega
set_option maxRecDepth 100000 in
set_option maxHeartbeats 4000000 in
theorem bound_any (c : Cf) (cs : Array Value) (w : World) (i : Int) (h : CV w w.heap.size c cs) : Calls Try.prog 5 #[.agg cs, .int .i64 i] w fun e w' => Below w.heap.size w w' ∧ ∃ v y, e = .returned (.tuple #[.int .i64 v, .int .i64 y]) ∧
    (¬ (∀ x ∈ allF c, x.y = 0) → y ≠ 0) ∧ ((∀ x ∈ allF c, x.y = 0) → ∀ (k : Nat) (x : Tk), i = k → c.ts[k]? = some x → v = bndV c x ∧ y = bndE c x) := by
  have HH := Kept.mk h
  obtain ⟨At, ct, Al, cl, Ah, ch, rfl, h5⟩ := h.x
  clear h h5
  obtain ⟨nt, hnt⟩ : ∃ nt, nt = c.ts.length := ⟨_, rfl⟩
  have HNT := Kept.mk hnt
  rw [← hnt] at HH
  have hbx := below_box w (.cells #[.int .i64 c.mn, .int .i64 c.mx, .int .i64 c.sw, .slice At nt ct, .slice Al c.ls.length cl, .slice Ah c.hs.length ch] 28)
  rw [← hnt]
  clear hnt
  go_enter Try.func5, Try.ntmps5
  go_wp2_with fail
  refine (ropen_any c _ _ i (HH.out.next hbx)).mono ?_
  rintro e w2 ⟨hb2, (⟨hna, y, hy, rfl⟩ | ⟨hall, hi, rfl⟩ | ⟨hall, k, x, sb, rfl, hx, hsh, hsb, rfl⟩)⟩
  · have HB := Kept.mk (hbx.trans (hb2.mono hbx.size))
    have d0 : (y == 0) = false := by simp [hy]
    have HN := Kept.mk hna
    have HYY := Kept.mk hy
    clear hb2 hbx hna
    go_wp2
    go_ret2
    exact ⟨HB.out, _, _, rfl, fun _ => HYY.out, fun h => (HN.out h).elim⟩
  · have HB := Kept.mk (hbx.trans (hb2.mono hbx.size))
    have HA := Kept.mk hall
    have HI := Kept.mk hi
    clear hb2 hbx hall hi
    go_wp2
    go_ret2
    exact ⟨HB.out, _, _, rfl, fun h => (h HA.out).elim, fun _ k x hk hx => by
      have := (List.getElem?_eq_some_iff.1 hx).1
      have := HI.out
      have := HNT.out
      omega⟩
  · have HB := Kept.mk (hbx.trans (hb2.mono hbx.size))
    have ok := okC_of hall
    have htb := ok.tb (List.mem_of_getElem? hx)
    have HX := Kept.mk hx
    have HA := Kept.mk hall
    have OK := Kept.mk ok
    have HTB := Kept.mk htb
    have HSH := Kept.mk hsh
    obtain ⟨hsb0, At', ct', Al', cl', Ah', ch', h1, h2, h3, h4⟩ := hsh
    obtain ⟨l0, l1⟩ := lagV_bd ok x
    have hd0 := htb.d0
    have hd1 := htb.d1
    obtain ⟨tk, tp, t2, t3, t4, t5, t6, t7, t8, t9⟩ := x
    simp only at h1 hd0 hd1
    have e0 : w2.cell? ⟨sb, 6, none⟩ = some (.int .u8 tk) := cell_of_row _ _ 6 _ _ _ h1
    have e1 : w2.cell? ⟨sb, 7, none⟩ = some (.int .i64 tp) := cell_of_row _ _ 7 _ _ _ h1
    have e2 : w2.cell? ⟨sb, 8, none⟩ = some (.int .i64 t2) := cell_of_row _ _ 8 _ _ _ h1
    have e3 : w2.cell? ⟨sb, 9, none⟩ = some (.int .i64 t3) := cell_of_row _ _ 9 _ _ _ h1
    have e4 : w2.cell? ⟨sb, 10, none⟩ = some (.int .i64 t4) := cell_of_row _ _ 10 _ _ _ h1
    have e5 : w2.cell? ⟨sb, 11, none⟩ = some (.int .i64 t5) := cell_of_row _ _ 11 _ _ _ h1
    have e6 : w2.cell? ⟨sb, 12, none⟩ = some (.int .i64 t6) := cell_of_row _ _ 12 _ _ _ h1
    have e7 : w2.cell? ⟨sb, 13, none⟩ = some (.int .i64 t7) := cell_of_row _ _ 13 _ _ _ h1
    have e8 : w2.cell? ⟨sb, 14, none⟩ = some (.int .i64 t8) := cell_of_row _ _ 14 _ _ _ h1
    have e9 : w2.cell? ⟨sb, 15, none⟩ = some (.int .i64 t9) := cell_of_row _ _ 15 _ _ _ h1
    have hsbl : sb < w2.heap.size := hsb0
    clear h1 h2 h3 h4 hb2 hbx hx hall ok htb hsb hsb0
    go_wp2_with fail
    refine (lag_any w2.heap.size sb c ⟨tk, tp, t2, t3, t4, t5, t6, t7, t8, t9⟩ ⟨tk, tp, t2, t3, t4, t5, t6, t7, t8, t9⟩ w2 HSH.out (Nat.le_refl _)).mono ?_
    rintro e w3 ⟨rfl, hb3⟩
    have HS3 := Kept.mk (HSH.out.below hb3)
    have hz3 := hb3.size
    have c10 : w3.cell? ⟨sb, 10, none⟩ = some (.int .i64 t4) := (hb3.cell (p := ⟨sb, 10, none⟩) hsbl).trans e4
    have HB3 := Kept.mk (HB.out.trans (hb3.mono HB.out.size))
    obtain ⟨lg, hlg⟩ : ∃ lg, lg = lagV c.mn ⟨tk, tp, t2, t3, t4, t5, t6, t7, t8, t9⟩ := ⟨_, rfl⟩
    rw [← hlg] at l0 l1 ⊢
    have HLG := Kept.mk hlg
    clear e0 e1 e2 e3 e4 e5 e6 e7 e8 e9 hb3 hlg HB
    by_cases hlate : t4 < lg
    · have d0 : decide (t4 < lg) = true := decide_eq_true hlate
      have HE := Kept.mk (show bndE c ⟨tk, tp, t2, t3, t4, t5, t6, t7, t8, t9⟩ = 11 by unfold bndE; rw [if_pos (by rw [← HLG.out]; exact hlate)])
      go_wp2
      go_ret2
      refine ⟨HB3.out, _, _, rfl, fun h => (h HA.out).elim, fun _ k' x' hk' hx' => ?_⟩
      obtain rfl : k = k' := by omega
      have := HX.out.symm.trans hx'
      injection this with this
      subst this
      exact ⟨by unfold bndV; rw [HE.out]; rfl, HE.out.symm⟩
    · have d0 : decide (t4 < lg) = false := decide_eq_false hlate
      go_wp2_with fail
      refine (sloads_any w2.heap.size sb c ⟨tk, tp, t2, t3, t4, t5, t6, t7, t8, t9⟩ w3 HS3.out hz3 OK.out).mono ?_
      rintro e w4 ⟨A4, c4, rfl, hR4, hb4, hn4⟩
      have hz4 := hb4.size
      have HS4 := Kept.mk (HS3.out.below (hb4.mono hz3))
      have HB4 := Kept.mk (HB3.out.trans (hb4.mono HB3.out.size))
      have hsb4 : sb < w4.heap.size := by omega
      have d10 : w4.cell? ⟨sb, 10, none⟩ = some (.int .i64 t4) := (hb4.cell (p := ⟨sb, 10, none⟩) (by show sb < _; omega)).trans c10
      obtain ⟨E2, hE2⟩ : ∃ E2, E2 = loE c.hs c.ls tp := ⟨_, rfl⟩
      obtain ⟨L, hL⟩ : ∃ L, L = urg c tp c.ts ++ loL c.hs c.ls tp := ⟨_, rfl⟩
      simp only at hR4 ⊢
      rw [← hL] at hR4
      rw [← hE2, ← hL]
      have HR4 := Kept.mk hR4
      have HEE := Kept.mk hE2
      have HLL := Kept.mk hL
      have HLATE := Kept.mk hlate
      have hLl : L.length ≤ 1000 := by
        rw [hL, List.length_append]
        have := urg_len (c := c) (p := tp) c.ts
        have := loL_len c.hs c.ls tp
        have := OK.out.t2
        have := OK.out.l2
        have := OK.out.h2
        omega
      clear hR4 hE2 hL hb4 c10 hn4
      by_cases hE : E2 = 0
      · have d1 : (E2 == 0) = true := by simp [hE]
        subst hE
        obtain ⟨bs, hbs⟩ : ∃ bs, bs = bas c ⟨tk, tp, t2, t3, t4, t5, t6, t7, t8, t9⟩ := ⟨_, rfl⟩
        obtain ⟨sv, hsv⟩ : ∃ sv, sv = soV bs L (t4 - lg) := ⟨_, rfl⟩
        obtain ⟨se, hse⟩ : ∃ se, se = stE bs L (t4 - lg) := ⟨_, rfl⟩
        have hwr : IntKind.i64.wrap (t4 - lg) = t4 - lg := IntWalk.i64_in _ (by omega)
        have HF := Kept.mk (fun (V : World) (hb : Below w4.heap.size w4 V) => show V.cell? ⟨sb, 10, none⟩ = some (.int .i64 t4) from (hb.cell (p := ⟨sb, 10, none⟩) hsb4).trans d10)
        have HC1 := Kept.mk (fun (V : World) (hb : Below w4.heap.size w4 V) => show Calls Try.prog 13 #[.pointer (some ⟨sb, 0, none⟩)] V (fun e V' => e = .returned (.int .i64 bs) ∧ Below V.heap.size V V') from by
          rw [hbs]
          exact base_any w2.heap.size sb c _ V (HS4.out.below (hb.mono (by omega))) (by have := hb.size; omega) OK.out HTB.out)
        have HC2 := Kept.mk (fun (V : World) (hb : Below w4.heap.size w4 V) => show Calls Try.prog 12 #[.int .i64 bs, .slice A4 L.length c4, .int .i64 (t4 - lg)] V (fun e V' => e = .returned (.tuple #[.int .i64 sv, .int .i64 se]) ∧ Below V.heap.size V V') from by
          rw [hsv, hse]
          exact solve_any bs A4 L c4 (t4 - lg) V ((HR4.out.below hb).mono hb.size) (by omega))
        have HC3 := Kept.mk (fun (V : World) (hb : Below w4.heap.size w4 V) => show Calls Try.prog 12 #[.int .i64 bs, .slice A4 L.length c4, .int .i64 (IntKind.i64.wrap (t4 - lg))] V (fun e V' => e = .returned (.tuple #[.int .i64 sv, .int .i64 se]) ∧ Below V.heap.size V V') from by
          rw [hwr]; exact HC2.out V hb)
        have HBE := Kept.mk (show bndE c ⟨tk, tp, t2, t3, t4, t5, t6, t7, t8, t9⟩ = se by
          unfold bndE
          rw [← HLG.out, if_neg (Int.not_lt.2 HLATE.out), ← HEE.out, if_neg (by simp), ← hbs, hse, HLL.out]; rfl)
        have HBV := Kept.mk (show bndV c ⟨tk, tp, t2, t3, t4, t5, t6, t7, t8, t9⟩ = if se ≠ 0 then 0 else sv + lg by
          unfold bndV
          rw [HBE.out, ← HLG.out, ← hbs, hsv, HLL.out]; rfl)
        have HSV := Kept.mk (show se = 0 → 0 ≤ sv + lg ∧ sv + lg ≤ 9007199254740992 from fun h0 => by
          rw [hse] at h0
          obtain ⟨z, q1, q2, q3, q4, q5, q6, q7, q8⟩ := so_least h0
          rw [← hsv] at q1
          omega)
        have HB : Below w4.heap.size w4 w4.drew := (Below.refl _ _).drewN 1
        clear hbs hsv hse hwr
        go_wp2_with fail
        go_region_held3 (fun V => V.cell? ⟨sb, 10, none⟩ = some (.int .i64 t4)) ((first | exact HF.out _ HB | go_keep)) (first
          | (go_at_call 13; refine (HC1.out _ HB).mono ?_; rintro e w5 ⟨rfl, hb5⟩; replace HB := HB.trans (hb5.mono HB.size); clear hb5)
          | (go_at_call 12; refine (HC3.out _ HB).mono ?_; rintro e w5 ⟨rfl, hb5⟩; replace HB := HB.trans (hb5.mono HB.size); clear hb5))
        all_goals
          have HBF := Kept.mk (HB4.out.trans (HB.mono HB4.out.size))
          clear HB
          by_cases hse : se = 0
          · have d2 : (se == 0) = true := by simp [hse]
            have HSW := Kept.mk (HSV.out hse)
            rw [if_neg (by omega)] at HBV
            subst hse
            go_wp2
            go_ret2
            refine ⟨HBF.out, _, _, rfl, by first | exact HA.out | exact fun h => (h HA.out).elim | (intro a b; exact HA.out a b) | (intro a b c; exact absurd (HA.out a b) c), fun _ k' x' hk' hx' => ?_⟩
            obtain rfl : k = k' := by omega
            have hxx := HX.out.symm.trans hx'
            injection hxx with hxx
            subst hxx
            exact ⟨by rw [HBV.out]; first | exact IntWalk.wrap64_in _ (by have := HSW.out; omega) | exact IntWalk.i64_in _ (by have := HSW.out; omega) | rfl, HBE.out.symm⟩
          · have d2 : (se == 0) = false := by simp [hse]
            rw [if_pos hse] at HBV
            clear hse
            go_wp2
            go_ret2
            refine ⟨HBF.out, _, _, rfl, fun h => (h HA.out).elim, fun _ k' x' hk' hx' => ?_⟩
            obtain rfl : k = k' := by omega
            have hxx := HX.out.symm.trans hx'
            injection hxx with hxx
            subst hxx
            exact ⟨HBV.out.symm, HBE.out.symm⟩
      · have d1 : (E2 == 0) = false := by simp [hE]
        have HBE := Kept.mk (show bndE c ⟨tk, tp, t2, t3, t4, t5, t6, t7, t8, t9⟩ = E2 by
          unfold bndE
          rw [← HLG.out, if_neg (Int.not_lt.2 HLATE.out), ← HEE.out, if_pos hE])
        have HBV := Kept.mk (show bndV c ⟨tk, tp, t2, t3, t4, t5, t6, t7, t8, t9⟩ = 0 by
          unfold bndV
          rw [HBE.out, if_pos hE])
        clear hE
        go_wp2
        go_ret2
        refine ⟨HB4.out, _, _, rfl, fun h => (h HA.out).elim, fun _ k' x' hk' hx' => ?_⟩
        obtain rfl : k = k' := by omega
        have hxx := HX.out.symm.trans hx'
        injection hxx with hxx
        subst hxx
        exact ⟨HBV.out.symm, HBE.out.symm⟩
end Go.Proofs.Ytfneloplbkjbhaa
