/-
  The law TopExpires: its walk.
-/
import Derived.Test.YtakkfgkogomjbaaDoorWL1
import Derived.Deep.RegionLawGrows
import Derived.Deep.CutBlock
import Derived.Deep.CutRange
namespace Go.Proofs.YtakkfgkogomjbaaDoor
open Go.RowKit Go.Shelf
set_option linter.unusedVariables false
set_option linter.unusedSimpArgs false
set_option maxRecDepth 100000 in
set_option maxHeartbeats 16000000 in
theorem expires_walk (now room : Int) (Al : Option Addr) (l : List Q2) (cl : Nat) (As : Option Addr) (ss : List Int) (cs : Nat) (w : World) (hl : R2 w w.heap.size Al l) (hwf : ∀ x ∈ l, x.wf) (hll : l.length ≤ 9223372036854775807) (hs : Ints w w.heap.size As ss) (hsn : As = none → cs = 0) (hsz : ss.length * 8 ≤ 140737488351232) (hT : Tab w) (hs0 : 0 < w.heap.size) :
    Calls Tryd.prog 4 #[.int .i64 now, .int .i64 room, .slice Al l.length cl, .slice As ss.length cs] w fun e w' => e = .returned (.bool true) ∧ Below w.heap.size w w' := by
  have HL := Kept.mk hl
  have HWF := Kept.mk hwf
  have HS := Kept.mk hs
  have HSN := Kept.mk hsn
  have HTB := Kept.mk hT
  have HS0 := Kept.mk hs0
  obtain ⟨kl, hkl⟩ : ∃ kl, kl = l.length := ⟨_, rfl⟩
  have HKL := Kept.mk hkl
  have HP0 := new_walk 2 1 (by omega) (by omega) (by omega) (by omega) w
  rw [← hkl] at hll ⊢
  clear hl hwf hs hsn hT hs0 hkl
  go_enter Tryd.func4, Tryd.ntmps4
  go_wp2_with fail
  refine (begins_any _).mono ?_
  rintro e w1 ⟨rfl, rfl⟩
  go_wp2_with fail
  refine HP0.mono ?_
  rintro e w1 ⟨p0, L0, K0, rfl, hP, hb1⟩
  have HP := Kept.mk hP
  have HB1 := Kept.mk hb1
  clear HP0 hP hb1
  by_cases hg : 0 ≤ now ∧ now ≤ 4503599627370496 ∧ 1 ≤ room ∧ room ≤ 4096
  · obtain ⟨n0, n1, r0, r1⟩ := hg
    obtain ⟨n, rfl⟩ := Int.eq_ofNat_of_zero_le (show 0 ≤ room by omega)
    have HN := wnew_any now n n0 n1 (by omega) (by omega) w1
    go_wp2_with fail
    refine HN.mono ?_
    rintro e w2 ⟨hi, wb, I, M, p, L, K, rfl, hW, hb2⟩
    have HF := pfree (HP.out.below hb2)
    have HW := Kept.mk hW
    have HB2 := Kept.mk hb2
    have hpl : ((newS 2 1).pile.length : Int) = 2 := rfl
    rw [hpl] at HF
    clear HN hW hb2 hpl
    by_cases hlen : 100 < kl
    · have d0 : decide ((100 : Int) < (kl : Int)) = true := decide_eq_true (by omega)
      have HBF := Kept.mk (HB1.out.trans (HB2.out.mono HB1.out.size))
      clear hlen
      go_wp2_with ((go_at_call 15; refine (HF).mono ?_; rintro e w' ⟨rfl, rfl⟩))
      go_ret
      exact ⟨rfl, HBF.out⟩
    · have d0 : decide ((100 : Int) < (kl : Int)) = false := decide_eq_false (by omega)
      have HLEN := Kept.mk (show kl ≤ 100 by omega)
      have HLC := Kept.mk (fun (j : Nat) (x : Q2) (hj : l[j]? = some x) => show ∃ b off, Al = some ⟨b, off, none⟩ ∧ b < w1.heap.size ∧ w2.cell? ⟨b, off + j * 2, none⟩ = some (.int .i64 x.a) ∧ w2.cell? ⟨b, off + j * 2 + 1, none⟩ = some (.int .i64 x.b) from by
        obtain ⟨b, off, e, hb, hc⟩ := ((HL.out.below HB1.out).below (HB2.out.mono HB1.out.size)) (by have := (List.getElem?_eq_some_iff.1 hj).1; omega)
        exact ⟨b, off, e, by have := HB1.out.size; omega, hc j x hj⟩)
      obtain ⟨i0, hi0, hz0, hz1, hz2⟩ := info_parts info_due
      have hlo0 : 0 < w1.heap.size := by have := HB1.out.size; have := HS0.out; omega
      have HLO := Kept.mk hlo0
      have hhi : w1.heap.size ≤ hi ∧ hi ≤ w2.heap.size := by
        obtain ⟨S, T, f, F, h, _⟩ := HW.out.of
        exact ⟨by have := h.ly.lh; omega, h.hh⟩
      have HHI := Kept.mk hhi
      have hT2 : Tab w2 := (HTB.out.bel HB1.out HS0.out).bel HB2.out hlo0
      have HT2 := Kept.mk hT2
      clear hlen hlo0 hhi hT2
      go_wp2_with ((go_at_call 15; refine (HF).mono ?_; rintro e w' ⟨rfl, rfl⟩))
      go_loopw [13, 70] (fun v i wr => ∃ (j : Nat) (A O : List Tm) (tu : Int), j ≤ kl ∧ i = .int .i64 j ∧ Kept (WAt wr w1.heap.size hi wb I M p L K n now tu A) ∧ Kept ((Srt O ∧ O.Perm A) ∧ 0 ≤ tu ∧ tu ≤ j ∧ A.length ≤ j ∧ ∀ t ∈ A, (Lit.int .i64 t.id).wf = true) ∧ Kept (wr.ownsRow hi 52 2 v O.length (O.flatMap encD) ∧ (O = [] → v = .slice none 0 0)) ∧ Kept (Kp w1.heap.size hi w2 wr)) (fun _ i _ => kl - (intOf i).toNat)
      case atStart => exact ⟨0, [], [], 0, by omega, rfl, HW, ⟨⟨List.Pairwise.nil, List.Perm.refl _⟩, by omega, by omega, by simp, fun t h => by cases h⟩, ⟨World.ownsRow_nil _ _ _ _, fun _ => rfl⟩, ⟨Kp.refl _ _ _⟩⟩
      case round =>
        obtain ⟨j, A, O, tu, hjl, rfl, hWr, hO, hV, hK⟩ := hrel
        obtain ⟨Av, cv, hv⟩ := own_slice hV.out.1
        subst hv
        by_cases hlt : j < kl
        · obtain ⟨x, hx⟩ : ∃ x, l[j]? = some x := ⟨_, List.getElem?_eq_getElem (by have := HKL.out; omega)⟩
          obtain ⟨bl, ol, rfl, hbl, hc0, hc1⟩ := HLC.out j x hx
          obtain ⟨hwa, hwb⟩ := HWF.out x (List.mem_of_getElem? hx)
          obtain ⟨xa, xb⟩ := x
          simp only at hc0 hc1 hwa hwb
          have e0 : wr.cell? ⟨bl, ol + j * 2, none⟩ = some (.int .i64 xa) := (World.cell?_of_block (a := ⟨bl, ol + j * 2, none⟩) (hK.out.block bl (by have := HHI.out; omega) (.inl hbl))).trans hc0
          have e1 : wr.cell? ⟨bl, ol + j * 2 + 1, none⟩ = some (.int .i64 xb) := (World.cell?_of_block (a := ⟨bl, ol + j * 2 + 1, none⟩) (hK.out.block bl (by have := HHI.out; omega) (.inl hbl))).trans hc1
          obtain ⟨wa, hwA⟩ : ∃ wa, wa = wr.alloc (.cells #[.int .i64 xa, .int .i64 xb] 52) := ⟨_, rfl⟩
          have HWA := Kept.mk hwA
          have hwrz : hi ≤ wr.heap.size := by have := HHI.out; have := hK.out.size; omega
          have hWa : WAt wa w1.heap.size hi wb I M p L K n now tu A := by rw [hwA]; exact hWr.out.below ((Below.refl _ _).alloc hwrz _)
          have HI := winsert_any hWa (by have := hO.out.2.2.1; have := HLEN.out; omega) hwa xb
          have hVa := hV.out.1.alloc (.cells #[.int .i64 xa, .int .i64 xb] 52)
          rw [← hwA] at hVa
          have HVA := Kept.mk hVa
          have KA := Kept.mk (show Kp w1.heap.size hi w2 wa by rw [hwA]; exact hK.out.alloc _)
          have hbx : wa.heap[wr.heap.size]? = some (.cells #[.int .i64 xa, .int .i64 xb] 52) := by rw [hwA]; exact heap_alloc_new _ _
          obtain ⟨bx, hbxe⟩ : ∃ bx, bx = wr.heap.size := ⟨_, rfl⟩
          have hbxs : bx < wa.heap.size := by rw [hwA, hbxe]; simp
          rw [← hbxe] at hbx hwrz
          have HBX := Kept.mk hbx
          have x0 : wa.cell? ⟨bx, 0, none⟩ = some (.int .i64 xa) := cell_of_row _ _ 0 _ _ _ hbx
          have x1 : wa.cell? ⟨bx, 1, none⟩ = some (.int .i64 xb) := cell_of_row _ _ 1 _ _ _ hbx
          obtain ⟨cc, hcc⟩ : ∃ cc, cc = wIns n A tu xa xb := ⟨_, rfl⟩
          have HCC := Kept.mk hcc
          rw [← hcc] at HI
          go_upto_region 13 with fail
          rw [← hwA, ← hbxe]
          clear hc0 hc1 hx e0 e1 hwA hWa hVa hbx hbxe hcc
          go_wp2_with fail
          refine HI.mono ?_
          rintro e w3 ⟨rfl, hW3, hk3⟩
          have W3 := Kept.mk hW3
          have K3 := Kept.mk (KA.out.trans hk3)
          have V3 := Kept.mk (own_kp HVA.out hk3 (Nat.le_refl _))
          have hbx3 : w3.heap[bx]? = some (.cells #[.int .i64 xa, .int .i64 xb] 52) := (hk3.block bx hbxs (.inr hwrz)).trans HBX.out
          have y0 : w3.cell? ⟨bx, 0, none⟩ = some (.int .i64 xa) := cell_of_row _ _ 0 _ _ _ hbx3
          have y1 : w3.cell? ⟨bx, 1, none⟩ = some (.int .i64 xb) := cell_of_row _ _ 1 _ _ _ hbx3
          have HBX3 := Kept.mk hbx3
          clear hW3 hk3 HI x0 x1 hbx3
          by_cases hcode : cc.1 = 0
          · have t1 : (cc.1 != 0) = false := by simp [hcode]
            have HCO := Kept.mk hcode
            clear hcode
            have HSM := Kept.mk (show cc = (0, tu + 1, A ++ [⟨xa, xb, tu + 1⟩]) from by
              have hco := HCO.out
              rw [HCC.out] at hco ⊢
              unfold wIns at hco ⊢
              by_cases h1 : ¬ (0 ≤ xb ∧ xb ≤ 4503599627370496)
              · rw [if_pos h1] at hco; exact absurd hco (by simp)
              · rw [if_neg h1] at hco ⊢
                by_cases h2 : xa ∈ A.map Tm.id
                · rw [if_pos h2] at hco; exact absurd hco (by simp)
                · rw [if_neg h2] at hco ⊢
                  by_cases h3 : n ≤ A.length
                  · rw [if_pos h3] at hco; exact absurd hco (by simp)
                  · rw [if_neg h3])
            have WF := Kept.mk (show WAt w3 w1.heap.size hi wb I M p L K n now (tu + 1) (A ++ [⟨xa, xb, tu + 1⟩]) from by have h := W3.out; rw [HSM.out] at h; exact h)
            have HOL := Kept.mk (show O.length ≤ 100 from by have := hO.out.1.2.length_eq; have := hO.out.2.2.2.1; have := HLEN.out; omega)
            go_upto_block 2 with fail
            go_cut [16] from 83 to 97 (fun s wx => ∃ i : Nat, i ≤ O.length ∧ s = .int .i64 i ∧ Kept (∀ m y, i ≤ m → O[m]? = some y → xb < y.du) ∧ Kept (i = 0 ∨ ∃ y, O[i - 1]? = some y ∧ y.du ≤ xb) ∧ Kept (∃ q, wx = w3.drewN q))
            case first =>
              go_wp2_with fail
              go_loopw [16] (fun s wz => ∃ i : Nat, i ≤ O.length ∧ s = .int .i64 i ∧ Kept (∀ m y, i ≤ m → O[m]? = some y → xb < y.du) ∧ Kept (∃ q, wz = w3.drewN q)) (fun s _ => (intOf s).toNat)
              case atStart => exact ⟨O.length, Nat.le_refl _, rfl, ⟨fun m y hm hy => by have := (List.getElem?_eq_some_iff.1 hy).1; omega⟩, ⟨0, rfl⟩⟩
              case round =>
                obtain ⟨i, hiO, rfl, hB, hq⟩ := hrel
                have hz : wr.heap = w3.heap := by obtain ⟨q, rfl⟩ := hq.out; rfl
                have z1 : wr.cell? ⟨bx, 1, none⟩ = some (.int .i64 xb) := cell_of_row _ _ 1 _ _ _ (by rw [hz]; exact HBX3.out)
                have HZ := Kept.mk hz
                clear hz
                by_cases hi0 : 0 < i
                · obtain ⟨k, rfl⟩ : ∃ k, i = k + 1 := ⟨i - 1, by omega⟩
                  clear hi0
                  have hcast : (((k + 1 : Nat) : Int)) = (k : Int) + 1 := by omega
                  have hko : (k : Int) < (O.length : Int) := by omega
                  have HKO := Kept.mk (show k + 1 ≤ O.length from hiO)
                  have hk100 : k < 100 := by have := HOL.out; omega
                  rw [hcast]
                  have g1 : decide ((0 : Int) < (k : Int) + 1) = true := decide_eq_true (by omega)
                  obtain ⟨y, hy⟩ : ∃ y, O[k]? = some y := ⟨_, List.getElem?_eq_getElem (by omega)⟩
                  obtain ⟨g, hge, hgs, hgc⟩ := DuR.of_own rfl V3.out (by omega)
                  subst hge
                  have c1 : wr.cell? ⟨g, k * 2 + 1, none⟩ = some (.int .i64 y.du) := (World.cell?_of_block (a := ⟨g, k * 2 + 1, none⟩) (by rw [HZ.out])).trans (hgc _ _ hy).2
                  by_cases hgt : xb < y.du
                  · have g2 : decide (xb < y.du) = true := decide_eq_true hgt
                    have HY := Kept.mk hy
                    have HGT := Kept.mk hgt
                    clear hy hgc hgt hcast hiO
                    go_wp2_with fail
                    go_quiet (fail)
                    go_wp2_with fail
                    go_roundw
                    case rel =>
                      refine ⟨k, by have := HKO.out; omega, by go_num, ⟨fun m u hm hu => ?_⟩, ?_⟩
                      · by_cases hmi : m = k
                        · subst hmi; rw [HY.out] at hu; injection hu with hu; rw [← hu]; exact HGT.out
                        · exact hB.out m u (by omega) hu
                      · obtain ⟨q, rfl⟩ := hq.out; exact ⟨_, by rw [World.drewN_drewN]⟩
                    case measure => simp [intOf]
                  · have g2 : decide (xb < y.du) = false := decide_eq_false hgt
                    have HI2 := Kept.mk (show k + 1 = 0 ∨ ∃ y, O[k + 1 - 1]? = some y ∧ y.du ≤ xb from .inr ⟨y, hy, by omega⟩)
                    clear hy hgc hgt hiO
                    go_wp2_with fail
                    go_quiet (fail)
                    go_wp2_with fail
                    go_meet
                    case rel =>
                      refine ⟨k + 1, HKO.out, by first | rfl | (rw [hcast]), hB, HI2, ?_⟩
                      obtain ⟨q, rfl⟩ := hq.out; exact ⟨_, by rw [World.drewN_drewN]⟩
                · obtain rfl : i = 0 := by omega
                  go_wp2_with fail
                  go_quiet (fail)
                  go_wp2_with fail
                  go_meet
                  case rel =>
                    refine ⟨0, Nat.zero_le _, rfl, hB, ⟨.inl rfl⟩, ?_⟩
                    obtain ⟨q, rfl⟩ := hq.out; exact ⟨_, by rw [World.drewN_drewN]⟩
            case rest =>
              obtain ⟨i, hiO, rfl, hB, hI, hq⟩ := hcut
              have hH : wc.heap = w3.heap := by obtain ⟨q, rfl⟩ := hq.out; rfl
              go_upto_region 17 with fail
              obtain ⟨wd, hwd⟩ : ∃ wd, wd = wc.drew := ⟨_, rfl⟩
              have hb0 : Below w3.heap.size w3 wd := by obtain ⟨q, rfl⟩ := hq.out; rw [hwd]; exact ((Below.refl _ _).drewN q).drewN 1
              have BD := Kept.mk hb0
              have KD := Kept.mk (show Kp w1.heap.size hi w2 wd from kp_bel K3.out hb0 (by have := K3.out.size; omega))
              have VD := Kept.mk (own_kp V3.out (kp_bel (Kp.refl hi hi w3) hb0 (Nat.le_refl _)) (Nat.le_refl _))
              have hdx : wd.heap[bx]? = some (.cells #[.int .i64 xa, .int .i64 xb] 52) := (hb0.block bx (by have := (Array.getElem?_eq_some_iff.1 HBX3.out).1; omega)).trans HBX3.out
              have HHELD := Kept.mk (show wd.cell? ⟨bx, 0, none⟩ = some (.int .i64 xa) ∧ wd.cell? ⟨bx, 1, none⟩ = some (.int .i64 xb) from ⟨cell_of_row _ _ 0 _ _ _ hdx, cell_of_row _ _ 1 _ _ _ hdx⟩)
              have HDX := Kept.mk hdx
              have hi100 : i ≤ 100 := by have := HOL.out; omega
              have hol100 : O.length ≤ 100 := HOL.out
              have HIO := Kept.mk hiO
              have HSB := Kept.mk (fun (V : World) (hV : Below wd.heap.size wd V) => show (fun V : World => V.cell? ⟨bx, 0, none⟩ = some (.int .i64 xa) ∧ V.cell? ⟨bx, 1, none⟩ = some (.int .i64 xb)) V from by
                have h := (hV.block bx (Array.getElem?_eq_some_iff.1 hdx).1).trans hdx
                exact ⟨cell_of_row _ _ 0 _ _ _ h, cell_of_row _ _ 1 _ _ _ h⟩)
              have H3 := Kept.mk (show hi ≤ w3.heap.size by have := K3.out.size; have := HHI.out; omega)
              have HHD := Kept.mk (show hi ≤ wd.heap.size by have := H3.out; have := hb0.size; omega)
              have HWD := Kept.mk (show w2.heap.size ≤ wd.heap.size from KD.out.size)
              have VX := Kept.mk (fun (V : World) (hV : Below wd.heap.size wd V) => own_kp VD.out (kp_bel (Kp.refl hi hi wd) hV (Nat.le_refl _)) (Nat.le_refl _))
              clear hb0 hdx hH hq y0 y1
              by_cases hne : O = []
              · obtain ⟨rfl, rfl⟩ : Av = none ∧ cv = 0 := by
                  have := hV.out.2 hne
                  injection this with h1 h2 h3
                  exact ⟨h1, h3⟩
                have hol0 : O.length = 0 := by rw [hne]; rfl
                obtain rfl : i = 0 := by omega
                have HNE := Kept.mk hne
                rw [hol0]
                clear hne hol0
                refine wp_region_late (fun V : World => V.cell? ⟨bx, 0, none⟩ = some (.int .i64 xa) ∧ V.cell? ⟨bx, 1, none⟩ = some (.int .i64 xb)) (fun _ => false) (by kernel_rfl) ?_
                rw [← hwd]
                clear hwd
                refine wpAnyT_take (i := 0) (v := ?v0a) [0] (by simp only [List.getElem?_toArray, List.getElem?_cons_succ, List.getElem?_cons_zero]; exact rfl) (by kernel_rfl) (by kernel_rfl) (by kernel_rfl) (by kernel_rfl) (by intro _ _ _ h; exact h) (Or.inl ⟨by rfl, ?hy0a⟩) HHELD.out ?rest0a
                case hy0a => (intro w hSw; go_simp; try with_reducible rfl)
                try simp only [Act.put, List.setIfInBounds_toArray, List.set_cons_zero, List.set_cons_succ]
                refine wpAnyT_take (i := 1) (v := ?v1a) [1] (by simp only [List.getElem?_toArray, List.getElem?_cons_succ, List.getElem?_cons_zero]; exact rfl) (by kernel_rfl) (by kernel_rfl) (by kernel_rfl) (by kernel_rfl) (by intro _ _ _ h; exact h) (Or.inl ⟨by rfl, ?hy1a⟩) HHELD.out ?rest1a
                case hy1a => (intro w hSw; go_simp; try with_reducible rfl)
                try simp only [Act.put, List.setIfInBounds_toArray, List.set_cons_zero, List.set_cons_succ]
                refine wpAnyT_take (i := 2) (v := ?v2a) [2] (by simp only [List.getElem?_toArray, List.getElem?_cons_succ, List.getElem?_cons_zero]; exact rfl) (by kernel_rfl) (by kernel_rfl) (by kernel_rfl) (by kernel_rfl) (by intro _ _ _ h; exact h) (Or.inl ⟨by rfl, ?hy2a⟩) HHELD.out ?rest2a
                case hy2a => (intro w hSw; go_simp; try with_reducible rfl)
                try simp only [Act.put, List.setIfInBounds_toArray, List.set_cons_zero, List.set_cons_succ]
                refine wpAnyT_take (i := 3) (v := ?v3a) [3] (by simp only [List.getElem?_toArray, List.getElem?_cons_succ, List.getElem?_cons_zero]; exact rfl) (by kernel_rfl) (by kernel_rfl) (by kernel_rfl) (by kernel_rfl) (by intro _ _ _ h; exact h) (Or.inl ⟨by rfl, ?hy3a⟩) HHELD.out ?rest3a
                case hy3a => (intro w hSw; go_simp; try with_reducible rfl)
                try simp only [Act.put, List.setIfInBounds_toArray, List.set_cons_zero, List.set_cons_succ]
                refine wpAnyT_take (i := 4) (v := ?v4a) [4] (by simp only [List.getElem?_toArray, List.getElem?_cons_succ, List.getElem?_cons_zero]; exact rfl) (by kernel_rfl) (by kernel_rfl) (by kernel_rfl) (by kernel_rfl) (by intro _ _ _ h; exact h) (Or.inl ⟨by rfl, ?hy4a⟩) HHELD.out ?rest4a
                case hy4a => (intro w hSw; go_simp; try with_reducible rfl)
                try simp only [Act.put, List.setIfInBounds_toArray, List.set_cons_zero, List.set_cons_succ]
                refine wpAnyT_take (i := 6) (v := ?v6a) [6] (by simp only [List.getElem?_toArray, List.getElem?_cons_succ, List.getElem?_cons_zero]; exact rfl) (by kernel_rfl) (by kernel_rfl) (by kernel_rfl) (by kernel_rfl) (by intro _ _ _ h; exact h) (Or.inl ⟨by rfl, ?hy6a⟩) HHELD.out ?rest6a
                case hy6a => (intro w hSw; go_simp; try with_reducible rfl)
                try simp only [Act.put, List.setIfInBounds_toArray, List.set_cons_zero, List.set_cons_succ]
                refine wpAnyT_take (i := 7) (v := ?v7a) [7] (by simp only [List.getElem?_toArray, List.getElem?_cons_succ, List.getElem?_cons_zero]; exact rfl) (by kernel_rfl) (by kernel_rfl) (by kernel_rfl) (by kernel_rfl) (by intro _ _ _ h; exact h) (Or.inl ⟨by rfl, ?hy7a⟩) HHELD.out ?rest7a
                case hy7a => (intro w hSw; go_simp; try with_reducible rfl)
                try simp only [Act.put, List.setIfInBounds_toArray, List.set_cons_zero, List.set_cons_succ]
                refine wpAnyT_take (i := 8) (v := ?v8a) [8] (by simp only [List.getElem?_toArray, List.getElem?_cons_succ, List.getElem?_cons_zero]; exact rfl) (by kernel_rfl) (by kernel_rfl) (by kernel_rfl) (by kernel_rfl) (by intro _ _ _ h; exact h) (Or.inl ⟨by rfl, ?hy8a⟩) HHELD.out ?rest8a
                case hy8a => (intro w hSw; go_simp; try with_reducible rfl)
                try simp only [Act.put, List.setIfInBounds_toArray, List.set_cons_zero, List.set_cons_succ]
                refine wpAnyT_one 5 (by kernel_rfl) (by simp only [List.getElem?_toArray, List.getElem?_cons_succ, List.getElem?_cons_zero]; exact rfl) (fun K hK => ?_)
                go_simp
                obtain ⟨V1, hV1⟩ : ∃ V, V = wd.alloc (.cells #[.int .i64 xa, .int .i64 xb] 52) := ⟨_, rfl⟩
                have ow1 : V1.ownsRow wd.heap.size 52 2 (.slice (some ⟨wd.heap.size, 0, none⟩) 1 1) 1 [.int .i64 xa, .int .i64 xb] := by rw [hV1]; exact own_lit wd #[.int .i64 xa, .int .i64 xb] 1 (by decide) rfl
                have b1 : Below wd.heap.size wd V1 := by rw [hV1]; exact (Below.refl _ _).alloc (Nat.le_refl _) _
                rw [← hV1]
                clear hV1
                refine hK.out _ _ (fun _ => HSB.out _ b1) ?_
                clear hK K
                try simp only [Act.put, List.setIfInBounds_toArray, List.set_cons_zero, List.set_cons_succ]
                refine wpAnyT_one 9 (by kernel_rfl) (by simp only [List.getElem?_toArray, List.getElem?_cons_succ, List.getElem?_cons_zero]; exact rfl) (fun K hK => ?_)
                refine step_wp rfl (wp_appD (.tmp 103) (.tmp 106) 43 rfl wd.heap.size 52 i0 (.agg #[.int .i64 0, .int .i64 0]) 16 Tryd.underlying43 hi0 hz0 hz1 hz2 rfl (.slice (some ⟨wd.heap.size, 0, none⟩) 1 1) 1 [.int .i64 xa, .int .i64 xb] rfl ow1 none 0 0 [] rfl (by rfl) (fun _ => ⟨rfl, rfl⟩) (fun ad had => by cases had) (by simp) (by simp only [maxLen]; omega) (by omega) b1.size ?_)
                intro v2 V2 own2 grow2
                have b2 := b1.grown grow2 b1.size (fun j hj => (ow1.lt j hj).1)
                obtain ⟨g2, c2, rfl, hg2, hl2⟩ := own2.form (by omega)
                refine hK.out _ _ (fun _ => HSB.out _ b2) ?_
                clear hK K grow2
                try simp only [Act.put, List.setIfInBounds_toArray, List.set_cons_zero, List.set_cons_succ]
                refine wpAnyT_one 10 (by kernel_rfl) (by simp only [List.getElem?_toArray, List.getElem?_cons_succ, List.getElem?_cons_zero]; exact rfl) (fun K hK => ?_)
                refine step_append_grows rfl (.tmp 101) (.tmp 107) 43 rfl 52 i0 (.agg #[.int .i64 0, .int .i64 0]) 2 16 Tryd.underlying43 hi0 hz0 hz1 hz2 rfl (by decide) none 0 0 [] rfl (by simp) (rfl) (fun b' hb' => by cases hb') ⟨g2, 0, none⟩ (1 + 0) c2 ([.int .i64 xa, .int .i64 xb] ++ []) rfl own2.1 (own2.cells (g := g2) rfl) (encD_cells xa xb []) (by omega) (by simp only [maxLen]; omega) (by omega) ?_
                intro v3 V3 own3 grow3
                have b3 := b2.grown grow3 b2.size (fun j hj => by cases hj)
                obtain ⟨g3, c3, rfl, hg3, hl3⟩ := own3.form (by omega)
                refine hK.out _ _ (fun _ => HSB.out _ b3) ?_
                clear hK K grow3
                try simp only [Act.put, List.setIfInBounds_toArray, List.set_cons_zero, List.set_cons_succ]
                have HS3 := Kept.mk (HSB.out _ b3)
                refine wpAnyT_take (i := 11) (v := ?v11a) [11] (by simp only [List.getElem?_toArray, List.getElem?_cons_succ, List.getElem?_cons_zero]; exact rfl) (by kernel_rfl) (by kernel_rfl) (by kernel_rfl) (by kernel_rfl) (by intro _ _ _ h; exact h) (Or.inl ⟨by rfl, ?hy11a⟩) HS3.out ?rest11a
                case hy11a => (intro w hSw; go_simp; try with_reducible rfl)
                try simp only [Act.put, List.setIfInBounds_toArray, List.set_cons_zero, List.set_cons_succ]
                refine wpAnyT_done (by kernel_rfl) ?_ _
                have OF := Kept.mk (show V3.ownsRow hi 52 2 (.slice (some ⟨g3, 0, none⟩) (0 + (1 + 0)) c3) (O.take 0 ++ (⟨xa, xb, tu + 1⟩ : Tm) :: O.drop 0).length ((O.take 0 ++ (⟨xa, xb, tu + 1⟩ : Tm) :: O.drop 0).flatMap encD) from own_fit own3 (by have := b2.size; have := HHD.out; omega) (by rw [HNE.out]; rfl) (by simp [HNE.out, encD]))
                have BF := Kept.mk b3
                clear own3 b3 b2 own2 ow1 b1 hg2 hg3 hl2 hl3
                go_wp2_with fail
                go_roundw
                case rel =>
                  refine ⟨j + 1, A ++ [⟨xa, xb, tu + 1⟩], O.take 0 ++ (⟨xa, xb, tu + 1⟩ : Tm) :: O.drop 0, tu + 1, by omega, by go_num, ⟨(WF.out.below (BD.out.mono H3.out)).below (BF.out.mono HHD.out)⟩, ⟨?_, by have := hO.out.2.1; omega, by have := hO.out.2.2.1; omega, by have := hO.out.2.2.2.1; simp; omega, fun t ht => ?_⟩, ⟨OF.out, fun h => absurd h (by simp)⟩, ⟨kp_bel KD.out BF.out HWD.out⟩⟩
                  · rw [← ins_at (x := ⟨xa, xb, tu + 1⟩) hO.out.1.1 HIO.out hB.out (.inl rfl)]
                    exact ⟨srt_ins hO.out.1.1 fun y hy => by have := WAt.turn hWr.out y (hO.out.1.2.mem_iff.1 hy); show y.tn < tu + 1; omega, perm_ins hO.out.1.2 hO.out.1.1 _⟩
                  · rcases List.mem_append.1 ht with h | h
                    · exact hO.out.2.2.2.2 t h
                    · rw [List.mem_singleton.1 h]; exact hwa
                case measure => simp [intOf]; omega
              · obtain ⟨g, hge, hgs, hgc⟩ := DuR.of_own rfl VD.out (List.length_pos_iff.2 hne)
                subst hge
                have hcap : O.length ≤ cv := by
                  rcases VD.out.2 with h | ⟨g', cap, cur, e, _, _, hle, _⟩
                  · have := h.1; cases this
                  · injection e with e1 e2 e3; omega
                have hl0 : 0 < O.length := List.length_pos_iff.2 hne
                by_cases hic : i = cv
                · obtain rfl : i = O.length := by omega
                  obtain rfl : cv = O.length := by omega
                  clear hne
                  refine wp_region_late (fun V : World => V.cell? ⟨bx, 0, none⟩ = some (.int .i64 xa) ∧ V.cell? ⟨bx, 1, none⟩ = some (.int .i64 xb)) (fun _ => false) (by kernel_rfl) ?_
                  rw [← hwd]
                  clear hwd
                  refine wpAnyT_take (i := 0) (v := ?v0b) [0] (by simp only [List.getElem?_toArray, List.getElem?_cons_succ, List.getElem?_cons_zero]; exact rfl) (by kernel_rfl) (by kernel_rfl) (by kernel_rfl) (by kernel_rfl) (by intro _ _ _ h; exact h) (Or.inl ⟨by rfl, ?hy0b⟩) HHELD.out ?rest0b
                  case hy0b => (intro w hSw; go_simp; try with_reducible rfl)
                  try simp only [Act.put, List.setIfInBounds_toArray, List.set_cons_zero, List.set_cons_succ]
                  refine wpAnyT_take (i := 1) (v := ?v1b) [1] (by simp only [List.getElem?_toArray, List.getElem?_cons_succ, List.getElem?_cons_zero]; exact rfl) (by kernel_rfl) (by kernel_rfl) (by kernel_rfl) (by kernel_rfl) (by intro _ _ _ h; exact h) (Or.inl ⟨by rfl, ?hy1b⟩) HHELD.out ?rest1b
                  case hy1b => (intro w hSw; go_simp; try with_reducible rfl)
                  try simp only [Act.put, List.setIfInBounds_toArray, List.set_cons_zero, List.set_cons_succ]
                  refine wpAnyT_take (i := 2) (v := ?v2b) [2] (by simp only [List.getElem?_toArray, List.getElem?_cons_succ, List.getElem?_cons_zero]; exact rfl) (by kernel_rfl) (by kernel_rfl) (by kernel_rfl) (by kernel_rfl) (by intro _ _ _ h; exact h) (Or.inl ⟨by rfl, ?hy2b⟩) HHELD.out ?rest2b
                  case hy2b => (intro w hSw; go_simp; try with_reducible rfl)
                  try simp only [Act.put, List.setIfInBounds_toArray, List.set_cons_zero, List.set_cons_succ]
                  refine wpAnyT_take (i := 3) (v := ?v3b) [3] (by simp only [List.getElem?_toArray, List.getElem?_cons_succ, List.getElem?_cons_zero]; exact rfl) (by kernel_rfl) (by kernel_rfl) (by kernel_rfl) (by kernel_rfl) (by intro _ _ _ h; exact h) (Or.inl ⟨by rfl, ?hy3b⟩) HHELD.out ?rest3b
                  case hy3b => (intro w hSw; go_simp; try with_reducible rfl)
                  try simp only [Act.put, List.setIfInBounds_toArray, List.set_cons_zero, List.set_cons_succ]
                  refine wpAnyT_take (i := 4) (v := ?v4b) [4] (by simp only [List.getElem?_toArray, List.getElem?_cons_succ, List.getElem?_cons_zero]; exact rfl) (by kernel_rfl) (by kernel_rfl) (by kernel_rfl) (by kernel_rfl) (by intro _ _ _ h; exact h) (Or.inl ⟨by rfl, ?hy4b⟩) HHELD.out ?rest4b
                  case hy4b => (intro w hSw; go_simp; try with_reducible rfl)
                  try simp only [Act.put, List.setIfInBounds_toArray, List.set_cons_zero, List.set_cons_succ]
                  refine wpAnyT_take (i := 6) (v := ?v6b) [6] (by simp only [List.getElem?_toArray, List.getElem?_cons_succ, List.getElem?_cons_zero]; exact rfl) (by kernel_rfl) (by kernel_rfl) (by kernel_rfl) (by kernel_rfl) (by intro _ _ _ h; exact h) (Or.inl ⟨by rfl, ?hy6b⟩) HHELD.out ?rest6b
                  case hy6b => (intro w hSw; go_simp; try with_reducible rfl)
                  try simp only [Act.put, List.setIfInBounds_toArray, List.set_cons_zero, List.set_cons_succ]
                  refine wpAnyT_take (i := 7) (v := ?v7b) [7] (by simp only [List.getElem?_toArray, List.getElem?_cons_succ, List.getElem?_cons_zero]; exact rfl) (by kernel_rfl) (by kernel_rfl) (by kernel_rfl) (by kernel_rfl) (by intro _ _ _ h; exact h) (Or.inl ⟨by rfl, ?hy7b⟩) HHELD.out ?rest7b
                  case hy7b => (intro w hSw; go_simp; try with_reducible rfl)
                  try simp only [Act.put, List.setIfInBounds_toArray, List.set_cons_zero, List.set_cons_succ]
                  refine wpAnyT_take (i := 8) (v := ?v8b) [8] (by simp only [List.getElem?_toArray, List.getElem?_cons_succ, List.getElem?_cons_zero]; exact rfl) (by kernel_rfl) (by kernel_rfl) (by kernel_rfl) (by kernel_rfl) (by intro _ _ _ h; exact h) (Or.inl ⟨by rfl, ?hy8b⟩) HHELD.out ?rest8b
                  case hy8b => (intro w hSw; go_simp; try with_reducible rfl)
                  try simp only [Act.put, List.setIfInBounds_toArray, List.set_cons_zero, List.set_cons_succ]
                  refine wpAnyT_one 5 (by kernel_rfl) (by simp only [List.getElem?_toArray, List.getElem?_cons_succ, List.getElem?_cons_zero]; exact rfl) (fun K hK => ?_)
                  go_simp
                  obtain ⟨V1, hV1⟩ : ∃ V, V = wd.alloc (.cells #[.int .i64 xa, .int .i64 xb] 52) := ⟨_, rfl⟩
                  have ow1 : V1.ownsRow wd.heap.size 52 2 (.slice (some ⟨wd.heap.size, 0, none⟩) 1 1) 1 [.int .i64 xa, .int .i64 xb] := by rw [hV1]; exact own_lit wd #[.int .i64 xa, .int .i64 xb] 1 (by decide) rfl
                  have b1 : Below wd.heap.size wd V1 := by rw [hV1]; exact (Below.refl _ _).alloc (Nat.le_refl _) _
                  rw [← hV1]
                  clear hV1
                  refine hK.out _ _ (fun _ => HSB.out _ b1) ?_
                  clear hK K
                  try simp only [Act.put, List.setIfInBounds_toArray, List.set_cons_zero, List.set_cons_succ]
                  refine wpAnyT_one 9 (by kernel_rfl) (by simp only [List.getElem?_toArray, List.getElem?_cons_succ, List.getElem?_cons_zero]; exact rfl) (fun K hK => ?_)
                  refine step_wp rfl (wp_appD (.tmp 103) (.tmp 106) 43 rfl wd.heap.size 52 i0 (.agg #[.int .i64 0, .int .i64 0]) 16 Tryd.underlying43 hi0 hz0 hz1 hz2 rfl (.slice (some ⟨wd.heap.size, 0, none⟩) 1 1) 1 [.int .i64 xa, .int .i64 xb] rfl ow1 (some ⟨g, 0, none⟩) 0 0 [] rfl (by rfl) (fun _ => ⟨rfl, rfl⟩) (fun ad had j u hu => by cases hu) (by simp) (by simp only [maxLen]; omega) (by omega) b1.size ?_)
                  intro v2 V2 own2 grow2
                  have b2 := b1.grown grow2 b1.size (fun j hj => (ow1.lt j hj).1)
                  obtain ⟨g2, c2, rfl, hg2, hl2⟩ := own2.form (by omega)
                  refine hK.out _ _ (fun _ => HSB.out _ b2) ?_
                  clear hK K grow2
                  try simp only [Act.put, List.setIfInBounds_toArray, List.set_cons_zero, List.set_cons_succ]
                  refine wpAnyT_one 10 (by kernel_rfl) (by simp only [List.getElem?_toArray, List.getElem?_cons_succ, List.getElem?_cons_zero]; exact rfl) (fun K hK => ?_)
                  refine step_append_grows rfl (.tmp 101) (.tmp 107) 43 rfl 52 i0 (.agg #[.int .i64 0, .int .i64 0]) 2 16 Tryd.underlying43 hi0 hz0 hz1 hz2 rfl (by decide) (some ⟨g, 0, none⟩) O.length O.length ((O.take O.length).flatMap encD) rfl (by simp) (by rw [encD_len, List.length_take, Nat.min_eq_left HIO.out]) (fun b' hb' => by injection hb' with hb'; subst hb'; exact own_olds (VX.out V2 b2)) ⟨g2, 0, none⟩ (1 + 0) c2 ([.int .i64 xa, .int .i64 xb] ++ []) rfl own2.1 (own2.cells (g := g2) rfl) (encD_cells xa xb []) (by omega) (by simp only [maxLen]; omega) (by omega) ?_
                  intro v3 V3 own3 grow3
                  have b3 := b2.grown grow3 b2.size (fun j hj => by cases hj)
                  obtain ⟨g3, c3, rfl, hg3, hl3⟩ := own3.form (by omega)
                  refine hK.out _ _ (fun _ => HSB.out _ b3) ?_
                  clear hK K grow3
                  try simp only [Act.put, List.setIfInBounds_toArray, List.set_cons_zero, List.set_cons_succ]
                  have HS3 := Kept.mk (HSB.out _ b3)
                  refine wpAnyT_take (i := 11) (v := ?v11b) [11] (by simp only [List.getElem?_toArray, List.getElem?_cons_succ, List.getElem?_cons_zero]; exact rfl) (by kernel_rfl) (by kernel_rfl) (by kernel_rfl) (by kernel_rfl) (by intro _ _ _ h; exact h) (Or.inl ⟨by rfl, ?hy11b⟩) HS3.out ?rest11b
                  case hy11b => (intro w hSw; go_simp; try with_reducible rfl)
                  try simp only [Act.put, List.setIfInBounds_toArray, List.set_cons_zero, List.set_cons_succ]
                  refine wpAnyT_done (by kernel_rfl) ?_ _
                  have OF := Kept.mk (show V3.ownsRow hi 52 2 (.slice (some ⟨g3, 0, none⟩) (O.length + (1 + 0)) c3) (O.take O.length ++ (⟨xa, xb, tu + 1⟩ : Tm) :: O.drop O.length).length ((O.take O.length ++ (⟨xa, xb, tu + 1⟩ : Tm) :: O.drop O.length).flatMap encD) from own_fit own3 (by have := b2.size; have := HHD.out; omega) (by rw [List.length_append, List.length_cons, List.length_take, List.length_drop, Nat.min_eq_left HIO.out]; omega) (by rw [List.flatMap_append, List.flatMap_cons, List.drop_length]; first | rfl | simp [encD]))
                  have BF := Kept.mk b3
                  clear own3 b3 b2 own2 ow1 b1 hg2 hg3 hl2 hl3
                  go_wp2_with fail
                  go_roundw
                  case rel =>
                    refine ⟨j + 1, A ++ [⟨xa, xb, tu + 1⟩], O.take O.length ++ (⟨xa, xb, tu + 1⟩ : Tm) :: O.drop O.length, tu + 1, by omega, by go_num, ⟨(WF.out.below (BD.out.mono H3.out)).below (BF.out.mono HHD.out)⟩, ⟨?_, by have := hO.out.2.1; omega, by have := hO.out.2.2.1; omega, by have := hO.out.2.2.2.1; simp; omega, fun t ht => ?_⟩, ⟨OF.out, fun h => absurd h (by simp)⟩, ⟨kp_bel KD.out BF.out HWD.out⟩⟩
                    · rw [← ins_at (x := ⟨xa, xb, tu + 1⟩) hO.out.1.1 HIO.out hB.out hI.out]
                      exact ⟨srt_ins hO.out.1.1 fun y hy => by have := WAt.turn hWr.out y (hO.out.1.2.mem_iff.1 hy); show y.tn < tu + 1; omega, perm_ins hO.out.1.2 hO.out.1.1 _⟩
                    · rcases List.mem_append.1 ht with h | h
                      · exact hO.out.2.2.2.2 t h
                      · rw [List.mem_singleton.1 h]; exact hwa
                  case measure => simp [intOf]; omega
                · clear hne
                  have hicv : i ≤ cv := by omega
                  have hic2 : ¬ cv = i := fun h => hic h.symm
                  refine wp_region_late (fun V : World => V.cell? ⟨bx, 0, none⟩ = some (.int .i64 xa) ∧ V.cell? ⟨bx, 1, none⟩ = some (.int .i64 xb)) (fun _ => false) (by kernel_rfl) ?_
                  rw [← hwd]
                  clear hwd
                  refine wpAnyT_take (i := 0) (v := ?v0c) [0] (by simp only [List.getElem?_toArray, List.getElem?_cons_succ, List.getElem?_cons_zero]; exact rfl) (by kernel_rfl) (by kernel_rfl) (by kernel_rfl) (by kernel_rfl) (by intro _ _ _ h; exact h) (Or.inl ⟨by rfl, ?hy0c⟩) HHELD.out ?rest0c
                  case hy0c => (intro w hSw; go_simp; try with_reducible rfl)
                  try simp only [Act.put, List.setIfInBounds_toArray, List.set_cons_zero, List.set_cons_succ]
                  refine wpAnyT_take (i := 1) (v := ?v1c) [1] (by simp only [List.getElem?_toArray, List.getElem?_cons_succ, List.getElem?_cons_zero]; exact rfl) (by kernel_rfl) (by kernel_rfl) (by kernel_rfl) (by kernel_rfl) (by intro _ _ _ h; exact h) (Or.inl ⟨by rfl, ?hy1c⟩) HHELD.out ?rest1c
                  case hy1c => (intro w hSw; go_simp; try with_reducible rfl)
                  try simp only [Act.put, List.setIfInBounds_toArray, List.set_cons_zero, List.set_cons_succ]
                  refine wpAnyT_take (i := 2) (v := ?v2c) [2] (by simp only [List.getElem?_toArray, List.getElem?_cons_succ, List.getElem?_cons_zero]; exact rfl) (by kernel_rfl) (by kernel_rfl) (by kernel_rfl) (by kernel_rfl) (by intro _ _ _ h; exact h) (Or.inl ⟨by rfl, ?hy2c⟩) HHELD.out ?rest2c
                  case hy2c => (intro w hSw; go_simp; try with_reducible rfl)
                  try simp only [Act.put, List.setIfInBounds_toArray, List.set_cons_zero, List.set_cons_succ]
                  refine wpAnyT_take (i := 3) (v := ?v3c) [3] (by simp only [List.getElem?_toArray, List.getElem?_cons_succ, List.getElem?_cons_zero]; exact rfl) (by kernel_rfl) (by kernel_rfl) (by kernel_rfl) (by kernel_rfl) (by intro _ _ _ h; exact h) (Or.inl ⟨by rfl, ?hy3c⟩) HHELD.out ?rest3c
                  case hy3c => (intro w hSw; go_simp; try with_reducible rfl)
                  try simp only [Act.put, List.setIfInBounds_toArray, List.set_cons_zero, List.set_cons_succ]
                  refine wpAnyT_take (i := 4) (v := ?v4c) [4] (by simp only [List.getElem?_toArray, List.getElem?_cons_succ, List.getElem?_cons_zero]; exact rfl) (by kernel_rfl) (by kernel_rfl) (by kernel_rfl) (by kernel_rfl) (by intro _ _ _ h; exact h) (Or.inl ⟨by rfl, ?hy4c⟩) HHELD.out ?rest4c
                  case hy4c => (intro w hSw; go_simp; try with_reducible rfl)
                  try simp only [Act.put, List.setIfInBounds_toArray, List.set_cons_zero, List.set_cons_succ]
                  refine wpAnyT_take (i := 6) (v := ?v6c) [6] (by simp only [List.getElem?_toArray, List.getElem?_cons_succ, List.getElem?_cons_zero]; exact rfl) (by kernel_rfl) (by kernel_rfl) (by kernel_rfl) (by kernel_rfl) (by intro _ _ _ h; exact h) (Or.inl ⟨by rfl, ?hy6c⟩) HHELD.out ?rest6c
                  case hy6c => (intro w hSw; go_simp; try with_reducible rfl)
                  try simp only [Act.put, List.setIfInBounds_toArray, List.set_cons_zero, List.set_cons_succ]
                  refine wpAnyT_take (i := 7) (v := ?v7c) [7] (by simp only [List.getElem?_toArray, List.getElem?_cons_succ, List.getElem?_cons_zero]; exact rfl) (by kernel_rfl) (by kernel_rfl) (by kernel_rfl) (by kernel_rfl) (by intro _ _ _ h; exact h) (Or.inl ⟨by rfl, ?hy7c⟩) HHELD.out ?rest7c
                  case hy7c => (intro w hSw; go_simp; try with_reducible rfl)
                  try simp only [Act.put, List.setIfInBounds_toArray, List.set_cons_zero, List.set_cons_succ]
                  refine wpAnyT_take (i := 8) (v := ?v8c) [8] (by simp only [List.getElem?_toArray, List.getElem?_cons_succ, List.getElem?_cons_zero]; exact rfl) (by kernel_rfl) (by kernel_rfl) (by kernel_rfl) (by kernel_rfl) (by intro _ _ _ h; exact h) (Or.inl ⟨by rfl, ?hy8c⟩) HHELD.out ?rest8c
                  case hy8c => (intro w hSw; go_simp; try with_reducible rfl)
                  try simp only [Act.put, List.setIfInBounds_toArray, List.set_cons_zero, List.set_cons_succ]
                  refine wpAnyT_one 5 (by kernel_rfl) (by simp only [List.getElem?_toArray, List.getElem?_cons_succ, List.getElem?_cons_zero]; exact rfl) (fun K hK => ?_)
                  go_simp
                  obtain ⟨V1, hV1⟩ : ∃ V, V = wd.alloc (.cells #[.int .i64 xa, .int .i64 xb] 52) := ⟨_, rfl⟩
                  have ow1 : V1.ownsRow wd.heap.size 52 2 (.slice (some ⟨wd.heap.size, 0, none⟩) 1 1) 1 [.int .i64 xa, .int .i64 xb] := by rw [hV1]; exact own_lit wd #[.int .i64 xa, .int .i64 xb] 1 (by decide) rfl
                  have b1 : Below wd.heap.size wd V1 := by rw [hV1]; exact (Below.refl _ _).alloc (Nat.le_refl _) _
                  rw [← hV1]
                  clear hV1
                  refine hK.out _ _ (fun _ => HSB.out _ b1) ?_
                  clear hK K
                  try simp only [Act.put, List.setIfInBounds_toArray, List.set_cons_zero, List.set_cons_succ]
                  refine wpAnyT_one 9 (by kernel_rfl) (by simp only [List.getElem?_toArray, List.getElem?_cons_succ, List.getElem?_cons_zero]; exact rfl) (fun K hK => ?_)
                  refine step_wp rfl (wp_appD (.tmp 103) (.tmp 106) 43 rfl wd.heap.size 52 i0 (.agg #[.int .i64 0, .int .i64 0]) 16 Tryd.underlying43 hi0 hz0 hz1 hz2 rfl (.slice (some ⟨wd.heap.size, 0, none⟩) 1 1) 1 [.int .i64 xa, .int .i64 xb] rfl ow1 (some ⟨g, i * 2, none⟩) (O.length - i) (cv - i) ((O.drop i).flatMap encD) rfl (by rw [encD_len, List.length_drop]) (fun h => by cases h) (fun ad had => by injection had with had; subst had; exact own_news HIO.out (VX.out V1 b1)) (encD_cell _) (by simp only [maxLen]; omega) (by omega) b1.size ?_)
                  intro v2 V2 own2 grow2
                  have b2 := b1.grown grow2 b1.size (fun j hj => (ow1.lt j hj).1)
                  obtain ⟨g2, c2, rfl, hg2, hl2⟩ := own2.form (by omega)
                  refine hK.out _ _ (fun _ => HSB.out _ b2) ?_
                  clear hK K grow2
                  try simp only [Act.put, List.setIfInBounds_toArray, List.set_cons_zero, List.set_cons_succ]
                  refine wpAnyT_one 10 (by kernel_rfl) (by simp only [List.getElem?_toArray, List.getElem?_cons_succ, List.getElem?_cons_zero]; exact rfl) (fun K hK => ?_)
                  refine step_append_grows rfl (.tmp 101) (.tmp 107) 43 rfl 52 i0 (.agg #[.int .i64 0, .int .i64 0]) 2 16 Tryd.underlying43 hi0 hz0 hz1 hz2 rfl (by decide) (some ⟨g, 0, none⟩) i i ((O.take i).flatMap encD) rfl (by simp) (by rw [encD_len, List.length_take, Nat.min_eq_left HIO.out]) (fun b' hb' => by injection hb' with hb'; subst hb'; exact own_olds (VX.out V2 b2)) ⟨g2, 0, none⟩ (1 + (O.length - i)) c2 ([.int .i64 xa, .int .i64 xb] ++ ((O.drop i).flatMap encD)) rfl own2.1 (own2.cells (g := g2) rfl) (encD_cells xa xb _) (by omega) (by simp only [maxLen]; omega) (by omega) ?_
                  intro v3 V3 own3 grow3
                  have b3 := b2.grown grow3 b2.size (fun j hj => by cases hj)
                  obtain ⟨g3, c3, rfl, hg3, hl3⟩ := own3.form (by omega)
                  refine hK.out _ _ (fun _ => HSB.out _ b3) ?_
                  clear hK K grow3
                  try simp only [Act.put, List.setIfInBounds_toArray, List.set_cons_zero, List.set_cons_succ]
                  have HS3 := Kept.mk (HSB.out _ b3)
                  refine wpAnyT_take (i := 11) (v := ?v11c) [11] (by simp only [List.getElem?_toArray, List.getElem?_cons_succ, List.getElem?_cons_zero]; exact rfl) (by kernel_rfl) (by kernel_rfl) (by kernel_rfl) (by kernel_rfl) (by intro _ _ _ h; exact h) (Or.inl ⟨by rfl, ?hy11c⟩) HS3.out ?rest11c
                  case hy11c => (intro w hSw; go_simp; try with_reducible rfl)
                  try simp only [Act.put, List.setIfInBounds_toArray, List.set_cons_zero, List.set_cons_succ]
                  refine wpAnyT_done (by kernel_rfl) ?_ _
                  have OF := Kept.mk (show V3.ownsRow hi 52 2 (.slice (some ⟨g3, 0, none⟩) (i + (1 + (O.length - i))) c3) (O.take i ++ (⟨xa, xb, tu + 1⟩ : Tm) :: O.drop i).length ((O.take i ++ (⟨xa, xb, tu + 1⟩ : Tm) :: O.drop i).flatMap encD) from own_fit own3 (by have := b2.size; have := HHD.out; omega) (by rw [List.length_append, List.length_cons, List.length_take, List.length_drop, Nat.min_eq_left HIO.out]; omega) (by rw [List.flatMap_append, List.flatMap_cons]; first | rfl | simp [encD]))
                  have BF := Kept.mk b3
                  clear own3 b3 b2 own2 ow1 b1 hg2 hg3 hl2 hl3
                  go_wp2_with fail
                  go_roundw
                  case rel =>
                    refine ⟨j + 1, A ++ [⟨xa, xb, tu + 1⟩], O.take i ++ (⟨xa, xb, tu + 1⟩ : Tm) :: O.drop i, tu + 1, by omega, by go_num, ⟨(WF.out.below (BD.out.mono H3.out)).below (BF.out.mono HHD.out)⟩, ⟨?_, by have := hO.out.2.1; omega, by have := hO.out.2.2.1; omega, by have := hO.out.2.2.2.1; simp; omega, fun t ht => ?_⟩, ⟨OF.out, fun h => absurd h (by simp)⟩, ⟨kp_bel KD.out BF.out HWD.out⟩⟩
                    · rw [← ins_at (x := ⟨xa, xb, tu + 1⟩) hO.out.1.1 HIO.out hB.out hI.out]
                      exact ⟨srt_ins hO.out.1.1 fun y hy => by have := WAt.turn hWr.out y (hO.out.1.2.mem_iff.1 hy); show y.tn < tu + 1; omega, perm_ins hO.out.1.2 hO.out.1.1 _⟩
                    · rcases List.mem_append.1 ht with h | h
                      · exact hO.out.2.2.2.2 t h
                      · rw [List.mem_singleton.1 h]; exact hwa
                  case measure => simp [intOf]; omega
          · have t1 : (cc.1 != 0) = true := by simp [hcode]
            have HSM := Kept.mk (show cc.2 = (tu, A) from by
              rw [HCC.out] at hcode ⊢
              unfold wIns at hcode ⊢
              repeat' split
              all_goals first | rfl | (rename_i h1 h2 h3; rw [if_neg h1, if_neg h2, if_neg h3] at hcode; exact absurd rfl hcode))
            have WF := Kept.mk (show WAt w3 w1.heap.size hi wb I M p L K n now tu A from by have h := W3.out; rw [HSM.out] at h; exact h)
            clear hcode
            go_wp2_with fail
            go_roundw
            case rel => exact ⟨j + 1, A, O, tu, by omega, by go_num, WF, ⟨hO.out.1, hO.out.2.1, by have := hO.out.2.2.1; omega, by have := hO.out.2.2.2.1; omega, hO.out.2.2.2.2⟩, ⟨V3.out, hV.out.2⟩, K3⟩
            case measure => simp [intOf]; omega
        · obtain rfl : j = kl := by omega
          have VO := Kept.mk hV.out.1
          have HO := Kept.mk hO.out.1
          have HTU := Kept.mk (show 0 ≤ tu ∧ tu ≤ 100 from ⟨hO.out.2.1, by have := hO.out.2.2.1; have := HLEN.out; omega⟩)
          have HOW := Kept.mk hO.out.2.2.2.2
          have hol100 : O.length ≤ 100 := by have := hO.out.1.2.length_eq; have := hO.out.2.2.2.1; have := HLEN.out; omega
          have HSZ := Kept.mk (show hi ≤ wr.heap.size by have := hK.out.size; have := HHI.out; omega)
          have HSS := Kept.mk (show Ints wr w.heap.size As ss from by
            have h1 : Below w.heap.size w w2 := HB1.out.trans (HB2.out.mono HB1.out.size)
            intro h0
            obtain ⟨b, off, e, hb, hc⟩ := HS.out h0
            refine ⟨b, off, e, hb, fun j hj => ?_⟩
            rw [World.cell?_of_block (a := ⟨b, off + j, none⟩) ((hK.out.block b (by have := h1.size; omega) (.inl (by have := HB1.out.size; omega))).trans (h1.block b hb))]
            exact hc j hj)
          obtain ⟨j0, hj0, hy0, hy1, hy2⟩ := info_parts info_64
          have HSN2 := Kept.mk (show As = none → cs = 0 from HSN.out)
          clear HF hO hV hlt hjl
          have B4 := Kept.mk (show Below wr.heap.size wr wr from Below.refl _ _)
          go_upto_region 21 with fail
          go_wp2_with ((first | (at_builtin; refine wpList_app64 rfl _ _ 24 rfl wr.heap.size 2 j0 (.int .i64 0) 8 Tryd.underlying24 hj0 hy0 hy1 hy2 rfl (.slice (some ⟨wr.heap.size, 0, none⟩) 1 1) 1 [now] rfl (own_lit wr #[.int .i64 now] 1 (by decide) rfl) As ss cs w.heap.size rfl (HSS.out.below ((Below.refl _ _).alloc (by have := HB1.out.size; have := HHI.out; have := HSZ.out; omega) _)) HSN2.out (by simp only [maxLen]; omega) (by omega) (by simp) ?_; intro v5 w5 own5 b5; have OW5 := Kept.mk own5; have BW5 := Kept.mk (((Below.refl _ _).alloc (Nat.le_refl _) _).trans b5); clear own5 b5) | (at_builtin; refine wpList_app64 rfl _ _ 24 rfl wr.heap.size 2 j0 (.int .i64 0) 8 Tryd.underlying24 hj0 hy0 hy1 hy2 rfl v5 (1 + ss.length) ([now] ++ ss) rfl (OW5.out.alloc _) (some ⟨w5.heap.size, 0, none⟩) [4503599627370496] 1 (w5.heap.size + 1) rfl (ints_one _ _ _) (by simp) (by simp only [maxLen, List.length_singleton]; omega) (by simp only [List.length_singleton]; omega) (by have := BW5.out.size; simp; omega) ?_; intro v6 w6 own6 b6; obtain ⟨A6, c6, rfl⟩ := own_slice own6; have OW6 := Kept.mk own6; have BW6 := Kept.mk ((BW5.out.alloc BW5.out.size _).trans b6); clear own6 b6)))
          obtain ⟨g6, c7, he6, hg6, hl6⟩ := OW6.out.form (by omega)
          injection he6 with e1 _ e3
          subst e1 e3
          obtain ⟨ts, hts⟩ : ∃ ts, ts = [now] ++ ss ++ [(4503599627370496 : Int)] := ⟨_, rfl⟩
          obtain ⟨N, hN⟩ : ∃ N, N = 1 + ss.length + 1 := ⟨_, rfl⟩
          have hNi : (1 + (ss.length : Int) + 1) = (N : Int) := by omega
          have hNt : ts.length = N := by rw [hts, hN]; simp; omega
          have HTC := Kept.mk (fun (j : Nat) (t : Int) (hj : ts[j]? = some t) => show w6.cell? ⟨g6, j, none⟩ = some (.int .i64 t) from by
            have := OW6.out.cells (g := g6) rfl j (.int .i64 t) (by rw [← hts, List.getElem?_map, hj]; rfl)
            rw [add0, Nat.zero_add] at this
            exact this)
          have HT0 := Kept.mk (show ts[0]? = some now by rw [hts]; rfl)
          have HTL := Kept.mk (show ts[N - 1]? = some 4503599627370496 by rw [hts, show N - 1 = ([now] ++ ss).length by simp; omega]; exact List.getElem?_concat_length)
          have HNT := Kept.mk hNt
          have hN2 : 2 ≤ N := by omega
          have hN6 : N ≤ 9223372036854775807 := by omega
          have HG6 := Kept.mk (show hi ≤ g6 ∧ g6 < w6.heap.size from ⟨Nat.le_trans HSZ.out hg6, hl6⟩)
          have V6 := Kept.mk (own_kp VO.out (kp_bel (Kp.refl hi hi wr) BW6.out (Nat.le_refl _)) (Nat.le_refl _))
          have WF6 := Kept.mk (hWr.out.below (BW6.out.mono HSZ.out))
          have K6 := Kept.mk (show Kp w1.heap.size hi w2 w6 from kp_bel hK.out BW6.out (by have := hK.out.size; omega))
          have T6 := Kept.mk (show Tab w6 from HT2.out.kp K6.out HLO.out (by have := HHI.out; have := HLO.out; omega))
          rw [← hN, hNi]
          clear hts hNt hN hNi hg6 hl6 hWr hK OW5 OW6 VO BW5
          go_loopw [18, 19, 119] (fun s18 s19 s119 wz => ∃ (jj q : Nat) (b : Bool) (cur : Int) (A' : List Tm), jj ≤ N ∧ s119 = .int .i64 jj ∧ s18 = .int .i64 q ∧ s19 = .bool b ∧ q ≤ O.length ∧ Kept (b = decide (jj = 0)) ∧ Kept (WAt wz w1.heap.size hi wb I M p L K n cur tu A') ∧ Kept (Srt (O.drop q) ∧ (O.drop q).Perm A' ∧ (jj = 0 → cur = now) ∧ now ≤ cur ∧ cur ≤ 4503599627370496 ∧ (0 < jj → ∀ t ∈ A', now < t.du) ∧ (∀ t ∈ A', (Lit.int .i64 t.id).wf = true) ∧ (jj = N → A' = [])) ∧ Kept (Kp w1.heap.size hi w6 wz)) (fun _ _ s _ => N - (intOf s).toNat)
          case atStart => exact ⟨0, 0, true, now, A, by omega, rfl, rfl, rfl, Nat.zero_le _, ⟨rfl⟩, WF6, ⟨HO.out.1, HO.out.2, fun _ => rfl, Int.le_refl _, n1, fun h => absurd h (by omega), HOW.out, fun h => absurd h (by omega)⟩, ⟨Kp.refl _ _ _⟩⟩
          case round =>
            obtain ⟨jj, q, b, cur, A', hjN, rfl, rfl, rfl, hq, hb, hWz, hS, hKz⟩ := hrel
            by_cases hlt : jj < N
            · obtain ⟨t, ht⟩ : ∃ t, ts[jj]? = some t := ⟨_, List.getElem?_eq_getElem (by rw [HNT.out]; exact hlt)⟩
              have cj : wr.cell? ⟨g6, jj, none⟩ = some (.int .i64 t) := (World.cell?_of_block (a := ⟨g6, jj, none⟩) (hKz.out.block g6 HG6.out.2 (.inr HG6.out.1))).trans (HTC.out jj t ht)
              have hlti : ((jj : Int)) < (N : Int) := by omega
              have HTJ := Kept.mk ht
              have HLT := Kept.mk hlt
              have TZ := Kept.mk (show Tab wr from T6.out.kp hKz.out HLO.out (by have := K6.out.size; have := HHI.out; have := HLO.out; omega))
              clear ht hlt
              by_cases hok : cur ≤ t ∧ t ≤ 4503599627370496
              · have HM := wmove_any hWz.out TZ.out HLO.out hS.out.2.2.2.2.2.2.1 t hok
                have HOK := Kept.mk hok
                clear hok
                go_wp2_with fail
                refine HM.mono ?_
                rintro e w7 ⟨D, Bd, cd, rfl, hD1, hD2, hD3, hD4, hD5⟩
                have HPA := Kept.mk (told_parts hS.out.1 hS.out.2.1 hD1 hD2)
                have HDX := Kept.mk (show ∀ y ∈ D, y ∈ A' ∧ y.du ≤ t from fun y hy => by
                  have := List.mem_filter.1 (hD2.mem_iff.1 hy)
                  exact ⟨this.1, by simpa using this.2⟩)
                have W7 := Kept.mk hD4
                have K7 := Kept.mk (hKz.out.trans hD5)
                have D7 := Kept.mk hD3
                have hDl : D.length ≤ O.length - q := by
                  have h1 := congrArg List.length HPA.out.1
                  rw [List.length_drop, List.length_append] at h1
                  omega
                have hqO : q ≤ O.length := hq
                clear HM hD1 hD2 hD3 hD4 hD5 cj
                go_wp2_with fail
                go_loopw [18, 133] (fun s18 s133 wz => ∃ k m : Nat, k ≤ D.length ∧ s133 = .int .i64 k ∧ s18 = .int .i64 m ∧ Kept (m = q + k) ∧ Kept (Below w7.heap.size w7 wz)) (fun _ s _ => D.length - (intOf s).toNat)
                case atStart => exact ⟨0, q, Nat.zero_le _, rfl, rfl, ⟨rfl⟩, ⟨Below.refl _ _⟩⟩
                case round =>
                  obtain ⟨k, m, hkD, rfl, rfl, hm, hBk⟩ := hrel
                  by_cases hk : k < D.length
                  · obtain ⟨x, hx⟩ : ∃ x, D[k]? = some x := ⟨_, List.getElem?_eq_getElem hk⟩
                    obtain ⟨bD, hbe, hbD, hcD⟩ := D7.out (by omega)
                    subst hbe
                    have x0 : wr.cell? ⟨bD, k * 2, none⟩ = some (.int .i64 x.id) := (hBk.out.cell (p := ⟨bD, k * 2, none⟩) hbD).trans (hcD k x hx).1
                    have x1 : wr.cell? ⟨bD, k * 2 + 1, none⟩ = some (.int .i64 x.du) := (hBk.out.cell (p := ⟨bD, k * 2 + 1, none⟩) hbD).trans (hcD k x hx).2
                    have hmo : m < O.length := by have := hm.out; omega
                    have hOm : O[m]? = some x := by
                      have h1 := congrArg (fun l => l[k]?) HPA.out.1
                      simp only [List.getElem?_drop] at h1
                      rw [List.getElem?_append_left hk, hx] at h1
                      rw [hm.out]; exact h1
                    have hxd : x.du ≤ t := (HDX.out x (List.mem_of_getElem? hx)).2
                    have hxn : b = false → now < x.du := fun hbf => hS.out.2.2.2.2.2.1 (by have := hb.out; rw [hbf] at this; have := of_decide_eq_false this.symm; omega) x (HDX.out x (List.mem_of_getElem? hx)).1
                    obtain ⟨go, hgo, hgs, hgc⟩ := DuR.of_own rfl (own_kp V6.out K7.out (Nat.le_refl _)) (show 0 < O.length by omega)
                    subst hgo
                    obtain ⟨wa, hwA⟩ : ∃ wa, wa = wr.alloc (.cells #[.int .i64 x.id, .int .i64 x.du] 52) := ⟨_, rfl⟩
                    have hBa : Below w7.heap.size w7 wa := by rw [hwA]; exact hBk.out.alloc hBk.out.size _
                    have hbx : wa.heap[wr.heap.size]? = some (.cells #[.int .i64 x.id, .int .i64 x.du] 52) := by rw [hwA]; exact heap_alloc_new _ _
                    obtain ⟨bx, hbxe⟩ : ∃ bx, bx = wr.heap.size := ⟨_, rfl⟩
                    rw [← hbxe] at hbx
                    have y0 : wa.cell? ⟨bx, 0, none⟩ = some (.int .i64 x.id) := cell_of_row _ _ 0 _ _ _ hbx
                    have y1 : wa.cell? ⟨bx, 1, none⟩ = some (.int .i64 x.du) := cell_of_row _ _ 1 _ _ _ hbx
                    have z0 : wa.cell? ⟨go, m * 2, none⟩ = some (.int .i64 x.id) := (hBa.cell (p := ⟨go, m * 2, none⟩) hgs).trans (hgc m x hOm).1
                    have z1 : wa.cell? ⟨go, m * 2 + 1, none⟩ = some (.int .i64 x.du) := (hBa.cell (p := ⟨go, m * 2 + 1, none⟩) hgs).trans (hgc m x hOm).2
                    have HBA := Kept.mk hBa
                    have HXN := Kept.mk hxn
                    have g1 : decide ((O.length : Int) ≤ (m : Int)) = false := decide_eq_false (by omega)
                    have g2 : decide (t < x.du) = false := decide_eq_false (by omega)
                    have hmi : ((m : Int)) < (O.length : Int) := by omega
                    clear hcD hgc hx hOm hxn
                    go_upto_region 29 with fail
                    rw [← hwA, ← hbxe]
                    clear hwA hbxe hBa hbx x0 x1
                    cases b with
                    | true =>
                      go_quiet (fail)
                      go_wp2_with fail
                      go_roundw
                      case rel => exact ⟨k + 1, m + 1, by omega, by go_num, by go_num, ⟨by have := hm.out; omega⟩, ⟨HBA.out.drewN _⟩⟩
                      case measure => simp [intOf]; omega
                    | false =>
                      have g3 : decide (x.du ≤ now) = false := decide_eq_false (by have := HXN.out rfl; omega)
                      go_quiet (fail)
                      go_wp2_with fail
                      go_roundw
                      case rel => exact ⟨k + 1, m + 1, by omega, by go_num, by go_num, ⟨by have := hm.out; omega⟩, ⟨HBA.out.drewN _⟩⟩
                      case measure => simp [intOf]; omega
                  · obtain rfl : k = D.length := by omega
                    go_wp2_with fail
                    go_roundw
                    case rel =>
                      refine ⟨jj + 1, m, false, t, A'.filter fun y => decide (t < y.du), by have := HLT.out; omega, by go_num, rfl, rfl, by have := hm.out; omega, ⟨by simp⟩, ⟨W7.out.below (hBk.out.mono (by have := K7.out.size; have := HG6.out; omega))⟩, ?_, ⟨kp_bel K7.out hBk.out K7.out.size⟩⟩
                      have hdr : O.drop m = (O.drop q).filter fun y => decide (t < y.du) := by
                        have h1 := HPA.out.1
                        rw [hm.out, ← List.drop_drop]
                        conv => lhs; rw [h1]
                        exact List.drop_left
                      refine ⟨by rw [hdr]; exact srt_filter hS.out.1 _, by rw [hdr]; exact HPA.out.2, fun h => absurd h (by omega), by have := hS.out.2.2.2.1; have := HOK.out; omega, HOK.out.2, fun _ y hy => ?_, fun y hy => hS.out.2.2.2.2.2.2.1 y (List.mem_filter.1 hy).1, fun hN => ?_⟩
                      · have h1 := (List.mem_filter.1 hy).2
                        simp only [decide_eq_true_eq] at h1
                        have := hS.out.2.2.2.1; have := HOK.out; omega
                      · have h1 := HTL.out
                        rw [← hN, Nat.add_sub_cancel, HTJ.out] at h1
                        injection h1 with h1
                        refine List.filter_eq_nil_iff.2 fun y hy => ?_
                        have := (WAt.dus hWz.out y hy).2
                        simp; omega
                    case measure => have := HLT.out; simp [intOf]; omega
              · have HM := wmove_bad hWz.out TZ.out HLO.out t hok
                have HJ0 := Kept.mk (show 0 < jj from by
                  rcases Nat.eq_zero_or_pos jj with h0 | h0
                  · refine absurd ?_ hok
                    have h1 := HTJ.out
                    rw [h0, HT0.out] at h1
                    injection h1 with h1
                    have := hS.out.2.2.1 h0
                    omega
                  · exact h0)
                have HJL := Kept.mk (show jj + 1 < N from by
                  have := HLT.out
                  rcases Nat.lt_or_ge (jj + 1) N with h0 | h0
                  · exact h0
                  · refine absurd ?_ hok
                    have h1 := HTL.out
                    rw [show N - 1 = jj by omega, HTJ.out] at h1
                    injection h1 with h1
                    have := hS.out.2.2.2.2.1
                    omega)
                clear hok
                go_wp2_with fail
                refine HM.mono ?_
                rintro e w7 ⟨rfl, hW7, hK7⟩
                have W7 := Kept.mk hW7
                have K7 := Kept.mk (hKz.out.trans hK7)
                clear HM hW7 hK7 cj
                go_wp2_with fail
                go_roundw
                case rel => exact ⟨jj + 1, q, b, cur, A', by have := HLT.out; omega, by go_num, rfl, rfl, hq, ⟨by rw [hb.out]; have := HJ0.out; simp; omega⟩, W7, ⟨hS.out.1, hS.out.2.1, fun h => absurd h (by omega), hS.out.2.2.2.1, hS.out.2.2.2.2.1, fun _ => hS.out.2.2.2.2.2.1 HJ0.out, hS.out.2.2.2.2.2.2.1, fun h => absurd h (by have := HJL.out; omega)⟩, K7⟩
                case measure => have := HLT.out; simp [intOf]; omega
            · obtain rfl : jj = N := by omega
              have hA := hS.out.2.2.2.2.2.2.2 rfl
              have hcu := hS.out.2.2.2.2.1
              subst hA
              obtain rfl : q = O.length := by have := hS.out.2.1.length_eq; rw [List.length_drop] at this; simp at this; omega
              have HL := wlen_any hWz.out
              clear hlt hS hb hq hjN
              go_wp2_with ((go_at_call 18; refine (HL).mono ?_; rintro e w' ⟨rfl, rfl⟩))
              obtain ⟨C, hC⟩ : ∃ C : Nat, (C : Int) = min (n : Int) 300 + 1 := ⟨min n 300 + 1, by omega⟩
              rw [← hC]
              have HCC := Kept.mk hC
              have hC3 : C ≤ 301 := by omega
              clear hC
              go_loopw [26, 179] (fun s26 s179 wz => ∃ (k f : Nat) (tu' : Int) (A' : List Tm), k ≤ C ∧ s179 = .int .i64 k ∧ s26 = .int .i64 f ∧ Kept (f = min k n ∧ A'.length = f ∧ (∀ t ∈ A', 0 ≤ t.id ∧ t.id < f) ∧ 0 ≤ tu' ∧ tu' ≤ 100 + k) ∧ Kept (WAt wz w1.heap.size hi wb I M p L K n cur tu' A') ∧ Kept (Kp w1.heap.size hi w6 wz)) (fun _ s _ => C - (intOf s).toNat)
              case atStart => exact ⟨0, 0, tu, [], Nat.zero_le _, rfl, rfl, ⟨by omega, rfl, fun t h => (by cases h), HTU.out.1, by have := HTU.out.2; omega⟩, hWz, hKz⟩
              case round =>
                obtain ⟨k, f, tu', A', hkC, rfl, rfl, hF, hWy, hKy⟩ := hrel
                by_cases hk : k < C
                · have HI := winsert_any hWy.out (by have := hF.out.2.2.2.2; omega) (show (Lit.int .i64 (k : Int)).wf = true by simp [Lit.wf, IntKind.min, IntKind.max, IntKind.signed, IntKind.bits]; omega) 4503599627370496
                  have hki : ((k : Int)) < (C : Int) := by omega
                  have hnm : (k : Int) ∉ A'.map Tm.id := fun hm => by
                    obtain ⟨t, ht, e⟩ := List.mem_map.1 hm
                    have := (hF.out.2.2.1 t ht).2
                    have := hF.out.1
                    omega
                  have HK := Kept.mk hk
                  clear hk
                  by_cases hkn : k < n
                  · rw [show wIns n A' tu' k 4503599627370496 = (0, tu' + 1, A' ++ [⟨k, 4503599627370496, tu' + 1⟩]) from by
                      unfold wIns
                      rw [if_neg (by omega), if_neg hnm, if_neg (by have := hF.out.1; have := hF.out.2.1; omega)]] at HI
                    have HKN := Kept.mk hkn
                    have HNM := Kept.mk hnm
                    have hff : f ≤ 301 := by have := hF.out.1; omega
                    clear hkn hnm
                    go_wp2_with fail
                    refine HI.mono ?_
                    rintro e w7 ⟨rfl, hW7, hK7⟩
                    have W7 := Kept.mk hW7
                    have K7 := Kept.mk (hKy.out.trans hK7)
                    clear HI hW7 hK7
                    go_wp2_with fail
                    go_roundw
                    case rel =>
                      refine ⟨k + 1, f + 1, tu' + 1, A' ++ [⟨k, 4503599627370496, tu' + 1⟩], by have := HK.out; omega, by go_num, by go_num, ⟨by have := hF.out.1; have := HKN.out; omega, by rw [List.length_append, hF.out.2.1]; rfl, fun t ht => ?_, by have := hF.out.2.2.2.1; omega, by have := hF.out.2.2.2.2; omega⟩, W7, K7⟩
                      rcases List.mem_append.1 ht with h | h
                      · have := hF.out.2.2.1 t h; omega
                      · rw [List.mem_singleton.1 h]
                        have := hF.out.1; have := HKN.out
                        show 0 ≤ (k : Int) ∧ (k : Int) < _
                        omega
                    case measure => have := HK.out; simp [intOf]; omega
                  · rw [show wIns n A' tu' k 4503599627370496 = (5, tu', A') from by
                      unfold wIns
                      rw [if_neg (by omega), if_neg hnm, if_pos (by have := hF.out.1; have := hF.out.2.1; omega)]] at HI
                    have HKN := Kept.mk hkn
                    clear hkn hnm
                    go_wp2_with fail
                    refine HI.mono ?_
                    rintro e w7 ⟨rfl, hW7, hK7⟩
                    have W7 := Kept.mk hW7
                    have K7 := Kept.mk (hKy.out.trans hK7)
                    clear HI hW7 hK7
                    go_wp2_with fail
                    go_roundw
                    case rel => exact ⟨k + 1, f, tu', A', by have := HK.out; omega, by go_num, rfl, ⟨by have := hF.out.1; have := HKN.out; omega, hF.out.2.1, hF.out.2.2.1, hF.out.2.2.2.1, by have := hF.out.2.2.2.2; omega⟩, W7, K7⟩
                    case measure => have := HK.out; simp [intOf]; omega
                · obtain rfl : k = C := by omega
                  have hfin : ((f : Int) == min (n : Int) 301) = true := by
                    have := hF.out.1; have := HCC.out
                    simp only [beq_iff_eq]
                    omega
                  clear hk
                  go_wp2_with fail
                  go_ret
                  refine ⟨by first | rfl | exact ret_bool hfin, ?_⟩
                  have kk : Kp w1.heap.size hi w2 wr := K6.out.trans hKy.out
                  exact Kp.below (HB1.out.trans (HB2.out.mono HB1.out.size)) kk HB1.out.size (by have := HB1.out.size; have := HB2.out.size; omega)
  · have HN := wnew_bad now room hg w1
    have HF := pfree HP.out
    have hpl : ((newS 2 1).pile.length : Int) = 2 := rfl
    rw [hpl] at HF
    clear hg hpl
    go_wp2_with fail
    refine HN.mono ?_
    rintro e w2 ⟨rfl, rfl⟩
    go_wp2_with ((go_at_call 15; refine (HF).mono ?_; rintro e w' ⟨rfl, rfl⟩))
    go_ret
    exact ⟨rfl, HB1.out⟩
end Go.Proofs.YtakkfgkogomjbaaDoor
