/-
  The walk of the law TopLevels.
-/
import Derived.Test.YtcchmkpodfjhcaaCT5p
import Derived.Test.YtcchmkpodfjhcaaV4
import Derived.Deep.DeepCutAuto
import Derived.Deep.RegionHeld3
import Derived.Deep.CutBlock
namespace Go.Proofs.Ytcchmkpodfjhcaa
open Go.RowKit
set_option linter.unusedVariables false
set_option maxRecDepth 100000 in
set_option maxHeartbeats 8000000 in
theorem levels_bad (A1 A2 A3 : Option Addr) (xs cs : List Int) (ls : List QL3) (c1 c2 c3 : Nat) (w : World) (hcs : Ints w w.heap.size A2 cs) (h1 : xs.length ≤ 9223372036854775807) (h3 : ls.length ≤ 9223372036854775807) (hb : 16 < cs.length ∨ cs.any oddP = true) :
    Calls Try.prog 5 #[.slice A1 xs.length c1, .slice A2 cs.length c2, .slice A3 ls.length c3] w fun e w' => e = .returned (.bool true) ∧ Below w.heap.size w w' := by
  have HB := Kept.mk hb
  have HCS := Kept.mk hcs
  clear hb hcs
  go_enter Try.func5, Try.ntmps5
  go_wp2_with fail
  refine (begins_any _).mono ?_
  rintro e w1 ⟨rfl, rfl⟩
  go_wp2_with fail
  refine (qnew_any 64 (by omega) (by omega) w).mono ?_
  rintro e w2 ⟨hi, qb, I, M, p, L, K, rfl, hQ2, hb2⟩
  have HW := Kept.mk hb2
  clear hQ2 hb2
  go_wp2_with fail
  refine (tnew_bad ((HCS.out.below HW.out).mono HW.out.size) HB.out).mono ?_
  rintro e w3 ⟨rfl, rfl⟩
  by_cases g1 : 64 < xs.length
  · have g1' : (64 : Int) < (xs.length : Int) := by omega
    go_wp2
    go_ret
    exact ⟨rfl, HW.out⟩
  · have g1' : ¬ (64 : Int) < (xs.length : Int) := by omega
    by_cases g2 : 80 < ls.length
    · have g2' : (80 : Int) < (ls.length : Int) := by omega
      go_wp2
      go_ret
      exact ⟨rfl, HW.out⟩
    · have g2' : ¬ (80 : Int) < (ls.length : Int) := by omega
      go_wp2
      go_ret
      exact ⟨rfl, HW.out⟩
set_option maxRecDepth 100000 in
set_option maxHeartbeats 30000000 in
theorem levels_ok (A1 A2 A3 : Option Addr) (xs cs : List Int) (ls : List QL3) (c1 c2 c3 : Nat) (w : World) (hxs : Ints w w.heap.size A1 xs) (hcs : Ints w w.heap.size A2 cs) (hls : RL3 w w.heap.size A3 ls) (h1 : xs.length ≤ 9223372036854775807) (h3 : ls.length ≤ 9223372036854775807) (hc : cs.length ≤ 16) (ha : cs.any oddP = false) :
    Calls Try.prog 5 #[.slice A1 xs.length c1, .slice A2 cs.length c2, .slice A3 ls.length c3] w fun e w' => e = .returned (.bool true) ∧ Below w.heap.size w w' := by
  have HX := Kept.mk hxs
  have HCS := Kept.mk hcs
  have HLS := Kept.mk hls
  have HA := Kept.mk ha
  have hcr : ∀ c ∈ cs, 0 ≤ c ∧ c < 64 := fun c hm => by
    have h0 : oddP c = false := by
      cases hh : oddP c with
      | false => rfl
      | true => have := List.any_eq_true.2 ⟨c, hm, hh⟩; rw [ha] at this; cases this
    unfold oddP at h0
    simp at h0
    omega
  have HCR := Kept.mk hcr
  clear hxs hcs hls ha hcr
  go_enter Try.func5, Try.ntmps5
  go_wp2_with fail
  refine (begins_any _).mono ?_
  rintro e w1 ⟨rfl, rfl⟩
  go_wp2_with fail
  refine (qnew_any 64 (by omega) (by omega) w).mono ?_
  rintro e w2 ⟨hi, qb, I, M, p, L, K, rfl, hQ2, hb2⟩
  have HW := Kept.mk hb2
  have HQ := Kept.mk hQ2
  clear hQ2 hb2
  go_wp2_with fail
  refine (tnew_ok ((HCS.out.below HW.out).mono HW.out.size) hc HA.out).mono ?_
  rintro e w3 ⟨rfl, hT3, hb3⟩
  have HL := Kept.mk (show LV w w3 w.heap.size hi qb I M p L K w2.heap.size w3.heap.size w2.heap.size (newT cs) [] from
    ⟨HQ.out.below (hb3.mono HQ.out.hi), hT3, Nat.le_refl _, (by obtain ⟨_, _, _, _, hk⟩ := HQ.out.of; have := hk.ly.lh; omega), HQ.out.hi, HW.out.trans (hb3.mono HW.out.size)⟩)
  clear hT3 hb3
  by_cases g1 : 64 < xs.length
  · have g1' : (64 : Int) < (xs.length : Int) := by omega
    go_wp2
    go_ret
    exact ⟨rfl, HL.out.bw⟩
  have g1' : ¬ (64 : Int) < (xs.length : Int) := by omega
  by_cases g2 : 80 < ls.length
  · have g2' : (80 : Int) < (ls.length : Int) := by omega
    go_wp2
    go_ret
    exact ⟨rfl, HL.out.bw⟩
  have g2' : ¬ (80 : Int) < (ls.length : Int) := by omega
  obtain ⟨lo2, hlo2⟩ : ∃ n, n = w2.heap.size := ⟨_, rfl⟩
  obtain ⟨hi2, hhi2⟩ : ∃ n, n = w3.heap.size := ⟨_, rfl⟩
  obtain ⟨tb, htb⟩ : ∃ n, n = w2.heap.size := ⟨_, rfl⟩
  rw [← htb]
  have HL' := Kept.mk (show LV w w3 w.heap.size hi qb I M p L K lo2 hi2 tb (newT cs) [] by rw [hlo2, hhi2, htb]; exact HL.out)
  clear hlo2 hhi2 htb HL HQ HW
  go_upto_region 9 with fail
  go_wp2_with fail
  go_loopw [74] (fun t wr => ∃ (k : Nat), k ≤ xs.length ∧ t = .int .i64 k ∧ LV w wr w.heap.size hi qb I M p L K lo2 hi2 tb (newT cs) (PQ xs k)) (fun t _ => xs.length - (intOf t).toNat)
  case atStart => exact ⟨0, by omega, rfl, HL'.out⟩
  case round =>
    clear HL'
    obtain ⟨k, hk, rfl, hL⟩ := hrel
    by_cases hlt : k < xs.length
    · obtain ⟨b, off, rfl, hbB, hcc⟩ := (HX.out.below hL.bw) (by omega)
      have hck := hcc k hlt
      have ik : (k : Int) < (xs.length : Int) := by omega
      have hpq := PQ_pushn (n := 64) (xs := xs) (k := k) (by omega)
      obtain ⟨y, hy⟩ : ∃ y, y = xs[k]?.getD 0 := ⟨_, rfl⟩
      rw [← hy] at hck hpq
      have HC := Kept.mk (push_at hL.qa (wf_nat (show k ≤ 100 by omega)) hpq)
      have HL := Kept.mk hL
      by_cases hg : 0 ≤ y ∧ y < 64
      · have hcall := HC.out
        rw [if_pos hg] at hcall
        have hy0 : 0 ≤ y := hg.1
        have hy63 : y ≤ 63 := by omega
        clear hcc hy hpq HC hL hg
        go_wp2_with fail
        refine hcall.mono ?_
        rintro e w4 ⟨rfl, hQ4, hK4⟩
        have HL4 := Kept.mk (HL.out.queued hQ4 hK4)
        clear hcall hQ4 hK4
        go_wp2
        go_roundw
        case rel => exact ⟨k + 1, by omega, by go_num, HL4.out⟩
        case measure => simp [intOf]; omega
      · have hcall := HC.out
        rw [if_neg hg] at hcall
        clear hcc hy hpq HC hL
        go_wp2_with fail
        refine hcall.mono ?_
        rintro e w4 ⟨rfl, hQ4, hK4⟩
        have HL4 := Kept.mk (HL.out.queued hQ4 hK4)
        clear hcall hQ4 hK4
        by_cases h0 : 0 ≤ y
        · have h63 : ¬ y ≤ 63 := by omega
          go_wp2
          go_roundw
          case rel => exact ⟨k + 1, by omega, by go_num, HL4.out⟩
          case measure => simp [intOf]; omega
        · go_wp2
          go_roundw
          case rel => exact ⟨k + 1, by omega, by go_num, HL4.out⟩
          case measure => simp [intOf]; omega
    · have hke : k = xs.length := by omega
      subst hke
      have HL := Kept.mk hL
      clear hL
      obtain ⟨wo, hwo⟩ : ∃ wo : World, wo = wr := ⟨_, rfl⟩
      subst hwo
      go_wp2_with fail
      go_loopw [95] (fun t wr => ∃ (k : Nat) (T : List Mx) (Q : QL), k ≤ ls.length ∧ t = .int .i64 k ∧ Kept (TL xs cs T Q) ∧ LV w wr w.heap.size hi qb I M p L K lo2 hi2 tb T Q) (fun t _ => ls.length - (intOf t).toNat)
      case atStart => exact ⟨0, newT cs, PQ xs xs.length, by omega, rfl, ⟨TL.first HCR.out⟩, HL.out⟩
      case round =>
        clear HL hk hlt
        obtain ⟨k, T, Q, hk, rfl, HT, hL⟩ := hrel
        by_cases hlt : k < ls.length
        · obtain ⟨b3, off3, rfl, hb3, hc3⟩ := (HLS.out.below hL.bw) (by omega)
          obtain ⟨y, hy⟩ := someL3_at hlt
          obtain ⟨e1, e2, e3⟩ := hc3 k y hy
          have ik : (k : Int) < (ls.length : Int) := by omega
          obtain ⟨xa, xb, xu⟩ := y
          simp only at e1 e2 e3
          have hb5 := below_box wr (.cells #[.int .i64 xa, .int .i64 xb, .bool xu] 60)
          have HL5 := Kept.mk (hL.next hb5)
          have HX5 := Kept.mk (heap_alloc_new wr (.cells #[.int .i64 xa, .int .i64 xb, .bool xu] 60))
          have hhx : hi2 ≤ wr.heap.size := hL.hih.2
          clear hc3 hy hb5 hL hb3
          by_cases t0 : xa < 0
          · go_wp2
            go_roundw
            case rel => exact ⟨k + 1, T, Q, by omega, by go_num, HT, HL5.out⟩
            case measure => simp [intOf]; omega
          by_cases t1 : (xs.length : Int) ≤ xa
          · go_wp2
            go_roundw
            case rel => exact ⟨k + 1, T, Q, by omega, by go_num, HT, HL5.out⟩
            case measure => simp [intOf]; omega
          obtain ⟨i, rfl⟩ : ∃ i : Nat, xa = i := ⟨xa.toNat, by omega⟩
          have hi3 : i < xs.length := by omega
          obtain ⟨b, off, rfl, hbB, hcc⟩ := (HX.out.below HL5.out.bw) (by omega)
          have hci := hcc i hi3
          have HCI := Kept.mk (fun (W : World) (hb : Below w.heap.size w W) => (HX.out.below hb) (by omega))
          obtain ⟨y, hy⟩ : ∃ y, y = xs[i]?.getD 0 := ⟨_, rfl⟩
          rw [← hy] at hci
          have HY := Kept.mk hy
          clear hcc hy
          by_cases t2 : y < 0
          · go_wp2
            go_roundw
            case rel => exact ⟨k + 1, T, Q, by omega, by go_num, HT, HL5.out⟩
            case measure => simp [intOf]; omega
          by_cases t3 : 63 < y
          · go_wp2
            go_roundw
            case rel => exact ⟨k + 1, T, Q, by omega, by go_num, HT, HL5.out⟩
            case measure => simp [intOf]; omega
          have HOK := Kept.mk (show okPrio xs i from ⟨hi3, by have := HY.out; omega, by have := HY.out; omega⟩)
          have t3' : y ≤ 63 := by omega
          go_upto_if 126 with fail
          obtain ⟨W5, hW5⟩ : ∃ W, W = wr.alloc (.cells #[.int .i64 (i : Int), .int .i64 xb, .bool xu] 60) := ⟨_, rfl⟩
          rw [← hW5] at HL5 HX5 hci ⊢
          obtain ⟨x, hx⟩ : ∃ x, x = wr.heap.size := ⟨_, rfl⟩
          rw [← hx] at HX5 hhx ⊢
          clear hx hW5 e1 e2 e3
          have x0 := cell_of_row W5 x 0 _ _ _ HX5.out
          have x1 := cell_of_row W5 x 1 _ _ _ HX5.out
          have x2 := cell_of_row W5 x 2 _ _ _ HX5.out
          simp only [List.getElem?_toArray, List.getElem?_cons_zero, List.getElem?_cons_succ] at x0 x1 x2
          have i0 : ¬ ((i : Int) < 0) := by omega
          have ii : (i : Int) < (xs.length : Int) := by omega
          obtain ⟨a, T', hact⟩ : ∃ a T', tAct T xu xb i y = (a, T') := ⟨_, _, rfl⟩
          have HACT := Kept.mk hact
          clear hact
          go_cut [16] (fun s16 wx => s16 = .int .i64 a ∧ wx.heap[x]? = some (.cells #[.int .i64 (i : Int), .int .i64 xb, .bool xu] 60) ∧ LV w wx w.heap.size hi qb I M p L K lo2 hi2 tb T' Q)
          case first =>
            cases hxu : xu with
            | true =>
              subst hxu
              go_wp2_with fail
              refine (HL5.out.unlock HACT.out rfl).mono ?_
              rintro e w6 ⟨rfl, hT6, hK6⟩
              have HL6 := Kept.mk (HL5.out.tabbed hT6 hK6)
              have HX6 := Kept.mk ((HL5.out.kept HX5.out hhx).1 hK6)
              clear hT6 hK6 x0 x1 x2 hci
              go_wp2_with fail
              go_meet
              exact ⟨rfl, HX6.out, HL6.out⟩
            | false =>
              subst hxu
              go_upto_region 23 with fail
              have HS := Kept.mk (fun (W : World) (hk : Kp lo2 hi2 W5 W) => show W.cell? ⟨x, 0, none⟩ = some (.int .i64 (i : Int)) ∧ W.cell? ⟨x, 1, none⟩ = some (.int .i64 xb) ∧ W.cell? ⟨b, off + i, none⟩ = some (.int .i64 y) from by
                have hx' := (HL5.out.kept HX5.out hhx).1 hk
                have g1 := HL5.out.lw
                have g2 := HL5.out.lh
                have g3 := HL5.out.hl
                have g4 := HL5.out.hih
                exact ⟨cell_of_row _ _ 0 _ _ _ hx', cell_of_row _ _ 1 _ _ _ hx', (World.cell?_of_block (a := ⟨b, off + i, none⟩) (hk.block b (by omega) (.inl (by omega)))).trans hci⟩)
              have hk0 : Kp lo2 hi2 W5 W5.drew := (Kp.refl _ _ _).drewN 1
              have HL0 := Kept.mk (HL5.out.tabbed (W := W5.drew) (by obtain ⟨A, c, ht⟩ := HL5.out.ta; exact ⟨A, c, ht.below ((Below.refl _ _).drewN 1)⟩) hk0)
              go_region_held3 (fun W => W.cell? ⟨x, 0, none⟩ = some (.int .i64 (i : Int)) ∧ W.cell? ⟨x, 1, none⟩ = some (.int .i64 xb) ∧ W.cell? ⟨b, off + i, none⟩ = some (.int .i64 y)) ((first | exact HS.out _ hk0 | go_keep)) (first
                | (go_at_call 37; refine (HL0.out.lock HACT.out rfl).mono ?_; rintro e w6 ⟨rfl, hT6, hK6⟩; have HL6 := Kept.mk (HL0.out.tabbed hT6 hK6); replace hk0 := hk0.trans hK6; clear hT6 hK6))
              all_goals (go_wp2_with fail)
              all_goals go_meet
              all_goals exact ⟨rfl, (HL5.out.kept HX5.out hhx).1 hk0, HL6.out⟩
          case rest =>
            obtain ⟨rfl, hx6, hL6⟩ := hcut
            clear x0 x1 x2 hci HL5 HX5
            have x0 := cell_of_row wc x 0 _ _ _ hx6
            simp only [List.getElem?_toArray, List.getElem?_cons_zero] at x0
            by_cases ha0 : a = 0
            · subst ha0
              go_upto_region 25 with fail
              have hR := tAct_ok HT.out HOK.out HACT.out
              rw [← HY.out] at hR
              obtain ⟨l, hl⟩ : ∃ l, l = tLev T' i y := ⟨_, rfl⟩
              obtain ⟨Q', hQ'⟩ : ∃ Q', Q' = Q.rem i ++ [((i : Int), (tLev T' i y).toNat)] := ⟨_, rfl⟩
              rw [← hQ', ← hl] at hR
              have HRQ := Kept.mk hR.1
              have HT8 := Kept.mk hR.2
              have HNE := Kept.mk (show Q' ≠ [] by rw [hQ']; simp)
              have HLEV := Kept.mk hl
              have HL6 := Kept.mk hL6
              have HX6 := Kept.mk hx6
              have wfi : (Lit.int .i64 (i : Int)).wf = true := wf_nat (by omega)
              have HS := Kept.mk (fun (W : World) (hk : Kp w.heap.size hi wc W) => show W.cell? ⟨x, 0, none⟩ = some (.int .i64 (i : Int)) ∧ W.cell? ⟨b, off + i, none⟩ = some (.int .i64 y) from by
                have hx' := (HL6.out.kept HX6.out hhx).2 hk
                have g1 := HL6.out.bw.size
                have hb := HCI.out wc HL6.out.bw
                obtain ⟨b', off', e, _, hc⟩ := hb
                cases e
                have hc := hc i hi3
                rw [← HY.out] at hc
                exact ⟨cell_of_row _ _ 0 _ _ _ hx', (World.cell?_of_block (a := ⟨b, off + i, none⟩) (hk.block b (by omega) (.inl (by omega)))).trans hc⟩)
              have hk0 : Kp w.heap.size hi wc wc.drew := (Kp.refl _ _ _).drewN 1
              have HL0 := Kept.mk (HL6.out.next (W := wc.drew) ((Below.refl _ _).drewN 1))
              clear hR hl hQ' hx6 hL6 HT HACT x0
              go_region_held3 (fun W => W.cell? ⟨x, 0, none⟩ = some (.int .i64 (i : Int)) ∧ W.cell? ⟨b, off + i, none⟩ = some (.int .i64 y)) ((first | exact HS.out _ hk0 | go_keep)) (first
                | (go_at_call 39; refine (HL0.out.level _ _).mono ?_; rintro e w7 ⟨rfl, hb7⟩; rw [← HLEV.out]; have HL7 := Kept.mk (HL0.out.next hb7); replace hk0 := hk0.trans (Kp.of_below hb7); clear hb7)
                | (go_at_call 38; refine (raise_at HL7.out.qa wfi HRQ.out).mono ?_; rintro e w8 ⟨rfl, hQ8, hK8⟩; have HL8 := Kept.mk (HL7.out.queued hQ8 hK8); replace hk0 := hk0.trans hK8; clear hQ8 hK8))
              go_wp2_with fail
              obtain ⟨f, kk, ht1, ht2, ht3, ht4⟩ := HT8.out.top HNE.out
              have HTOP := Kept.mk (show Calls Try.prog 40 #[.pointer (some ⟨qb, 0, none⟩)] w8 fun e w' => e = .returned (.tuple #[.int .i64 (f : Int), .int .i64 (kk : Int), .bool true]) ∧ w8 = w' from by
                have := qtop_at HL8.out.qa
                rw [ht1] at this
                exact this)
              have HMAX := Kept.mk ht4
              have hf := ht2.1
              have hff : (f : Int) < (xs.length : Int) := by omega
              have hf0 : ¬ ((f : Int) < 0) := by omega
              have hf1 : ¬ ((xs.length : Int) ≤ (f : Int)) := by omega
              have hf2 : decide (xs.length ≤ f) = false := decide_eq_false (by omega)
              have hf3 : decide ((f : Int) < 0) = false := decide_eq_false hf0
              have HFI := Kept.mk (fun (W : World) (hb : Below w.heap.size w W) => show W.cell? ⟨b, off + f, none⟩ = some (.int .i64 (xs[f]?.getD 0)) from by
                obtain ⟨b', off', e, _, hc⟩ := HCI.out W hb
                cases e
                exact hc f hf)
              have HFL := Kept.mk (fun (pr : Int) (e : pr = xs[f]?.getD 0) => show Calls Try.prog 39 #[.pointer (some ⟨tb, 0, none⟩), .int .i64 (f : Int), .int .i64 pr] w8 fun e w' => e = .returned (.int .i64 (kk : Int)) ∧ Below w8.heap.size w8 w' from by
                have := HL8.out.level f pr
                rw [e] at this ⊢
                rw [← ht3] at this
                exact this)
              obtain ⟨pf, hpf⟩ : ∃ pf, pf = xs[f]?.getD 0 := ⟨_, rfl⟩
              have hfc := HFI.out w8 HL8.out.bw
              rw [← hpf] at hfc
              have HPF := Kept.mk hpf
              clear ht1 ht2 ht3 ht4 hpf
              refine HTOP.out.mono ?_
              rintro e w9 ⟨rfl, rfl⟩
              go_wp2_with fail
              refine (HFL.out pf HPF.out).mono ?_
              rintro e w9 ⟨rfl, hb9⟩
              have HL9 := Kept.mk (HL8.out.next hb9)
              clear hb9 hfc HFL HFI HTOP
              go_upto_region 30 with fail
              go_wp2_with fail
              go_loopw [191] (fun t wr => ∃ (j : Nat), j ≤ xs.length ∧ t = .int .i64 j ∧ LV w wr w.heap.size hi qb I M p L K lo2 hi2 tb T' Q') (fun t _ => xs.length - (intOf t).toNat)
              case atStart => exact ⟨0, by omega, rfl, HL9.out⟩
              case round =>
                clear HL9 HL8 HL7 HL6
                obtain ⟨j, hj, rfl, hLj⟩ := hrel
                by_cases hjl : j < xs.length
                · have hcj := HCI.out wr hLj.bw
                  obtain ⟨b', off', e, _, hcj⟩ := hcj
                  cases e
                  have hcj1 := hcj j hjl
                  clear hcj
                  have HLL := Kept.mk (fun pr => hLj.level j pr)
                  have HLJ := Kept.mk hLj
                  obtain ⟨v, hv⟩ : ∃ v, v = xs[j]?.getD 0 := ⟨_, rfl⟩
                  rw [← hv] at hcj1
                  have HV := Kept.mk hv
                  have ij : (j : Int) < (xs.length : Int) := by omega
                  clear hv hLj
                  by_cases v0 : 0 ≤ v
                  · by_cases v1 : v ≤ 63
                    · obtain ⟨lj, hlj⟩ : ∃ lj, lj = tLev T' j v := ⟨_, rfl⟩
                      have hmx := HMAX.out j ⟨hjl, by have := HV.out; omega, by have := HV.out; omega⟩
                      rw [← HV.out, ← hlj] at hmx
                      have hmx' : ¬ ((kk : Int) < lj) := by omega
                      have HCALL := Kept.mk (HLL.out v)
                      rw [← hlj] at HCALL
                      clear hlj hmx HLL
                      go_wp2_with fail
                      refine HCALL.out.mono ?_
                      rintro e w10 ⟨rfl, hb10⟩
                      have HLJ2 := Kept.mk (HLJ.out.next hb10)
                      clear hb10
                      go_wp2
                      go_roundw
                      case rel => first | exact ⟨j + 1, by omega, by go_num, HLJ2.out⟩ | ((repeat apply Exists.intro); exact ⟨⟨j + 1, by omega, by go_num, HLJ2.out⟩, rfl⟩)
                      case measure => simp [intOf]; omega
                    · go_wp2
                      go_roundw
                      case rel => first | exact ⟨j + 1, by omega, by go_num, HLJ.out⟩ | ((repeat apply Exists.intro); exact ⟨⟨j + 1, by omega, by go_num, HLJ.out⟩, rfl⟩)
                      case measure => simp [intOf]; omega
                  · go_wp2
                    go_roundw
                    case rel => first | exact ⟨j + 1, by omega, by go_num, HLJ.out⟩ | ((repeat apply Exists.intro); exact ⟨⟨j + 1, by omega, by go_num, HLJ.out⟩, rfl⟩)
                    case measure => simp [intOf]; omega
                · have HL9 := Kept.mk hLj
                  clear hLj
                  obtain ⟨wo, hwo⟩ : ∃ wo : World, wo = wr := ⟨_, rfl⟩
                  subst hwo
                  go_wp2_with fail
                  go_loopw [213] (fun t wr => ∃ (j : Nat), j ≤ cs.length ∧ t = .int .i64 j ∧ LV w wr w.heap.size hi qb I M p L K lo2 hi2 tb T' Q') (fun t _ => cs.length - (intOf t).toNat)
                  case atStart => exact ⟨0, by omega, rfl, HL9.out⟩
                  case round =>
                    clear HL9 hj hjl
                    obtain ⟨j, hj, rfl, hLj⟩ := hrel
                    by_cases hjl : j < cs.length
                    · obtain ⟨c0, hc0⟩ : ∃ c0, cs[j]? = some c0 := ⟨_, List.getElem?_eq_getElem hjl⟩
                      obtain ⟨b2, off2, rfl, _, hcj⟩ := (HCS.out.below hLj.bw) (by omega)
                      have hcj1 := hcj j hjl
                      rw [hc0, Option.getD_some] at hcj1
                      clear hcj
                      have hjt : j < T'.length := by
                        have := HT8.out.ce
                        rw [← this, List.length_map] at hjl
                        exact hjl
                      obtain ⟨m, hm⟩ : ∃ m, T'[j]? = some m := ⟨_, List.getElem?_eq_getElem hjt⟩
                      have hmc : m.1 = c0 := by
                        have h := HT8.out.ce
                        rw [← h, List.getElem?_map, hm] at hc0
                        simpa using hc0
                      have HHO := Kept.mk (hLj.holder hm)
                      have HLJ := Kept.mk hLj
                      have HTH := Kept.mk (fun hh => HT8.out.held hm hh)
                      have ij : (j : Int) < (cs.length : Int) := by omega
                      obtain ⟨mc, mb, mt⟩ := m
                      simp only at hmc HHO HTH
                      subst hmc
                      cases mb with
                      | false =>
                        clear hLj hm hc0 HTH hjt
                        go_wp2_with fail
                        refine HHO.out.mono ?_
                        rintro e w10 ⟨rfl, rfl⟩
                        go_wp2
                        go_roundw
                        case rel => first | exact ⟨j + 1, by omega, by go_num, HLJ.out⟩ | ((repeat apply Exists.intro); exact ⟨⟨j + 1, by omega, by go_num, HLJ.out⟩, rfl⟩)
                        case measure => simp [intOf]; omega
                      | true =>
                        obtain ⟨o, rfl, ho1, ho2⟩ := HTH.out rfl
                        have hcx := HCI.out wr hLj.bw
                        obtain ⟨b', off', e, _, hcx⟩ := hcx
                        cases e
                        have hcx1 := hcx o ho1.1
                        clear hcx
                        have HLL := Kept.mk (fun pr => hLj.level o pr)
                        obtain ⟨v, hv⟩ : ∃ v, v = xs[o]?.getD 0 := ⟨_, rfl⟩
                        rw [← hv] at hcx1 ho2
                        obtain ⟨lj, hlj⟩ : ∃ lj, lj = tLev T' o v := ⟨_, rfl⟩
                        rw [← hlj] at ho2
                        have HCALL := Kept.mk (HLL.out v)
                        rw [← hlj] at HCALL
                        have hn : ¬ (lj < mc) := by omega
                        have io := ho1.1
                        have io1 : (o : Int) < (xs.length : Int) := by omega
                        clear hLj hm hc0 HTH hjt hv hlj ho1 ho2 HLL
                        go_wp2_with fail
                        refine HHO.out.mono ?_
                        rintro e w10 ⟨rfl, rfl⟩
                        go_wp2_with fail
                        refine HCALL.out.mono ?_
                        rintro e w10 ⟨rfl, hb10⟩
                        have HLJ2 := Kept.mk (HLJ.out.next hb10)
                        clear hb10
                        go_wp2
                        go_roundw
                        case rel => first | exact ⟨j + 1, by omega, by go_num, HLJ2.out⟩ | ((repeat apply Exists.intro); exact ⟨⟨j + 1, by omega, by go_num, HLJ2.out⟩, rfl⟩)
                        case measure => simp [intOf]; omega
                    · have HLJ := Kept.mk hLj
                      clear hLj
                      go_wp2
                      go_roundw
                      case rel => first | exact ⟨k + 1, T', Q', by omega, by go_num, HT8, HLJ.out⟩ | ((repeat apply Exists.intro); exact ⟨⟨k + 1, T', Q', by omega, by go_num, HT8, HLJ.out⟩, rfl⟩)
                      case measure => simp [intOf]; omega
            · have hne : (a == 0) = false := by simp [ha0]
              have := tAct_ne HACT.out ha0
              subst this
              have HL6 := Kept.mk hL6
              clear ha0 hx6 hL6 x0
              go_wp2
              go_roundw
              case rel => first | exact ⟨k + 1, T', Q, by omega, by go_num, HT, HL6.out⟩ | ((repeat apply Exists.intro); exact ⟨⟨k + 1, T', Q, by omega, by go_num, HT, HL6.out⟩, rfl⟩)
              case measure => simp [intOf]; omega
        · have HB := Kept.mk hL.bw
          clear hL
          go_wp2
          go_ret
          exact ⟨rfl, HB.out⟩
end Go.Proofs.Ytcchmkpodfjhcaa
