/-
  TopMarked: the walk.
-/
import Derived.Test.YtfneloplbkjbhaaDoorTM12
import Derived.Test.YtfneloplbkjbhaaDoorCalm2
import Derived.BigQuiet
namespace Go.Proofs.YtfneloplbkjbhaaDoor
open Go.RowKit Go.Shelf
set_option linter.unusedVariables false
set_option linter.unusedSimpArgs false
theorem wp_region_late {P : Program} {ops : Array Oper} {Q : Exit → Act → World → Prop} {id : Nat} {a : Act} {w : World} (S : World → Prop) (T : Nat → Bool) (hm : P.follows .mixedOrders = true)
    (h : wpAnyT P .any ops Q S T ops.size (Array.replicate ops.size false) a w.drew) : (Code.region id ops true).wp P Q a w := wp_region_any hm (wpAny_of_T _ _ _ _ h)
theorem info_i64M : (Tryd.prog.info? 2).map (fun i => (i.zero, i.size, i.bytes)) = some (some (.int .i64 0), 1, 8) := by kernel_rfl
set_option maxHeartbeats 16000000 in
set_option maxRecDepth 100000 in
theorem walk (A : Option Addr) (ms : List QM) (cap : Nat) (kd wh p j a : Int) (w : World) (hms : RM w w.heap.size A ms) (EN : Env w.heap.size w) :
    Calls Tryd.prog 3 #[.slice A ms.length cap, .int .u8 kd, .int .i64 wh, .agg #[.int .i64 p, .int .i64 j, .int .i64 a]] w fun e w' => e = .returned (.bool true) ∧ Below w.heap.size w w' := by
  obtain ⟨W1, hW1⟩ : ∃ W1, W1 = w.alloc (.cells #[.int .i64 p, .int .i64 j, .int .i64 a] 25) := ⟨_, rfl⟩
  have hb1 : Below w.heap.size w W1 := by rw [hW1]; exact below_box w _
  have EN1 : Env W1.heap.size W1 := (EN.on hb1).mono hb1.size
  have hms1 := (hms.below hb1).mono hb1.size
  have hbx : ∀ (W : World), Below W1.heap.size W1 W → (W.cell? ⟨w.heap.size, 0, none⟩ = some (.int .i64 p) ∧ W.cell? ⟨w.heap.size, 1, none⟩ = some (.int .i64 j) ∧ W.cell? ⟨w.heap.size, 2, none⟩ = some (.int .i64 a)) := by
    intro W hW
    rw [hW1] at hW
    exact ⟨box_cell hW 0 _ rfl, box_cell hW 1 _ rfl, box_cell hW 2 _ rfl⟩
  have HBX := Kept.mk hbx
  have HB1 := Kept.mk hb1
  clear hbx hb1
  by_cases hlong : 65536 < ms.length
  · have HT := Kept.mk (text_long A ms.length cap W1 hlong)
    rw [hW1] at HT HB1
    have h300 : (300 : Int) < (ms.length : Int) := by omega
    clear hW1 hms hms1 EN1
    go_enter Tryd.func3, Tryd.ntmps3
    go_wp2_with (first | (go_at_call 5; refine (begins_any _).mono ?_; rintro e w' ⟨rfl, rfl⟩) | (go_at_call 6; refine HT.out.mono ?_; rintro e w2 ⟨rfl, rfl⟩))
    go_ret
    exact ⟨rfl, HB1.out⟩
  · have HT0 := text_any A ms cap W1 hms1 (by omega) EN1.pow EN1.wrd (by have := EN1.b2; omega)
    have HMS := Kept.mk hms1
    have HEN := Kept.mk EN1
    clear hms hms1 EN1 EN
    by_cases hok : okL ms
    · have HT := Kept.mk (HT0.mono (R' := fun e w' => e = .returned (.tuple #[.string (BA (textL ms)), .int .i64 0]) ∧ Below W1.heap.size W1 w') (fun e w' h => by
        rcases h with ⟨h1, ⟨_, h2⟩ | ⟨h2, _⟩⟩
        · exact ⟨h2, h1⟩
        · exact absurd hok h2))
      clear HT0
      rw [hW1] at HT
      go_enter Tryd.func3, Tryd.ntmps3
      go_wp2_with (first | (go_at_call 5; refine (begins_any _).mono ?_; rintro e w' ⟨rfl, rfl⟩) | (go_at_call 6; refine HT.out.mono ?_; rintro e w2 ⟨rfl, hb2⟩; refine Hid.out ?_))
      refine Lib.hid ?_
      rw [← hW1] at hb2
      clear hW1 HT
      have HB2 := Kept.mk hb2
      have B2 := HB1.out.trans (hb2.mono HB1.out.size)
      clear hb2
      by_cases h3 : 300 < ms.length
      · have h300 : (300 : Int) < (ms.length : Int) := by omega
        clear hok
        go_wp2
        all_goals go_ret
        all_goals exact ⟨ret_bool (by first | rfl | simp), B2⟩
      · have h300 : decide ((300 : Int) < (ms.length : Int)) = false := decide_eq_false (by omega)
        have HR := Kept.mk (read_any ms w2 hok (by omega) ((HEN.out.on HB2.out).mono HB2.out.size))
        have n300 : ms.length ≤ 300 := by omega
        obtain ⟨tx, htx⟩ : ∃ tx, tx = textL ms := ⟨_, rfl⟩
        rw [← htx] at HR
        rw [← htx]
        clear hok h3 htx
        go_wp2_with (go_at_call 7; refine HR.out.mono ?_; rintro e w3 ⟨v3, rfl, hO3, hb3⟩; refine Hid.out ?_)
        refine Lib.hid ?_
        have B3 := B2.trans (hb3.mono B2.size)
        have HB3 := Kept.mk (HB2.out.trans (hb3.mono HB2.out.size))
        obtain ⟨A3, c3, rfl⟩ := own_slice hO3
        have HR3 := Kept.mk (RM.of_own hO3).2
        clear hO3 hb3 HR HB2 B2
        obtain ⟨i0, hi, hz0, hz1, hz2⟩ := info_parts info_i64M
        go_wp2
        go_loopw [14, 68] (fun s t wr => ∃ (k : Nat) (A5 : Option Addr) (c5 : Nat), k ≤ ms.length ∧ t = .int .i64 k ∧ s = .slice A5 (timesL kd wh (ms.take k)).length c5 ∧ wr.ownsRow w3.heap.size 2 1 (.slice A5 (timesL kd wh (ms.take k)).length c5) (timesL kd wh (ms.take k)).length ((timesL kd wh (ms.take k)).map (Value.int .i64)) ∧ Below w3.heap.size w3 wr) (fun _ t _ => ms.length - (intOf t).toNat)
        case atStart => exact ⟨0, none, 0, by omega, rfl, rfl, World.ownsRow_nil _ _ _ _, Below.refl _ _⟩
        case round =>
          obtain ⟨k, A5, c5, hk, rfl, rfl, hO5, hb5⟩ := hrel
          have hsz := hb5.size
          by_cases hlt : k < ms.length
          · obtain ⟨b1, o1, rfl, hl1, hc1⟩ := (HMS.out.below (HB3.out.trans (hb5.mono HB3.out.size))) (by omega)
            obtain ⟨b2, o2, rfl, hl2, hc2⟩ := (HR3.out.below hb5) (by omega)
            obtain ⟨m, hm⟩ := some_atM hlt
            obtain ⟨e1, e2, e3, e4⟩ := hc1 k m hm
            obtain ⟨d1, d2, d3, d4⟩ := hc2 k m hm
            have HM := Kept.mk hm
            have HT5 := Kept.mk (times_snoc kd wh hm)
            have hlen5 : (timesL kd wh (ms.take k)).length ≤ 300 := by
              have := times_len kd wh (ms.take k)
              rw [List.length_take] at this
              omega
            have ik : (k : Int) < (ms.length : Int) := by omega
            have k1 : b1 < wr.heap.size := by have := HB3.out.size; omega
            have k2 : b2 < wr.heap.size := by omega
            obtain ⟨xs5, hx5⟩ : ∃ xs5, xs5 = timesL kd wh (ms.take k) := ⟨_, rfl⟩
            rw [← hx5] at hO5 HT5 hlen5
            rw [← hx5]
            clear hm hc1 hc2 hx5
            obtain ⟨ma, mb, mc, md⟩ := m
            simp only at e1 e2 e3 e4 d1 d2 d3 d4
            go_wp2
            go_quiet (fail)
            obtain ⟨wq, hwq⟩ : ∃ wq, wq = (wr.alloc (.cells #[.int .i64 ma, .int .u8 mb, .int .i64 mc, .int .i64 md] 34)).drewN nq := ⟨_, rfl⟩
            rw [← hwq]
            have BXQ : Below (wr.alloc (.cells #[.int .i64 ma, .int .u8 mb, .int .i64 mc, .int .i64 md] 34)).heap.size (wr.alloc (.cells #[.int .i64 ma, .int .u8 mb, .int .i64 mc, .int .i64 md] 34)) wq := by rw [hwq]; exact (Below.refl _ _).drewN nq
            have hbq : Below wr.heap.size wr wq := (below_box wr _).trans (BXQ.mono (by simp))
            have x0 := box_cell BXQ 0 _ rfl
            have x1 := box_cell BXQ 1 _ rfl
            have x2 := box_cell BXQ 2 _ rfl
            have O5 := own_below hO5 hbq
            have B5 := hb5.trans (hbq.mono hsz)
            clear hwq BXQ hO5 hb5 hbq e1 e2 e3 e4 d1 d2 d3 d4
            by_cases hkd : mb = kd ∧ mc = wh
            · obtain ⟨rfl, rfl⟩ := hkd
              have HE5 := Kept.mk (show timesL mb mc (ms.take (k + 1)) = xs5 ++ [ma] from by rw [HT5.out]; simp [dropB])
              clear HT5
              go_wp2_with (at_builtin; refine wpList_append_own _ rfl _ _ 32 rfl w3.heap.size 2 i0 (.int .i64 0) 1 8 Tryd.underlying32 hi hz0 hz1 hz2 rfl (by decide) _ _ _ rfl (O5.alloc _) ⟨wq.heap.size, 0, none⟩ 1 1 [.int .i64 ma] rfl rfl (cell_one_new _ _ _) (by simp [Value.oneCell']) (by simp only [maxLen]; omega) (by omega) (by have := B5.size; simp; omega) ?_; intro v' w5 hown' hgrow _; refine Hid.out ?_)
              refine Lib.hid ?_
              have B6 := (B5.alloc B5.size (.cells #[.int .i64 ma] 2)).grown hgrow (by have := B5.size; simp; omega) (fun k hk => (World.ownsRow.lt O5 k hk).1)
              have O6 : w5.ownsRow w3.heap.size 2 1 v' (timesL mb mc (ms.take (k + 1))).length ((timesL mb mc (ms.take (k + 1))).map (Value.int .i64)) := by
                rw [HE5.out]
                simpa using hown'
              obtain ⟨A6, c6, rfl⟩ := own_slice O6
              clear hown' hgrow O5 B5 x0 x1 x2
              go_wp2
              go_roundw
              case rel => exact ⟨k + 1, A6, c6, by omega, by go_num, rfl, O6, B6⟩
              case measure => simp [intOf]; omega
            · have HE5 := Kept.mk (show timesL kd wh (ms.take (k + 1)) = xs5 from by
                rw [HT5.out]
                have : dropB kd wh ⟨ma, mb, mc, md⟩ = true := by
                  unfold dropB
                  simp only
                  by_cases h1 : mb = kd
                  · have h2 : ¬ mc = wh := fun h => hkd ⟨h1, h⟩
                    simp [h2]
                  · simp [h1]
                rw [this]
                simp)
              rcases (by by_cases h1 : mb = kd
                         · exact .inr ⟨beq_iff_eq.2 h1, beq_eq_false_iff_ne.2 (fun h => hkd ⟨h1, h⟩)⟩
                         · exact .inl (beq_eq_false_iff_ne.2 h1) : (mb == kd) = false ∨ ((mb == kd) = true ∧ (mc == wh) = false)) with h1 | ⟨h1, h2⟩
              · clear HT5 hkd
                go_wp2
                go_roundw
                case rel => exact ⟨k + 1, A5, c5, by omega, by go_num, by rw [HE5.out], by rw [HE5.out]; exact O5, B5⟩
                case measure => simp [intOf]; omega
              · clear HT5 hkd
                go_wp2
                go_roundw
                case rel => exact ⟨k + 1, A5, c5, by omega, by go_num, by rw [HE5.out], by rw [HE5.out]; exact O5, B5⟩
                case measure => simp [intOf]; omega
          · have e0 : ms.take k = ms := List.take_of_length_le (by omega)
            rw [e0] at hO5
            rw [e0]
            have HON := Kept.mk (only_any A3 c3 ms kd wh wr ((HR3.out.below hb5).mono hsz) (by omega))
            have hlen5 : (timesL kd wh ms).length ≤ 300 := by
              have := times_len kd wh ms
              omega
            have HK := Kept.mk (show (keptL kd wh ms).length = (timesL kd wh ms).length ∧ (keptL kd wh ms).map QM.a = timesL kd wh ms from ⟨by unfold timesL; rw [List.length_map], rfl⟩)
            obtain ⟨xs5, hx5⟩ : ∃ xs5, xs5 = timesL kd wh ms := ⟨_, rfl⟩
            rw [← hx5] at hO5 hlen5 HK
            rw [← hx5]
            clear hx5 e0
            go_wp2_with (go_at_call 8; refine HON.out.mono ?_; rintro e w4 ⟨A4, c4, rfl, hr4, hb4⟩; refine Hid.out ?_)
            refine Lib.hid ?_
            have O5 := own_below hO5 hb4
            have HR4 := Kept.mk hr4
            have B4 := Kept.mk (HB3.out.trans ((hb5.trans (hb4.mono hsz)).mono HB3.out.size))
            obtain ⟨kl, hkl⟩ : ∃ kl, kl = keptL kd wh ms := ⟨_, rfl⟩
            rw [← hkl] at HR4 HK
            rw [← hkl]
            clear hkl hO5 hr4 hb4 hb5 HON
            have kl300 : kl.length ≤ 300 := by rw [HK.out.1]; exact hlen5
            go_wp2
            go_loopw [15, 100] (fun s t wr => ∃ (k : Nat) (A6 : Option Addr) (c6 : Nat), k ≤ kl.length ∧ t = .int .i64 k ∧ s = .slice A6 k c6 ∧ wr.ownsRow w4.heap.size 2 1 (.slice A6 k c6) k (((kl.take k).map QM.a).map (Value.int .i64)) ∧ Below w4.heap.size w4 wr) (fun _ t _ => kl.length - (intOf t).toNat)
            case atStart => exact ⟨0, none, 0, by omega, rfl, rfl, World.ownsRow_nil _ _ _ _, Below.refl _ _⟩
            case round =>
              obtain ⟨k2, A6, c6, hk2, rfl, rfl, hO6, hb6⟩ := hrel
              have hsz6 := hb6.size
              by_cases hlt : k2 < kl.length
              · obtain ⟨b4, o4, rfl, hl4, hc4⟩ := (HR4.out.below hb6) (by omega)
                obtain ⟨m, hm⟩ := some_atM hlt
                obtain ⟨e1, e2, e3, e4⟩ := hc4 k2 m hm
                have ik : (k2 : Int) < (kl.length : Int) := by omega
                have HE6 := Kept.mk (show ((kl.take (k2 + 1)).map QM.a).map (Value.int .i64) = ((kl.take k2).map QM.a).map (Value.int .i64) ++ [.int .i64 m.a] from by rw [List.take_add_one, hm]; simp)
                have k4 : b4 < wr.heap.size := by omega
                clear hm hc4
                obtain ⟨ma, mb, mc, md⟩ := m
                simp only at e1 e2 e3 e4 HE6
                have O7 := World.ownsRow.alloc hO6 (.cells #[.int .i64 ma, .int .u8 mb, .int .i64 mc, .int .i64 md] 34)
                have B7 := hb6.alloc hsz6 (.cells #[.int .i64 ma, .int .u8 mb, .int .i64 mc, .int .i64 md] 34)
                have hc9 := cell_one_new (wr.alloc (.cells #[.int .i64 ma, .int .u8 mb, .int .i64 mc, .int .i64 md] 34)) (.int .i64 ma) 2
                rw [show (wr.alloc (.cells #[.int .i64 ma, .int .u8 mb, .int .i64 mc, .int .i64 md] 34)).heap.size = wr.heap.size + 1 from by simp] at hc9
                clear hO6
                go_wp2_with (at_builtin; refine wpList_append_own _ rfl _ _ 32 rfl w4.heap.size 2 i0 (.int .i64 0) 1 8 Tryd.underlying32 hi hz0 hz1 hz2 rfl (by decide) _ _ _ rfl (O7.alloc _) ⟨_, 0, none⟩ 1 1 [.int .i64 ma] rfl rfl hc9 (by simp [Value.oneCell']) (by simp only [maxLen]; omega) (by omega) (by have := B7.size; simp; omega) ?_; intro v' w5 hown' hgrow _; refine Hid.out ?_)
                refine Lib.hid ?_
                have B8 := (B7.alloc B7.size (.cells #[.int .i64 ma] 2)).grown hgrow (by have := B7.size; simp; omega) (fun k hk => (World.ownsRow.lt O7 k hk).1)
                rw [← HE6.out] at hown'
                obtain ⟨A7, c7, rfl⟩ := own_slice hown'
                clear hgrow O7 B7 hc9 HE6
                go_wp2
                go_roundw
                case rel => exact ⟨k2 + 1, A7, c7, by omega, by go_num, rfl, hown', B8⟩
                case measure => simp [intOf]; omega
              · have e0 : kl.take k2 = kl := List.take_of_length_le (by omega)
                have e1 : k2 = kl.length := by omega
                rw [e0, HK.out.2] at hO6
                have O5' := own_below O5 hb6
                have HI5 := Kept.mk (Ints.of_own O5').2
                have e2 : k2 = xs5.length := by rw [e1, HK.out.1]
                have HI6 := Kept.mk (Ints.of_own hO6).2
                have B6 := B4.out.trans (hb6.mono B4.out.size)
                obtain ⟨y0, y1, y2⟩ := HBX.out wr B6
                have HF1 := Kept.mk (fits_any p j a A5 xs5 c5 wr HI5.out (by omega))
                clear e0 e1 hO6 O5 O5' HK hb6 hk2
                subst e2
                go_wp2_with (go_at_call 9; refine HF1.out.mono ?_; rintro e w5 ⟨rfl, hb7⟩; refine Hid.out ?_)
                refine Lib.hid ?_
                have B7 := B6.trans (hb7.mono B6.size)
                obtain ⟨z0, z1, z2⟩ := HBX.out w5 B7
                have HF2 := Kept.mk (fits_any p j a A6 xs5 c6 w5 ((HI6.out.below hb7).mono hb7.size) (by omega))
                have HI7 := Kept.mk ((HI5.out.below hb7).mono hb7.size)
                clear y0 y1 y2 hb7 HF1 hlt
                go_wp2_with (go_at_call 9; refine HF2.out.mono ?_; rintro e w6 ⟨rfl, hb8⟩; refine Hid.out ?_)
                refine Lib.hid ?_
                have B8 := B7.trans (hb8.mono B7.size)
                obtain ⟨y0, y1, y2⟩ := HBX.out w6 B8
                have HI8 := Kept.mk ((HI7.out.below hb8).mono hb8.size)
                have BF := HB1.out.trans (B8.mono HB1.out.size)
                have HNO := Kept.mk (fits_none (p := p) (j := j) (a := a) (xs := xs5))
                have HMO := Kept.mk (fun n => fits_most (p := p) (j := j) (a := a) (xs := xs5) (n := n))
                have hneg : fiE p j a xs5 = 0 → 0 ≤ fiV p j a xs5 := fun h => by
                  rw [(fi_parts h).2.2.2]; omega
                have HNEG := Kept.mk hneg
                obtain ⟨E, hE⟩ : ∃ E, E = fiE p j a xs5 := ⟨_, rfl⟩
                obtain ⟨V, hV⟩ : ∃ V, V = fiV p j a xs5 := ⟨_, rfl⟩
                rw [← hE, ← hV] at HNO HMO HNEG
                rw [← hE, ← hV]
                clear hE hV hneg z0 z1 z2 hb8 HF2 HI7 HI5 HI6
                by_cases h0 : E = 0
                · subst h0
                  by_cases hv : V = 0
                  · subst hv
                    have hl0 : ((xs5.length : Int) == 0) = true := beq_iff_eq.2 (by have := HNO.out rfl rfl; omega)
                    go_wp2
                    all_goals go_ret
                    all_goals exact ⟨ret_bool (by first | rfl | simp), BF⟩
                  · obtain ⟨n, hn⟩ : ∃ n : Nat, V = ((n + 1 : Nat) : Int) := ⟨(V - 1).toNat, by have := HNEG.out rfl; omega⟩
                    obtain ⟨m1, m2, m3, m4, m5⟩ := HMO.out n rfl hn
                    obtain ⟨b, off, rfl, hb9, hc⟩ := HI8.out (by omega)
                    have cn := hc n m1
                    have c0 := hc 0 (by omega)
                    rw [Nat.add_zero] at c0
                    obtain ⟨tn, htn⟩ : ∃ tn, tn = xs5[n]?.getD 0 := ⟨_, rfl⟩
                    obtain ⟨t0, ht0⟩ : ∃ t0, t0 = xs5[0]?.getD 0 := ⟨_, rfl⟩
                    rw [← htn] at cn m2 m3 m4 m5
                    rw [← ht0] at c0 m2 m3 m4 m5
                    have z1 : V - 1 = (n : Int) := by omega
                    have z2 : (n : Int) < (xs5.length : Int) := by omega
                    have z3 : (0 : Int) < (xs5.length : Int) := by omega
                    have z4 : 0 < xs5.length := by omega
                    have v1 : 1 ≤ V := by omega
                    have v2 : V ≤ 300 := by omega
                    have q1 : IntKind.i64.wrap (n : Int) = (n : Int) := IntWalk.i64_in _ (by omega)
                    have q2 : IntKind.i64.wrap (tn - t0) = tn - t0 := IntWalk.i64_in _ (by omega)
                    have q3 : IntKind.i64.wrap (tn - t0 + 1) = tn - t0 + 1 := IntWalk.i64_in _ (by omega)
                    have HN := Kept.mk hn
                    have HV0 := (beq_eq_false_iff_ne.2 hv : (V == 0) = false)
                    have HM4 := Kept.mk m4
                    have HM5 := Kept.mk m5
                    clear hn hv hc htn ht0 m4 m5 HMO HNO HNEG HI8 hb9
                    obtain ⟨mo, hmo⟩ : ∃ mo, mo = moV p j a (min (tn - t0 + 1) 4503599627370496) := ⟨_, rfl⟩
                    have HCALL := Kept.mk (fun (W : World) => show Calls Tryd.prog 10 #[.agg #[.int .i64 p, .int .i64 j, .int .i64 a], .int .i64 (min (tn - t0 + 1) 4503599627370496)] W fun e w' => e = .returned (.tuple #[.int .i64 mo, .int .i64 0]) ∧ Below W.heap.size W w' from by
                      have h := most_any p j a (min (tn - t0 + 1) 4503599627370496) W
                      rw [HM5.out, ← hmo] at h
                      exact h)
                    have HLE := Kept.mk (show V ≤ mo ∨ tn - t0 = 4503599627370496 from by
                      by_cases hd : tn - t0 < 4503599627370496
                      · have h := HM4.out hd
                        rw [← HN.out] at h
                        rw [show min (tn - t0 + 1) 4503599627370496 = tn - t0 + 1 from by omega] at hmo
                        exact .inl (by omega)
                      · exact .inr (by omega))
                    clear hmo
                    go_wp2
                    have HSB := Kept.mk (fun (U : World) (hU : Below w6.heap.size w6 U) => show (fun U : World => U.cell? ⟨w.heap.size, 0, none⟩ = some (.int .i64 p) ∧ U.cell? ⟨w.heap.size, 1, none⟩ = some (.int .i64 j) ∧ U.cell? ⟨w.heap.size, 2, none⟩ = some (.int .i64 a) ∧ U.cell? ⟨b, off + n, none⟩ = some (.int .i64 tn) ∧ U.cell? ⟨b, off, none⟩ = some (.int .i64 t0)) U from
                      ⟨(hU.cell (p := ⟨w.heap.size, 0, none⟩) (cell_some_lt y0).1).trans y0, (hU.cell (p := ⟨w.heap.size, 1, none⟩) (cell_some_lt y1).1).trans y1, (hU.cell (p := ⟨w.heap.size, 2, none⟩) (cell_some_lt y2).1).trans y2, (hU.cell (p := ⟨b, off + n, none⟩) (cell_some_lt cn).1).trans cn, (hU.cell (p := ⟨b, off, none⟩) (cell_some_lt c0).1).trans c0⟩)
                    have HS0 := Kept.mk (HSB.out w6.drew ((Below.refl _ _).drewN 1))
                    refine wp_region_late (fun U : World => U.cell? ⟨w.heap.size, 0, none⟩ = some (.int .i64 p) ∧ U.cell? ⟨w.heap.size, 1, none⟩ = some (.int .i64 j) ∧ U.cell? ⟨w.heap.size, 2, none⟩ = some (.int .i64 a) ∧ U.cell? ⟨b, off + n, none⟩ = some (.int .i64 tn) ∧ U.cell? ⟨b, off, none⟩ = some (.int .i64 t0)) (fun _ => false) (by kernel_rfl) ?_
                    refine wpAnyT_take (i := 0) (v := ?v0) [0] (by simp only [List.getElem?_toArray, List.getElem?_cons_succ, List.getElem?_cons_zero]; exact rfl) (by kernel_rfl) (by kernel_rfl) (by kernel_rfl) (by kernel_rfl) (by intro _ _ _ h; exact h) (Or.inl ⟨by rfl, ?hy0⟩) HS0.out ?rest0
                    case hy0 => (intro w hSw; go_simp; try with_reducible rfl)
                    try simp only [Act.put, List.setIfInBounds_toArray, List.set_cons_zero, List.set_cons_succ]
                    refine wpAnyT_take (i := 1) (v := ?v1) [1] (by simp only [List.getElem?_toArray, List.getElem?_cons_succ, List.getElem?_cons_zero]; exact rfl) (by kernel_rfl) (by kernel_rfl) (by kernel_rfl) (by kernel_rfl) (by intro _ _ _ h; exact h) (Or.inl ⟨by rfl, ?hy1⟩) HS0.out ?rest1
                    case hy1 => (intro w hSw; go_simp; try with_reducible rfl)
                    try simp only [Act.put, List.setIfInBounds_toArray, List.set_cons_zero, List.set_cons_succ]
                    refine wpAnyT_take (i := 2) (v := ?v2) [2] (by simp only [List.getElem?_toArray, List.getElem?_cons_succ, List.getElem?_cons_zero]; exact rfl) (by kernel_rfl) (by kernel_rfl) (by kernel_rfl) (by kernel_rfl) (by intro _ _ _ h; exact h) (Or.inl ⟨by rfl, ?hy2⟩) HS0.out ?rest2
                    case hy2 => (intro w hSw; go_simp; try with_reducible rfl)
                    try simp only [Act.put, List.setIfInBounds_toArray, List.set_cons_zero, List.set_cons_succ]
                    refine wpAnyT_take (i := 3) (v := ?v3) [3] (by simp only [List.getElem?_toArray, List.getElem?_cons_succ, List.getElem?_cons_zero]; exact rfl) (by kernel_rfl) (by kernel_rfl) (by kernel_rfl) (by kernel_rfl) (by intro _ _ _ h; exact h) (Or.inl ⟨by rfl, ?hy3⟩) HS0.out ?rest3
                    case hy3 => (intro w hSw; go_simp; try with_reducible rfl)
                    try simp only [Act.put, List.setIfInBounds_toArray, List.set_cons_zero, List.set_cons_succ]
                    refine wpAnyT_take (i := 4) (v := ?v4) [4] (by simp only [List.getElem?_toArray, List.getElem?_cons_succ, List.getElem?_cons_zero]; exact rfl) (by kernel_rfl) (by kernel_rfl) (by kernel_rfl) (by kernel_rfl) (by intro _ _ _ h; exact h) (Or.inl ⟨by rfl, ?hy4⟩) HS0.out ?rest4
                    case hy4 => (intro w hSw; go_simp; try with_reducible rfl)
                    try simp only [Act.put, List.setIfInBounds_toArray, List.set_cons_zero, List.set_cons_succ]
                    refine wpAnyT_take (i := 5) (v := ?v5) [5] (by simp only [List.getElem?_toArray, List.getElem?_cons_succ, List.getElem?_cons_zero]; exact rfl) (by kernel_rfl) (by kernel_rfl) (by kernel_rfl) (by kernel_rfl) (by intro _ _ _ h; exact h) (Or.inl ⟨by rfl, ?hy5⟩) HS0.out ?rest5
                    case hy5 => (intro w hSw; go_simp; try with_reducible rfl)
                    try simp only [Act.put, List.setIfInBounds_toArray, List.set_cons_zero, List.set_cons_succ]
                    refine wpAnyT_take (i := 6) (v := ?v6) [6] (by simp only [List.getElem?_toArray, List.getElem?_cons_succ, List.getElem?_cons_zero]; exact rfl) (by kernel_rfl) (by kernel_rfl) (by kernel_rfl) (by kernel_rfl) (by intro _ _ _ h; exact h) (Or.inl ⟨by rfl, ?hy6⟩) HS0.out ?rest6
                    case hy6 => (intro w hSw; go_simp; try with_reducible rfl)
                    try simp only [Act.put, List.setIfInBounds_toArray, List.set_cons_zero, List.set_cons_succ]
                    refine wpAnyT_take (i := 7) (v := ?v7) [7] (by simp only [List.getElem?_toArray, List.getElem?_cons_succ, List.getElem?_cons_zero]; exact rfl) (by kernel_rfl) (by kernel_rfl) (by kernel_rfl) (by kernel_rfl) (by intro _ _ _ h; exact h) (Or.inl ⟨by rfl, ?hy7⟩) HS0.out ?rest7
                    case hy7 => (intro w hSw; go_simp; try with_reducible rfl)
                    try simp only [Act.put, List.setIfInBounds_toArray, List.set_cons_zero, List.set_cons_succ]
                    refine wpAnyT_take (i := 8) (v := ?v8) [8] (by simp only [List.getElem?_toArray, List.getElem?_cons_succ, List.getElem?_cons_zero]; exact rfl) (by kernel_rfl) (by kernel_rfl) (by kernel_rfl) (by kernel_rfl) (by intro _ _ _ h; exact h) (Or.inl ⟨by rfl, ?hy8⟩) HS0.out ?rest8
                    case hy8 => (intro w hSw; go_simp; try with_reducible rfl)
                    try simp only [Act.put, List.setIfInBounds_toArray, List.set_cons_zero, List.set_cons_succ]
                    refine wpAnyT_take (i := 9) (v := ?v9) [9] (by simp only [List.getElem?_toArray, List.getElem?_cons_succ, List.getElem?_cons_zero]; exact rfl) (by kernel_rfl) (by kernel_rfl) (by kernel_rfl) (by kernel_rfl) (by intro _ _ _ h; exact h) (Or.inl ⟨by rfl, ?hy9⟩) HS0.out ?rest9
                    case hy9 => (intro w hSw; go_simp; try with_reducible rfl)
                    try simp only [Act.put, List.setIfInBounds_toArray, List.set_cons_zero, List.set_cons_succ]
                    refine wpAnyT_take (i := 10) (v := ?v10) [10] (by simp only [List.getElem?_toArray, List.getElem?_cons_succ, List.getElem?_cons_zero]; exact rfl) (by kernel_rfl) (by kernel_rfl) (by kernel_rfl) (by kernel_rfl) (by intro _ _ _ h; exact h) (Or.inl ⟨by rfl, ?hy10⟩) HS0.out ?rest10
                    case hy10 => (intro w hSw; go_simp; try with_reducible rfl)
                    try simp only [Act.put, List.setIfInBounds_toArray, List.set_cons_zero, List.set_cons_succ]
                    refine wpAnyT_take (i := 11) (v := ?v11) [11] (by simp only [List.getElem?_toArray, List.getElem?_cons_succ, List.getElem?_cons_zero]; exact rfl) (by kernel_rfl) (by kernel_rfl) (by kernel_rfl) (by kernel_rfl) (by intro _ _ _ h; exact h) (Or.inl ⟨by rfl, ?hy11⟩) HS0.out ?rest11
                    case hy11 => (intro w hSw; go_simp; try with_reducible rfl)
                    try simp only [Act.put, List.setIfInBounds_toArray, List.set_cons_zero, List.set_cons_succ]
                    refine wpAnyT_one 12 (by kernel_rfl) (by simp only [List.getElem?_toArray, List.getElem?_cons_succ, List.getElem?_cons_zero]; exact rfl) (fun K hK => ?_)
                    go_simp
                    go_wp2_with (go_at_call 10; refine (HCALL.out _).mono ?_; rintro e w7 ⟨rfl, hb9⟩)
                    have hb10 : Below w6.heap.size w6 w7 := ((Below.refl _ _).drewN 1).trans hb9
                    have HS7 := Kept.mk (HSB.out _ hb10)
                    refine hK.out _ _ (fun _ => HS7.out) ?_
                    clear hK K
                    try simp only [Act.put, List.setIfInBounds_toArray, List.set_cons_zero, List.set_cons_succ]
                    refine wpAnyT_take (i := 13) (v := ?v13) [13] (by simp only [List.getElem?_toArray, List.getElem?_cons_succ, List.getElem?_cons_zero]; exact rfl) (by kernel_rfl) (by kernel_rfl) (by kernel_rfl) (by kernel_rfl) (by intro _ _ _ h; exact h) (Or.inl ⟨by rfl, ?hy13⟩) HS7.out ?rest13
                    case hy13 => (intro w hSw; go_simp; try with_reducible rfl)
                    try simp only [Act.put, List.setIfInBounds_toArray, List.set_cons_zero, List.set_cons_succ]
                    refine wpAnyT_take (i := 14) (v := ?v14) [14] (by simp only [List.getElem?_toArray, List.getElem?_cons_succ, List.getElem?_cons_zero]; exact rfl) (by kernel_rfl) (by kernel_rfl) (by kernel_rfl) (by kernel_rfl) (by intro _ _ _ h; exact h) (Or.inl ⟨by rfl, ?hy14⟩) HS7.out ?rest14
                    case hy14 => (intro w hSw; go_simp; try with_reducible rfl)
                    try simp only [Act.put, List.setIfInBounds_toArray, List.set_cons_zero, List.set_cons_succ]
                    refine wpAnyT_take (i := 15) (v := ?v15) [15] (by simp only [List.getElem?_toArray, List.getElem?_cons_succ, List.getElem?_cons_zero]; exact rfl) (by kernel_rfl) (by kernel_rfl) (by kernel_rfl) (by kernel_rfl) (by intro _ _ _ h; exact h) (Or.inl ⟨by rfl, ?hy15⟩) HS7.out ?rest15
                    case hy15 => (intro w hSw; go_simp; try with_reducible rfl)
                    try simp only [Act.put, List.setIfInBounds_toArray, List.set_cons_zero, List.set_cons_succ]
                    refine wpAnyT_take (i := 16) (v := ?v16) [16] (by simp only [List.getElem?_toArray, List.getElem?_cons_succ, List.getElem?_cons_zero]; exact rfl) (by kernel_rfl) (by kernel_rfl) (by kernel_rfl) (by kernel_rfl) (by intro _ _ _ h; exact h) (Or.inl ⟨by rfl, ?hy16⟩) HS7.out ?rest16
                    case hy16 => (intro w hSw; go_simp; try with_reducible rfl)
                    try simp only [Act.put, List.setIfInBounds_toArray, List.set_cons_zero, List.set_cons_succ]
                    refine wpAnyT_take (i := 17) (v := ?v17) [17] (by simp only [List.getElem?_toArray, List.getElem?_cons_succ, List.getElem?_cons_zero]; exact rfl) (by kernel_rfl) (by kernel_rfl) (by kernel_rfl) (by kernel_rfl) (by intro _ _ _ h; exact h) (Or.inl ⟨by rfl, ?hy17⟩) HS7.out ?rest17
                    case hy17 => (intro w hSw; go_simp; try with_reducible rfl)
                    try simp only [Act.put, List.setIfInBounds_toArray, List.set_cons_zero, List.set_cons_succ]
                    refine wpAnyT_done (by kernel_rfl) ?_ _
                    obtain ⟨-, -, -, cn', c0'⟩ := HS7.out
                    have B10 := BF.trans (hb10.mono BF.size)
                    clear hb10 hb9 y0 y1 y2 cn c0 HSB HS0 HS7
                    by_cases hle : V ≤ mo
                    · have dl : decide (V ≤ mo) = true := decide_eq_true hle
                      clear HLE
                      go_wp2
                      go_quiet (fail)
                      go_wp2
                      go_ret
                      exact ⟨rfl, B10.drewN nq⟩
                    · have dl : decide (V ≤ mo) = false := decide_eq_false hle
                      have hd : tn - t0 = 4503599627370496 := HLE.out.resolve_left hle
                      clear HLE
                      go_wp2
                      go_quiet (fail)
                      go_wp2
                      go_ret
                      exact ⟨ret_bool (by first | rfl | simp [hd]), B10.drewN nq⟩
                · have hE1 : (E == 0) = false := beq_eq_false_iff_ne.2 h0
                  go_wp2
                  all_goals go_ret
                  all_goals exact ⟨ret_bool (by first | rfl | simp [h0]), BF⟩
    · have HT := Kept.mk (HT0.mono (R' := fun e w' => e = .returned (.tuple #[.string ⟨#[]⟩, .int .i64 2]) ∧ Below W1.heap.size W1 w') (fun e w' h => by
        rcases h with ⟨h1, ⟨h2, _⟩ | ⟨_, h2⟩⟩
        · exact absurd h2 hok
        · exact ⟨h2, h1⟩))
      clear HT0 hok
      rw [hW1] at HT
      go_enter Tryd.func3, Tryd.ntmps3
      go_wp2_with (first | (go_at_call 5; refine (begins_any _).mono ?_; rintro e w' ⟨rfl, rfl⟩) | (go_at_call 6; refine HT.out.mono ?_; rintro e w2 ⟨rfl, hb2⟩; refine Hid.out ?_))
      refine Lib.hid ?_
      rw [← hW1] at hb2
      clear hW1 HT
      go_wp2
      go_ret
      exact ⟨rfl, HB1.out.trans (hb2.mono HB1.out.size)⟩
end Go.Proofs.YtfneloplbkjbhaaDoor
