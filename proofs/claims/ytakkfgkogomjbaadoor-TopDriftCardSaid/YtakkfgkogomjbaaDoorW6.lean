/-
  The wheel: the walk of ahead.
-/
import Derived.Test.YtakkfgkogomjbaaDoorW5
import Derived.Deep.RegionHeld3
namespace Go.Proofs.YtakkfgkogomjbaaDoor
open Go.RowKit Go.Shelf Go.Maps Go.ChangeMaps
set_option linter.unusedVariables false
set_option linter.unusedSimpArgs false
theorem lb_find (b : Nat) (n : Int) : ((lb 64 b).find? fun m => decide (n < m)) = ((List.range 64).find? fun i => b.testBit i && decide (n < (i : Int))).map fun i : Nat => (i : Int) := by
  unfold lb
  rw [List.find?_map, List.find?_filter]
  congr 2
  funext i
  simp
theorem after_none {b : Nat} {n : Int} (h : ((lb 64 b).find? fun m => decide (n < m)) = none) : ∀ i : Nat, i < 64 → n < (i : Int) → b.testBit i = false := by
  rw [lb_find, Option.map_eq_none_iff, List.find?_eq_none] at h
  intro i hi hn
  have := h i (List.mem_range.2 hi)
  simpa [hn] using this
theorem after_some {b : Nat} {n m : Int} (h : ((lb 64 b).find? fun m => decide (n < m)) = some m) : ∃ i : Nat, m = i ∧ i < 64 ∧ n < (i : Int) ∧ b.testBit i = true ∧ ∀ j : Nat, j < i → n < (j : Int) → b.testBit j = false := by
  rw [lb_find, Option.map_eq_some_iff] at h
  obtain ⟨i, h1, h2⟩ := h
  obtain ⟨h3, h4, h5⟩ := List.find?_range_eq_some.1 h1
  rw [Bool.and_eq_true, decide_eq_true_eq] at h3
  refine ⟨i, h2.symm, List.mem_range.1 h4, h3.2, h3.1, fun j hj hn => ?_⟩
  have := h5 j hj
  simpa [hn] using this
/-- The first list with something in it but the due one, and when it begins. -/
def AheadIs (S : PS) (T : Nat → Tm) : Option (Nat × Int) → Prop
  | none => ∀ q : Nat, q < 257 → S.list (q : Int) = []
  | some (k, b) => k < 257 ∧ S.list (k : Int) ≠ [] ∧ (∀ q : Nat, q < k → S.list (q : Int) = []) ∧ (k < 256 → ∀ x ∈ S.list (k : Int), bg k (T x).du = b) ∧ (k = 256 → b = minF T (S.list ((256 : Nat) : Int)) / 16777216 * 16777216)
def ahV (o : Option (Nat × Int)) : Value := .tuple #[.int .i64 ((o.map fun x => (x.1 : Int)).getD 0), .int .i64 ((o.map Prod.snd).getD 0), .bool o.isSome]
theorem lv_low {S : PS} {T : Nat → Tm} {now : Int} (hp : Pl S T now) {l i : Nat} (hl : l < 4) (hi : i < 64) (hn : ¬ now / 64 ^ l % 64 < (i : Int)) : S.list ((l * 64 + i : Nat) : Int) = [] := by
  cases e : S.list ((l * 64 + i : Nat) : Int) with
  | nil => rfl
  | cons x r =>
    exfalso
    have h1 := hp (l * 64 + i) (by omega) x (by rw [e]; simp)
    have hlt : now < (T x).du := by
      rcases Int.lt_or_le now (T x).du with h | h
      · exact h
      · have := (hm_due now (T x).du).2 h; omega
    exact hn (lv_slot hlt hl hi h1.symm).1
theorem lv_none {S : PS} {T : Nat → Tm} {now : Int} (hp : Pl S T now) {l b : Nat} (hl : l < 4) (hb : ∀ i, i < 64 → b.testBit i = decide (S.list ((l * 64 + i : Nat) : Int) ≠ [])) (h : ((lb 64 b).find? fun m => decide (now / 64 ^ l % 64 < m)) = none) : ∀ i, i < 64 → S.list ((l * 64 + i : Nat) : Int) = [] := by
  intro i hi
  by_cases hn : now / 64 ^ l % 64 < (i : Int)
  · have := after_none h i hi hn
    rw [hb i hi] at this
    simpa using this
  · exact lv_low hp hl hi hn
theorem lv_some {S : PS} {T : Nat → Tm} {now : Int} (hp : Pl S T now) {l b : Nat} {m : Int} (hl : l < 4) (hb : ∀ i, i < 64 → b.testBit i = decide (S.list ((l * 64 + i : Nat) : Int) ≠ [])) (hlow : ∀ q : Nat, q < l * 64 → S.list (q : Int) = []) (h : ((lb 64 b).find? fun m => decide (now / 64 ^ l % 64 < m)) = some m) :
    ∃ i : Nat, m = i ∧ i < 64 ∧ AheadIs S T (some (l * 64 + i, now / 64 ^ (l + 1) * 64 ^ (l + 1) + i * 64 ^ l)) := by
  obtain ⟨i, e, hi, hn, h1, h2⟩ := after_some h
  refine ⟨i, e, hi, by omega, ?_, fun q hq => ?_, fun _ x hx => ?_, fun h => by omega⟩
  · rw [hb i hi] at h1; exact of_decide_eq_true h1
  · by_cases hq2 : q < l * 64
    · exact hlow q hq2
    · obtain ⟨j, rfl⟩ : ∃ j, q = l * 64 + j := ⟨q - l * 64, by omega⟩
      by_cases hn2 : now / 64 ^ l % 64 < (j : Int)
      · have := h2 j (by omega) hn2
        rw [hb j (by omega)] at this
        simpa using this
      · exact lv_low hp hl (by omega) hn2
  · have h3 := hp (l * 64 + i) (by omega) x hx
    have hlt : now < (T x).du := by
      rcases Int.lt_or_le now (T x).du with h | h
      · exact h
      · have := (hm_due now (T x).du).2 h; omega
    have := (lv_slot hlt hl hi h3.symm).2
    rw [← h3] at this; exact this
theorem minF_le (T : Nat → Tm) : ∀ (l : List Nat) (m : Int), 0 ≤ m → m ≤ 4503599627370496 → (∀ x ∈ l, 0 ≤ (T x).du) → 0 ≤ l.foldl (fun m x => min m (T x).du) m ∧ l.foldl (fun m x => min m (T x).du) m ≤ 4503599627370496
  | [], m, h0, h1, _ => ⟨h0, h1⟩
  | x :: r, m, h0, h1, h => by
    have hx := h x (by simp)
    exact minF_le T r (min m (T x).du) (by omega) (by omega) fun y hy => h y (by simp [hy])
theorem minF_bd {n : Nat} {S : PS} {T : Nat → Tm} {tu : Int} {A : List Tm} (h : Cont n S T tu A) {q : Nat} (hq : q < 258) : 0 ≤ minF T (S.list (q : Int)) ∧ minF T (S.list (q : Int)) ≤ 4503599627370496 :=
  minF_le T _ _ (by omega) (by omega) fun x hx => (h.du _ (h.mem q hq x hx)).1
theorem Tab.drewN {w : World} (h : Tab w) (n : Nat) : Tab (w.drewN n) := h
set_option maxRecDepth 100000 in
set_option maxHeartbeats 8000000 in
theorem wahead_any {w : World} {lo hi wb I M p L K n : Nat} {S : PS} {T : Nat → Tm} {f : Int → Option Nat} {F : Nat → Nat} {now tu : Int} {A : List Tm} (h : WK w lo hi wb I M p L K n S T f F now tu A []) (hp : Pl S T now) (hT : Tab w) :
    Calls Tryd.prog 42 #[.pointer (some ⟨wb, 0, none⟩)] w fun e w' => ∃ o, AheadIs S T o ∧ e = .returned (ahV o) ∧ Below w.heap.size w w' := by
  have HK := Kept.mk h
  have HPL := Kept.mk hp
  have HTB := Kept.mk hT
  obtain ⟨c0, c1, c2, c3, c4, c5, c6, c7, c8, wf⟩ := h.wc
  have n0 := h.n0
  have n1 := h.n1
  clear h hp hT
  go_enter Tryd.func42, Tryd.ntmps42
  go_wp2_with fail
  go_loopw [11] (fun l wr => ∃ k : Nat, k ≤ 4 ∧ l = .int .i64 k ∧ Kept (∀ q : Nat, q < k * 64 → S.list (q : Int) = []) ∧ Kept (∃ n, wr = w.drewN n)) (fun l _ => 4 - (intOf l).toNat)
  case atStart => exact ⟨0, by omega, rfl, ⟨fun q hq => by omega⟩, ⟨0, rfl⟩⟩
  case round =>
    obtain ⟨k, hk, rfl, hj, hwr⟩ := hrel
    have hW : WK wr lo hi wb I M p L K n S T f F now tu A [] := by obtain ⟨m, e⟩ := hwr.out; rw [e]; exact HK.out.drewN m
    have HTW := Kept.mk (show Tab wr by obtain ⟨m, e⟩ := hwr.out; rw [e]; exact HTB.out)
    have hbw : ∀ k, Below w.heap.size w (wr.drewN k) := fun k => by obtain ⟨m, e⟩ := hwr.out; rw [e]; exact (((Below.refl _ _).drewN m).drewN k)
    have HBW := Kept.mk hbw
    have HWR := Kept.mk (fun k => show ∃ n, wr.drewN k = w.drewN n from by obtain ⟨m, e⟩ := hwr.out; exact ⟨m + k, by rw [e, World.drewN_drewN]⟩)
    clear c0 c1 c2 c3 c4 c5 c6 c7 c8 wf hbw hwr
    have HWW := Kept.mk hW
    obtain ⟨c0, c1, c2, c3, c4, c5, c6, c7, c8, wf⟩ := hW.wc
    clear hW
    by_cases hlt : k < 4
    · have e : k = 0 ∨ k = 1 ∨ k = 2 ∨ k = 3 := by omega
      clear hlt hk
      rcases e with rfl | rfl | rfl | rfl
      · have hbl := HK.out.fl 0 (by omega)
        have hbi := fun i hi => HK.out.bi 0 i (by omega) hi (by simp)
        have hlow : now / 64 ^ 0 % 64 = now % 64 := by simp
        have HS := Kept.mk (fun (W : World) => show Calls Tryd.prog 48 #[.int .i64 now, .int .i64 0] W (fun e w' => e = .returned (.int .i64 (now % 64)) ∧ W = w') from by rw [← hlow]; exact slot_any now 0 W n0 n1 (by omega))
        have HA := Kept.mk (fun (W : World) (hW : Tab W) => after_any (F 0) hbl (now % 64) W hW (by simp [Lit.wf, IntKind.min, IntKind.max, IntKind.signed, IntKind.bits]; omega))
        obtain ⟨o, ho⟩ : ∃ o, o = (lb 64 (F 0)).find? fun m => decide (now % 64 < m) := ⟨_, rfl⟩
        unfold op2 at HA
        rw [← ho] at HA
        rw [← hlow] at ho
        cases o with
        | none =>
          have HN := Kept.mk (lv_none HPL.out (l := 0) (by omega) hbi ho.symm)
          clear ho hbl hbi hlow
          go_wp2_with fail
          go_quiet (first | (go_at_call 48; exact quiet_left (HS.out _)) | (go_at_call 62; exact quiet_left (HA.out _ HTW.out)))
          go_wp2_with fail
          go_roundw
          case rel => exact ⟨1, by omega, by first | rfl | go_num, ⟨fun q hq => by
            by_cases h : q < 0 * 64
            · exact hj.out q h
            · have := HN.out (q - 0 * 64) (by omega)
              rwa [show 0 * 64 + (q - 0 * 64) = q by omega] at this⟩, ⟨HWR.out _⟩⟩
          case measure => simp [intOf]
        | some m =>
          obtain ⟨i, hmi, hi, hah⟩ := lv_some HPL.out (l := 0) (by omega) hbi hj.out ho.symm
          subst hmi
          have HAH := Kept.mk hah
          clear ho hbl hbi hlow hah
          go_wp2_with fail
          go_quiet (first | (go_at_call 48; exact quiet_left (HS.out _)) | (go_at_call 62; exact quiet_left (HA.out _ HTW.out)))
          go_wp2_with (go_at_call 63; refine (start_any now 0 i _ n0 n1 (by omega) hi).mono ?_; rintro e w' ⟨rfl, kk, rfl⟩)
          refine bodyPost_ret (v := ahV (some (0 * 64 + i, now / 64 ^ (0 + 1) * 64 ^ (0 + 1) + i * 64 ^ 0))) (by simp [ahV, results, Tryd.f42, go_sem]) rfl ⟨_, HAH.out, rfl, ?_⟩
          first | exact HBW.out _ | exact (HBW.out _).drewN _
      · have hbl := HK.out.fl 1 (by omega)
        have hbi := fun i hi => HK.out.bi 1 i (by omega) hi (by simp)
        have hlow : now / 64 ^ 1 % 64 = now / 64 % 64 := by simp
        have HS := Kept.mk (fun (W : World) => show Calls Tryd.prog 48 #[.int .i64 now, .int .i64 1] W (fun e w' => e = .returned (.int .i64 (now / 64 % 64)) ∧ W = w') from by rw [← hlow]; exact slot_any now 1 W n0 n1 (by omega))
        have HA := Kept.mk (fun (W : World) (hW : Tab W) => after_any (F 1) hbl (now / 64 % 64) W hW (by simp [Lit.wf, IntKind.min, IntKind.max, IntKind.signed, IntKind.bits]; omega))
        obtain ⟨o, ho⟩ : ∃ o, o = (lb 64 (F 1)).find? fun m => decide (now / 64 % 64 < m) := ⟨_, rfl⟩
        unfold op2 at HA
        rw [← ho] at HA
        rw [← hlow] at ho
        cases o with
        | none =>
          have HN := Kept.mk (lv_none HPL.out (l := 1) (by omega) hbi ho.symm)
          clear ho hbl hbi hlow
          go_wp2_with fail
          go_quiet (first | (go_at_call 48; exact quiet_left (HS.out _)) | (go_at_call 62; exact quiet_left (HA.out _ HTW.out)))
          go_wp2_with fail
          go_roundw
          case rel => exact ⟨2, by omega, by first | rfl | go_num, ⟨fun q hq => by
            by_cases h : q < 1 * 64
            · exact hj.out q h
            · have := HN.out (q - 1 * 64) (by omega)
              rwa [show 1 * 64 + (q - 1 * 64) = q by omega] at this⟩, ⟨HWR.out _⟩⟩
          case measure => simp [intOf]
        | some m =>
          obtain ⟨i, hmi, hi, hah⟩ := lv_some HPL.out (l := 1) (by omega) hbi hj.out ho.symm
          subst hmi
          have HAH := Kept.mk hah
          clear ho hbl hbi hlow hah
          go_wp2_with fail
          go_quiet (first | (go_at_call 48; exact quiet_left (HS.out _)) | (go_at_call 62; exact quiet_left (HA.out _ HTW.out)))
          go_wp2_with (go_at_call 63; refine (start_any now 1 i _ n0 n1 (by omega) hi).mono ?_; rintro e w' ⟨rfl, kk, rfl⟩)
          refine bodyPost_ret (v := ahV (some (1 * 64 + i, now / 64 ^ (1 + 1) * 64 ^ (1 + 1) + i * 64 ^ 1))) (by simp [ahV, results, Tryd.f42, go_sem]) rfl ⟨_, HAH.out, rfl, ?_⟩
          first | exact HBW.out _ | exact (HBW.out _).drewN _
      · have hbl := HK.out.fl 2 (by omega)
        have hbi := fun i hi => HK.out.bi 2 i (by omega) hi (by simp)
        have hlow : now / 64 ^ 2 % 64 = now / 4096 % 64 := by simp
        have HS := Kept.mk (fun (W : World) => show Calls Tryd.prog 48 #[.int .i64 now, .int .i64 2] W (fun e w' => e = .returned (.int .i64 (now / 4096 % 64)) ∧ W = w') from by rw [← hlow]; exact slot_any now 2 W n0 n1 (by omega))
        have HA := Kept.mk (fun (W : World) (hW : Tab W) => after_any (F 2) hbl (now / 4096 % 64) W hW (by simp [Lit.wf, IntKind.min, IntKind.max, IntKind.signed, IntKind.bits]; omega))
        obtain ⟨o, ho⟩ : ∃ o, o = (lb 64 (F 2)).find? fun m => decide (now / 4096 % 64 < m) := ⟨_, rfl⟩
        unfold op2 at HA
        rw [← ho] at HA
        rw [← hlow] at ho
        cases o with
        | none =>
          have HN := Kept.mk (lv_none HPL.out (l := 2) (by omega) hbi ho.symm)
          clear ho hbl hbi hlow
          go_wp2_with fail
          go_quiet (first | (go_at_call 48; exact quiet_left (HS.out _)) | (go_at_call 62; exact quiet_left (HA.out _ HTW.out)))
          go_wp2_with fail
          go_roundw
          case rel => exact ⟨3, by omega, by first | rfl | go_num, ⟨fun q hq => by
            by_cases h : q < 2 * 64
            · exact hj.out q h
            · have := HN.out (q - 2 * 64) (by omega)
              rwa [show 2 * 64 + (q - 2 * 64) = q by omega] at this⟩, ⟨HWR.out _⟩⟩
          case measure => simp [intOf]
        | some m =>
          obtain ⟨i, hmi, hi, hah⟩ := lv_some HPL.out (l := 2) (by omega) hbi hj.out ho.symm
          subst hmi
          have HAH := Kept.mk hah
          clear ho hbl hbi hlow hah
          go_wp2_with fail
          go_quiet (first | (go_at_call 48; exact quiet_left (HS.out _)) | (go_at_call 62; exact quiet_left (HA.out _ HTW.out)))
          go_wp2_with (go_at_call 63; refine (start_any now 2 i _ n0 n1 (by omega) hi).mono ?_; rintro e w' ⟨rfl, kk, rfl⟩)
          refine bodyPost_ret (v := ahV (some (2 * 64 + i, now / 64 ^ (2 + 1) * 64 ^ (2 + 1) + i * 64 ^ 2))) (by simp [ahV, results, Tryd.f42, go_sem]) rfl ⟨_, HAH.out, rfl, ?_⟩
          first | exact HBW.out _ | exact (HBW.out _).drewN _
      · have hbl := HK.out.fl 3 (by omega)
        have hbi := fun i hi => HK.out.bi 3 i (by omega) hi (by simp)
        have hlow : now / 64 ^ 3 % 64 = now / 262144 % 64 := by simp
        have HS := Kept.mk (fun (W : World) => show Calls Tryd.prog 48 #[.int .i64 now, .int .i64 3] W (fun e w' => e = .returned (.int .i64 (now / 262144 % 64)) ∧ W = w') from by rw [← hlow]; exact slot_any now 3 W n0 n1 (by omega))
        have HA := Kept.mk (fun (W : World) (hW : Tab W) => after_any (F 3) hbl (now / 262144 % 64) W hW (by simp [Lit.wf, IntKind.min, IntKind.max, IntKind.signed, IntKind.bits]; omega))
        obtain ⟨o, ho⟩ : ∃ o, o = (lb 64 (F 3)).find? fun m => decide (now / 262144 % 64 < m) := ⟨_, rfl⟩
        unfold op2 at HA
        rw [← ho] at HA
        rw [← hlow] at ho
        cases o with
        | none =>
          have HN := Kept.mk (lv_none HPL.out (l := 3) (by omega) hbi ho.symm)
          clear ho hbl hbi hlow
          go_wp2_with fail
          go_quiet (first | (go_at_call 48; exact quiet_left (HS.out _)) | (go_at_call 62; exact quiet_left (HA.out _ HTW.out)))
          go_wp2_with fail
          go_roundw
          case rel => exact ⟨4, by omega, by first | rfl | go_num, ⟨fun q hq => by
            by_cases h : q < 3 * 64
            · exact hj.out q h
            · have := HN.out (q - 3 * 64) (by omega)
              rwa [show 3 * 64 + (q - 3 * 64) = q by omega] at this⟩, ⟨HWR.out _⟩⟩
          case measure => simp [intOf]
        | some m =>
          obtain ⟨i, hmi, hi, hah⟩ := lv_some HPL.out (l := 3) (by omega) hbi hj.out ho.symm
          subst hmi
          have HAH := Kept.mk hah
          clear ho hbl hbi hlow hah
          go_wp2_with fail
          go_quiet (first | (go_at_call 48; exact quiet_left (HS.out _)) | (go_at_call 62; exact quiet_left (HA.out _ HTW.out)))
          go_wp2_with (go_at_call 63; refine (start_any now 3 i _ n0 n1 (by omega) hi).mono ?_; rintro e w' ⟨rfl, kk, rfl⟩)
          refine bodyPost_ret (v := ahV (some (3 * 64 + i, now / 64 ^ (3 + 1) * 64 ^ (3 + 1) + i * 64 ^ 3))) (by simp [ahV, results, Tryd.f42, go_sem]) rfl ⟨_, HAH.out, rfl, ?_⟩
          first | exact HBW.out _ | exact (HBW.out _).drewN _
    · obtain rfl : k = 4 := by omega
      have HF := pfirst HWW.out.pa (256 : Int)
      cases hl : (S.list (256 : Int)).head? with
      | none =>
        rw [hl] at HF
        simp only [optV] at HF
        have HN := Kept.mk (show S.list (256 : Int) = [] from List.head?_eq_none_iff.1 hl)
        clear hl hlt hk
        go_wp2_with ((go_at_call 44; refine (HF).mono ?_; rintro e w' ⟨rfl, rfl⟩))
        refine bodyPost_ret (v := ahV none) (by simp [ahV, results, Tryd.f42, go_sem]) rfl ⟨none, fun q hq => ?_, rfl, HBW.out 0⟩
        by_cases h : q < 256
        · exact hj.out q (by omega)
        · obtain rfl : q = 256 := by omega
          exact HN.out
      | some x =>
        rw [hl] at HF
        simp only [optV] at HF
        have HN := Kept.mk (show S.list (256 : Int) ≠ [] from fun e => by rw [e] at hl; cases hl)
        have HM := Kept.mk (fun (V : World) (hV : Below w.heap.size w V) => wleast_any (HK.out.below (hV.mono HK.out.hh)) 256)
        obtain ⟨m0, m1⟩ := minF_bd HK.out.co (show 256 < 258 by omega)
        obtain ⟨mm, hmm⟩ : ∃ mm, mm = minF T (S.list ((256 : Nat) : Int)) := ⟨_, rfl⟩
        rw [← hmm] at HM m0 m1
        have HMM := Kept.mk hmm
        have HAHD := Kept.mk (show AheadIs S T (some (256, mm / 16777216 * 16777216)) from ⟨by omega, HN.out, fun q hq => hj.out q (by omega), fun h => by omega, fun _ => by rw [hmm]⟩)
        have HWP := Kept.mk (show IntKind.i64.wrap (mm / 16777216 * 16777216) = mm / 16777216 * 16777216 from IntWalk.i64_in _ (by omega))
        have HBB := HBW.out 0
        clear hl hlt hk hmm
        go_wp2_with ((go_at_call 44; refine (HF).mono ?_; rintro e w' ⟨rfl, rfl⟩))
        go_region_with (go_at_call 64; refine (HM.out _ (by first | exact (HBW.out 0).drewN 1 | exact HBW.out _)).mono ?_; rintro e w9 ⟨rfl, hb9⟩)
        all_goals go_wp2
        all_goals refine bodyPost_ret (v := ahV (some (256, mm / 16777216 * 16777216))) (by simp [ahV, results, Tryd.f42, go_sem, HWP.out]) rfl ⟨_, HAHD.out, rfl, ?_⟩
        all_goals exact ((HBW.out 0).drewN 1).trans (hb9.mono (by first | exact ((HBW.out 0).drewN 1).size | exact (HBW.out 0).size))
end Go.Proofs.YtakkfgkogomjbaaDoor
