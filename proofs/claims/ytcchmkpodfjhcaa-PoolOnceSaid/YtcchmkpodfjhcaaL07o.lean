/-
  The walk of the law PoolOnce.
-/
import Derived.Test.YtcchmkpodfjhcaaL07
import Derived.Test.YtcchmkpodfjhcaaV3
import Derived.Test.YtcchmkpodfjhcaaP8
import Derived.Test.YtcchmkpodfjhcaaL07q
namespace Go.Proofs.Ytcchmkpodfjhcaa
open Go.RowKit
set_option linter.unusedVariables false
theorem make_ints (n : Nat) (hn : n ≤ 4096) : ∃ X : Array Value, (∀ j, j < n → X[j]? = some (.int .i64 0)) ∧ ∀ W, (Instr.makeSlice 28 (.int .i64 n) (.int .i64 n)).run Try.prog W = .ok (.slice (some ⟨W.heap.size, 0, none⟩) n n) (W.alloc (.cells X 3)) := by
  obtain ⟨i0, hi, hz0, hz1, hz2⟩ := info_parts info_int
  refine ⟨madeCells (Value.int .i64 0).cells n, fun j hj => ?_, fun W => ?_⟩
  · unfold madeCells
    rw [Array.getElem?_map, Array.getElem?_range, if_pos hj]
    simp [Value.cells, Nat.mod_one]
  · have := run_make (P := Try.prog) W 28 3 i0 _ Try.underlying28 hi hz0 .i64 .i64 n n (by omega) (by omega) (by rw [hz2]; omega) (by omega)
    rw [hz1] at this
    simpa using this
/-- The law's state: a pool, and the counts. -/
structure PO (w wr : World) (lo hi p L K n m Z : Nat) (S : PS) (C : Nat → Int) : Prop where
  pool : PoolAt wr lo hi p L K n m S
  nb : NB wr Z n C
  below : Below w.heap.size w wr
  hz : hi ≤ Z
  hw : w.heap.size ≤ lo
  ll : lo ≤ hi
theorem PO.next {w wr W : World} {lo hi p L K n m Z : Nat} {S : PS} {C : Nat → Int} (h : PO w wr lo hi p L K n m Z S C) (hn : 0 < n) (hb : Below wr.heap.size wr W) : PO w W lo hi p L K n m Z S C :=
  ⟨h.pool.below hb, h.nb.kept (hb.block _ (h.nb.lt hn)), h.below.trans (hb.mono h.below.size), h.hz, h.hw, h.ll⟩
theorem PO.count {w wr : World} {lo hi p L K n m Z : Nat} {S : PS} {C : Nat → Int} (h : PO w wr lo hi p L K n m Z S C) {x : Nat} (hx : x < n) (v : Int) : PO w (wr.setCell ⟨Z, x, none⟩ (.int .i64 v)) lo hi p L K n m Z S (upd C x v) :=
  ⟨h.pool.below_hi ((Below.refl hi wr).setCell (p := ⟨Z, x, none⟩) h.hz _), h.nb.set hx v, h.below.setCell (p := ⟨Z, x, none⟩) (Nat.le_trans h.hw (Nat.le_trans h.ll h.hz)) _, h.hz, h.hw, h.ll⟩
theorem PoolAt.goodE {w : World} {lo hi p L K n m : Nat} {S : PS} (h : PoolAt w lo hi p L K n m S) : ∃ F G, Good n m S F G := by
  obtain ⟨F, G, _, hG⟩ := h.of
  exact ⟨F, G, hG⟩
set_option maxRecDepth 100000 in
set_option maxHeartbeats 8000000 in
theorem once_walk (n m : Nat) (h1 : 1 ≤ n) (h2 : n ≤ 4096) (h3 : 1 ≤ m) (h4 : m ≤ 512) (A : Option Addr) (xs : List Q3) (cap : Nat) (w : World) (hxs : R3 w w.heap.size A xs) (hl : xs.length ≤ 9223372036854775807) :
    Calls Try.prog 4 #[.int .i64 n, .int .i64 m, .slice A xs.length cap] w fun e w' => e = .returned (.bool true) ∧ Below w.heap.size w w' := by
  have HI := Kept.mk (fun W (hw : Below w.heap.size w W) => hxs.below hw)
  go_enter Try.func4, Try.ntmps4
  go_wp2_with fail
  refine (lives07 _).mono ?_
  rintro e w1 ⟨rfl, hb1⟩
  go_wp2_with fail
  refine (new_walk n m h1 h2 h3 h4 w1).mono ?_
  rintro e w2 ⟨p, L, K, rfl, hP2, hb2⟩
  have hbw2 := hb1.trans (hb2.mono hb1.size)
  by_cases hsm : xs.length ≤ 60 ∧ n ≤ 200 ∧ m ≤ 50
  · obtain ⟨s1, s2, s3⟩ := hsm
    have s1' : (xs.length : Int) ≤ 60 := by omega
    have s2' : (n : Int) ≤ 200 := by omega
    have s3' : (m : Int) ≤ 50 := by omega
    have HP := Kept.mk hP2
    have HB := Kept.mk hbw2
    clear hP2 hb2 hxs hbw2
    go_wp2_with fail
    go_loopw [60] (fun t wr => ∃ (k : Nat) (S : PS), k ≤ xs.length ∧ t = .int .i64 k ∧ PoolAt wr w1.heap.size (w1.heap.size + 3) p L K n m S ∧ Below w.heap.size w wr) (fun t _ => xs.length - (intOf t).toNat)
    case atStart => exact ⟨0, newS n m, by omega, rfl, HP.out, HB.out⟩
    case round =>
      clear HP HB
      obtain ⟨k, S, hk, rfl, hP, hbw⟩ := hrel
      by_cases hlt : k < xs.length
      · obtain ⟨b, off, rfl, hbB, hc⟩ := (HI.out wr hbw) (by omega)
        obtain ⟨y, hy⟩ := some3_at hlt
        obtain ⟨e1, e2, e3⟩ := hc k y hy
        have ik : (k : Int) < (xs.length : Int) := by omega
        obtain ⟨xa, xb, xc⟩ := y
        simp only at e1 e2 e3
        have hb5 := below_box wr (.cells #[.int .i64 xa, .int .i64 xb, .int .i64 xc] 35)
        have hP5 := Kept.mk (hP.below hb5)
        have hb5' := Kept.mk (hbw.trans (hb5.mono hbw.size))
        have x0 := box_cell (Below.refl (wr.alloc (.cells #[.int .i64 xa, .int .i64 xb, .int .i64 xc] 35)).heap.size _) 0 _ rfl
        have x1 := box_cell (Below.refl (wr.alloc (.cells #[.int .i64 xa, .int .i64 xb, .int .i64 xc] 35)).heap.size _) 1 _ rfl
        have x2 := box_cell (Below.refl (wr.alloc (.cells #[.int .i64 xa, .int .i64 xb, .int .i64 xc] 35)).heap.size _) 2 _ rfl
        clear hc hy hb5 hP hbw
        go_upto_region 9 with fail
        obtain ⟨x, hx⟩ : ∃ x, x = wr.heap.size := ⟨_, rfl⟩
        obtain ⟨W5, hW5⟩ : ∃ W, W = wr.alloc (.cells #[.int .i64 xa, .int .i64 xb, .int .i64 xc] 35) := ⟨_, rfl⟩
        rw [← hW5] at hP5 hb5' x0 x1 x2 ⊢
        rw [← hx] at x0 x1 x2 ⊢
        clear hx hW5 e1 e2 e3
        by_cases hk0 : xa = 0
        · have q0 : (xa == 0) = true := by simp [hk0]
          clear hk0
          go_wp2_with fail
          refine (take_any hP5.out xc).mono ?_
          rintro e w6 ⟨rfl, hP6, hK6⟩
          have bw6 := hK6.below hb5'.out hb1.size hb5'.out.size
          go_wp2_with fail
          go_roundw
          case rel => exact ⟨k + 1, _, by omega, by go_num, hP6, bw6⟩
          case measure => simp [intOf]; omega
        · have q0 : (xa == 0) = false := by simp [hk0]
          clear hk0
          by_cases hk1 : xa = 1
          · have q1 : (xa == 1) = true := by simp [hk1]
            clear hk1
            go_wp2_with fail
            refine (give_any hP5.out xb).mono ?_
            rintro e w6 ⟨rfl, hP6, hK6⟩
            have bw6 := hK6.below hb5'.out hb1.size hb5'.out.size
            go_wp2_with fail
            go_roundw
            case rel => exact ⟨k + 1, _, by omega, by go_num, hP6, bw6⟩
            case measure => simp [intOf]; omega
          · have q1 : (xa == 1) = false := by simp [hk1]
            clear hk1
            by_cases hk2 : xa = 2
            · have q2 : (xa == 2) = true := by simp [hk2]
              clear hk2
              go_wp2_with fail
              refine (move_any hP5.out xb xc).mono ?_
              rintro e w6 ⟨rfl, hP6, hK6⟩
              have bw6 := hK6.below hb5'.out hb1.size hb5'.out.size
              go_wp2_with fail
              go_roundw
              case rel => exact ⟨k + 1, _, by omega, by go_num, hP6, bw6⟩
              case measure => simp [intOf]; omega
            · have q2 : (xa == 2) = false := by simp [hk2]
              clear hk2
              go_wp2
              go_roundw
              case rel => exact ⟨k + 1, S, by omega, by go_num, hP5.out, hb5'.out⟩
              case measure => simp [intOf]; omega
      · obtain ⟨X, hX, mk1⟩ := make_ints n h2
        have hnb := NB.new hX (Below.refl (wr.alloc (.cells X 3)).heap.size (wr.alloc (.cells X 3)))
        have hb6 := below_box wr (.cells X 3)
        have hPO : PO w (wr.alloc (.cells X 3)) w1.heap.size (w1.heap.size + 3) p L K n m wr.heap.size S (visC S 0 []) :=
          ⟨hP.below hb6, by rw [show visC S 0 [] = fun _ => 0 from funext (vis_zero S)]; exact hnb, hbw.trans (hb6.mono hbw.size), hP.hh, hb1.size, Nat.le_add_right _ _⟩
        clear hX hnb hb6 hP hbw
        go_upto_region 18 with fail
        obtain ⟨Z, hZ⟩ : ∃ x, x = wr.heap.size := ⟨_, rfl⟩
        obtain ⟨W6, hW6⟩ : ∃ W, W = wr.alloc (.cells X 3) := ⟨_, rfl⟩
        rw [← hW6] at hPO ⊢
        rw [← hZ] at hPO ⊢
        have HPO := Kept.mk hPO
        clear hZ hW6 hPO mk1 hlt
        go_wp2_with fail
        go_loopw [90] (fun t wr => ∃ (k : Nat), k ≤ m ∧ t = .int .i64 k ∧ PO w wr w1.heap.size (w1.heap.size + 3) p L K n m Z S (visC S k [])) (fun t _ => m - (intOf t).toNat)
        case atStart => exact ⟨0, by omega, rfl, HPO.out⟩
        case round =>
          clear HPO
          obtain ⟨k, hk, rfl, hPO⟩ := hrel
          by_cases hlt : k < m
          · have ik : (k : Int) < (m : Int) := by omega
            have HPO := Kept.mk hPO
            clear hPO
            go_wp2_with fail
            refine (plist_own HPO.out.pool (k : Int)).mono ?_
            rintro e w7 ⟨A7, c7, rfl, hown, hb7⟩
            have h7 := HPO.out.next (by omega) hb7
            have hZl : Z < wr.heap.size := HPO.out.nb.lt (by omega)
            have hF := pfirst h7.pool (k : Int)
            rw [optV_hd] at hF
            have HF := Kept.mk hF
            obtain ⟨G1, G2, hG⟩ := h7.pool.goodE
            have HG := Kept.mk hG
            have HL := Kept.mk (list_nodup hG (k : Int))
            have H7 := Kept.mk h7
            have HO := Kept.mk hown
            obtain ⟨t0, ht0⟩ : ∃ t, t = hdI (S.list (k : Int)) := ⟨_, rfl⟩
            obtain ⟨u0, hu0⟩ : ∃ t, t = hdB (S.list (k : Int)) := ⟨_, rfl⟩
            rw [← ht0, ← hu0] at HF
            have HT0 := Kept.mk ht0
            have HU0 := Kept.mk hu0
            obtain ⟨q, hq⟩ : ∃ q, q = (natI (S.list (k : Int))).length := ⟨_, rfl⟩
            rw [← hq] at HO ⊢
            have HQ := Kept.mk hq
            have hql : (q : Int) ≤ 4096 := by have := HL.out.2.1; rw [hq, natI_len]; omega
            clear hF hG h7 hown ht0 hu0 hq HPO hb7
            go_wp2_with fail
            refine HF.out.mono ?_
            rintro e w' ⟨rfl, rfl⟩
            go_wp2_with fail
            obtain ⟨wo, hwo⟩ : ∃ wo : World, wo = wr := ⟨_, rfl⟩
            subst hwo
            go_loopw [14, 15, 104] (fun t14 t15 t wq => ∃ (pre post : List Nat), Kept (S.list (k : Int) = pre ++ post) ∧ t = .int .i64 (pre.length : Nat) ∧ t14 = .int .i64 (hdI post) ∧ t15 = .bool (hdB post) ∧ PO w wq w1.heap.size (w1.heap.size + 3) p L K n m Z S (visC S k pre) ∧ wq.ownsRow wo.heap.size 3 1 (.slice A7 q c7) q ((natI (S.list (k : Int))).map (Value.int .i64))) (fun _ _ t _ => q - (intOf t).toNat)
            case atStart => exact ⟨[], S.list (k : Int), ⟨rfl⟩, rfl, by rw [HT0.out], by rw [HU0.out], H7.out, HO.out⟩
            case round =>
              clear H7 HO HF
              obtain ⟨pre, post, hs, rfl, rfl, rfl, hPO, hown⟩ := hrel
              have hlen : q = pre.length + post.length := by rw [HQ.out, natI_len, hs.out, List.length_append]
              cases post with
              | nil =>
                simp only [List.length_nil, Nat.add_zero] at hlen
                have hle : ¬ ((pre.length : Int) < (q : Int)) := by omega
                have hpre : S.list (k : Int) = pre := by have := hs.out; rwa [List.append_nil] at this
                have HPR := Kept.mk hpre
                have HPO := Kept.mk hPO
                simp only [hdB, hdI, List.head?_nil, Option.isSome_none]
                clear hpre hPO hlen
                go_wp2
                go_roundw
                case rel =>
                  refine ⟨k + 1, by omega, by go_num, ?_⟩
                  rw [← funext (vis_step S k), HPR.out]
                  exact HPO.out
                case measure => simp [intOf]; omega
              | cons x r =>
                simp only [hdB, hdI, List.head?_cons, Option.isSome_some]
                simp only [List.length_cons] at hlen
                have hlt2 : (pre.length : Int) < (q : Int) := by omega
                obtain ⟨hxn, hwx⟩ := wh_in HG.out (k := k) (x := x) (by rw [hs.out]; simp)
                have hW := pwhere hPO.pool (x : Int)
                rw [hwx] at hW
                have HW := Kept.mk hW
                have hN := pnext hPO.pool (x : Int)
                rw [nx_next HG.out hlt hs.out, optV_hd] at hN
                have hcx := hPO.nb.c x hxn
                have hv0 : visC S k pre x = 0 := by unfold visC; rw [vis_new HG.out hs.out]; rfl
                rw [hv0] at hcx
                have hzf := hPO.nb.f
                have HPO := Kept.mk hPO
                have HUP := Kept.mk (vis_upd HG.out hs.out)
                have hix : (x : Int) < (n : Int) := by omega
                obtain ⟨b, off, rfl, hbq, hcc⟩ := (Ints.of_own hown).2 (by rw [← HQ.out]; omega)
                have hce := hcc pre.length (by rw [← HQ.out]; omega)
                have hel : (natI (S.list (k : Int)))[pre.length]?.getD 0 = (x : Int) := by rw [hs.out]; simp [natI]
                rw [hel] at hce
                have HO := Kept.mk hown
                clear hcc hel hown hPO hv0 hwx hW hN hlen
                go_wp2_with fail
                refine HW.out.mono ?_
                rintro e w' ⟨rfl, rfl⟩
                go_wp2_with fail
                have h8 := HPO.out.count hxn 1
                rw [HUP.out] at h8
                have hN := pnext h8.pool (x : Int)
                rw [nx_next HG.out hlt hs.out, optV_hd] at hN
                have HN := Kept.mk hN
                have H8 := Kept.mk h8
                have HO8 := Kept.mk (ownsRow_setCell_below HO.out (a := ⟨Z, x, none⟩) hZl (.int .i64 1))
                clear hN h8 hcx hce
                refine HN.out.mono ?_
                rintro e w' ⟨rfl, rfl⟩
                go_wp2_with fail
                go_roundw
                case rel => exact ⟨pre ++ [x], r, ⟨by rw [hs.out]; simp⟩, by rw [List.length_append]; go_num, rfl, rfl, H8.out, HO8.out⟩
                case measure => simp [intOf]; omega
          · have e : k = m := by omega
            subst e
            have HPO := Kept.mk hPO
            obtain ⟨G1, G2, hG⟩ := hPO.pool.goodE
            have HG := Kept.mk hG
            have c0 := hPO.nb.c
            clear hG hPO hlt c0
            go_wp2_with fail
            go_loop [20, 156] (fun f t => ∃ (j : Nat), j ≤ n ∧ t = .int .i64 j ∧ f = .int .i64 (unseen S k j : Nat)) (fun _ t => n - (intOf t).toNat)
            case atStart => exact ⟨0, by omega, rfl, rfl⟩
            case round =>
              obtain ⟨j, hj, rfl, rfl⟩ := hrel
              by_cases hlt : j < n
              · have ij : (j : Int) < (n : Int) := by omega
                have hcx := HPO.out.nb.c j hlt
                have hst := unseen_step S k j
                have hul := unseen_le S k j
                obtain ⟨u, hu⟩ : ∃ u, u = unseen S k j := ⟨_, rfl⟩
                rw [← hu] at hst hul ⊢
                have hW := pwhere HPO.out.pool (j : Int)
                rcases vis_end HG.out hlt with ⟨hv, k', hw⟩ | ⟨hv, hw⟩
                · have hc1 : visC S k [] j = 1 := by unfold visC; rw [hv]; rfl
                  rw [hv, if_pos rfl, Nat.add_zero] at hst
                  rw [hc1] at hcx
                  rw [hw] at hW
                  have HW := Kept.mk hW
                  have HST := Kept.mk hst
                  clear hst hv hw hW hc1 hu
                  go_wp2_with fail
                  refine HW.out.mono ?_
                  rintro e w' ⟨rfl, rfl⟩
                  go_wp2
                  go_round
                  case rel => exact ⟨j + 1, by omega, by go_num, by rw [HST.out]; rfl⟩
                  case measure => simp [intOf]; omega
                · have hc1 : visC S k [] j = 0 := by unfold visC; rw [hv]; rfl
                  rw [hv] at hst
                  rw [hc1] at hcx
                  rw [hw] at hW
                  have HW := Kept.mk hW
                  have HST := Kept.mk (show unseen S k (j + 1) = u + 1 from hst)
                  clear hst hv hw hW hc1 hu
                  go_wp2_with fail
                  refine HW.out.mono ?_
                  rintro e w' ⟨rfl, rfl⟩
                  go_wp2
                  go_round
                  case rel => exact ⟨j + 1, by omega, by go_num, by rw [HST.out]; go_num⟩
                  case measure => simp [intOf]; omega
              · have e : j = n := by omega
                subst e
                have hua := unseen_all HG.out
                rw [hua]
                have hFr := Kept.mk (pfree HPO.out.pool)
                clear hua hlt
                go_wp2_with fail
                refine hFr.out.mono ?_
                rintro e w' ⟨rfl, rfl⟩
                go_wp2
                go_ret
                exact ⟨by first | rfl | simp, HPO.out.below⟩
  · have HB := Kept.mk hbw2
    by_cases q1 : 60 < xs.length
    · have q1' : 60 < (xs.length : Int) := by omega
      clear hsm hP2 hb2 hxs hbw2
      go_wp2
      go_ret
      exact ⟨rfl, HB.out⟩
    · have q1' : ¬ 60 < (xs.length : Int) := by omega
      by_cases q2 : 200 < n
      · have q2' : 200 < (n : Int) := by omega
        clear hsm hP2 hb2 hxs hbw2
        go_wp2
        go_ret
        exact ⟨rfl, HB.out⟩
      · have q2' : ¬ 200 < (n : Int) := by omega
        have q3' : 50 < (m : Int) := by omega
        clear hsm hP2 hb2 hxs hbw2
        go_wp2
        go_ret
        exact ⟨rfl, HB.out⟩
set_option maxRecDepth 100000 in
set_option maxHeartbeats 1000000 in
theorem once_bad (n m : Int) (h : ¬ (1 ≤ n ∧ n ≤ 4096 ∧ 1 ≤ m ∧ m ≤ 512)) (a : Value) (w : World) :
    Calls Try.prog 4 #[.int .i64 n, .int .i64 m, a] w fun e w' => e = .returned (.bool true) ∧ Below w.heap.size w w' := by
  have C1 := Kept.mk (fun W => new_bad n m h W)
  clear h
  go_enter Try.func4, Try.ntmps4
  go_wp2_with fail
  refine (lives07 _).mono ?_
  rintro e w1 ⟨rfl, hb1⟩
  go_wp2_with fail
  refine (C1.out _).mono ?_
  rintro e w' ⟨rfl, rfl⟩
  go_wp2
  go_ret
  exact ⟨by first | rfl | simp, hb1⟩
end Go.Proofs.Ytcchmkpodfjhcaa
