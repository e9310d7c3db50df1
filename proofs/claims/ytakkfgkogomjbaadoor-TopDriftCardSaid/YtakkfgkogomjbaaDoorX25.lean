/-
  The law TopDrift: its walk.
-/
import Derived.Test.YtakkfgkogomjbaaDoorX24
import Derived.Deep.CutBlock
namespace Go.Proofs.YtakkfgkogomjbaaDoor
open Go.RowKit Go.Shelf
set_option linter.unusedVariables false
set_option linter.unusedSimpArgs false
theorem Tab.bel0 {w w' : World} {B : Nat} (h : Tab w) (hb : Below (B + 1) w w') : Tab w' := fun j hj => (hb.cell (p := ⟨0, j, none⟩) (Nat.succ_pos B)).trans (h j hj)
set_option maxRecDepth 100000 in
set_option maxHeartbeats 8000000 in
theorem drift_walk (start mn mx first period : Int) (As : Option Addr) (ss : List Int) (cs : Nat) (w : World) (hmx : -9223372036854775808 ≤ mx ∧ mx ≤ 9223372036854775807) (hper : period ≤ 9223372036854775807) (hsw : ∀ x ∈ ss, -9223372036854775808 ≤ x ∧ x ≤ 9223372036854775807) (hs : Ints w w.heap.size As ss) (hsl : ss.length ≤ 9223372036854775807) (hT : Tab w) (hs0 : 0 < w.heap.size) :
    Calls Tryd.prog 3 #[.int .i64 start, .agg #[.int .i64 mn, .int .i64 mx], .int .i64 first, .int .i64 period, .slice As ss.length cs] w fun e w' => e = .returned (.bool true) ∧ Below w.heap.size w w' := by
  have HSW := Kept.mk hsw
  have HS := Kept.mk hs
  have HT := Kept.mk hT
  have HS0 := Kept.mk hs0
  have HMX := Kept.mk hmx
  clear hsw hs hT hs0 hmx
  go_enter Tryd.func3, Tryd.ntmps3
  go_wp2_with fail
  refine (begins_any _).mono ?_
  rintro e w1 ⟨rfl, rfl⟩
  by_cases hok : TimOk mn mx ∧ 0 ≤ start ∧ start ≤ 4503599627370496
  · have HNEW := Kept.mk (fun W : World => show Calls Tryd.prog 6 #[.int .i64 start, .agg #[.int .i64 mn, .int .i64 mx], .int .i64 2] W (SNewRes W 2 start mn mx) from stnew_any start mn mx 2 hok.2.1 hok.2.2 HMX.out hok.1 (by omega) (by omega) W)
    have HU := Kept.mk (fun W : World => show Calls Tryd.prog 7 #[.int .i64 start, .int .i64 2] W (TNewRes W 2 start) from tnew_any start 2 hok.2.1 hok.2.2 (by omega) (by omega) W)
    have HOK := Kept.mk hok
    have hst0 : 0 ≤ start := hok.2.1
    clear hok
    go_wp2_with fail
    refine (HNEW.out _).mono ?_
    rintro e w1 ⟨sb, tb, pm, lo, hi, wb, I, M, p, L, K, rfl, hlo, hsb, hc, htm, hb⟩
    go_wp2_with fail
    rw [show max start 0 = start by omega]
    refine (HU.out _).mono ?_
    rintro e w2 hN
    obtain ⟨tb2, pm2, hi2, wb2, I2, M2, p2, L2, K2, rfl, htm2, hb2⟩ := TmAt.of_new hN
    clear hN
    obtain ⟨lo2, hlo2⟩ : ∃ x, x = w1.heap.size := ⟨_, rfl⟩
    rw [← hlo2] at htm2
    have hbw : Below w.heap.size w w2 := ((below_box w _).trans (hb.mono (by simp))).trans (hb2.mono (by have := hb.size; simp at this; omega))
    have hbox : w2.heap[w.heap.size]? = some (.cells #[.int .i64 mn, .int .i64 mx] 23) := (hb2.block w.heap.size (by have := hb.size; simp at this; omega)).trans ((hb.block w.heap.size (by simp)).trans (heap_alloc_new w _))
    have hlo' : w.heap.size + 1 ≤ lo := by simpa using hlo
    have hsbl := (Array.getElem?_eq_some_iff.1 hc).1
    have hc2 := (hb2.block sb hsbl).trans hc
    have htm' := htm.below (hb2.mono (by omega))
    obtain ⟨G, rfl, rfl, rfl, rfl, rfl, rfl, rfl, rfl, hGn, rfl, rfl⟩ : ∃ G : TG, lo = G.lo ∧ hi = G.hi ∧ wb = G.wb ∧ I = G.I ∧ M = G.M ∧ p = G.p ∧ L = G.L ∧ K = G.K ∧ 2 = G.n ∧ tb = G.tb ∧ pm = G.pm := ⟨⟨lo, hi, wb, I, M, p, L, K, 2, tb, pm⟩, rfl, rfl, rfl, rfl, rfl, rfl, rfl, rfl, rfl, rfl, rfl⟩
    obtain ⟨G2, rfl, rfl, rfl, rfl, rfl, rfl, rfl, rfl, hGn2, rfl, rfl⟩ : ∃ G : TG, lo2 = G.lo ∧ hi2 = G.hi ∧ wb2 = G.wb ∧ I2 = G.I ∧ M2 = G.M ∧ p2 = G.p ∧ L2 = G.L ∧ K2 = G.K ∧ 2 = G.n ∧ tb2 = G.tb ∧ pm2 = G.pm := ⟨⟨lo2, hi2, wb2, I2, M2, p2, L2, K2, 2, tb2, pm2⟩, rfl, rfl, rfl, rfl, rfl, rfl, rfl, rfl, rfl, rfl, rfl⟩
    rw [hGn] at htm'
    rw [hGn2] at htm2
    have HG := Kept.mk (show w.heap.size + 1 ≤ G.lo ∧ G.tb < sb ∧ sb < G2.lo ∧ G.n = 2 ∧ G2.n = 2 from ⟨hlo', hsb, by omega, hGn.symm, hGn2.symm⟩)
    have HGL := Kept.mk (show G.lo + 3 ≤ G.tb by have := htm'.lohi; have := htm'.h1; have := htm'.h2; omega)
    have HBW := Kept.mk hbw
    have HBOX := Kept.mk hbox
    have HC2 := Kept.mk hc2
    have HTM := Kept.mk htm'
    have HTM2 := Kept.mk htm2
    have HTAB2 := Kept.mk (HT.out.bel hbw HS0.out)
    have HNO := Kept.mk (snow_any hc2)
    clear hlo hsb hc htm hb hb2 hbw hbox hlo' hsbl hc2 htm' htm2 hlo2 hGn hGn2 HNEW HU
    by_cases hlen : 30 < ss.length
    · go_wp2_with fail
      go_ret
      exact ⟨rfl, HBW.out⟩
    · by_cases hgood : 0 ≤ first ∧ first ≤ 1099511627776 ∧ start ≤ 2251799813685248 ∧ 1 ≤ period ∧ period ≤ 1099511627776
      · obtain ⟨f0, f1, st1, q0, q1⟩ := hgood
        obtain ⟨per, rfl⟩ := Int.eq_ofNat_of_zero_le (show 0 ≤ period by omega)
        have HEV := Kept.mk (severy_any HC2.out HTM.out HTAB2.out HG.out.2.1 (by have := HG.out; omega) (by have := HG.out; omega) HMX.out HOK.out.1 hst0 (by omega) (start + first) (by omega) (by omega) per (by omega) (by omega))
        have e0 : decide (first < 0) = false := decide_eq_false (by omega)
        have e1 : decide (1099511627776 < first) = false := decide_eq_false (by omega)
        have e2 : decide (2251799813685248 < start) = false := decide_eq_false (by omega)
        have e3 : decide ((per : Int) < 1) = false := decide_eq_false (by omega)
        have e4 : decide (1099511627776 < (per : Int)) = false := decide_eq_false (by omega)
        go_wp2_with fail
        refine HEV.out.mono ?_
        rintro e w3 ⟨rfl, ⟨W3, hs3⟩, hk3⟩
        have htm3 := HTM2.out.keptR hk3.size (fun i h1 h2 => hk3.block i (by have := (Array.getElem?_eq_some_iff.1 HTM2.out.bl).1; omega) (.inr (by have := HG.out; omega)))
        have HUE := Kept.mk (tevery_any htm3 (by have := HG.out; omega) (start + first) (by omega) (by omega) per (by omega) (by omega))
        have HS3 := Kept.mk hs3
        have HK3 := Kept.mk hk3
        have HTAB3 := Kept.mk (HTAB2.out.kp hk3 (by have := HG.out; omega) (by have := HBW.out.size; have := HS0.out; omega))
        have HLU := Kept.mk htm3.lohi
        have hu1 := Kept.mk (And.intro htm3.h1 htm3.h2)
        clear hs3 hk3 htm3
        go_wp2_with fail
        refine HUE.out.mono ?_
        rintro e w4 ⟨rfl, htm4, hk4⟩
        have HTS4 := Kept.mk (show TState w4 G2 start 1 (start + first) per from .inl ⟨by omega, 1, htm4⟩)
        have hsl3 := HS3.out.lt
        have HS4 := Kept.mk (HS3.out.below HG.out.2.1 (hk4.toBelow (by have := HG.out; omega) (by omega)))
        have HB4 := Kept.mk (show Below (w.heap.size + 1) w2 w4 from (HK3.out.toBelow (by have := HG.out; omega) (by have := (Array.getElem?_eq_some_iff.1 HBOX.out).1; omega)).trans (hk4.toBelow (by have := HG.out; have := HGL.out; have := HK3.out.size; omega) (by have := (Array.getElem?_eq_some_iff.1 HBOX.out).1; have := HK3.out.size; omega)))
        have HTAB4 := Kept.mk (HTAB3.out.kp hk4 (by have := HG.out; omega) (by omega))
        have h42 : w2.heap.size ≤ w4.heap.size := by have := HK3.out.size; have := hk4.size; omega
        have H42 := Kept.mk h42
        clear htm4 hk4 hsl3 h42
        have hss : ss.length ≤ 30 := by omega
        obtain ⟨base, hbase⟩ : ∃ base, base = start + first := ⟨_, rfl⟩
        have hb0 : 0 ≤ base := by omega
        have HBASE := Kept.mk (show start ≤ base ∧ base ≤ 4503599627370496 by omega)
        have HST := Kept.mk (And.intro hst0 st1)
        rw [← hbase] at HTS4 HS4
        go_wp2_with fail
        rw [← hbase]
        clear hbase f0 f1 st1 hst0 hlen
        go_loopw [15, 109] (fun v i wr => ∃ (k : Nat) (t tu d W utu nu : Int), k ≤ ss.length ∧ i = .int .i64 k ∧ v = .int .i64 d ∧ Kept (DNum start base t d nu mn per tu utu k) ∧ Kept (SState wr G sb mn mx t t tu d per W) ∧ Kept (TState wr G2 t utu nu per) ∧ Kept (Below (w.heap.size + 1) w4 wr)) (fun _ i _ => ss.length - (intOf i).toNat)
        case atStart =>
          exact ⟨0, start, 1, base, W3, 1, base, by omega, rfl, rfl, ⟨⟨HST.out.1, by have := HST.out.2; omega, Int.le_refl _, ⟨0, 0, by simp, by simp, by omega, .inl rfl⟩, HBASE.out.1, by simp, by simp⟩⟩, HS4, HTS4, ⟨Below.refl _ _⟩⟩
        case round =>
          obtain ⟨k, t, tu, d, W, utu, nu, hk, rfl, rfl, hD, hS, hU, hB⟩ := hrel
          by_cases hk4 : k < ss.length
          · obtain ⟨b, off, rfl, hbl, hcell⟩ := HS.out (by omega)
            obtain ⟨x, hx⟩ : ∃ x, ss[k]? = some x := ⟨_, List.getElem?_eq_getElem hk4⟩
            have hxb := HSW.out x (List.mem_of_getElem? hx)
            have hcx := hcell k hk4
            rw [hx] at hcx
            have c0 : wr.cell? ⟨b, off + k, none⟩ = some (.int .i64 x) := (hB.out.cell (p := ⟨b, off + k, none⟩) (by show b < _; omega)).trans ((HB4.out.cell (p := ⟨b, off + k, none⟩) (by show b < _; omega)).trans ((HBW.out.cell (p := ⟨b, off + k, none⟩) hbl).trans hcx))
            have HXB := Kept.mk hxb
            have HK4 := Kept.mk hk4
            clear hcell hcx hx hk
            obtain ⟨bb, hbb⟩ : ∃ bb, bb = (decide (0 < x) && decide (300 < x / (per : Int))) := ⟨_, rfl⟩
            have HBB := Kept.mk hbb
            clear hbb
            go_upto_region 17 with fail
            go_cut [120] from 113 to 120 (fun v wx => v = .bool bb ∧ wx = wr)
            case first =>
              by_cases hx0 : 0 < x
              · have d0 : decide (0 < x) = true := decide_eq_true hx0
                have hx1 : x ≤ 9223372036854775807 := hxb.2
                clear hxb
                by_cases hq : 300 < x / (per : Int)
                · have d1 : decide (300 < x / (per : Int)) = true := decide_eq_true hq
                  go_wp2_with fail
                  go_meet
                  case rel => exact ⟨by rw [HBB.out, d0, d1]; first | rfl | simp, rfl⟩
                · have d1 : decide (300 < x / (per : Int)) = false := decide_eq_false hq
                  go_wp2_with fail
                  go_meet
                  case rel => exact ⟨by rw [HBB.out, d0, d1]; first | rfl | simp, rfl⟩
              · have d0 : decide (0 < x) = false := decide_eq_false hx0
                clear hxb hx0
                go_wp2_with fail
                go_meet
                case rel => exact ⟨by rw [HBB.out, d0]; first | rfl | simp, rfl⟩
            case rest =>
              obtain ⟨rfl, rfl⟩ := hcut
              cases bb with
              | true =>
                go_wp2_with fail
                go_ret
                exact ⟨rfl, HBW.out.trans ((HB4.out.mono (by omega)).trans (hB.out.mono (by omega)))⟩
              | false =>
                have hxn : x ≤ 0 ∨ x ≤ 301 * (per : Int) := by
                  have h := HBB.out
                  by_cases hx0 : 0 < x
                  · right
                    have hq : ¬ 300 < x / (per : Int) := fun hq => by rw [decide_eq_true hx0, decide_eq_true hq] at h; cases h
                    have := Int.lt_ediv_add_one_mul_self x (show (0 : Int) < (per : Int) by omega)
                    have hm : (x / (per : Int) + 1) * (per : Int) ≤ 301 * (per : Int) := Int.mul_le_mul_of_nonneg_right (by omega) (by omega)
                    omega
                  · left; omega
                have HXN := Kept.mk hxn
                have hsz : w.heap.size + 1 ≤ wc.heap.size := by have := hS.out.lt; have := HG.out; have := HGL.out; omega
                obtain ⟨m5, a5, l5, ar5, g5, nf5, hc5, _, _⟩ := hS.out
                have HNO5 := Kept.mk (snow_any hc5)
                have HTABc := Kept.mk (HTAB4.out.bel0 hB.out)
                clear hxn hc5
                by_cases hadv : 0 ≤ x ∧ t + x ≤ 4503599627370496
                · have HADV := Kept.mk (sadv_any hS.out HTABc.out (by have := HG.out; omega) (by have := HG.out; omega) HG.out.2.1 HMX.out HOK.out.1 (by omega) (by omega) ⟨hD.out.t0, Int.le_refl _⟩ hadv (by have := hD.out.u1; omega))
                  have HX := Kept.mk hadv
                  clear hadv hxb
                  go_wp2_with fail
                  refine HNO5.out.mono ?_
                  rintro e wn ⟨rfl, rfl⟩
                  go_wp2_with fail
                  refine HADV.out.mono ?_
                  rintro e w5 ⟨xs, A, cap, T, tu5, W5, rfl, hnum, hR, hfr, hs5, hk5⟩
                  have HR := Kept.mk hR
                  have HFR := Kept.mk hfr
                  have HS5 := Kept.mk hs5
                  have HK5 := Kept.mk hk5
                  have hlx : xs.length ≤ 2048 := hnum.out.2.2.2.2.2
                  have htT : t ≤ T := hnum.out.1
                  have hT52 : T ≤ 4503599627370496 := by have := hnum.out.2.1; have := HX.out; omega
                  have ht00 : 0 ≤ t := hD.out.t0
                  have hd00 : 0 ≤ d := by obtain ⟨a, b, e1, _⟩ := hD.out.ab; have : 0 ≤ (a : Int) * (per : Int) := Int.mul_nonneg (by omega) (by omega); omega
                  have HSZ5 := Kept.mk (show wc.heap.size ≤ w5.heap.size from hk5.size)
                  have HBOX5 := Kept.mk (show w5.heap[w.heap.size]? = some (.cells #[.int .i64 mn, .int .i64 mx] 23) from
                    (hk5.block w.heap.size (by omega) (.inl (by have := HG.out; omega))).trans ((hB.out.block w.heap.size (by omega)).trans ((HB4.out.block w.heap.size (by omega)).trans HBOX.out)))
                  have HU5 := Kept.mk (hU.out.kp hk5 (by have := HG.out; omega))
                  have HB5 := Kept.mk (show Below (w.heap.size + 1) w4 w5 from hB.out.trans (hk5.toBelow (by have := HG.out; omega) hsz))
                  clear hR hfr hs5 hk5
                  go_wp2_with fail
                  go_loopw [15, 142] (fun v i wz => ∃ j : Nat, j ≤ xs.length ∧ i = .int .i64 j ∧ v = .int .i64 (d + (j : Int) * (per : Int)) ∧ Kept (Below w5.heap.size w5 wz)) (fun _ i _ => xs.length - (intOf i).toNat)
                  case atStart => exact ⟨0, by omega, rfl, by simp, ⟨Below.refl _ _⟩⟩
                  case round =>
                    obtain ⟨j, hj, rfl, rfl, hBz⟩ := hrel
                    obtain ⟨dj, hdj⟩ : ∃ dj, dj = d + (j : Int) * (per : Int) := ⟨_, rfl⟩
                    have HDJ := Kept.mk hdj
                    rw [← hdj]
                    have hdj0 : 0 ≤ dj := by have : 0 ≤ (j : Int) * (per : Int) := Int.mul_nonneg (by omega) (by omega); omega
                    by_cases hjl : j < xs.length
                    · obtain ⟨y, hy⟩ : ∃ y, xs[j]? = some y := ⟨_, List.getElem?_eq_getElem hjl⟩
                      obtain ⟨b2, o2, rfl, hb2l, hc2⟩ := HR.out (by omega)
                      obtain ⟨z0, z1, z2⟩ := hc2 j y hy
                      obtain ⟨g1, g2, g3, g4, g5⟩ := hnum.out.2.2.1 j y hy
                      rw [g1] at z0
                      rw [g2, ← hdj] at z1
                      rw [g2, ← hdj] at g5
                      obtain ⟨yc, hyc⟩ : ∃ yc, yc = y.c := ⟨_, rfl⟩
                      rw [← hyc] at g3 g4 g5 z2
                      have w0 : wr.cell? ⟨b2, o2 + j * 3, none⟩ = some (.int .i64 1) := (hBz.out.cell (p := ⟨b2, o2 + j * 3, none⟩) hb2l).trans z0
                      have w1 : wr.cell? ⟨b2, o2 + j * 3 + 1, none⟩ = some (.int .i64 dj) := (hBz.out.cell (p := ⟨b2, o2 + j * 3 + 1, none⟩) hb2l).trans z1
                      have w2 : wr.cell? ⟨b2, o2 + j * 3 + 2, none⟩ = some (.int .i64 yc) := (hBz.out.cell (p := ⟨b2, o2 + j * 3 + 2, none⟩) hb2l).trans z2
                      have w3 : wr.cell? ⟨w.heap.size, 0, none⟩ = some (.int .i64 mn) := cell_of_row _ _ 0 _ _ _ ((hBz.out.block w.heap.size (Array.getElem?_eq_some_iff.1 HBOX5.out).1).trans HBOX5.out)
                      have hwl : w.heap.size < wr.heap.size := by have := hBz.out.size; have := (Array.getElem?_eq_some_iff.1 HBOX5.out).1; omega
                      have hbl2 : b2 < wr.heap.size := by have := hBz.out.size; omega
                      have q3 : decide (yc < 0) = false := decide_eq_false (by omega)
                      have q4 : decide (mn ≤ yc) = false := decide_eq_false (by omega)
                      have q5 : decide (t + (T - t) < dj + yc) = false := decide_eq_false (by omega)
                      have HBN := Kept.mk (fun o => hBz.out.alloc (by exact hBz.out.size) o)
                      clear hdj hy hc2 z0 z1 z2 g1 g2 hyc hj
                      go_wp2_with fail
                      go_roundw
                      case rel => exact ⟨j + 1, by omega, by go_num, by rw [HDJ.out, Int.natCast_add, Int.add_mul]; simp [Int.add_assoc], ⟨HBN.out _⟩⟩
                      case measure => simp [intOf]; omega
                    · obtain rfl : j = xs.length := by omega
                      clear hjl hj
                      have S6 := Kept.mk (show SState wr G sb mn mx T T tu5 dj per W5 from by rw [hdj]; exact HS5.out.below HG.out.2.1 (hBz.out.mono HS5.out.lt))
                      have HU6 := HU5.out.below (hBz.out.mono HU5.out.lt)
                      have hs5z : w.heap.size + 1 ≤ w5.heap.size := by have := HSZ5.out; omega
                      have HTAB6 := HTAB4.out.bel0 (HB5.out.trans (hBz.out.mono (by omega)))
                      obtain ⟨m6, a6, l6, ar6, g6, nf6, hc6, _, hsn6⟩ := S6.out
                      have HNO6 := Kept.mk (snow_any hc6)
                      have hlate : T < dj + mn := by
                        rcases hsn6.out with h | h
                        · have := HOK.out.1.1; omega
                        · omega
                      have HLATE := Kept.mk hlate
                      have HRUN := trun_any HU6 HTAB6 (by have := HG.out; omega) (by have := HG.out; omega) (by omega) (by omega) T ⟨htT, hT52⟩ (by have := hD.out.u2; omega)
                      have HBX6 := Kept.mk ((hBz.out.block w.heap.size (Array.getElem?_eq_some_iff.1 HBOX5.out).1).trans HBOX5.out)
                      have HB6 := Kept.mk (show Below (w.heap.size + 1) w4 wr from HB5.out.trans (hBz.out.mono (by omega)))
                      have hdd : dj = d + (xs.length : Int) * (per : Int) := hdj
                      have HDD := Kept.mk hdd
                      clear hdd hdj hc6 hsn6 hlate HU6 HTAB6 hBz
                      go_wp2_with fail
                      refine HNO6.out.mono ?_
                      rintro e wn ⟨rfl, rfl⟩
                      go_wp2_with fail
                      refine HRUN.mono ?_
                      rintro e w7 ⟨c, A2, cap2, utu7, rfl, hn7, hR7, hcap7, hfr7, hs7, hk7⟩
                      have STEP := Kept.mk (hD.out.step hb0 (by omega) hnum.out hT52 HXN.out hn7.out)
                      rw [← HDD.out] at STEP
                      have hsz6 : w.heap.size + 1 ≤ wr.heap.size := by have := S6.out.lt; have := HG.out; have := HGL.out; omega
                      have S7 := Kept.mk (S6.out.below HG.out.2.1 (hk7.toBelow (by have := HG.out; omega) S6.out.lt))
                      have HU7 := Kept.mk hs7
                      have HB7 := Kept.mk (HB6.out.trans (hk7.toBelow (by have := HG.out; have := HGL.out; omega) hsz6))
                      have v0 : w7.cell? ⟨w.heap.size, 0, none⟩ = some (.int .i64 mn) := cell_of_row _ _ 0 _ _ _ ((hk7.block w.heap.size (by omega) (.inl (by have := HG.out; have := HGL.out; omega))).trans HBX6.out)
                      obtain ⟨m7, a7, l7, ar7, g7, nf7, hc7, _, _⟩ := S7.out
                      have HNO7 := Kept.mk (fun (V : World) (hV : V.heap = w7.heap) => show Calls Tryd.prog 8 #[.pointer (some ⟨sb, 0, none⟩)] V (fun e w' => e = .returned (.int .i64 T) ∧ V = w') from snow_any (by rw [hV]; exact hc7))
                      have HR7 := Kept.mk hR7
                      have hlt7 : decide (dj + mn ≤ T) = false := decide_eq_false (by have := HLATE.out; omega)
                      have hdj52 : dj ≤ 5629499534213120 := by
                        obtain ⟨a, b, e1, _, _, e4⟩ := STEP.out.1.ab
                        rcases e4 with rfl | h
                        · have := HBASE.out; simp at e1; omega
                        · omega
                      have hmn : mn ≤ 2147483648 := by have := HOK.out.1; unfold TimOk at this; omega
                      have hmn0 : 0 ≤ mn := by have := HOK.out.1.1; omega
                      clear hR7 hcap7 hfr7 hs7 hk7 HRUN hc7
                      cases c with
                      | zero =>
                        have HFIN := Kept.mk (show TState w7 G2 T utu7 (nu + ((0 : Nat) : Int) * (per : Int)) per from HU7.out)
                        by_cases hg : T - t = x
                        · have dg : (T - t == x) = true := by simp [hg]
                          clear hg
                          go_wp2_with fail
                          try rw [show ((c + 1 : Nat) : Int) = (c : Int) + 1 by omega]
                          go_quiet (first | (go_at_call 8; exact quiet_left (HNO7.out _ rfl)))
                          go_wp2_with fail
                          go_roundw
                          case rel => exact ⟨k + 1, T, tu5, dj, W5, utu7, _, by have := HK4.out; omega, by go_num, rfl, ⟨STEP.out.1⟩, ⟨S7.out.below HG.out.2.1 ((Below.refl _ _).drewN _)⟩, ⟨HFIN.out.below ((Below.refl _ _).drewN _)⟩, ⟨HB7.out.drewN _⟩⟩
                          case measure => have := HK4.out; simp [intOf]; omega
                        · have dg : (T - t == x) = false := by simp [hg]
                          clear hg
                          go_wp2_with fail
                          try rw [show ((c + 1 : Nat) : Int) = (c : Int) + 1 by omega]
                          go_quiet (first | (go_at_call 8; exact quiet_left (HNO7.out _ rfl)))
                          go_wp2_with fail
                          go_roundw
                          case rel => exact ⟨k + 1, T, tu5, dj, W5, utu7, _, by have := HK4.out; omega, by go_num, rfl, ⟨STEP.out.1⟩, ⟨S7.out.below HG.out.2.1 ((Below.refl _ _).drewN _)⟩, ⟨HFIN.out.below ((Below.refl _ _).drewN _)⟩, ⟨HB7.out.drewN _⟩⟩
                          case measure => have := HK4.out; simp [intOf]; omega
                      | succ c =>
                        have HFIN := Kept.mk (show TState w7 G2 T utu7 (nu + ((c + 1 : Nat) : Int) * (per : Int)) per from HU7.out)
                        obtain ⟨b3, o3, rfl, hb3, hc3⟩ := HR7.out (by rw [firedL_len]; omega)
                        obtain ⟨_, v1, _⟩ := hc3 c _ (firedL_at (Nat.lt_succ_self c))
                        simp only at v1
                        obtain ⟨pl, hpl⟩ : ∃ pl, pl = nu + (c : Int) * (per : Int) := ⟨_, rfl⟩
                        rw [← hpl] at v1
                        have hq := STEP.out.2.2 (by omega)
                        rw [show ((c + 1 : Nat) : Int) - 1 = (c : Int) by omega, ← hpl] at hq
                        have hlt8 : decide (pl < dj - (per : Int)) = false := decide_eq_false (by omega)
                        have hc10 : c < 1024 := by have := hn7.out.1; omega
                        clear hpl hq hc3
                        by_cases hg : T - t = x
                        · have dg : (T - t == x) = true := by simp [hg]
                          clear hg
                          go_wp2_with fail
                          try rw [show ((c + 1 : Nat) : Int) = (c : Int) + 1 by omega]
                          go_quiet (first | (go_at_call 8; exact quiet_left (HNO7.out _ rfl)))
                          go_wp2_with fail
                          go_roundw
                          case rel => exact ⟨k + 1, T, tu5, dj, W5, utu7, _, by have := HK4.out; omega, by go_num, rfl, ⟨STEP.out.1⟩, ⟨S7.out.below HG.out.2.1 ((Below.refl _ _).drewN _)⟩, ⟨HFIN.out.below ((Below.refl _ _).drewN _)⟩, ⟨HB7.out.drewN _⟩⟩
                          case measure => have := HK4.out; simp [intOf]; omega
                        · have dg : (T - t == x) = false := by simp [hg]
                          clear hg
                          go_wp2_with fail
                          try rw [show ((c + 1 : Nat) : Int) = (c : Int) + 1 by omega]
                          go_quiet (first | (go_at_call 8; exact quiet_left (HNO7.out _ rfl)))
                          go_wp2_with fail
                          go_roundw
                          case rel => exact ⟨k + 1, T, tu5, dj, W5, utu7, _, by have := HK4.out; omega, by go_num, rfl, ⟨STEP.out.1⟩, ⟨S7.out.below HG.out.2.1 ((Below.refl _ _).drewN _)⟩, ⟨HFIN.out.below ((Below.refl _ _).drewN _)⟩, ⟨HB7.out.drewN _⟩⟩
                          case measure => have := HK4.out; simp [intOf]; omega
                · have HADV := Kept.mk (sadv_bad hS.out hD.out.t0 hD.out.t1 (n := x) (by omega))
                  have HD1 := Kept.mk (show DNum start base t d nu mn per tu utu (k + 1) from ⟨hD.out.t0, hD.out.t1, hD.out.ts, hD.out.ab, hD.out.nt, by have := hD.out.u1; omega, by have := hD.out.u2; omega⟩)
                  have ht0 := hD.out.t0
                  have ht1 := hD.out.t1
                  by_cases hx0 : 0 ≤ x
                  · have d0 : decide (0 ≤ x) = true := decide_eq_true hx0
                    have d1 : decide (x ≤ 4503599627370496 - t) = false := decide_eq_false (by omega)
                    clear hadv hxb
                    go_wp2_with fail
                    refine HNO5.out.mono ?_
                    rintro e wn ⟨rfl, rfl⟩
                    go_wp2_with fail
                    refine HADV.out.mono ?_
                    rintro e wn ⟨⟨er, her, rfl⟩, rfl⟩
                    have her0 : (er != 0) = true := by simp [her]
                    go_wp2_with fail
                    go_roundw
                    case rel => exact ⟨k + 1, t, tu, d, W, utu, nu, by have := HK4.out; omega, by go_num, rfl, HD1, hS, hU, hB⟩
                    case measure => have := HK4.out; simp [intOf]; omega
                  · have d0 : decide (0 ≤ x) = false := decide_eq_false hx0
                    clear hadv hxb hx0
                    go_wp2_with fail
                    refine HNO5.out.mono ?_
                    rintro e wn ⟨rfl, rfl⟩
                    go_wp2_with fail
                    refine HADV.out.mono ?_
                    rintro e wn ⟨⟨er, her, rfl⟩, rfl⟩
                    have her0 : (er != 0) = true := by simp [her]
                    go_wp2_with fail
                    go_roundw
                    case rel => exact ⟨k + 1, t, tu, d, W, utu, nu, by have := HK4.out; omega, by go_num, rfl, HD1, hS, hU, hB⟩
                    case measure => have := HK4.out; simp [intOf]; omega
          · clear hk
            go_wp2_with fail
            go_ret
            exact ⟨rfl, HBW.out.trans ((HB4.out.mono (by omega)).trans (hB.out.mono (by omega)))⟩
      · have HBAD := Kept.mk hgood
        clear hgood
        by_cases f0 : first < 0
        · have e0 : decide (first < 0) = true := decide_eq_true f0
          clear f0
          go_wp2_with fail
          refine HNO.out.mono ?_
          rintro e w3 ⟨rfl, rfl⟩
          go_wp2_with fail
          go_ret
          exact ⟨rfl, HBW.out⟩
        have e0 : decide (first < 0) = false := decide_eq_false f0
        by_cases f1 : 1099511627776 < first
        · have e1 : decide (1099511627776 < first) = true := decide_eq_true f1
          clear f0 f1
          go_wp2_with fail
          refine HNO.out.mono ?_
          rintro e w3 ⟨rfl, rfl⟩
          go_wp2_with fail
          go_ret
          exact ⟨rfl, HBW.out⟩
        have e1 : decide (1099511627776 < first) = false := decide_eq_false f1
        by_cases f2 : 2251799813685248 < start
        · have e2 : decide (2251799813685248 < start) = true := decide_eq_true f2
          clear f0 f1 f2
          go_wp2_with fail
          refine HNO.out.mono ?_
          rintro e w3 ⟨rfl, rfl⟩
          go_wp2_with fail
          go_ret
          exact ⟨rfl, HBW.out⟩
        have e2 : decide (2251799813685248 < start) = false := decide_eq_false f2
        by_cases f3 : period < 1
        · have e3 : decide (period < 1) = true := decide_eq_true f3
          clear f0 f1 f2 f3
          go_wp2_with fail
          refine HNO.out.mono ?_
          rintro e w3 ⟨rfl, rfl⟩
          go_wp2_with fail
          go_ret
          exact ⟨rfl, HBW.out⟩
        have e3 : decide (period < 1) = false := decide_eq_false f3
        have f4 : 1099511627776 < period := by have := HBAD.out; omega
        have e4 : decide (1099511627776 < period) = true := decide_eq_true f4
        clear f0 f1 f2 f3 f4
        go_wp2_with fail
        refine HNO.out.mono ?_
        rintro e w3 ⟨rfl, rfl⟩
        go_wp2_with fail
        go_ret
        exact ⟨rfl, HBW.out⟩
  · obtain ⟨ms, hms⟩ : ∃ ms, ms = max start 0 := ⟨_, rfl⟩
    have HNEW := Kept.mk (fun W : World => show Calls Tryd.prog 6 #[.int .i64 start, .agg #[.int .i64 mn, .int .i64 mx], .int .i64 2] W _ from stnew_bad start mn mx 2 HMX.out hok W)
    have HU := Kept.mk (fun W : World => show Calls Tryd.prog 7 #[.int .i64 (max start 0), .int .i64 2] W (fun e w' => (∃ (v : Value) (er : Int), e = .returned (.tuple #[v, .int .i64 er])) ∧ Below W.heap.size W w') from by
      by_cases h : max start 0 ≤ 4503599627370496
      · refine (tnew_any (max start 0) 2 (by omega) h (by omega) (by omega) W).mono ?_
        rintro e w' ⟨tb, pm, hi, wb, I, M, p, L, K, rfl, _, hb, _⟩
        exact ⟨⟨_, _, rfl⟩, hb⟩
      · refine (tnew_bad (max start 0) 2 (by omega) W).mono ?_
        rintro e w' ⟨rfl, rfl⟩
        exact ⟨⟨_, _, rfl⟩, Below.refl _ _⟩)
    clear hok hms
    go_wp2_with fail
    refine (HNEW.out _).mono ?_
    rintro e w1 ⟨⟨er, her, rfl⟩, hb⟩
    have her0 : (er != 0) = true := by simp [her.out]
    have HB := Kept.mk ((below_box w _).trans (hb.mono (by simp)))
    clear hb
    go_wp2_with fail
    refine (HU.out _).mono ?_
    rintro e w2 ⟨⟨v, er2, rfl⟩, hb2⟩
    have HBF := Kept.mk (HB.out.trans (hb2.mono HB.out.size))
    clear hb2
    go_wp2_with fail
    go_ret
    exact ⟨rfl, HBF.out⟩
end Go.Proofs.YtakkfgkogomjbaaDoor
