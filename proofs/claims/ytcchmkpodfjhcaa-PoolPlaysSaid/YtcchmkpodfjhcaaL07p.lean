/-
  The walk of the law PoolPlays.
-/
import Derived.Test.YtcchmkpodfjhcaaL07
import Derived.Test.YtcchmkpodfjhcaaV3
namespace Go.Proofs.Ytcchmkpodfjhcaa
open Go.RowKit
set_option linter.unusedVariables false
theorem PoolAt.goodS {w : World} {lo hi p L K n m : Nat} {S : PS} (h : PoolAt w lo hi p L K n m S) : GoodS n m S := by
  obtain ⟨F, G, _, hG⟩ := h.of
  exact ⟨h.nb, h.mb, F, G, hG⟩
theorem rtake_at {w : World} {hi n m : Nat} {S S' : PS} {v : Value} {k a b : Int} (h : RP w hi n S v) (hg : GoodS n m S) (hh : hi ≤ w.heap.size) (e : tk m S k = (a, b, S')) :
    Calls Try.prog 18 #[v, .int .i64 k] w (RRes w hi n S' [.int .i64 a, .int .i64 b]) := by
  have := rtake_any h hg hh k
  rwa [e] at this
theorem rgive_at {w : World} {hi n m : Nat} {S S' : PS} {v : Value} {k a : Int} (h : RP w hi n S v) (hg : GoodS n m S) (hh : hi ≤ w.heap.size) (e : gv n S k = (a, S')) :
    Calls Try.prog 19 #[v, .int .i64 k] w (RRes w hi n S' [.int .i64 a]) := by
  have := rgive_any h hg hh k
  rwa [e] at this
theorem rmove_at {w : World} {hi n m : Nat} {S S' : PS} {v : Value} {i k a : Int} (h : RP w hi n S v) (hg : GoodS n m S) (hh : hi ≤ w.heap.size) (e : mv n m S i k = (a, S')) :
    Calls Try.prog 21 #[v, .int .i64 i, .int .i64 k] w (RRes w hi n S' [.int .i64 a]) := by
  have := rmove_any h hg hh i k
  rwa [e] at this
/-- A list as a result, its length as the numbers' list's. -/
def RLN (w : World) (hi : Nat) (l : List Nat) (e : Ending) (w' : World) : Prop := (∃ A c, e = .returned (.slice A (natI l).length c) ∧ RI w' hi A (natI l)) ∧ Below w.heap.size w w'
theorem rlistN {w : World} {hi n m : Nat} {S : PS} {v : Value} (h : RP w hi n S v) (hg : GoodS n m S) (k : Int) :
    Calls Try.prog 26 #[v, .int .i64 k] w (RLN w hi (S.list k)) := by
  refine (rlist_any h hg k).mono ?_
  rintro e w' ⟨⟨A, c, rfl, h1⟩, hb⟩
  exact ⟨⟨A, c, by rw [natI_len], h1⟩, hb⟩
theorem list_big {w : World} {lo hi p L K n m : Nat} {S : PS} (h : PoolAt w lo hi p L K n m S) (k : Int) : (natI (S.list k)).length ≤ 9223372036854775807 := by
  obtain ⟨F, G, _, hG⟩ := h.of
  have := (list_nodup hG k).2.1
  have := h.nb
  rw [natI_len]
  omega
theorem Kp.cell {lo hi : Nat} {w w' : World} (h : Kp lo hi w w') {b o : Nat} {v : Value} (hc : w.cell? ⟨b, o, none⟩ = some v) (hb : hi ≤ b) : w'.cell? ⟨b, o, none⟩ = some v :=
  (World.cell?_of_block (a := ⟨b, o, none⟩) (h.block b (cell_lt hc) (.inr hb))).trans hc
theorem BX.kp {lo hi : Nat} {w w' : World} (k : Kp lo hi w w') {d : Nat} {v0 v1 v2 : Value} (h : BX w d v0 v1 v2) (hd : hi ≤ d) : BX w' d v0 v1 v2 := h.kept (k.block d h.lt (.inr hd))
/-- The state of the law's loop. -/
structure PS07 (w wr : World) (lo hi p L K n m d : Nat) (S : PS) (A : Option Addr) (c : Nat) (A2 : Option Addr) (c2 : Nat) : Prop where
  pool : PoolAt wr lo hi p L K n m S
  box : BX wr d (.slice A S.pile.length c) (.slice A2 S.lists.length c2) (.int .i64 (n : Int))
  rp : RP wr hi n S (.agg (rC A S.pile.length c A2 S.lists.length c2 n))
  below : Below w.heap.size w wr
  lo : w.heap.size ≤ lo
  hd : hi ≤ d
theorem PS07.next {w wr W : World} {lo hi p L K n m d : Nat} {S : PS} {A : Option Addr} {c : Nat} {A2 : Option Addr} {c2 : Nat} (h : PS07 w wr lo hi p L K n m d S A c A2 c2) (hb : Below wr.heap.size wr W) : PS07 w W lo hi p L K n m d S A c A2 c2 :=
  ⟨h.pool.below hb, h.box.below hb, h.rp.below hb, h.below.trans (hb.mono h.below.size), h.lo, h.hd⟩
/-- The reference's new pool comes into its box. -/
theorem PS07.store {w W : World} {lo hi p L K n m d : Nat} {S : PS} {v0 v1 v2 : Value} {A : Option Addr} {c : Nat} {A2 : Option Addr} {c2 : Nat} (h1 : PoolAt W lo hi p L K n m S) (h2 : BX W d v0 v1 v2) (h3 : RP W hi n S (.agg (rC A S.pile.length c A2 S.lists.length c2 n))) (h4 : Below w.heap.size w W) (h5 : w.heap.size ≤ lo) (h6 : hi ≤ d) (h7 : lo ≤ hi) :
    PS07 w (((W.setCell ⟨d, 0, none⟩ (.slice A S.pile.length c)).setCell ⟨d, 1, none⟩ (.slice A2 S.lists.length c2)).setCell ⟨d, 2, none⟩ (.int .i64 (n : Int))) lo hi p L K n m d S A c A2 c2 :=
  ⟨h1.below_hi ((((Below.refl hi W).setCell (p := ⟨d, 0, none⟩) h6 _).setCell (p := ⟨d, 1, none⟩) h6 _).setCell (p := ⟨d, 2, none⟩) h6 _), ((h2.s0 _).s1 _).s2 _, h3.set3 h2 _ _ _,
   ((h4.setCell (p := ⟨d, 0, none⟩) (by show w.heap.size ≤ d; omega) _).setCell (p := ⟨d, 1, none⟩) (by show w.heap.size ≤ d; omega) _).setCell (p := ⟨d, 2, none⟩) (by show w.heap.size ≤ d; omega) _, h5, h6⟩
set_option maxRecDepth 100000 in
set_option maxHeartbeats 8000000 in
theorem plays_walk (n m : Nat) (h1 : 1 ≤ n) (h2 : n ≤ 4096) (h3 : 1 ≤ m) (h4 : m ≤ 512) (A : Option Addr) (xs : List Q3) (cap : Nat) (i q : Int) (w : World) (hxs : R3 w w.heap.size A xs) (hl : xs.length ≤ 9223372036854775807) :
    Calls Try.prog 3 #[.int .i64 n, .int .i64 m, .slice A xs.length cap, .int .i64 i, .int .i64 q] w fun e w' => e = .returned (.bool true) ∧ Below w.heap.size w w' := by
  have HI := Kept.mk (fun W (hw : Below w.heap.size w W) => hxs.below hw)
  go_enter Try.func3, Try.ntmps3
  go_wp2_with fail
  refine (lives07 _).mono ?_
  rintro e w1 ⟨rfl, hb1⟩
  go_wp2_with fail
  refine (new_walk n m h1 h2 h3 h4 w1).mono ?_
  rintro e w2 ⟨p, L, K, rfl, hP2, hb2⟩
  go_wp2_with fail
  refine (rnew_any n m h1 h2 h3 h4 w2).mono ?_
  rintro e w3 ⟨v, rfl, hR3, hb3⟩
  obtain ⟨A5, c5, A6, c6, rfl, _⟩ := id hR3.of
  have hR3' := hR3.mono hP2.hh
  have hd3 := BX.new w3 w3.heap.size rfl (.slice A5 (newS n m).pile.length c5) (.slice A6 (newS n m).lists.length c6) (.int .i64 (n : Int))
  have hbw3 := (hb1.trans (hb2.mono hb1.size)).trans (hb3.mono (Nat.le_trans hb1.size hb2.size))
  have hb4 := below_box w3 (.cells (rC A5 (newS n m).pile.length c5 A6 (newS n m).lists.length c6 n) 31)
  have H4 : PS07 w (w3.alloc (.cells (rC A5 (newS n m).pile.length c5 A6 (newS n m).lists.length c6 n) 31)) w1.heap.size (w1.heap.size + 3) p L K n m w3.heap.size (newS n m) A5 c5 A6 c6 :=
    ⟨(hP2.below hb3).below hb4, hd3, hR3'.below hb4, hbw3.trans (hb4.mono hbw3.size), hb1.size, Nat.le_trans hP2.hh hb3.size⟩
  clear hP2 hR3 hR3' hd3 hb4 hbw3 hb3 hb2 hxs
  unfold rC at *
  by_cases hlen : 40 < xs.length
  · have hlen' : 40 < (xs.length : Int) := by omega
    have HF := Kept.mk H4.below
    clear H4
    go_wp2
    go_ret
    exact ⟨rfl, HF.out⟩
  · have hlen' : (xs.length : Int) ≤ 40 := by omega
    obtain ⟨d, hd⟩ : ∃ d, d = w3.heap.size := ⟨_, rfl⟩
    obtain ⟨W4, hW4⟩ : ∃ W, W = w3.alloc (.cells #[.slice A5 (newS n m).pile.length c5, .slice A6 (newS n m).lists.length c6, .int .i64 (n : Int)] 31) := ⟨_, rfl⟩
    go_upto_region 9 with fail
    rw [← hd, ← hW4] at H4 ⊢
    have H40 := Kept.mk H4
    clear hd hW4 H4 hlen
    go_wp2_with fail
    go_loopw [75] (fun t wr => ∃ (k : Nat) (S : PS) (A5 : Option Addr) (c5 : Nat) (A6 : Option Addr) (c6 : Nat), k ≤ xs.length ∧ t = .int .i64 k ∧ PS07 w wr w1.heap.size (w1.heap.size + 3) p L K n m d S A5 c5 A6 c6) (fun t _ => xs.length - (intOf t).toNat)
    case atStart => exact ⟨0, newS n m, A5, c5, A6, c6, by omega, rfl, H40.out⟩
    case round =>
      clear H40
      obtain ⟨k, S, A5, c5, A6, c6, hk, rfl, HST⟩ := hrel
      by_cases hlt : k < xs.length
      · obtain ⟨b, off, rfl, hbB, hc⟩ := (HI.out wr HST.below) (by omega)
        obtain ⟨y, hy⟩ := some3_at hlt
        obtain ⟨e1, e2, e3⟩ := hc k y hy
        have ik : (k : Int) < (xs.length : Int) := by omega
        obtain ⟨xa, xb, xc⟩ := y
        simp only at e1 e2 e3
        have hb5 := below_box wr (.cells #[.int .i64 xa, .int .i64 xb, .int .i64 xc] 35)
        have H5 := HST.next hb5
        have x0 := box_cell (Below.refl (wr.alloc (.cells #[.int .i64 xa, .int .i64 xb, .int .i64 xc] 35)).heap.size _) 0 _ rfl
        have x1 := box_cell (Below.refl (wr.alloc (.cells #[.int .i64 xa, .int .i64 xb, .int .i64 xc] 35)).heap.size _) 1 _ rfl
        have x2 := box_cell (Below.refl (wr.alloc (.cells #[.int .i64 xa, .int .i64 xb, .int .i64 xc] 35)).heap.size _) 2 _ rfl
        have hxw := HST.pool.hh
        have hdx0 : d < wr.heap.size := HST.box.lt
        clear hc hy HST hb5
        go_upto_region 12 with fail
        obtain ⟨x, hx⟩ : ∃ x, x = wr.heap.size := ⟨_, rfl⟩
        obtain ⟨W5, hW5⟩ : ∃ W, W = wr.alloc (.cells #[.int .i64 xa, .int .i64 xb, .int .i64 xc] 35) := ⟨_, rfl⟩
        rw [← hW5] at H5 x0 x1 x2 ⊢
        rw [← hx] at x0 x1 x2 hxw hdx0 ⊢
        have HH5 := Kept.mk H5
        clear hx hW5 H5 e1 e2 e3
        have hdx : d < x := hdx0
        have hdx1 : x ≠ d := by omega
        clear hdx0
        by_cases hk0 : xa = 0
        · have q0 : (xa == 0) = true := by simp [hk0]
          clear hk0
          obtain ⟨ta, tb, tS, htk⟩ : ∃ a b S', tk m S xc = (a, b, S') := ⟨_, _, _, rfl⟩
          have HTK := Kept.mk htk
          clear htk
          go_wp2_with fail
          refine (take_at HH5.out.pool HTK.out).mono ?_
          rintro e w6 ⟨rfl, hP6, hK6⟩
          have hR6 := HH5.out.rp.kp hK6
          have hd6 := HH5.out.box.kp hK6 HH5.out.hd
          have y0 := hK6.cell x0 hxw
          have y1 := hK6.cell x1 hxw
          have y2 := hK6.cell x2 hxw
          have bw6 := hK6.below HH5.out.below HH5.out.lo HH5.out.below.size
          unfold rC at hR6
          have z0 := hd6.c0
          have z1 := hd6.c1
          have z2 := hd6.c2
          clear x0 x1 x2
          go_wp2_with fail
          refine (rtake_at hR6 HH5.out.pool.goodS hP6.hh HTK.out).mono ?_
          rintro e w7 ⟨v', rfl, hR7, hb7⟩
          obtain ⟨A7, c7, A8, c8, rfl, _⟩ := id hR7.of
          have hb8 := below_box w7 (.cells (rC A7 tS.pile.length c7 A8 tS.lists.length c8 n) 31)
          have b68 := hb7.trans (hb8.mono hb7.size)
          have HP8 := hP6.below b68
          have hd8 := hd6.below b68
          have hR8 := hR7.below hb8
          have bw8 := bw6.trans (b68.mono bw6.size)
          have hn8 := BX.new w7 w7.heap.size rfl (.slice A7 tS.pile.length c7) (.slice A8 tS.lists.length c8) (.int .i64 (n : Int))
          have y8 := (b68.cell (p := ⟨x, 2, none⟩) (cell_lt y2)).trans y2
          have hdt : d < w7.heap.size := Nat.lt_of_lt_of_le hd6.lt hb7.size
          clear z0 z1 z2 y0 y1 y2 hb7 hb8 b68 hR7 hR6 hd6 hP6 bw6 hK6
          unfold rC at hR8 HP8 hd8 bw8 y8 ⊢
          go_upto_region 16 with fail
          obtain ⟨t, ht⟩ : ∃ t, t = w7.heap.size := ⟨_, rfl⟩
          obtain ⟨W8, hW8⟩ : ∃ W, W = w7.alloc (.cells #[.slice A7 tS.pile.length c7, .slice A8 tS.lists.length c8, .int .i64 (n : Int)] 31) := ⟨_, rfl⟩
          rw [← hW8] at HP8 hd8 hR8 bw8 hn8 y8 ⊢
          rw [← ht] at hn8 hdt ⊢
          clear hW8 ht
          have HF := Kept.mk (PS07.store HP8 hd8 hR8 bw8 HH5.out.lo HH5.out.hd (Nat.le_add_right _ _))
          have z0 := hd8.c0
          have z1 := hd8.c1
          have z2 := hd8.c2
          have zf := hd8.f
          have t0 := hn8.c0
          have t1 := hn8.c1
          have t2 := hn8.c2
          have dt1 : d ≠ t := by omega
          have dt2 : t ≠ d := by omega
          have xF := (World.cell?_setCell_other ((W8.setCell ⟨d, 0, none⟩ (.slice A7 tS.pile.length c7)).setCell ⟨d, 1, none⟩ (.slice A8 tS.lists.length c8)) ⟨d, 2, none⟩ ⟨x, 2, none⟩ (.int .i64 (n : Int)) (by simp)).trans ((World.cell?_setCell_other (W8.setCell ⟨d, 0, none⟩ (.slice A7 tS.pile.length c7)) ⟨d, 1, none⟩ ⟨x, 2, none⟩ (.slice A8 tS.lists.length c8) (by simp)).trans ((World.cell?_setCell_other W8 ⟨d, 0, none⟩ ⟨x, 2, none⟩ (.slice A7 tS.pile.length c7) (by simp)).trans y8))
          clear HP8 hd8 hR8 bw8 hn8 y8
          go_upto_region 29 with fail
          obtain ⟨WF, hWF⟩ : ∃ W, W = ((W8.setCell ⟨d, 0, none⟩ (.slice A7 tS.pile.length c7)).setCell ⟨d, 1, none⟩ (.slice A8 tS.lists.length c8)).setCell ⟨d, 2, none⟩ (.int .i64 (n : Int)) := ⟨_, rfl⟩
          rw [← hWF] at HF xF ⊢
          clear hWF z0 z1 z2 zf t0 t1 t2
          obtain ⟨SF, hSF⟩ : ∃ S, S = tS := ⟨_, rfl⟩
          subst hSF
          obtain ⟨AF, hAF⟩ : ∃ S, S = A7 := ⟨_, rfl⟩
          obtain ⟨cF, hcF⟩ : ∃ S, S = c7 := ⟨_, rfl⟩
          obtain ⟨AG, hAG⟩ : ∃ S, S = A8 := ⟨_, rfl⟩
          obtain ⟨cG, hcG⟩ : ∃ S, S = c8 := ⟨_, rfl⟩
          subst hAF hcF hAG hcG
          have HB : Below WF.heap.size WF WF.drew := (Below.refl _ _).drewN 1
          have PP := Kept.mk (fun W (h : Below WF.heap.size WF W) => (HF.out.next h).pool)
          have RR := Kept.mk (fun W (h : Below WF.heap.size WF W) => (HF.out.next h).rp)
          have HG := Kept.mk HF.out.pool.goodS
          have HL := Kept.mk (list_big HF.out.pool xc)
          have HSS := Kept.mk (show ∀ W, Below WF.heap.size WF W → W.cell? ⟨x, 2, none⟩ = some (.int .i64 xc) ∧ W.cell? ⟨d, 0, none⟩ = some (.slice AF SF.pile.length cF) ∧ W.cell? ⟨d, 1, none⟩ = some (.slice AG SF.lists.length cG) ∧ W.cell? ⟨d, 2, none⟩ = some (.int .i64 (n : Int)) from fun W h => ⟨(h.cell (p := ⟨x, 2, none⟩) (cell_lt xF)).trans xF, (HF.out.next h).box.c0, (HF.out.next h).box.c1, (HF.out.next h).box.c2⟩)
          have xlen : (SF.pile.length : Int) ≤ 4096 := by
            obtain ⟨h1, _, F, G, hG⟩ := HG.out
            have := nodup_len hG.rep.pnd hG.rep.plt
            omega
          unfold rC at *
          go_region_held3 (fun W => W.cell? ⟨x, 2, none⟩ = some (.int .i64 xc) ∧ W.cell? ⟨d, 0, none⟩ = some (.slice AF SF.pile.length cF) ∧ W.cell? ⟨d, 1, none⟩ = some (.slice AG SF.lists.length cG) ∧ W.cell? ⟨d, 2, none⟩ = some (.int .i64 (n : Int))) ((first | exact HSS.out _ HB | go_keep)) (first
            | (go_at_call 23; refine (pfree (PP.out _ HB)).mono ?_; rintro e w' ⟨rfl, rfl⟩)
            | (go_at_call 25; refine (plist_any (PP.out _ HB) xc).mono ?_; rintro e wl ⟨AL, cL, rfl, hIL, hbl⟩; (try replace hIR := hIR.below hbl); replace HB := HB.next HB.size hbl)
            | (go_at_call 26; refine (rlistN (RR.out _ HB) HG.out xc).mono ?_; rintro e wq ⟨⟨AR, cR, rfl, hIR⟩, hbq⟩; (try replace hIL := (hIL.below hbq).mono hbq.size); replace HB := HB.next HB.size hbq)
            | (go_at_call 24; refine (same_any AL AR (natI (SF.list xc)) (natI (SF.list xc)) cL cR _ hIL hIR.ints HL.out HL.out).mono ?_; rintro e ws ⟨rfl, j, rfl⟩; replace HB := HB.drewN j; rw [decide_eq_true rfl]))
          all_goals go_wp2
          all_goals go_roundw
          any_goals (case rel => exact ⟨k + 1, SF, AF, cF, AG, cG, by omega, by go_num, HF.out.next HB⟩)
          all_goals (simp [intOf]; omega)
        · have q0 : (xa == 0) = false := by simp [hk0]
          clear hk0
          by_cases hk1 : xa = 1
          · have q1 : (xa == 1) = true := by simp [hk1]
            clear hk1
            obtain ⟨ta, tS, htk⟩ : ∃ a S', gv n S xb = (a, S') := ⟨_, _, rfl⟩
            have HTK := Kept.mk htk
            clear htk
            have z0 := HH5.out.box.c0
            have z1 := HH5.out.box.c1
            have z2 := HH5.out.box.c2
            have hrp5 := HH5.out.rp
            unfold rC at hrp5
            go_wp2_with fail
            refine (rgive_at hrp5 HH5.out.pool.goodS HH5.out.pool.hh HTK.out).mono ?_
            rintro e w6 ⟨v', rfl, hR6, hb6⟩
            obtain ⟨A7, c7, A8, c8, rfl, _⟩ := id hR6.of
            have hb7 := below_box w6 (.cells (rC A7 tS.pile.length c7 A8 tS.lists.length c8 n) 31)
            have b57 := hb6.trans (hb7.mono hb6.size)
            have H7 := HH5.out.next b57
            have hR7 := hR6.below hb7
            have hn7 := BX.new w6 w6.heap.size rfl (.slice A7 tS.pile.length c7) (.slice A8 tS.lists.length c8) (.int .i64 (n : Int))
            have u1 := (b57.cell (p := ⟨x, 1, none⟩) (cell_lt x1)).trans x1
            have u2 := (b57.cell (p := ⟨x, 2, none⟩) (cell_lt x2)).trans x2
            have hdt : d < w6.heap.size := Nat.lt_of_lt_of_le HH5.out.box.lt hb6.size
            have hit : w1.heap.size + 3 ≤ w6.heap.size := Nat.le_trans HH5.out.pool.hh hb6.size
            clear z0 z1 z2 x0 x1 x2 hb6 hb7 b57 hR6 hrp5
            unfold rC at hR7 H7 u1 u2 ⊢
            go_upto_region 21 with fail
            obtain ⟨t, ht⟩ : ∃ t, t = w6.heap.size := ⟨_, rfl⟩
            obtain ⟨W7, hW7⟩ : ∃ W, W = w6.alloc (.cells #[.slice A7 tS.pile.length c7, .slice A8 tS.lists.length c8, .int .i64 (n : Int)] 31) := ⟨_, rfl⟩
            rw [← hW7] at H7 hR7 hn7 u1 u2 ⊢
            rw [← ht] at hn7 hdt hit ⊢
            clear hW7 ht
            go_wp2_with fail
            refine (give_at H7.pool HTK.out).mono ?_
            rintro e w8 ⟨rfl, hP8, hK8⟩
            have HP8 := hP8
            have hd8 := H7.box.kp hK8 H7.hd
            have hR8 := hR7.kp hK8
            have bw8 := hK8.below H7.below H7.lo H7.below.size
            have hn8 := hn7.kp hK8 hit
            have y8 := hK8.cell u2 hxw
            obtain ⟨W8, hW8⟩ : ∃ W, W = w8 := ⟨_, rfl⟩
            subst hW8
            clear u1 u2 hn7 hR7 hK8 H7 hP8
            have HF := Kept.mk (PS07.store HP8 hd8 hR8 bw8 HH5.out.lo HH5.out.hd (Nat.le_add_right _ _))
            have z0 := hd8.c0
            have z1 := hd8.c1
            have z2 := hd8.c2
            have zf := hd8.f
            have t0 := hn8.c0
            have t1 := hn8.c1
            have t2 := hn8.c2
            have dt1 : d ≠ t := by omega
            have dt2 : t ≠ d := by omega
            have xF := (World.cell?_setCell_other ((W8.setCell ⟨d, 0, none⟩ (.slice A7 tS.pile.length c7)).setCell ⟨d, 1, none⟩ (.slice A8 tS.lists.length c8)) ⟨d, 2, none⟩ ⟨x, 2, none⟩ (.int .i64 (n : Int)) (by simp)).trans ((World.cell?_setCell_other (W8.setCell ⟨d, 0, none⟩ (.slice A7 tS.pile.length c7)) ⟨d, 1, none⟩ ⟨x, 2, none⟩ (.slice A8 tS.lists.length c8) (by simp)).trans ((World.cell?_setCell_other W8 ⟨d, 0, none⟩ ⟨x, 2, none⟩ (.slice A7 tS.pile.length c7) (by simp)).trans y8))
            clear HP8 hd8 hR8 bw8 hn8 y8
            go_upto_region 29 with fail
            obtain ⟨WF, hWF⟩ : ∃ W, W = ((W8.setCell ⟨d, 0, none⟩ (.slice A7 tS.pile.length c7)).setCell ⟨d, 1, none⟩ (.slice A8 tS.lists.length c8)).setCell ⟨d, 2, none⟩ (.int .i64 (n : Int)) := ⟨_, rfl⟩
            rw [← hWF] at HF xF ⊢
            clear hWF z0 z1 z2 zf t0 t1 t2
            obtain ⟨SF, hSF⟩ : ∃ S, S = tS := ⟨_, rfl⟩
            subst hSF
            obtain ⟨AF, hAF⟩ : ∃ S, S = A7 := ⟨_, rfl⟩
            obtain ⟨cF, hcF⟩ : ∃ S, S = c7 := ⟨_, rfl⟩
            obtain ⟨AG, hAG⟩ : ∃ S, S = A8 := ⟨_, rfl⟩
            obtain ⟨cG, hcG⟩ : ∃ S, S = c8 := ⟨_, rfl⟩
            subst hAF hcF hAG hcG
            have HB : Below WF.heap.size WF WF.drew := (Below.refl _ _).drewN 1
            have PP := Kept.mk (fun W (h : Below WF.heap.size WF W) => (HF.out.next h).pool)
            have RR := Kept.mk (fun W (h : Below WF.heap.size WF W) => (HF.out.next h).rp)
            have HG := Kept.mk HF.out.pool.goodS
            have HL := Kept.mk (list_big HF.out.pool xc)
            have HSS := Kept.mk (show ∀ W, Below WF.heap.size WF W → W.cell? ⟨x, 2, none⟩ = some (.int .i64 xc) ∧ W.cell? ⟨d, 0, none⟩ = some (.slice AF SF.pile.length cF) ∧ W.cell? ⟨d, 1, none⟩ = some (.slice AG SF.lists.length cG) ∧ W.cell? ⟨d, 2, none⟩ = some (.int .i64 (n : Int)) from fun W h => ⟨(h.cell (p := ⟨x, 2, none⟩) (cell_lt xF)).trans xF, (HF.out.next h).box.c0, (HF.out.next h).box.c1, (HF.out.next h).box.c2⟩)
            have xlen : (SF.pile.length : Int) ≤ 4096 := by
              obtain ⟨h1, _, F, G, hG⟩ := HG.out
              have := nodup_len hG.rep.pnd hG.rep.plt
              omega
            unfold rC at *
            go_region_held3 (fun W => W.cell? ⟨x, 2, none⟩ = some (.int .i64 xc) ∧ W.cell? ⟨d, 0, none⟩ = some (.slice AF SF.pile.length cF) ∧ W.cell? ⟨d, 1, none⟩ = some (.slice AG SF.lists.length cG) ∧ W.cell? ⟨d, 2, none⟩ = some (.int .i64 (n : Int))) ((first | exact HSS.out _ HB | go_keep)) (first
              | (go_at_call 23; refine (pfree (PP.out _ HB)).mono ?_; rintro e w' ⟨rfl, rfl⟩)
              | (go_at_call 25; refine (plist_any (PP.out _ HB) xc).mono ?_; rintro e wl ⟨AL, cL, rfl, hIL, hbl⟩; (try replace hIR := hIR.below hbl); replace HB := HB.next HB.size hbl)
              | (go_at_call 26; refine (rlistN (RR.out _ HB) HG.out xc).mono ?_; rintro e wq ⟨⟨AR, cR, rfl, hIR⟩, hbq⟩; (try replace hIL := (hIL.below hbq).mono hbq.size); replace HB := HB.next HB.size hbq)
              | (go_at_call 24; refine (same_any AL AR (natI (SF.list xc)) (natI (SF.list xc)) cL cR _ hIL hIR.ints HL.out HL.out).mono ?_; rintro e ws ⟨rfl, j, rfl⟩; replace HB := HB.drewN j; rw [decide_eq_true rfl]))
            all_goals go_wp2
            all_goals go_roundw
            any_goals (case rel => exact ⟨k + 1, SF, AF, cF, AG, cG, by omega, by go_num, HF.out.next HB⟩)
            all_goals (simp [intOf]; omega)
          · have q1 : (xa == 1) = false := by simp [hk1]
            clear hk1
            by_cases hk2 : xa = 2
            · have q2 : (xa == 2) = true := by simp [hk2]
              clear hk2
              obtain ⟨ta, tS, htk⟩ : ∃ a S', mv n m S xb xc = (a, S') := ⟨_, _, rfl⟩
              have HTK := Kept.mk htk
              clear htk
              have z0 := HH5.out.box.c0
              have z1 := HH5.out.box.c1
              have z2 := HH5.out.box.c2
              have hrp5 := HH5.out.rp
              unfold rC at hrp5
              go_wp2_with fail
              refine (rmove_at hrp5 HH5.out.pool.goodS HH5.out.pool.hh HTK.out).mono ?_
              rintro e w6 ⟨v', rfl, hR6, hb6⟩
              obtain ⟨A7, c7, A8, c8, rfl, _⟩ := id hR6.of
              have hb7 := below_box w6 (.cells (rC A7 tS.pile.length c7 A8 tS.lists.length c8 n) 31)
              have b57 := hb6.trans (hb7.mono hb6.size)
              have H7 := HH5.out.next b57
              have hR7 := hR6.below hb7
              have hn7 := BX.new w6 w6.heap.size rfl (.slice A7 tS.pile.length c7) (.slice A8 tS.lists.length c8) (.int .i64 (n : Int))
              have u1 := (b57.cell (p := ⟨x, 1, none⟩) (cell_lt x1)).trans x1
              have u2 := (b57.cell (p := ⟨x, 2, none⟩) (cell_lt x2)).trans x2
              have hdt : d < w6.heap.size := Nat.lt_of_lt_of_le HH5.out.box.lt hb6.size
              have hit : w1.heap.size + 3 ≤ w6.heap.size := Nat.le_trans HH5.out.pool.hh hb6.size
              clear z0 z1 z2 x0 x1 x2 hb6 hb7 b57 hR6 hrp5
              unfold rC at hR7 H7 u1 u2 ⊢
              go_upto_region 26 with fail
              obtain ⟨t, ht⟩ : ∃ t, t = w6.heap.size := ⟨_, rfl⟩
              obtain ⟨W7, hW7⟩ : ∃ W, W = w6.alloc (.cells #[.slice A7 tS.pile.length c7, .slice A8 tS.lists.length c8, .int .i64 (n : Int)] 31) := ⟨_, rfl⟩
              rw [← hW7] at H7 hR7 hn7 u1 u2 ⊢
              rw [← ht] at hn7 hdt hit ⊢
              clear hW7 ht
              go_wp2_with fail
              refine (move_at H7.pool HTK.out).mono ?_
              rintro e w8 ⟨rfl, hP8, hK8⟩
              have HP8 := hP8
              have hd8 := H7.box.kp hK8 H7.hd
              have hR8 := hR7.kp hK8
              have bw8 := hK8.below H7.below H7.lo H7.below.size
              have hn8 := hn7.kp hK8 hit
              have y8 := hK8.cell u2 hxw
              obtain ⟨W8, hW8⟩ : ∃ W, W = w8 := ⟨_, rfl⟩
              subst hW8
              clear u1 u2 hn7 hR7 hK8 H7 hP8
              have HF := Kept.mk (PS07.store HP8 hd8 hR8 bw8 HH5.out.lo HH5.out.hd (Nat.le_add_right _ _))
              have z0 := hd8.c0
              have z1 := hd8.c1
              have z2 := hd8.c2
              have zf := hd8.f
              have t0 := hn8.c0
              have t1 := hn8.c1
              have t2 := hn8.c2
              have dt1 : d ≠ t := by omega
              have dt2 : t ≠ d := by omega
              have xF := (World.cell?_setCell_other ((W8.setCell ⟨d, 0, none⟩ (.slice A7 tS.pile.length c7)).setCell ⟨d, 1, none⟩ (.slice A8 tS.lists.length c8)) ⟨d, 2, none⟩ ⟨x, 2, none⟩ (.int .i64 (n : Int)) (by simp)).trans ((World.cell?_setCell_other (W8.setCell ⟨d, 0, none⟩ (.slice A7 tS.pile.length c7)) ⟨d, 1, none⟩ ⟨x, 2, none⟩ (.slice A8 tS.lists.length c8) (by simp)).trans ((World.cell?_setCell_other W8 ⟨d, 0, none⟩ ⟨x, 2, none⟩ (.slice A7 tS.pile.length c7) (by simp)).trans y8))
              clear HP8 hd8 hR8 bw8 hn8 y8
              go_upto_region 29 with fail
              obtain ⟨WF, hWF⟩ : ∃ W, W = ((W8.setCell ⟨d, 0, none⟩ (.slice A7 tS.pile.length c7)).setCell ⟨d, 1, none⟩ (.slice A8 tS.lists.length c8)).setCell ⟨d, 2, none⟩ (.int .i64 (n : Int)) := ⟨_, rfl⟩
              rw [← hWF] at HF xF ⊢
              clear hWF z0 z1 z2 zf t0 t1 t2
              obtain ⟨SF, hSF⟩ : ∃ S, S = tS := ⟨_, rfl⟩
              subst hSF
              obtain ⟨AF, hAF⟩ : ∃ S, S = A7 := ⟨_, rfl⟩
              obtain ⟨cF, hcF⟩ : ∃ S, S = c7 := ⟨_, rfl⟩
              obtain ⟨AG, hAG⟩ : ∃ S, S = A8 := ⟨_, rfl⟩
              obtain ⟨cG, hcG⟩ : ∃ S, S = c8 := ⟨_, rfl⟩
              subst hAF hcF hAG hcG
              have HB : Below WF.heap.size WF WF.drew := (Below.refl _ _).drewN 1
              have PP := Kept.mk (fun W (h : Below WF.heap.size WF W) => (HF.out.next h).pool)
              have RR := Kept.mk (fun W (h : Below WF.heap.size WF W) => (HF.out.next h).rp)
              have HG := Kept.mk HF.out.pool.goodS
              have HL := Kept.mk (list_big HF.out.pool xc)
              have HSS := Kept.mk (show ∀ W, Below WF.heap.size WF W → W.cell? ⟨x, 2, none⟩ = some (.int .i64 xc) ∧ W.cell? ⟨d, 0, none⟩ = some (.slice AF SF.pile.length cF) ∧ W.cell? ⟨d, 1, none⟩ = some (.slice AG SF.lists.length cG) ∧ W.cell? ⟨d, 2, none⟩ = some (.int .i64 (n : Int)) from fun W h => ⟨(h.cell (p := ⟨x, 2, none⟩) (cell_lt xF)).trans xF, (HF.out.next h).box.c0, (HF.out.next h).box.c1, (HF.out.next h).box.c2⟩)
              have xlen : (SF.pile.length : Int) ≤ 4096 := by
                obtain ⟨h1, _, F, G, hG⟩ := HG.out
                have := nodup_len hG.rep.pnd hG.rep.plt
                omega
              unfold rC at *
              go_region_held3 (fun W => W.cell? ⟨x, 2, none⟩ = some (.int .i64 xc) ∧ W.cell? ⟨d, 0, none⟩ = some (.slice AF SF.pile.length cF) ∧ W.cell? ⟨d, 1, none⟩ = some (.slice AG SF.lists.length cG) ∧ W.cell? ⟨d, 2, none⟩ = some (.int .i64 (n : Int))) ((first | exact HSS.out _ HB | go_keep)) (first
                | (go_at_call 23; refine (pfree (PP.out _ HB)).mono ?_; rintro e w' ⟨rfl, rfl⟩)
                | (go_at_call 25; refine (plist_any (PP.out _ HB) xc).mono ?_; rintro e wl ⟨AL, cL, rfl, hIL, hbl⟩; (try replace hIR := hIR.below hbl); replace HB := HB.next HB.size hbl)
                | (go_at_call 26; refine (rlistN (RR.out _ HB) HG.out xc).mono ?_; rintro e wq ⟨⟨AR, cR, rfl, hIR⟩, hbq⟩; (try replace hIL := (hIL.below hbq).mono hbq.size); replace HB := HB.next HB.size hbq)
                | (go_at_call 24; refine (same_any AL AR (natI (SF.list xc)) (natI (SF.list xc)) cL cR _ hIL hIR.ints HL.out HL.out).mono ?_; rintro e ws ⟨rfl, j, rfl⟩; replace HB := HB.drewN j; rw [decide_eq_true rfl]))
              all_goals go_wp2
              all_goals go_roundw
              any_goals (case rel => exact ⟨k + 1, SF, AF, cF, AG, cG, by omega, by go_num, HF.out.next HB⟩)
              all_goals (simp [intOf]; omega)
            · have q2 : (xa == 2) = false := by simp [hk2]
              clear hk2
              go_upto_region 29 with fail
              obtain ⟨WF, hWF⟩ : ∃ W, W = W5 := ⟨_, rfl⟩
              subst hWF
              obtain ⟨SF, hSF⟩ : ∃ X, X = S := ⟨_, rfl⟩
              subst hSF
              obtain ⟨AF, hAF⟩ : ∃ X, X = A5 := ⟨_, rfl⟩
              obtain ⟨cF, hcF⟩ : ∃ X, X = c5 := ⟨_, rfl⟩
              obtain ⟨AG, hAG⟩ : ∃ X, X = A6 := ⟨_, rfl⟩
              obtain ⟨cG, hcG⟩ : ∃ X, X = c6 := ⟨_, rfl⟩
              subst hAF hcF hAG hcG
              have HF := HH5
              have xF := x2
              clear x0 x1 x2 HH5
              have HB : Below WF.heap.size WF WF.drew := (Below.refl _ _).drewN 1
              have PP := Kept.mk (fun W (h : Below WF.heap.size WF W) => (HF.out.next h).pool)
              have RR := Kept.mk (fun W (h : Below WF.heap.size WF W) => (HF.out.next h).rp)
              have HG := Kept.mk HF.out.pool.goodS
              have HL := Kept.mk (list_big HF.out.pool xc)
              have HSS := Kept.mk (show ∀ W, Below WF.heap.size WF W → W.cell? ⟨x, 2, none⟩ = some (.int .i64 xc) ∧ W.cell? ⟨d, 0, none⟩ = some (.slice AF SF.pile.length cF) ∧ W.cell? ⟨d, 1, none⟩ = some (.slice AG SF.lists.length cG) ∧ W.cell? ⟨d, 2, none⟩ = some (.int .i64 (n : Int)) from fun W h => ⟨(h.cell (p := ⟨x, 2, none⟩) (cell_lt xF)).trans xF, (HF.out.next h).box.c0, (HF.out.next h).box.c1, (HF.out.next h).box.c2⟩)
              have xlen : (SF.pile.length : Int) ≤ 4096 := by
                obtain ⟨h1, _, F, G, hG⟩ := HG.out
                have := nodup_len hG.rep.pnd hG.rep.plt
                omega
              unfold rC at *
              go_region_held3 (fun W => W.cell? ⟨x, 2, none⟩ = some (.int .i64 xc) ∧ W.cell? ⟨d, 0, none⟩ = some (.slice AF SF.pile.length cF) ∧ W.cell? ⟨d, 1, none⟩ = some (.slice AG SF.lists.length cG) ∧ W.cell? ⟨d, 2, none⟩ = some (.int .i64 (n : Int))) ((first | exact HSS.out _ HB | go_keep)) (first
                | (go_at_call 23; refine (pfree (PP.out _ HB)).mono ?_; rintro e w' ⟨rfl, rfl⟩)
                | (go_at_call 25; refine (plist_any (PP.out _ HB) xc).mono ?_; rintro e wl ⟨AL, cL, rfl, hIL, hbl⟩; (try replace hIR := hIR.below hbl); replace HB := HB.next HB.size hbl)
                | (go_at_call 26; refine (rlistN (RR.out _ HB) HG.out xc).mono ?_; rintro e wq ⟨⟨AR, cR, rfl, hIR⟩, hbq⟩; (try replace hIL := (hIL.below hbq).mono hbq.size); replace HB := HB.next HB.size hbq)
                | (go_at_call 24; refine (same_any AL AR (natI (SF.list xc)) (natI (SF.list xc)) cL cR _ hIL hIR.ints HL.out HL.out).mono ?_; rintro e ws ⟨rfl, j, rfl⟩; replace HB := HB.drewN j; rw [decide_eq_true rfl]))
              all_goals go_wp2
              all_goals go_roundw
              any_goals (case rel => exact ⟨k + 1, SF, AF, cF, AG, cG, by omega, by go_num, HF.out.next HB⟩)
              all_goals (simp [intOf]; omega)
      · have z0 := HST.box.c0
        have z1 := HST.box.c1
        have z2 := HST.box.c2
        have hrp := HST.rp
        obtain ⟨wa, wb, hwh⟩ : ∃ a b, wh n S i = (a, b) := ⟨_, _, rfl⟩
        obtain ⟨na, nb, hnx⟩ : ∃ (a : Int) (b : Bool), optV (nx n S i) = .tuple #[.int .i64 a, .bool b] := by
          cases nx n S i with
          | none => exact ⟨0, false, rfl⟩
          | some y => exact ⟨y, true, rfl⟩
        have c1 := pwhere HST.pool i
        have c2 := rwhere_any hrp HST.pool.goodS i
        rw [hwh] at c1 c2
        have C1 := Kept.mk c1
        have C2 := Kept.mk c2
        have HX := Kept.mk hnx
        have HS0 := Kept.mk HST
        unfold rC at C2
        clear c1 c2 hwh hnx HST hrp
        go_wp2_with fail
        refine C1.out.mono ?_
        rintro e w' ⟨rfl, rfl⟩
        go_wp2_with fail
        refine C2.out.mono ?_
        rintro e w6 ⟨rfl, hb6⟩
        have H6 := HS0.out.next hb6
        have c3 := pnext H6.pool i
        have c4 := rnext_any H6.rp H6.pool.goodS i
        rw [HX.out] at c3 c4
        have C3 := Kept.mk c3
        have C4 := Kept.mk c4
        unfold rC at C4
        clear z0 z1 z2 C1 C2 HS0 hb6 c3 c4
        have z0 := H6.box.c0
        have z1 := H6.box.c1
        have z2 := H6.box.c2
        go_wp2_with fail
        refine C3.out.mono ?_
        rintro e w' ⟨rfl, rfl⟩
        go_wp2_with fail
        refine C4.out.mono ?_
        rintro e WF ⟨rfl, hb7⟩
        have HF := Kept.mk (H6.next hb7)
        clear z0 z1 z2 C3 C4 H6 hb7
        go_upto_region 36 with fail
        have HB : Below WF.heap.size WF WF.drew := (Below.refl _ _).drewN 1
        have PP := Kept.mk (fun W (h : Below WF.heap.size WF W) => (HF.out.next h).pool)
        have RR := Kept.mk (fun W (h : Below WF.heap.size WF W) => (HF.out.next h).rp)
        have HG := Kept.mk HF.out.pool.goodS
        have HL := Kept.mk (list_big HF.out.pool q)
        have HSS := Kept.mk (show ∀ W, Below WF.heap.size WF W → W.cell? ⟨d, 0, none⟩ = some (.slice A5 S.pile.length c5) ∧ W.cell? ⟨d, 1, none⟩ = some (.slice A6 S.lists.length c6) ∧ W.cell? ⟨d, 2, none⟩ = some (.int .i64 (n : Int)) from fun W h => ⟨(HF.out.next h).box.c0, (HF.out.next h).box.c1, (HF.out.next h).box.c2⟩)
        unfold rC at *
        go_region_held3 (fun W => W.cell? ⟨d, 0, none⟩ = some (.slice A5 S.pile.length c5) ∧ W.cell? ⟨d, 1, none⟩ = some (.slice A6 S.lists.length c6) ∧ W.cell? ⟨d, 2, none⟩ = some (.int .i64 (n : Int))) ((first | exact HSS.out _ HB | go_keep)) (first
          | (go_at_call 25; refine (plist_any (PP.out _ HB) q).mono ?_; rintro e wl ⟨AL, cL, rfl, hIL, hbl⟩; (try replace hIR := hIR.below hbl); replace HB := HB.next HB.size hbl)
          | (go_at_call 26; refine (rlistN (RR.out _ HB) HG.out q).mono ?_; rintro e wq ⟨⟨AR, cR, rfl, hIR⟩, hbq⟩; (try replace hIL := (hIL.below hbq).mono hbq.size); replace HB := HB.next HB.size hbq)
          | (go_at_call 24; refine (same_any AL AR (natI (S.list q)) (natI (S.list q)) cL cR _ hIL hIR.ints HL.out HL.out).mono ?_; rintro e ws ⟨rfl, j, rfl⟩; replace HB := HB.drewN j; rw [decide_eq_true rfl]))
        all_goals go_wp2
        all_goals go_ret
        all_goals exact ⟨by first | rfl | simp, HF.out.below.trans (HB.mono HF.out.below.size)⟩
set_option maxRecDepth 100000 in
set_option maxHeartbeats 1000000 in
theorem plays_bad (n m : Int) (h : ¬ (1 ≤ n ∧ n ≤ 4096 ∧ 1 ≤ m ∧ m ≤ 512)) (a b c : Value) (w : World) :
    Calls Try.prog 3 #[.int .i64 n, .int .i64 m, a, b, c] w fun e w' => e = .returned (.bool true) ∧ Below w.heap.size w w' := by
  have C1 := Kept.mk (fun W => new_bad n m h W)
  have C2 := Kept.mk (fun W => rnew_bad n m h W)
  clear h
  go_enter Try.func3, Try.ntmps3
  go_wp2_with fail
  refine (lives07 _).mono ?_
  rintro e w1 ⟨rfl, hb1⟩
  go_wp2_with fail
  refine (C1.out _).mono ?_
  rintro e w' ⟨rfl, rfl⟩
  go_wp2_with fail
  refine (C2.out _).mono ?_
  rintro e w2 ⟨rfl, hb2⟩
  go_wp2
  go_ret
  exact ⟨by first | rfl | simp, (hb1.trans (hb2.mono hb1.size)).alloc (Nat.le_trans hb1.size hb2.size) _⟩
end Go.Proofs.Ytcchmkpodfjhcaa
