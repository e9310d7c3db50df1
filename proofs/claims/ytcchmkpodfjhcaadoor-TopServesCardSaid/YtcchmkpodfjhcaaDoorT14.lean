/-
  The law TopServes of vergetop: its walk, where the priorities are taken.
-/
import Derived.Test.YtcchmkpodfjhcaaDoorT13
namespace Go.Proofs.YtcchmkpodfjhcaaDoor
open Go.RowKit Go.Shelf
set_option linter.unusedVariables false
theorem cell_set7 {w : World} {r : Nat} {p : Addr} (hne : p.block ≠ r) {v0 v1 v2 v3 v4 v5 v6 : Value} :
    (((((((w.setCell ⟨r, 0, none⟩ v0).setCell ⟨r, 1, none⟩ v1).setCell ⟨r, 2, none⟩ v2).setCell ⟨r, 3, none⟩ v3).setCell ⟨r, 4, none⟩ v4).setCell ⟨r, 5, none⟩ v5).setCell ⟨r, 6, none⟩ v6).cell? p = w.cell? p := by
  have h : ∀ (W : World) (i : Nat) (v : Value), (W.setCell ⟨r, i, none⟩ v).cell? p = W.cell? p := fun W i v => World.cell?_setCell_far W ⟨r, i, none⟩ p v (fun e => hne e.symm)
  rw [h, h, h, h, h, h, h]
theorem Ints.set7 {w : World} {B r : Nat} {A : Option Addr} {xs : List Int} (h : Ints w B A xs) (hne : ∀ a, A = some a → a.block ≠ r) {v0 v1 v2 v3 v4 v5 v6 : Value} :
    Ints (((((((w.setCell ⟨r, 0, none⟩ v0).setCell ⟨r, 1, none⟩ v1).setCell ⟨r, 2, none⟩ v2).setCell ⟨r, 3, none⟩ v3).setCell ⟨r, 4, none⟩ v4).setCell ⟨r, 5, none⟩ v5).setCell ⟨r, 6, none⟩ v6) B A xs := fun h0 => by
  obtain ⟨b, off, e, hb, hc⟩ := h h0
  refine ⟨b, off, e, hb, fun k hk => (cell_set7 ?_).trans (hc k hk)⟩
  exact hne ⟨b, off, none⟩ e
/-- The law's variable c, in block T, with nothing being served. -/
structure LW (W : World) (T : Nat) (P M : Int) (xs : List Int) (A : Option Addr) (cap : Nat) (B : Option Addr) (c2 : Nat) : Prop where
  cells : C7 W T (.int .u64 P) (.int .u64 M) (.int .u64 0) (.int .u64 M) (.slice A xs.length cap) (.int .i64 0) (.slice B 0 c2)
  isC : IsC W P M xs [] (.agg (iC P M 0 M (.slice A xs.length cap) 0 (.slice B 0 c2)))
  neA : ∀ a, A = some a → a.block ≠ T
theorem IsC.mono {W W' : World} {P M : Int} {xs st : List Int} {c : Value} (h : IsC W P M xs st c) (hb : Below W.heap.size W W') : IsC W' P M xs st c := by
  obtain ⟨A, cap, B, cap2, e, h1, h2, h3, h4⟩ := h.of
  exact ⟨A, cap, B, cap2, e, (h1.below hb).mono hb.size, (h2.below hb).mono hb.size, h3, h4⟩
theorem bl7 {a w : World} {B r : Nat} (h : Below B a w) (hr : B ≤ r) {v0 v1 v2 v3 v4 v5 v6 : Value} :
    Below B a (((((((w.setCell ⟨r, 0, none⟩ v0).setCell ⟨r, 1, none⟩ v1).setCell ⟨r, 2, none⟩ v2).setCell ⟨r, 3, none⟩ v3).setCell ⟨r, 4, none⟩ v4).setCell ⟨r, 5, none⟩ v5).setCell ⟨r, 6, none⟩ v6) :=
  ((((((h.setCell (p := ⟨r, 0, none⟩) hr _).setCell (p := ⟨r, 1, none⟩) hr _).setCell (p := ⟨r, 2, none⟩) hr _).setCell (p := ⟨r, 3, none⟩) hr _).setCell (p := ⟨r, 4, none⟩) hr _).setCell (p := ⟨r, 5, none⟩) hr _).setCell (p := ⟨r, 6, none⟩) hr _
/-- The variable turned: c', whose rows lie behind it, stored into it. -/
theorem LW.put {W : World} {T : Nat} {P' M : Int} {xs : List Int} {v0 v1 v2 v3 v4 v5 v6 : Value} {A : Option Addr} {cap : Nat} {B : Option Addr} {c2 : Nat} (h : C7 W T v0 v1 v2 v3 v4 v5 v6)
    (hc : IsC W P' M xs [] (.agg (iC P' M 0 M (.slice A xs.length cap) 0 (.slice B 0 c2)))) (hf : RowsFrom (T + 1) (.agg (iC P' M 0 M (.slice A xs.length cap) 0 (.slice B 0 c2)))) :
    LW (((((((W.setCell ⟨T, 0, none⟩ (.int .u64 P')).setCell ⟨T, 1, none⟩ (.int .u64 M)).setCell ⟨T, 2, none⟩ (.int .u64 0)).setCell ⟨T, 3, none⟩ (.int .u64 M)).setCell ⟨T, 4, none⟩ (.slice A xs.length cap)).setCell ⟨T, 5, none⟩ (.int .i64 0)).setCell ⟨T, 6, none⟩ (.slice B 0 c2)) T P' M xs A cap B c2 := by
  obtain ⟨c0, c1, c2', c3, c4, c5, c6, fr⟩ := h
  obtain ⟨_, _, _, _, v, _, s, he, hv, hs⟩ := hf
  have hvA : v = .slice A xs.length cap := by simp [iC] at he; exact he.2.2.2.2.1.symm
  have hne : ∀ a, A = some a → a.block ≠ T := fun a e h => by
    have := hv a.block (by rw [hvA, e]; rfl)
    omega
  refine ⟨?_, ?_, hne⟩
  · constructor <;> (try intro i) <;> go_simp
  · obtain ⟨A', cap', B', cap2', e, h1, h2, h3, h4⟩ := hc.of
    have e1 : A = A' ∧ cap = cap' ∧ B = B' ∧ c2 = cap2' := by simp [iC] at e; simp_all
    obtain ⟨rfl, rfl, rfl, rfl⟩ := e1
    refine ⟨A, cap, B, c2, rfl, ?_, Ints.nil _ _ _, h3, h4⟩
    exact (Ints.set7 h1 hne).mono (by simp)
theorem RowsFrom.mono {B B' : Nat} {c : Value} (h : RowsFrom B c) (hB : B' ≤ B) : RowsFrom B' c := by
  obtain ⟨P, E, R, D, v, t, s, e, h1, h2⟩ := h
  exact ⟨P, E, R, D, v, t, s, e, fun g hg => Nat.le_trans hB (h1 g hg), fun g hg => Nat.le_trans hB (h2 g hg)⟩
theorem LW.alloc {W : World} {T : Nat} {P M : Int} {xs : List Int} {A : Option Addr} {cap : Nat} {B : Option Addr} {c2 : Nat} (h : LW W T P M xs A cap B c2) (hT : T < W.heap.size) (o : Obj) : LW (W.alloc o) T P M xs A cap B c2 :=
  ⟨h.cells.below (below_box _ _) hT, h.isC.mono (below_box _ _), h.neA⟩
theorem bl_of {w w1 : World} {B : Nat} (h : Below w.heap.size w w1) (h2 : B ≤ w.heap.size) : Below B w w1 := h.mono h2
set_option maxRecDepth 100000 in
set_option maxHeartbeats 2000000 in
theorem walk_good (A0 : Option Addr) (xs : List Int) (cap0 : Nat) (L : Nat) (hL : L < 18446744073709551616) (w : World) (h : Ints w w.heap.size A0 xs) (hA : A0 = none → cap0 = 0) (h1 : 1 ≤ xs.length) (h2 : xs.length ≤ 64) (hx : xs.any oddP = false) (hT : Tab w) (hs0 : 0 < w.heap.size) :
    Calls Tryd.prog 3 #[.slice A0 xs.length cap0, .int .u64 (L : Int)] w fun e w' => e = .returned (.bool true) ∧ Below w.heap.size w w' := by
  have HI := Kept.mk (fun W (hw : Below w.heap.size w W) => (h.below hw).mono hw.size)
  have HX := Kept.mk hx
  obtain ⟨R, hR⟩ : ∃ R, R = L &&& mk xs := ⟨_, rfl⟩
  have HS : Sub R xs := by rw [hR]; exact Sub.and L hL xs
  have hand : bits .and .u64 (L : Int) (mk xs : Int) = R := by rw [hR]; exact and_num _ _ hL (mk_lt xs)
  obtain ⟨M, hM⟩ : ∃ M : Nat, M = mk xs := ⟨_, rfl⟩
  have hbm := between_mk xs (by omega)
  have hmk := fun W h => make_any A0 xs cap0 W h hA h1 h2 hx
  rw [← hM] at hand hbm hmk
  have HBM := Kept.mk hbm
  have HMK := Kept.mk hmk
  have HL := Kept.mk hM
  have hRl := HS.lt
  have li : (xs.length : Int) ≤ 64 := by omega
  have HR := Kept.mk HS
  clear h hx hR hM hbm hmk HS
  go_enter Tryd.func3, Tryd.ntmps3
  go_wp2_with (first
    | (go_at_call 8; refine (begins_any _).mono ?_; rintro e w' ⟨rfl, rfl⟩)
    | (go_at_call 9; refine (listO_any R hRl _ (hT.below bT hs0) (Nat.lt_of_lt_of_le hs0 bT.size)).mono ?_; rintro e w3 ⟨v3, rfl, own3, hb3⟩; obtain ⟨A5, k5, rfl⟩ := own_slice own3)
    | (go_at_call 9; refine (list5 w hT hs0).mono ?_; rintro e w1 ⟨b1, o1, k1, rfl, hc1, hb1⟩)
    | (go_at_call 11; refine (HBM.out _).mono ?_; rintro e w' ⟨rfl, rfl⟩)
    | (go_at_call 10; refine (HMK.out _ (HI.out _ hb1)).mono ?_; rintro e w2 ⟨c, rfl, hc, hb2, hrf⟩; obtain ⟨A, cap, B, cap2, rfl, _, _, _, _⟩ := hc.of; have HC := Kept.mk hc; have HF := Kept.mk hrf; clear hc hrf; unfold iC; have bT := (hb1.trans (hb2.mono hb1.size)).alloc (Nat.le_trans hb1.size hb2.size) (.cells #[.int .u64 0, .int .u64 (M : Int), .int .u64 0, .int .u64 (M : Int), .slice A xs.length cap, .int .i64 0, .slice B 0 cap2] 27)))
  have D0 := C7.box hb3
  have hb4 := hb3.box (Nat.le_refl _)
  have bw3 := (hb1.trans (hb2.mono hb1.size)).trans (hb4.mono (Nat.le_trans hb1.size hb2.size))
  have hTl : w2.heap.size < w3.heap.size := Nat.lt_of_lt_of_le (by simp) hb3.size
  have hTw : w.heap.size ≤ w2.heap.size := Nat.le_trans hb1.size hb2.size
  have LW0 : LW w3 w2.heap.size 0 M xs A cap B cap2 := ⟨D0, HC.out.mono hb4, fun a e => by
    obtain ⟨A', cap', B', cap2', e1, h1', _⟩ := HC.out.of
    have e2 : A = A' := by simp [iC] at e1; exact e1.1.1
    obtain ⟨b, off, e3, hb, _⟩ := h1' (by omega)
    rw [e2, e3] at e
    cases e
    show b ≠ _
    omega⟩
  have i5 := (Ints.of_own own3).2
  have ne5 : ∀ a, A5 = some a → a.block ≠ w2.heap.size := fun a e h => by
    have := (own3.lt a.block (by rw [e]; rfl)).1
    simp at this
    omega
  have l5 := lbn_len R
  have l5' : (lb 64 R).length ≤ 64 := by rw [← lbn_lb, List.length_map]; exact l5
  obtain ⟨T, hTe⟩ : ∃ T, T = w2.heap.size := ⟨_, rfl⟩
  rw [← hTe] at LW0 hTl hTw ne5 ⊢
  obtain ⟨N, hN⟩ : ∃ N, N = (lb 64 R).length := ⟨_, rfl⟩
  rw [← hN] at l5' ⊢
  have HN := Kept.mk hN
  clear hN D0 hb3 own3 HC HF bT hb1 hb2 hb4 hc1 hTe l5 HBM HMK hand
  go_loopw [58] (fun t wr => ∃ (k : Nat) (A : Option Addr) (cap : Nat) (B : Option Addr) (c2 : Nat), k ≤ N ∧ t = .int .i64 k ∧ LW wr T (up R k) M xs A cap B c2 ∧ Below w.heap.size w wr ∧ Ints wr wr.heap.size A5 (lb 64 R) ∧ T < wr.heap.size) (fun t _ => N - (intOf t).toNat)
  case atStart => exact ⟨0, A, cap, B, cap2, by omega, rfl, LW0, bw3, i5, hTl⟩
  case round =>
    obtain ⟨k, A, cap, B, c2, hk, rfl, lw, bw, i5, hTl⟩ := hrel
    by_cases hlt : k < N
    · have hkl : k < (lb 64 R).length := by have := HN.out; omega
      obtain ⟨x, hx⟩ : ∃ x, (lb 64 R)[k]? = some x := ⟨(lb 64 R)[k]'hkl, List.getElem?_eq_getElem hkl⟩
      obtain ⟨n, rfl, hn64, hnb⟩ := lb_at hx
      have I5 := Kept.mk i5
      obtain ⟨b5, o5, rfl, hb5, hc5⟩ := i5 (by omega)
      have hcx := hc5 k (by omega)
      rw [hx, Option.getD_some] at hcx
      obtain ⟨us, un⟩ := up_step hx
      have hsub := up_sub (k := k) HR.out
      have hnl := HR.out.len (mem_lbn.2 ⟨hn64, hnb⟩)
      have hMn : (mk xs).testBit n = true := HR.out.sub n hnb
      have HRA := Kept.mk (fun W (hc : IsC W (up R k) (mk xs) xs [] (.agg (iC (up R k) M 0 M (.slice A xs.length cap) 0 (.slice B 0 c2)))) => raise_any (up R k) (mk xs) n hsub.lt (mk_lt xs) hsub.mf xs rfl hnl hMn un _ W hc h2 HX.out)
      rw [← HL.out] at HRA
      have US := Kept.mk us
      have ik : (k : Int) < (N : Int) := by omega
      have nb5 : b5 ≠ T := ne5 ⟨b5, o5, none⟩ rfl
      obtain ⟨c0, c1, c2', c3, c4, c5, c6, fr⟩ := id lw.cells
      clear hx us un hsub hnl hMn hnb hc5 hkl
      go_wp2_with ((go_at_call 12; refine (HRA.out _ lw.isC).mono ?_; rintro e w4 ⟨c, rfl, hc, hb4, hrf⟩; obtain ⟨A', cap', B', cp', rfl, _, _, _, _⟩ := hc.of; have HC := Kept.mk hc; have HF := Kept.mk hrf; have D4 := lw.cells.below hb4 hTl; clear hc hrf c0 c1 c2' c3 c4 c5 c6 fr; obtain ⟨c0, c1, c2', c3, c4, c5, c6, fr⟩ := id D4; have hT4 := Nat.lt_of_lt_of_le hTl hb4.size; unfold iC))
      go_roundw
      case rel =>
        refine ⟨k + 1, A', cap', B', cp', by omega, by go_num, ?_, ?_, ?_, ?_⟩
        · rw [US.out]
          exact LW.alloc (LW.put D4 HC.out (HF.out.mono hTl)) (by simpa using hT4) _
        · exact (bl7 (bw.trans (hb4.mono bw.size)) hTw).alloc (by simpa using Nat.le_trans bw.size hb4.size) _
        · exact (((Ints.set7 (I5.out.below hb4) ne5).mono (by simpa using hb4.size)).below (below_box _ _)).mono (by simp)
        · simp; omega
      case measure => simp [intOf]; omega
    · have e : k = N := by omega
      subst e
      have hup : up R k = R := by have := HN.out; rw [this]; exact up_all hRl
      rw [hup] at lw
      obtain ⟨C, hC⟩ : ∃ C, C = (lbn R).length := ⟨_, rfl⟩
      have hcount : ∀ W, Calls Tryd.prog 13 #[.int .u64 (R : Int)] W fun e w' => e = .returned (.int .i64 (C : Int)) ∧ W = w' := fun W => by
        have e : (lbn R).length = (lb 64 R).length := by rw [← lbn_lb, List.length_map]
        rw [hC, e]
        exact count_any R hRl W
      have HCN := Kept.mk hcount
      have HCC := Kept.mk hC
      clear hup hC hcount i5 ne5 l5' HN
      go_wp2_with ((go_at_call 13; refine (HCN.out _).mono ?_; rintro e w' ⟨rfl, rfl⟩))
      have CL : C ≤ 64 := by rw [HCC.out]; exact lbn_len R
      go_loopw [13, 14, 74] (fun q1 q2 t wr => ∃ (j P : Nat) (last lp : Int) (A : Option Addr) (cap : Nat) (B : Option Addr) (c2 : Nat), j ≤ C ∧ t = .int .i64 j ∧ q1 = .int .i64 last ∧ q2 = .int .i64 lp ∧ LW wr T P M xs A cap B c2 ∧ Below w.heap.size w wr ∧ T < wr.heap.size ∧ Kept (Sub P xs ∧ j + (lbn P).length = C ∧ (∀ n, n ∈ lbn P → R.testBit n = true) ∧ ∀ n, n ∈ lbn P → pr xs n < lp ∨ (pr xs n = lp ∧ last < n))) (fun _ _ t _ => C - (intOf t).toNat)
      case atStart =>
        refine ⟨0, R, -1, 16, A, cap, B, c2, by omega, rfl, rfl, rfl, lw, bw, hTl, ⟨HR.out, ?_, fun n hn => (mem_lbn.1 hn).2, fun n hn => .inl ?_⟩⟩
        · rw [HCC.out]; omega
        · have := odd_range HX.out n (HR.out.len hn)
          show pr xs n < 16
          unfold pr
          omega
      case round =>
        obtain ⟨j, P, last, lp, A, cap, B, c2, hj, rfl, rfl, rfl, lw, bw, hTl, HK⟩ := hrel
        by_cases hlt : j < C
        · obtain ⟨hS, hlen, hsub, hbd⟩ := HK.out
          rcases nx_spec xs (lbn P) (lbn_rises P) (fun n hn => (odd_range HX.out n (hS.len hn)).1) with ⟨h0, _⟩ | ⟨n, hn, hf, hm⟩
          · exfalso; rw [h0] at hlen; simp at hlen; omega
          have hnl := hS.len hn
          have n64 := (mem_lbn.1 hn).1
          have HA := Kept.mk (fun W (hT : Tab W) (hs : 0 < W.heap.size) (hc : IsC W P (mk xs) xs [] (.agg (iC P M 0 M (.slice A xs.length cap) 0 (.slice B 0 c2)))) => ack_some P (mk xs) hS.lt hS.mf xs (hS.next HX.out) rfl h1 _ W hT hs hc h2 HX.out n hnl (by rw [hf]))
          have HE := Kept.mk (fun c W (hc : IsC W (clr P n) (mk xs) xs [(n : Int)] c) => end_any (clr P n) (mk xs) n (clr_lt hS.lt) (mk_lt xs) (hS.clr n64).mf xs rfl hnl c W hc h2 HX.out)
          rw [← HL.out] at HA HE
          have hb1 : bits .and .u64 ((R : Int) / 2 ^ n) 1 = 1 := by
            have := shr_bit R n hRl
            rw [hsub n hn] at this
            exact beq_iff_eq.1 this
          obtain ⟨y, hy⟩ : ∃ y, y = pr xs n := ⟨_, rfl⟩
          have HN : Kept (Sub (clr P n) xs ∧ (j + 1) + (lbn (clr P n)).length = C ∧ (∀ m, m ∈ lbn (clr P n) → R.testBit m = true) ∧ ∀ m, m ∈ lbn (clr P n) → pr xs m < y ∨ (pr xs m = y ∧ (n : Int) < m)) := ⟨hS.clr n64, by have := lbn_clr_len hS.lt hn; omega, fun m h => hsub m (by rw [lbn_clr hS.lt n64] at h; exact (List.mem_filter.1 h).1), fun m h => by
            rw [lbn_clr hS.lt n64, List.mem_filter] at h
            have h3 : m ≠ n := of_decide_eq_true h.2
            rw [hy]
            rcases hm m h.1 with h4 | ⟨h4, h5⟩
            · exact .inl h4
            · exact .inr ⟨h4, by omega⟩⟩
          have hord := hbd n hn
          rw [← hy] at hord
          have HY := Kept.mk hy
          obtain ⟨ba, oa, rfl, hba, _⟩ := HI.out wr bw (by omega)
          have il : (n : Int) < (xs.length : Int) := by omega
          have ij : (j : Int) < (C : Int) := by omega
          have hwT := hT.below bw hs0
          have hws : 0 < wr.heap.size := Nat.lt_of_lt_of_le hs0 bw.size
          obtain ⟨c0, c1, c2', c3, c4, c5, c6, fr⟩ := id lw.cells
          clear hS hlen hsub hbd hf hm hn hy HK
          rcases hord with hord | ⟨hord, hll⟩
          · have hy1 : ¬ lp < y := by omega
            have hy2 : (y == lp) = false := by rw [beq_eq_false_iff_ne]; omega
            go_wp2_with fail
            refine (HA.out _ hwT hws lw.isC).mono ?_
            rintro e w4 ⟨c, rfl, hc, hb4, hrf⟩
            obtain ⟨A', cap', B', cp', rfl, _, _, _, _⟩ := hc.of
            have HC := Kept.mk hc
            have D4 := lw.cells.below hb4 hTl
            clear hc hrf c0 c1 c2' c3 c4 c5 c6 fr
            obtain ⟨c0, c1, c2', c3, c4, c5, c6, fr⟩ := id D4
            have hT4 := Nat.lt_of_lt_of_le hTl hb4.size
            have bw4 := bw.trans (hb4.mono bw.size)
            obtain ⟨b', o', e', hb', hc'⟩ := HI.out w4 bw4 (by omega)
            cases e'
            have hcn : w4.cell? ⟨ba, oa + n, none⟩ = some (.int .i64 y) := by rw [HY.out]; exact hc' n hnl
            clear hc'
            unfold iC
            go_wp2_with fail
            go_region
            have D5 := D4.below (below_box w4 (.cells #[.int .u64 (clr P n : Int), .int .u64 (M : Int), .int .u64 0, .int .u64 (M : Int), .slice A' xs.length cap', .int .i64 0, .slice B' 1 cp'] 27)).drew hT4
            have b5 := (below_box w4 (.cells #[.int .u64 (clr P n : Int), .int .u64 (M : Int), .int .u64 0, .int .u64 (M : Int), .slice A' xs.length cap', .int .i64 0, .slice B' 1 cp'] 27)).drew
            have hF5 : C7 (w4.alloc (.cells #[.int .u64 (clr P n : Int), .int .u64 (M : Int), .int .u64 0, .int .u64 (M : Int), .slice A' xs.length cap', .int .i64 0, .slice B' 1 cp'] 27)).drew w4.heap.size (.int .u64 (clr P n : Int)) (.int .u64 (M : Int)) (.int .u64 0) (.int .u64 (M : Int)) (.slice A' xs.length cap') (.int .i64 0) (.slice B' 1 cp') := C7.below (C7.box (Below.refl _ _)) (Below.refl (w4.heap.size + 1) _).drew (by omega)
            have hT5 : T < (w4.alloc (.cells #[.int .u64 (clr P n : Int), .int .u64 (M : Int), .int .u64 0, .int .u64 (M : Int), .slice A' xs.length cap', .int .i64 0, .slice B' 1 cp'] 27)).drew.heap.size := by simp; omega
            generalize (w4.alloc (.cells #[.int .u64 (clr P n : Int), .int .u64 (M : Int), .int .u64 0, .int .u64 (M : Int), .slice A' xs.length cap', .int .i64 0, .slice B' 1 cp'] 27)).drew = w5 at D5 b5 hF5 hT5 ⊢
            have I5 := HC.out.mono b5
            have bw5 := bw4.trans (b5.mono bw4.size)
            clear c0 c1 c2' c3 c4 c5 c6 fr HC hcn
            obtain ⟨c0, c1, c2', c3, c4, c5, c6, fr⟩ := hF5
            go_wp2_with fail
            refine (HE.out _ _ I5).mono ?_
            rintro e w6 ⟨c, rfl, hc, hb6, hrf⟩
            obtain ⟨A6, cap6, B6, cp6, rfl, _, _, _, _⟩ := hc.of
            have HC := Kept.mk hc
            have HF := Kept.mk hrf
            have D6 := D5.below hb6 hT5
            have hT6 := Nat.lt_of_lt_of_le hT5 hb6.size
            have bw6 := bw5.trans (hb6.mono bw5.size)
            clear hc hrf c0 c1 c2' c3 c4 c5 c6 fr I5
            obtain ⟨c0, c1, c2', c3, c4, c5, c6, fr⟩ := id D6
            unfold iC
            go_wp2_with fail
            go_roundw
            case rel =>
              refine ⟨j + 1, clr P n, n, y, A6, cap6, B6, cp6, by omega, by go_num, rfl, (by first | rfl | rw [hord]), ?_, ?_, ?_, HN⟩
              · exact LW.alloc (LW.put D6 HC.out (HF.out.mono hT5)) (by simpa using hT6) _
              · exact (bl7 bw6 hTw).alloc (by simpa using bw6.size) _
              · simp; omega
            case measure => simp [intOf]; omega
          · have hy1 : ¬ lp < y := by omega
            have hy2 : (y == lp) = true := by rw [beq_iff_eq]; omega
            have hy3 : ¬ (n : Int) ≤ last := by omega
            go_wp2_with fail
            refine (HA.out _ hwT hws lw.isC).mono ?_
            rintro e w4 ⟨c, rfl, hc, hb4, hrf⟩
            obtain ⟨A', cap', B', cp', rfl, _, _, _, _⟩ := hc.of
            have HC := Kept.mk hc
            have D4 := lw.cells.below hb4 hTl
            clear hc hrf c0 c1 c2' c3 c4 c5 c6 fr
            obtain ⟨c0, c1, c2', c3, c4, c5, c6, fr⟩ := id D4
            have hT4 := Nat.lt_of_lt_of_le hTl hb4.size
            have bw4 := bw.trans (hb4.mono bw.size)
            obtain ⟨b', o', e', hb', hc'⟩ := HI.out w4 bw4 (by omega)
            cases e'
            have hcn : w4.cell? ⟨ba, oa + n, none⟩ = some (.int .i64 y) := by rw [HY.out]; exact hc' n hnl
            clear hc'
            unfold iC
            go_wp2_with fail
            go_region
            have D5 := D4.below (below_box w4 (.cells #[.int .u64 (clr P n : Int), .int .u64 (M : Int), .int .u64 0, .int .u64 (M : Int), .slice A' xs.length cap', .int .i64 0, .slice B' 1 cp'] 27)).drew hT4
            have b5 := (below_box w4 (.cells #[.int .u64 (clr P n : Int), .int .u64 (M : Int), .int .u64 0, .int .u64 (M : Int), .slice A' xs.length cap', .int .i64 0, .slice B' 1 cp'] 27)).drew
            have hF5 : C7 (w4.alloc (.cells #[.int .u64 (clr P n : Int), .int .u64 (M : Int), .int .u64 0, .int .u64 (M : Int), .slice A' xs.length cap', .int .i64 0, .slice B' 1 cp'] 27)).drew w4.heap.size (.int .u64 (clr P n : Int)) (.int .u64 (M : Int)) (.int .u64 0) (.int .u64 (M : Int)) (.slice A' xs.length cap') (.int .i64 0) (.slice B' 1 cp') := C7.below (C7.box (Below.refl _ _)) (Below.refl (w4.heap.size + 1) _).drew (by omega)
            have hT5 : T < (w4.alloc (.cells #[.int .u64 (clr P n : Int), .int .u64 (M : Int), .int .u64 0, .int .u64 (M : Int), .slice A' xs.length cap', .int .i64 0, .slice B' 1 cp'] 27)).drew.heap.size := by simp; omega
            generalize (w4.alloc (.cells #[.int .u64 (clr P n : Int), .int .u64 (M : Int), .int .u64 0, .int .u64 (M : Int), .slice A' xs.length cap', .int .i64 0, .slice B' 1 cp'] 27)).drew = w5 at D5 b5 hF5 hT5 ⊢
            have I5 := HC.out.mono b5
            have bw5 := bw4.trans (b5.mono bw4.size)
            clear c0 c1 c2' c3 c4 c5 c6 fr HC hcn
            obtain ⟨c0, c1, c2', c3, c4, c5, c6, fr⟩ := hF5
            go_wp2_with fail
            refine (HE.out _ _ I5).mono ?_
            rintro e w6 ⟨c, rfl, hc, hb6, hrf⟩
            obtain ⟨A6, cap6, B6, cp6, rfl, _, _, _, _⟩ := hc.of
            have HC := Kept.mk hc
            have HF := Kept.mk hrf
            have D6 := D5.below hb6 hT5
            have hT6 := Nat.lt_of_lt_of_le hT5 hb6.size
            have bw6 := bw5.trans (hb6.mono bw5.size)
            clear hc hrf c0 c1 c2' c3 c4 c5 c6 fr I5
            obtain ⟨c0, c1, c2', c3, c4, c5, c6, fr⟩ := id D6
            unfold iC
            go_wp2_with fail
            go_roundw
            case rel =>
              refine ⟨j + 1, clr P n, n, y, A6, cap6, B6, cp6, by omega, by go_num, rfl, (by first | rfl | rw [hord]), ?_, ?_, ?_, HN⟩
              · exact LW.alloc (LW.put D6 HC.out (HF.out.mono hT5)) (by simpa using hT6) _
              · exact (bl7 bw6 hTw).alloc (by simpa using bw6.size) _
              · simp; omega
            case measure => simp [intOf]; omega
        · have e : j = C := by omega
          subst e
          obtain ⟨hS, hlen, _, _⟩ := HK.out
          have h0 : lbn P = [] := List.eq_nil_of_length_eq_zero (by omega)
          have hP0 := lbn_nil hS.lt h0
          subst hP0
          have HA := Kept.mk (fun W (hT : Tab W) (hs : 0 < W.heap.size) (hc : IsC W (0 : Nat) (mk xs) xs [] (.agg (iC (0 : Nat) M 0 M (.slice A xs.length cap) 0 (.slice B 0 c2)))) => ack_none 0 (mk xs) hS.lt hS.mf xs (hS.next HX.out) rfl h1 _ W hT hs hc h2 HX.out (by rw [lbn_zero]; rfl))
          rw [← HL.out] at HA
          have hwT := hT.below bw hs0
          have hws : 0 < wr.heap.size := Nat.lt_of_lt_of_le hs0 bw.size
          obtain ⟨c0, c1, c2', c3, c4, c5, c6, fr⟩ := id lw.cells
          clear hS hlen h0 HK
          go_wp2_with fail
          refine (HA.out _ hwT hws lw.isC).mono ?_
          rintro e w4 ⟨c, rfl, hc, hb4, hrf⟩
          obtain ⟨A', cap', B', cp', rfl, _, _, _, _⟩ := hc.of
          have D4 := lw.cells.below hb4 hTl
          clear hc hrf c0 c1 c2' c3 c4 c5 c6 fr
          obtain ⟨c0, c1, c2', c3, c4, c5, c6, fr⟩ := id D4
          have hT4 := Nat.lt_of_lt_of_le hTl hb4.size
          have bw4 := bw.trans (hb4.mono bw.size)
          unfold iC
          go_wp2
          go_ret
          exact ⟨rfl, bw4.alloc bw4.size _⟩
end Go.Proofs.YtcchmkpodfjhcaaDoor
