/-
  The walk of the reference pool's New.
-/
import Derived.Test.YtcchmkpodfjhcaaR5
namespace Go.Proofs.Ytcchmkpodfjhcaa
open Go.RowKit
set_option linter.unusedVariables false
theorem rnew_bad (n m : Int) (h : ¬ (1 ≤ n ∧ n ≤ 4096 ∧ 1 ≤ m ∧ m ≤ 512)) (w : World) :
    Calls Try.prog 16 #[.int .i64 n, .int .i64 m] w fun e w' => e = .returned (.tuple #[.agg #[.slice none 0 0, .slice none 0 0, .int .i64 0], .bool false]) ∧ Below w.heap.size w w' := by
  have hb := BX.new w w.heap.size rfl (.slice none 0 0) (.slice none 0 0) (.int .i64 0)
  by_cases h1 : n < 1
  · go_enter Try.func16, Try.ntmps16
    go_wp2
    refine bodyPost_ret (results_cellP2 rfl _ _ w.heap.size _ _ _ _ rfl rfl hb) rfl ?_
    exact ⟨rfl, below_box _ _⟩
  · by_cases h2 : 4096 < n
    · go_enter Try.func16, Try.ntmps16
      go_wp2
      refine bodyPost_ret (results_cellP2 rfl _ _ w.heap.size _ _ _ _ rfl rfl hb) rfl ?_
      exact ⟨rfl, below_box _ _⟩
    · by_cases h3 : m < 1
      · go_enter Try.func16, Try.ntmps16
        go_wp2
        refine bodyPost_ret (results_cellP2 rfl _ _ w.heap.size _ _ _ _ rfl rfl hb) rfl ?_
        exact ⟨rfl, below_box _ _⟩
      · have h4 : 512 < m := by omega
        go_enter Try.func16, Try.ntmps16
        go_wp2
        refine bodyPost_ret (results_cellP2 rfl _ _ w.heap.size _ _ _ _ rfl rfl hb) rfl ?_
        exact ⟨rfl, below_box _ _⟩
theorem rev_step {n q : Nat} (h : q < n) : (List.range n).reverse.take (n - q) = (List.range n).reverse.take (n - (q + 1)) ++ [q] := by
  have e : n - q = (n - (q + 1)) + 1 := by omega
  rw [e, List.take_add_one, List.getElem?_reverse (by simp; omega)]
  simp only [List.length_range]
  rw [List.getElem?_range (by omega)]
  have : n - 1 - (n - (q + 1)) = q := by omega
  rw [this]
  rfl
set_option maxRecDepth 100000 in
set_option maxHeartbeats 2000000 in
theorem rnew_any (n m : Nat) (h1 : 1 ≤ n) (h2 : n ≤ 4096) (h3 : 1 ≤ m) (h4 : m ≤ 512) (w : World) :
    Calls Try.prog 16 #[.int .i64 n, .int .i64 m] w (RRes w w.heap.size n (newS n m) [.bool true]) := by
  obtain ⟨i0, hi0, hz0, hz1, hz2⟩ := info_parts info_int
  obtain ⟨j0, hj0, hj1, hj2, hj3⟩ := info_parts info_ints
  have hb0 := BX.new w w.heap.size rfl (.slice none 0 0) (.slice none 0 0) (.int .i64 0)
  have hb1 := BX.new (w.alloc (.cells #[.slice none 0 0, .slice none 0 0, .int .i64 0] 31)) (w.heap.size + 1) (by simp) (.slice none 0 0) (.slice none 0 0) (.int .i64 (n : Int))
  have hb0' : BX ((w.alloc (.cells #[.slice none 0 0, .slice none 0 0, .int .i64 0] 31)).alloc (.cells #[.slice none 0 0, .slice none 0 0, .int .i64 (n : Int)] 31)) w.heap.size (.slice none 0 0) (.slice none 0 0) (.int .i64 0) := (heap_alloc_old _ _ (by simp)).trans hb0
  have hbl : Below w.heap.size w ((w.alloc (.cells #[.slice none 0 0, .slice none 0 0, .int .i64 0] 31)).alloc (.cells #[.slice none 0 0, .slice none 0 0, .int .i64 (n : Int)] 31)) := ((Below.refl _ _).alloc (Nat.le_refl _) _).alloc (by simp) _
  have hsz : w.heap.size + 2 ≤ ((w.alloc (.cells #[.slice none 0 0, .slice none 0 0, .int .i64 0] 31)).alloc (.cells #[.slice none 0 0, .slice none 0 0, .int .i64 (n : Int)] 31)).heap.size := by simp
  go_enter Try.func16, Try.ntmps16
  go_upto_region 4 with fail
  obtain ⟨W1, hW1⟩ : ∃ W1, W1 = (w.alloc (.cells #[.slice none 0 0, .slice none 0 0, .int .i64 0] 31)).alloc (.cells #[.slice none 0 0, .slice none 0 0, .int .i64 (n : Int)] 31) := ⟨_, rfl⟩
  rw [← hW1] at hb1 hb0' hbl hsz ⊢
  clear hW1 hb0
  go_wp2_with fail
  go_loopw [7] (fun t wr => ∃ (k : Nat) (i : Int) (v : Value), k ≤ n ∧ t = .int .i64 i ∧ Kept (i = (k : Int) - 1) ∧ BX wr (w.heap.size + 1) v (.slice none 0 0) (.int .i64 (n : Int)) ∧ BX wr w.heap.size (.slice none 0 0) (.slice none 0 0) (.int .i64 0) ∧
      wr.ownsRow (w.heap.size + 2) 3 1 v (n - k) ((natI ((List.range n).reverse.take (n - k))).map (Value.int .i64)) ∧ Below w.heap.size w wr ∧ w.heap.size + 2 ≤ wr.heap.size) (fun t _ => (intOf t + 1).toNat)
  case atStart => exact ⟨n, (n : Int) - 1, _, by omega, rfl, ⟨rfl⟩, hb1, hb0', by rw [Nat.sub_self]; exact World.ownsRow_nil _ _ _ _, hbl, hsz⟩
  case round =>
    clear hb1 hb0' hbl hsz
    obtain ⟨k, i, v, hk, rfl, hi, hb1, hb0, hown, hbl, hsz⟩ := hrel
    obtain ⟨A0, cp, rfl⟩ := own_slice hown
    have z0 := hb1.c0
    have z1 := hb1.c1
    have z2 := hb1.c2
    have zf := hb1.f
    have HB1 := Kept.mk hb1
    have HB0 := Kept.mk hb0
    have hdl := hb1.lt
    clear hb1 hb0
    by_cases h0 : 0 ≤ i
    · obtain ⟨q, hq⟩ : ∃ q, k = q + 1 := ⟨k - 1, by have := hi.out; omega⟩
      subst hq
      have hiq : i = (q : Int) := by have := hi.out; omega
      have hib : i ≤ 4096 := by omega
      have HI := Kept.mk hiq
      have hst := rev_step (n := n) (q := q) (by omega)
      have HST := Kept.mk hst
      have hnq : n - (q + 1) + 1 = n - q := by omega
      clear hst hiq
      go_wp2_with (at_builtin; refine wpList_append_own _ rfl _ _ 28 rfl (w.heap.size + 2) 3 i0 (.int .i64 0) 1 8 Try.underlying28 hi0 hz0 hz1 hz2 rfl (by decide) _ _ _ rfl (hown.alloc _) ⟨wr.heap.size, 0, none⟩ 1 1 [.int .i64 i] rfl rfl (cell_one_new _ _ _) (by simp [Value.oneCell']) (by simp only [maxLen]; omega) (by omega) (by simp; omega) ?_; intro v' w4 hown' hgrow _; obtain ⟨A6, c6, rfl⟩ := own_slice hown'; have hg' := (World.grownBy_alloc wr (.cells #[.int .i64 i] 3) _).trans hgrow; have hx6 : BX w4 (w.heap.size + 1) _ _ _ := HB1.out.kept (hg'.block _ hdl (fun e => own_ne hown HB1.out (by decide) e.symm)); have hx0 : BX w4 w.heap.size _ _ _ := HB0.out.kept (hg'.block _ (by omega) (fun e => own_ne hown HB0.out (by decide) e.symm)); have b14 : Below w.heap.size w w4 := below_grown hbl hg' hown (by omega) hbl.size; have t0 := hx6.c0; have t1 := hx6.c1; have t2 := hx6.c2; have tf := hx6.f)
      go_roundw
      case rel =>
        refine ⟨q, i - 1, _, by omega, by go_num, ⟨by have := HI.out; omega⟩, hx6.s0 _, hx0.kept (Below.heap_setCell _ _ _ _ (by simp)), ?_, b14.setCell (p := ⟨w.heap.size + 1, 0, none⟩) (Nat.le_succ _) _, by have := hg'.size; simp; omega⟩
        have e1 : (natI ((List.range n).reverse.take (n - (q + 1)))).map (Value.int .i64) ++ [.int .i64 i] = (natI ((List.range n).reverse.take (n - q))).map (Value.int .i64) := by
          rw [HST.out, HI.out]; simp [natI]
        rw [e1, hnq] at hown'
        exact ownsRow_setCell_other hown' (a := ⟨w.heap.size + 1, 0, none⟩) (own_ne hown' hx6 (by decide)) _
      case measure => simp [intOf]; omega
    · have hk0 : k = 0 := by have := hi.out; omega
      subst hk0
      have eall : (List.range n).reverse.take (n - 0) = (List.range n).reverse := List.take_of_length_le (by simp)
      rw [eall] at hown
      rw [Nat.sub_zero] at hown HB1 z0
      have HBL := Kept.mk hbl
      have HSZ := Kept.mk hsz
      clear hi eall
      obtain ⟨wo, hwo⟩ : ∃ wo : World, wo = wr := ⟨_, rfl⟩
      subst hwo
      go_wp2_with fail
      go_loopw [8] (fun t wr => ∃ (j : Nat) (v : Value), j ≤ m ∧ t = .int .i64 j ∧ BX wr (w.heap.size + 1) (.slice A0 n cp) v (.int .i64 (n : Int)) ∧ BX wr w.heap.size (.slice none 0 0) (.slice none 0 0) (.int .i64 0) ∧
          wr.ownsRow (w.heap.size + 2) 3 1 (.slice A0 n cp) n ((natI (List.range n).reverse).map (Value.int .i64)) ∧ wr.ownsRow (w.heap.size + 2) 28 1 v j (List.replicate j (.slice none 0 0)) ∧ Below w.heap.size w wr ∧ w.heap.size + 2 ≤ wr.heap.size) (fun t _ => m - (intOf t).toNat)
      case atStart => exact ⟨0, _, by omega, rfl, HB1.out, HB0.out, hown, World.ownsRow_nil _ _ _ _, hbl, hsz⟩
      case round =>
        clear hown hbl hsz HB1 HB0 HBL HSZ z0 z1 z2 zf hdl
        obtain ⟨j, v, hj, rfl, hb1, hb0, hown, hol, hbl, hsz⟩ := hrel
        obtain ⟨A1, c1, rfl⟩ := own_slice hol
        have z0 := hb1.c0
        have z1 := hb1.c1
        have z2 := hb1.c2
        have zf := hb1.f
        have y0 := hb0.c0
        have y1 := hb0.c1
        have y2 := hb0.c2
        have yf := hb0.f
        have HB1 := Kept.mk hb1
        have HB0 := Kept.mk hb0
        have hdl := hb1.lt
        clear hb1 hb0
        by_cases hlt : j < m
        · have ij : (j : Int) < (m : Int) := by omega
          go_wp2_with (at_builtin; refine wpList_append_own _ rfl _ _ 29 rfl (w.heap.size + 2) 28 j0 (.slice none 0 0) 1 24 Try.underlying29 hj0 hj1 hj2 hj3 rfl (by decide) _ _ _ rfl (hol.alloc _) ⟨wr.heap.size, 0, none⟩ 1 1 [.slice none 0 0] rfl rfl (cell_one_new _ _ _) (by simp [Value.oneCell']) (by simp only [maxLen]; omega) (by omega) (by simp; omega) ?_; intro v' w4 hown' hgrow _; obtain ⟨A6, c6, rfl⟩ := own_slice hown'; have hg' := (World.grownBy_alloc wr (.cells #[.slice none 0 0] 28) _).trans hgrow; have hx6 : BX w4 (w.heap.size + 1) _ _ _ := HB1.out.kept (hg'.block _ hdl (fun e => own_ne hol HB1.out (by decide) e.symm)); have hx0 : BX w4 w.heap.size _ _ _ := HB0.out.kept (hg'.block _ (by omega) (fun e => own_ne hol HB0.out (by decide) e.symm)); have b14 : Below w.heap.size w w4 := below_grown hbl hg' hol (by omega) hbl.size; have t0 := hx6.c0; have t1 := hx6.c1; have t2 := hx6.c2; have tf := hx6.f)
          go_roundw
          case rel =>
            refine ⟨j + 1, _, by omega, by go_num, hx6.s1 _, hx0.kept (Below.heap_setCell _ _ _ _ (by simp)), ?_, ?_, b14.setCell (p := ⟨w.heap.size + 1, 1, none⟩) (Nat.le_succ _) _, by have := hg'.size; simp; omega⟩
            · have h5 := hown.kept hg' (own_ne2 hown hol (by decide))
              exact ownsRow_setCell_other h5 (a := ⟨w.heap.size + 1, 1, none⟩) (own_ne h5 hx6 (by decide)) _
            · rw [List.replicate_succ']
              exact ownsRow_setCell_other hown' (a := ⟨w.heap.size + 1, 1, none⟩) (own_ne hown' hx6 (by decide)) _
          case measure => simp [intOf]; omega
        · have e : j = m := by omega
          subst e
          go_wp2
          refine bodyPost_ret (results_cellP2 rfl _ _ w.heap.size _ _ _ _ rfl rfl (((HB0.out.s0 _).s1 _).s2 _)) rfl ?_
          have q : WR wr (w.heap.size + 2) (.slice A0 n cp) (.slice A1 j c1) (natI (newS n j).pile) (List.replicate j (.slice none 0 0)) ((newS n j).lists.map natI) := by
            refine ⟨by simpa [newS, natI] using hown, by simpa [newS] using hol, fun i v l hv hl => ?_⟩
            simp only [newS, List.map_replicate] at hl
            have hv' := List.eq_of_mem_replicate (List.mem_of_getElem? hv)
            have hl' := List.eq_of_mem_replicate (List.mem_of_getElem? hl)
            subst hv'
            subst hl'
            exact World.ownsRow_nil _ _ _ _
          refine ⟨_, rfl, (q.fin HB0.out _ _ _).rp (by omega), ?_⟩
          exact ((hbl.setCell (p := ⟨w.heap.size, 0, none⟩) (Nat.le_refl _) _).setCell (p := ⟨w.heap.size, 1, none⟩) (Nat.le_refl _) _).setCell (p := ⟨w.heap.size, 2, none⟩) (Nat.le_refl _) _
end Go.Proofs.Ytcchmkpodfjhcaa
