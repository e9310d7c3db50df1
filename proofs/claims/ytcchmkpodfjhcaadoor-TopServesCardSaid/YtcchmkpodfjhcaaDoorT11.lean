/-
  The walk of intc.Ack, with nothing being served.
-/
import Derived.Test.YtcchmkpodfjhcaaDoorT10
namespace Go.Proofs.YtcchmkpodfjhcaaDoor
open Go.RowKit
set_option linter.unusedVariables false
def clr (P n : Nat) : Nat := P &&& (18446744073709551615 - 2 ^ n)
theorem clr_lt {P n : Nat} (h : P < 18446744073709551616) : clr P n < 18446744073709551616 := Nat.lt_of_le_of_lt Nat.and_le_left h
theorem clr_num (P n : Nat) (hP : P < 18446744073709551616) (hn : n < 64) : Value.int .u64 (bits .andNot .u64 (P : Int) (IntKind.u64.wrap (2 ^ n))) = .int .u64 (clr P n : Int) := by
  rw [bit_wrap n hn, andn_num _ _ hP (bit_lt hn)]; rfl
theorem C7.kept {W W' : World} {g : Nat} {v0 v1 v2 v3 v4 v5 v6 : Value} (h : C7 W g v0 v1 v2 v3 v4 v5 v6) (hb : W'.heap[g]? = W.heap[g]?) : C7 W' g v0 v1 v2 v3 v4 v5 v6 :=
  ⟨(World.cell?_of_block (a := ⟨g, 0, none⟩) hb).trans h.c0, (World.cell?_of_block (a := ⟨g, 1, none⟩) hb).trans h.c1, (World.cell?_of_block (a := ⟨g, 2, none⟩) hb).trans h.c2, (World.cell?_of_block (a := ⟨g, 3, none⟩) hb).trans h.c3, (World.cell?_of_block (a := ⟨g, 4, none⟩) hb).trans h.c4, (World.cell?_of_block (a := ⟨g, 5, none⟩) hb).trans h.c5, (World.cell?_of_block (a := ⟨g, 6, none⟩) hb).trans h.c6, fun i => (World.frozen?_of_block (a := ⟨g, i, none⟩) hb).trans (h.fr i)⟩
structure NextOk (P M : Nat) (xs : List Int) : Prop where
  pm : bits .and .u64 (P : Int) (M : Int) = P
  p0 : bits .andNot .u64 (P : Int) 0 = P
  r : ∀ n, n ∈ lbn P → n < xs.length
  h15 : ∀ n : Nat, n < xs.length → xs[n]?.getD 0 ≤ 15
set_option maxHeartbeats 4000000 in
theorem ack_none (P M : Nat) (hP : P < 18446744073709551616) (hm : MF P M) (xs : List Int) (hN : NextOk P M xs) (hM : M = mk xs) (h1 : 1 ≤ xs.length) (c : Value) (w : World) (hT : Tab w) (hs0 : 0 < w.heap.size) (hc : IsC w P M xs [] c)
    (h2 : xs.length ≤ 64) (hx : xs.any oddP = false) (hs : (nxF xs (lbn P)).1 = 64) :
    Calls Tryd.prog 14 #[c] w (CRes w P M xs [] [.int .i64 64, .int .i64 0]) := by
  have HC := Kept.mk (fun W (hc : IsC W P M xs [] c) => open_any P M hm xs [] (by rw [hM]) 0 (by omega) (by omega) c W hc h2 hx ⟨by simp, fun _ h => by cases h⟩)
  obtain ⟨A, cap, B, cap2, rfl, h, k, hA, hB⟩ := hc.of
  unfold iC at *
  clear hm hM hx
  go_enter Tryd.func14, Tryd.ntmps14
  go_wp2_with fail
  refine (HC.out _ ⟨A, cap, B, cap2, rfl, (h.below ((below_box _ _).alloc (by simp) _)).mono (by simp <;> omega), Ints.nil _ _ _, hA, hB⟩).mono ?_
  rintro e w1 ⟨d, rfl, hd⟩
  obtain ⟨A1, p1, A2, p2, hF⟩ := desk_facts hd
  obtain ⟨cells, f0, own1, own2, ne1, ne2, lo, hi, hb, hdis⟩ := hF
  clear hd
  have lo2 : w.heap.size + 2 ≤ d := by simpa using lo
  replace own1 := own_mono (B := w.heap.size + 2) own1 (by simp)
  replace own2 := own_mono (B := w.heap.size + 2) own2 (by simp)
  have E0 : C7 w1 (w.heap.size + 1) _ _ _ _ _ _ _ := ⟨pre_cell hb 0 _ rfl, pre_cell hb 1 _ rfl, pre_cell hb 2 _ rfl, pre_cell hb 3 _ rfl, pre_cell hb 4 _ rfl, pre_cell hb 5 _ rfl, pre_cell hb 6 _ rfl, pre_free hb⟩
  have hz := hb.size
  have hbw := (hb.box (by simp)).box (Nat.le_refl _)
  have hs0' : 0 < w1.heap.size := Nat.lt_of_lt_of_le (by simp) hz
  have hT1 := hT.below hbw hs0
  clear HC hc lo hz hb
  go_wp2_with fail
  refine (next_any P M hP d A1 xs p1 A2 p2 _ hN.pm hN.p0 cells hi (Ints.of_own own1).2 hT1 hs0' hN.r h2 hN.h15).mono ?_
  rintro e w2 ⟨rfl, hb2⟩
  rw [hs]
  obtain ⟨c0, c1, c2, c3, c4, c5, c6⟩ := cells.below hb2 hi
  have f1 : ∀ i, w2.frozen? ⟨d, i, none⟩ = false := fun i => (hb2.frozen (p := (⟨d, i, none⟩ : Addr)) hi).trans (f0 i)
  obtain ⟨e0, e1, e2, e3, e4, e5, e6, g0⟩ := E0.below hb2 (by omega)
  replace own1 := own_below own1 hb2
  replace own2 := own_below own2 hb2
  replace hbw := hbw.trans (hb2.mono hbw.size)
  have hi2 : d < w2.heap.size := Nat.lt_of_lt_of_le hi hb2.size
  clear cells E0 hb2 hT1 hs0' f0 hi h k
  go_wp2_with fail
  have nb : w.heap.size + 1 < w.heap.size + 2 := by omega
  refine bodyPost_ret (results_intc3 (p := 2) (u := 3) (x := 4) rfl _ _ (w.heap.size + 1) _ _ _ _ _ _ _ (.int .i64 64) (.int .i64 0) (by go_simp) (by go_simp) (by go_simp) (by go_simp <;> rfl) (by go_simp <;> rfl) (by go_simp <;> rfl) (by go_simp <;> rfl) (by go_simp <;> rfl) (by go_simp <;> rfl) (by go_simp <;> rfl)) rfl ?_
  exact ⟨_, rfl, isC_own (own7 own1 nb) (own7 own2 nb) (Below.refl _ _), res_below (B := w.heap.size) (k := 1) hbw, rows_own own1 own2 (by omega) (by omega)⟩
set_option maxHeartbeats 4000000 in
theorem ack_some (P M : Nat) (hP : P < 18446744073709551616) (hm : MF P M) (xs : List Int) (hN : NextOk P M xs) (hM : M = mk xs) (h1 : 1 ≤ xs.length) (c : Value) (w : World) (hT : Tab w) (hs0 : 0 < w.heap.size) (hc : IsC w P M xs [] c)
    (h2 : xs.length ≤ 64) (hx : xs.any oddP = false) (n : Nat) (hn : n < xs.length) (hs : (nxF xs (lbn P)).1 = (n : Int)) :
    Calls Tryd.prog 14 #[c] w (CRes w (clr P n) M xs [(n : Int)] [.int .i64 (n : Int), .int .i64 0]) := by
  have HC := Kept.mk (fun W (hc : IsC W P M xs [] c) => open_any P M hm xs [] (by rw [hM]) 0 (by omega) (by omega) c W hc h2 hx ⟨by simp, fun _ h => by cases h⟩)
  obtain ⟨A, cap, B, cap2, rfl, h, k, hA, hB⟩ := hc.of
  unfold iC at *
  clear hm hM hx
  go_enter Tryd.func14, Tryd.ntmps14
  go_wp2_with fail
  refine (HC.out _ ⟨A, cap, B, cap2, rfl, (h.below ((below_box _ _).alloc (by simp) _)).mono (by simp <;> omega), Ints.nil _ _ _, hA, hB⟩).mono ?_
  rintro e w1 ⟨d, rfl, hd⟩
  obtain ⟨A1, p1, A2, p2, hF⟩ := desk_facts hd
  obtain ⟨cells, f0, own1, own2, ne1, ne2, lo, hi, hb, hdis⟩ := hF
  clear hd
  have lo2 : w.heap.size + 2 ≤ d := by simpa using lo
  replace own1 := own_mono (B := w.heap.size + 2) own1 (by simp)
  replace own2 := own_mono (B := w.heap.size + 2) own2 (by simp)
  have E0 : C7 w1 (w.heap.size + 1) _ _ _ _ _ _ _ := ⟨pre_cell hb 0 _ rfl, pre_cell hb 1 _ rfl, pre_cell hb 2 _ rfl, pre_cell hb 3 _ rfl, pre_cell hb 4 _ rfl, pre_cell hb 5 _ rfl, pre_cell hb 6 _ rfl, pre_free hb⟩
  have hz := hb.size
  have hbw := (hb.box (by simp)).box (Nat.le_refl _)
  have hs0' : 0 < w1.heap.size := Nat.lt_of_lt_of_le (by simp) hz
  have hT1 := hT.below hbw hs0
  clear HC hc lo hz hb
  go_wp2_with fail
  refine (next_any P M hP d A1 xs p1 A2 p2 _ hN.pm hN.p0 cells hi (Ints.of_own own1).2 hT1 hs0' hN.r h2 hN.h15).mono ?_
  rintro e w2 ⟨rfl, hb2⟩
  rw [hs]
  obtain ⟨c0, c1, c2, c3, c4, c5, c6⟩ := cells.below hb2 hi
  have f1 : ∀ i, w2.frozen? ⟨d, i, none⟩ = false := fun i => (hb2.frozen (p := (⟨d, i, none⟩ : Addr)) hi).trans (f0 i)
  obtain ⟨e0, e1, e2, e3, e4, e5, e6, g0⟩ := E0.below hb2 (by omega)
  replace own1 := own_below own1 hb2
  replace own2 := own_below own2 hb2
  replace hbw := hbw.trans (hb2.mono hbw.size)
  have hi2 : d < w2.heap.size := Nat.lt_of_lt_of_le hi hb2.size
  clear cells E0 hb2 hT1 hs0' f0 hi h k
  have nl : (n : Int) < 64 := by omega
  have n64 : ((n : Int) == 64) = false := by rw [beq_eq_false_iff_ne]; omega
  go_wp2_with fail
  go_region
  rw [clr_num P n hP (by omega)]
  have D1 : C7 (w2.setCell ⟨d, 0, none⟩ (.int .u64 (clr P n : Int))).drew d (.int .u64 (clr P n : Int)) (.int .u64 (M : Int)) (.int .u64 0) (.int .u64 (M : Int)) (.slice A1 xs.length p1) (.int .i64 0) (.slice A2 0 p2) := by constructor <;> (try intro i) <;> go_simp
  have E1 : C7 (w2.setCell ⟨d, 0, none⟩ (.int .u64 (clr P n : Int))).drew (w.heap.size + 1) (.int .u64 0) (.int .u64 0) (.int .u64 0) (.int .u64 0) (.slice none 0 0) (.int .i64 0) (.slice none 0 0) := by constructor <;> (try intro i) <;> go_simp
  replace own1 := own_drew (ownsRow_setCell_other own1 (a := ⟨d, 0, none⟩) ne1 (.int .u64 (clr P n : Int)))
  replace own2 := own_drew (ownsRow_setCell_other own2 (a := ⟨d, 0, none⟩) ne2 (.int .u64 (clr P n : Int)))
  replace hbw := (hbw.setCell (p := ⟨d, 0, none⟩) (by show w.heap.size ≤ d; omega) (.int .u64 (clr P n : Int))).drew
  replace hi2 : d < (w2.setCell ⟨d, 0, none⟩ (.int .u64 (clr P n : Int))).drew.heap.size := by simpa using hi2
  clear c0 c1 c2 c3 c4 c5 c6 e0 e1 e2 e3 e4 e5 e6 g0 f1
  generalize (w2.setCell ⟨d, 0, none⟩ (.int .u64 (clr P n : Int))).drew = W3 at D1 E1 own1 own2 hbw hi2 ⊢
  obtain ⟨i0, hii, hz0, hz1, hz2⟩ := info_parts info_int
  obtain ⟨c0, c1, c2, c3, c4, c5, c6, f1⟩ := id D1
  have nb : w.heap.size + 1 < w.heap.size + 2 := by omega
  go_wp2_with (at_builtin; refine wpList_append_own _ rfl _ _ 22 rfl (w.heap.size + 2) 3 i0 (.int .i64 0) 1 8 Tryd.underlying22 hii hz0 hz1 hz2 rfl (by decide) _ 0 _ rfl (own2.alloc _) ⟨W3.heap.size, 0, none⟩ 1 1 [.int .i64 (n : Int)] rfl rfl (cell_one_new _ _ _) (by simp [Value.oneCell']) (by simp only [maxLen]; omega) (by omega) (by simp; omega) ?_; intro v' w4 hown' hgrow _; obtain ⟨A4, cp4, rfl⟩ := own_slice hown'; have hk := fun k (hk : k < W3.heap.size) hne => (hgrow.block k (by simp; omega) hne).trans (Below.heap_alloc W3 _ k hk); clear c0 c1 c2 c3 c4 c5 c6 f1; obtain ⟨c0, c1, c2, c3, c4, c5, c6, f1⟩ := D1.kept (hk d hi2 (fun h => ne2 h.symm)); obtain ⟨e0, e1, e2, e3, e4, e5, e6, g0⟩ := E1.kept (hk _ (by omega) (fun h => by have := (own2.lt _ h.symm).1; omega)); have own1' := (own1.alloc _).kept hgrow (by cases hv : (Value.slice A1 xs.length p1).ownBlock with | none => exact .inl rfl | some g => exact .inr (fun h => hdis g hv h.symm)); have bw4 : Below w.heap.size w w4 := (hbw.alloc hbw.size _).grown hgrow (by have := hbw.size; simp; omega) (fun k e => by have := (own2.lt k e).1; omega))
  have ne4 : (Value.slice A4 1 cp4).ownBlock ≠ some d := fun h => by
    have hq : w4.cell? ⟨d, 0, none⟩ = some (.int .i64 (n : Int)) := hown'.cells h 0 (.int .i64 (n : Int)) rfl
    rw [c0] at hq
    cases hq
  refine bodyPost_ret (results_intc3 (p := 2) (u := 3) (x := 4) rfl _ _ (w.heap.size + 1) _ _ _ _ _ _ _ (.int .i64 (n : Int)) (.int .i64 0) (by go_simp) (by go_simp) (by go_simp) (by go_simp <;> rfl) (by go_simp <;> rfl) (by go_simp <;> rfl) (by go_simp <;> rfl) (by go_simp <;> rfl) (by go_simp <;> rfl) (by go_simp <;> rfl)) rfl ?_
  exact ⟨_, rfl, isC_own (own7 (ownsRow_setCell_other own1' (a := ⟨d, 6, none⟩) ne1 _) nb) (own7 (ownsRow_setCell_other hown' (a := ⟨d, 6, none⟩) ne4 _) nb) (Below.refl _ _), res_below (B := w.heap.size) (k := 1) (bw4.setCell (p := ⟨d, 6, none⟩) (by show w.heap.size ≤ d; omega) _), rows_own own1' hown' (by omega) (by omega)⟩
end Go.Proofs.YtcchmkpodfjhcaaDoor
