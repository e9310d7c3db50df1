/-
  The walk of the reference queue's Turn.
-/
import Derived.Test.YtcchmkpodfjhcaaY7
import Derived.Deep.RegionWith
namespace Go.Proofs.Ytcchmkpodfjhcaa
open Go.RowKit
set_option linter.unusedVariables false
theorem turn_fin {w w6 : World} {hi n l c : Nat} {A A6 : Option Addr} {c6 : Nat} {Q : QL} {a : Int} (hh : hi ≤ w.heap.size) (hx : TwoQ w w6 n A l c) (h : RefQ w6 (w.heap.size + 2) n Q (.agg #[.int .i64 (n : Int), .slice A6 Q.length c6])) :
    RAct w hi n Q a (.returned (.tuple #[.agg #[.int .i64 (n : Int), .slice A6 Q.length c6], .int .i64 a])) ((w6.setCell ⟨w.heap.size + 1, 0, none⟩ (.int .i64 (n : Int))).setCell ⟨w.heap.size + 1, 1, none⟩ (.slice A6 Q.length c6)) := by
  have h2 := h.blocks (w' := (w6.setCell ⟨w.heap.size + 1, 0, none⟩ (.int .i64 (n : Int))).setCell ⟨w.heap.size + 1, 1, none⟩ (.slice A6 Q.length c6)) (by simp) (fun i h1 _ => (Below.heap_setCell _ _ _ _ (show i ≠ w.heap.size + 1 by omega)).trans (Below.heap_setCell _ _ _ _ (show i ≠ w.heap.size + 1 by omega)))
  refine ⟨_, rfl, ?_, hx.bw.trans (set_far2 (Nat.le_succ _) _ _)⟩
  obtain ⟨⟨B, d, e, h3, h4⟩, h5, h6⟩ := h2
  exact ⟨⟨B, d, e, h3.mono (by omega), h4⟩, h5, h6⟩
set_option maxHeartbeats 4000000 in
theorem rraise_in {w : World} {hi hi2 n : Nat} {Q : QL} {v : Value} (h : RefQ w hi n Q v) (hh : hi2 ≤ w.heap.size) (id : Int) (j : Nat) (hk : 0 ≤ (j : Int) ∧ (j : Int) < 64) (hm : id ∈ Q.ids) :
    Calls Try.prog 49 #[v, .int .i64 id, .int .i64 (j : Int)] w (RAct w hi2 n (Q.rem id ++ [(id, j)]) 0) := by
  have HRQ := Kept.mk h
  obtain ⟨⟨A, c, rfl, hR, hA⟩, hl, hn⟩ := h
  have hll : (Q.length : Int) ≤ 4096 := by omega
  have hnn : (n : Int) ≤ 4096 := by omega
  obtain ⟨i0, hi0, hz0, hz1, hz2⟩ := info_parts info_one
  go_enter Try.func49, Try.ntmps49
  go_wp2_with fail
  obtain ⟨W1, hW1⟩ : ∃ W1, W1 = (w.alloc (.cells #[.int .i64 (n : Int), .slice A Q.length c] 69)).alloc (.cells #[.int .i64 0, .slice none 0 0] 69) := ⟨_, rfl⟩
  obtain ⟨f1, f2, f3, f4, f5⟩ := two_new (w := w) (w1 := W1) (by rw [hW1]; exact Below.refl _ _)
  have f7 : ∀ i, W1.frozen? ⟨w.heap.size, i, none⟩ = false := fun i => by
    have hb : Below (w.alloc (.cells #[.int .i64 (n : Int), .slice A Q.length c] 69)).heap.size (w.alloc (.cells #[.int .i64 (n : Int), .slice A Q.length c] 69)) W1 := by rw [hW1]; exact below_box _ _
    exact box_free hb i
  have HX := Kept.mk (show TwoQ w W1 n A Q.length c from ⟨f1 0 _ rfl, f1 1 _ rfl, f7, f2 0 _ rfl, f2 1 _ rfl, f3, f4, f5⟩)
  rw [← hW1]
  clear hW1 f1 f2 f3 f4 f5 f7 hR
  refine (rprio_any (j : Int) _).mono ?_
  rintro e w2 ⟨rfl, rfl⟩
  rw [decide_eq_true hk]
  obtain ⟨a0, a1, af, d0, d1, df, hs, hbw⟩ := HX.out
  have hs1 : w.heap.size + 1 < _ := hs
  have hs0 : w.heap.size < _ := Nat.lt_of_succ_lt hs1
  go_wp2_with fail
  refine (rfind_any (hi := hi) (HRQ.out.below HX.out.bw) id).mono ?_
  rintro e w2 ⟨a, b, rfl, hb2⟩
  have HX2 := Kept.mk (HX.out.below hb2)
  clear hb2 a0 a1 af d0 d1 df hs hbw hs1 hs0
  · rw [decide_eq_true hm]
    obtain ⟨a0, a1, af, d0, d1, df, hs, hbw⟩ := HX2.out
    have hs1 : w.heap.size + 1 < _ := hs
    have hs0 : w.heap.size < _ := Nat.lt_of_succ_lt hs1
    go_wp2_with fail
    have hb25 := below_box w2 (.cells #[.int .i64 a, .int .i64 b] 77)
    have HX25 := HX2.out.below hb25
    refine (rwithout_any (hi := hi) (HRQ.out.below HX25.bw) id).mono ?_
    rintro e w3 ⟨A', c', rfl, own, hb3⟩
    have HX3 := Kept.mk (HX25.below hb3)
    have HO := Kept.mk own
    have hz : w.heap.size + 2 ≤ (w2.alloc (.cells #[.int .i64 a, .int .i64 b] 77)).heap.size := HX25.hs
    have HZ := Kept.mk hz
    have hrl : (Q.rem id).length ≤ 4096 := Nat.le_trans (List.length_filter_le _ _) hl
    obtain ⟨m, hmq⟩ : ∃ m, m = (Q.rem id).length := ⟨_, rfl⟩
    rw [← hmq] at hrl HO ⊢
    have HMQ := Kept.mk hmq
    clear hmq
    clear hb25 HX25 hz a0 a1 af d0 d1 df hs hbw hs1 hs0 own
    have hbase := hb3.size
    clear hb3
    have HBS := Kept.mk hbase
    clear hbase
    obtain ⟨a0, a1, af, d0, d1, df, hs, hbw⟩ := HX3.out
    have hs1 : w.heap.size + 1 < _ := hs
    have hs0 : w.heap.size < _ := Nat.lt_of_succ_lt hs1
    have hgb : w3.heap.size < w3.heap.size + 1 := Nat.lt_succ_self _
    go_wp2_with (at_builtin; refine wpList_append_own _ rfl _ _ 67 rfl (w.heap.size + 2) 77 i0 (.agg #[.int .i64 0, .int .i64 0]) 2 16 Try.underlying67 hi0 hz0 hz1 hz2 rfl (by decide) _ _ _ rfl (((own_mono HO.out (by have := HZ.out; omega)).alloc _).alloc _) ⟨w3.heap.size + 1, 0, none⟩ 1 1 [.int .i64 id, .int .i64 (j : Int)] rfl rfl (cell_two_at _ _ _ _ _ (by simp)) (by simp [Value.oneCell']) (by simp only [maxLen]; omega) (by omega) (by simp; omega) ?_; intro v' w4 hown' hgrow _; obtain ⟨A5, c5, rfl⟩ := own_slice hown'; obtain ⟨G1, G2, G3, G4⟩ := raise_app HX3.out HO.out (by have := HZ.out; omega) hgrow; have HG1 := Kept.mk G1; have HG2 := Kept.mk G2; have HG4 := Kept.mk G4; have HOW := Kept.mk hown'; obtain ⟨a0, a1, af, d0, d1, df, hs, hbw⟩ := G1; obtain ⟨r0, r1⟩ := G2; clear hown' hgrow; have hs1 : w.heap.size + 1 < w4.heap.size := hs)
    have hs3 := HX3.out.hs
    have hlen : (Q.rem id ++ [(id, j)]).length = m + 1 := by rw [List.length_append, ← HMQ.out]; rfl
    have own5 := own_set_ne (o := 1) HOW.out (own_ne_type HOW.out HG4.out (by decide)) (.slice A5 (m + 1) c5)
    have hsl : w3.heap.size < w4.heap.size := by
      rcases Nat.lt_or_ge w3.heap.size w4.heap.size with h | h
      · exact h
      · have := HG4.out
        rw [Array.getElem?_eq_none h] at this
        cases this
    have bw5 := HG1.out.bw.setCell (p := ⟨w3.heap.size, 1, none⟩) (show w.heap.size ≤ w3.heap.size by omega) (.slice A5 (m + 1) c5)
    have hcs : (Q.rem id).flatMap qcells ++ [Value.int .i64 id, .int .i64 (j : Int)] = (Q.rem id ++ [(id, j)]).flatMap qcells := by rw [List.flatMap_append]; rfl
    rw [hcs] at own5
    have hfin := act_own (a := 0) (n := n) (Q := Q.rem id ++ [(id, j)]) (A := A5) (c := c5) (base := w.heap.size + 2) hh bw5 (by rw [hlen]; exact own5) (Nat.le_refl _) hn (by
      have h3 := rem_lt hm
      rw [List.length_append]
      show (Q.rem id).length + 1 ≤ 4096
      omega)
    rw [hlen] at hfin
    clear own5 bw5 hcs
    refine bodyPost_ret (results_que rfl _ _ (w.heap.size + 1) (.int .i64 (n : Int)) (.slice A5 (m + 1) c5) (.int .i64 0) rfl rfl (by go_simp) (by go_simp)) rfl ?_
    exact hfin
set_option maxHeartbeats 4000000 in
theorem rturn_any {w : World} {hi n : Nat} {Q : QL} {v : Value} (h : RefQ w hi n Q v) (hh : hi ≤ w.heap.size) (k : Int) :
    Calls Try.prog 50 #[v, .int .i64 k] w (RAct w hi n (qTurn Q k).2 (qTurn Q k).1) := by
  have HRQ := Kept.mk h
  obtain ⟨⟨A, c, rfl, hR, hA⟩, hl, hn⟩ := h
  have hll : (Q.length : Int) ≤ 4096 := by omega
  have hnn : (n : Int) ≤ 4096 := by omega
  go_enter Try.func50, Try.ntmps50
  go_wp2_with fail
  obtain ⟨W1, hW1⟩ : ∃ W1, W1 = (w.alloc (.cells #[.int .i64 (n : Int), .slice A Q.length c] 69)).alloc (.cells #[.int .i64 0, .slice none 0 0] 69) := ⟨_, rfl⟩
  obtain ⟨f1, f2, f3, f4, f5⟩ := two_new (w := w) (w1 := W1) (by rw [hW1]; exact Below.refl _ _)
  have f7 : ∀ i, W1.frozen? ⟨w.heap.size, i, none⟩ = false := fun i => by
    have hb : Below (w.alloc (.cells #[.int .i64 (n : Int), .slice A Q.length c] 69)).heap.size (w.alloc (.cells #[.int .i64 (n : Int), .slice A Q.length c] 69)) W1 := by rw [hW1]; exact below_box _ _
    exact box_free hb i
  have HX := Kept.mk (show TwoQ w W1 n A Q.length c from ⟨f1 0 _ rfl, f1 1 _ rfl, f7, f2 0 _ rfl, f2 1 _ rfl, f3, f4, f5⟩)
  rw [← hW1]
  clear hW1 f1 f2 f3 f4 f5 f7 hR
  refine (rprio_any k _).mono ?_
  rintro e w2 ⟨rfl, rfl⟩
  by_cases hk : ¬ (0 ≤ k ∧ k < 64)
  · have e : qTurn Q k = (1, Q) := by unfold qTurn; rw [if_pos hk]
    rw [decide_eq_false hk]
    obtain ⟨a0, a1, af, d0, d1, df, hs, hbw⟩ := HX.out
    have hs1 : w.heap.size + 1 < _ := hs
    have hs0 : w.heap.size < _ := Nat.lt_of_succ_lt hs1
    go_wp2
    refine bodyPost_ret (results_que rfl _ _ (w.heap.size + 1) (.int .i64 (n : Int)) (.slice A Q.length c) (.int .i64 1) rfl rfl (by go_simp) (by go_simp)) rfl ?_
    rw [e]
    have hb := HX.out.bw.trans (set_far2 (b := w.heap.size + 1) (i := 0) (j := 1) (Nat.le_succ _) (.int .i64 (n : Int)) (.slice A Q.length c))
    exact ⟨_, rfl, HRQ.out.below hb, hb⟩
  have hk := Classical.not_not.1 hk
  rw [decide_eq_true hk]
  obtain ⟨j, rfl⟩ : ∃ j : Nat, k = j := ⟨k.toNat, by omega⟩
  obtain ⟨a0, a1, af, d0, d1, df, hs, hbw⟩ := HX.out
  have hs1 : w.heap.size + 1 < _ := hs
  have hs0 : w.heap.size < _ := Nat.lt_of_succ_lt hs1
  go_wp2_with fail
  refine (rlist11_any (hi := hi) (HRQ.out.below HX.out.bw) (j : Int)).mono ?_
  intro e w2 hres
  obtain ⟨A5, c5, rfl, own5, hb2⟩ := hres
  have HX2 := Kept.mk (HX.out.below hb2)
  have HI5 := Kept.mk (Ints.of_own own5).2
  have hql : qList Q j = Q.of j := by unfold qList; rw [if_pos hk, Int.toNat_natCast]
  have hle := qlist_le Q Q.length j (Nat.le_refl _)
  rw [List.take_length] at hle
  clear hb2 own5 a0 a1 af d0 d1 df hs hbw hs1 hs0
  cases hx : Q.of j with
  | nil =>
    have e : qTurn Q j = (3, Q) := by unfold qTurn; rw [if_neg (by simpa using hk), Int.toNat_natCast, hx]; rfl
    rw [hql, hx]
    obtain ⟨a0, a1, af, d0, d1, df, hs, hbw⟩ := HX2.out
    have hs1 : w.heap.size + 1 < _ := hs
    have hs0 : w.heap.size < _ := Nat.lt_of_succ_lt hs1
    go_wp2
    refine bodyPost_ret (results_que rfl _ _ (w.heap.size + 1) (.int .i64 (n : Int)) (.slice A Q.length c) (.int .i64 3) rfl rfl (by go_simp) (by go_simp)) rfl ?_
    rw [e]
    have hb := HX2.out.bw.trans (set_far2 (b := w.heap.size + 1) (i := 0) (j := 1) (Nat.le_succ _) (.int .i64 (n : Int)) (.slice A Q.length c))
    exact ⟨_, rfl, HRQ.out.below hb, hb⟩
  | cons id r =>
    have hm : id ∈ Q.ids := List.mem_map.2 ⟨(id, j), of_mem.1 (by rw [hx]; exact List.mem_cons_self ..), rfl⟩
    have e : qTurn Q j = (0, Q.rem id ++ [(id, j)]) := by unfold qTurn; rw [if_neg (by simpa using hk), Int.toNat_natCast, hx]; rfl
    rw [hql, hx] at hle ⊢
    rw [hql, hx] at HI5
    obtain ⟨b, off, rfl, hbl, hc⟩ := HI5.out (by simp)
    have hc0 := hc 0 (by simp)
    rw [Nat.add_zero] at hc0
    simp only [List.getElem?_cons_zero, Option.getD_some] at hc0
    have hrl : ((r.length : Int) + 1 == 0) = false := by
      have : ¬ ((r.length : Int) + 1 = 0) := by omega
      simp [this]
    have HRA := rraise_in (hi := hi) (hi2 := w.heap.size + 2) (w := w2.drew) (HRQ.out.below (HX2.out.bw.drewN 1)) HX2.out.hs id j hk hm
    clear hc hx hql
    obtain ⟨a0, a1, af, d0, d1, df, hs, hbw⟩ := HX2.out
    have hs1 : w.heap.size + 1 < _ := hs
    have hs0 : w.heap.size < _ := Nat.lt_of_succ_lt hs1
    have r1 : (0 : Int) < (r.length : Int) + 1 := by omega
    go_wp2_with fail
    go_region_with (go_at_call 49; refine HRA.mono ?_; rintro e6 w6 ⟨v6, rfl, hr6, hb6⟩; have HX6 := Kept.mk ((HX2.out.below ((Below.refl _ _).drewN 1)).below hb6); have HR6 := Kept.mk hr6; obtain ⟨⟨A6, c6, rfl, _, _⟩, _, _⟩ := hr6; obtain ⟨a0, a1, af, d0, d1, df, hs, hbw⟩ := HX6.out; clear hb6)
    all_goals go_wp2
    all_goals (have hlen : (Q.rem id ++ [(id, j)]).length = (Q.rem id).length + 1 := by rw [List.length_append]; rfl)
    all_goals (refine bodyPost_ret (results_que rfl _ _ (w.heap.size + 1) (.int .i64 (n : Int)) (.slice A6 ((Q.rem id).length + 1) c6) (.int .i64 0) rfl rfl (by go_simp) (by go_simp)) rfl ?_)
    all_goals (rw [e, ← hlen]; exact turn_fin hh HX6.out HR6.out)
end Go.Proofs.Ytcchmkpodfjhcaa
