/-
  The walk of the reference queue's Raise.
-/
import Derived.Test.YtcchmkpodfjhcaaY5
namespace Go.Proofs.Ytcchmkpodfjhcaa
open Go.RowKit
set_option linter.unusedVariables false
theorem own_set_ne {W : World} {base b o : Nat} {e : TypeId} {sz k : Nat} {v : Value} {xs : List Value} (h : W.ownsRow base e sz v k xs) (hb : some b ≠ v.ownBlock) (u : Value) : (W.setCell ⟨b, o, none⟩ u).ownsRow base e sz v k xs :=
  h.kept (row := some b) ⟨rfl, rfl, rfl, by simp, fun i _ hi => Below.heap_setCell _ _ _ _ (fun e => hi (by rw [e]))⟩ (by
    cases hv : v.ownBlock with
    | none => simp
    | some g => rw [hv] at hb; right; intro e; exact hb e.symm)
theorem own_ne_type {W : World} {base b : Nat} {e t : TypeId} {sz k : Nat} {v : Value} {xs : List Value} {cs : Array Value} {fr : Nat × Nat} (h : W.ownsRow base e sz v k xs) (hb : W.heap[b]? = some (.cells cs t fr)) (ht : e ≠ t) : some b ≠ v.ownBlock := by
  rcases h.2 with ⟨rfl, _⟩ | ⟨g, cap, cur, rfl, hB, hg, _⟩
  · simp [Value.ownBlock]
  · intro he
    simp only [Value.ownBlock, Option.some.injEq] at he
    subst he
    rw [hb] at hg
    cases hg
    exact ht rfl
theorem rem_lt {Q : QL} {id : Int} (hm : id ∈ Q.ids) : (Q.rem id).length < Q.length := by
  obtain ⟨y, hy, e⟩ := List.mem_map.1 hm
  unfold QL.rem
  refine List.length_filter_lt_length_iff_exists.2 ⟨y, hy, by simp [e]⟩
/-- What an append to the fresh row leaves: the boxes, and the box that holds the queue to be given back. -/
theorem raise_app {w w3 w4 : World} {n l c m c' : Nat} {A A' : Option Addr} {base : Nat} {xs : List Value} {us : Array Value} {t : TypeId} (h : TwoQ w w3 n A l c) (ho : w3.ownsRow base 77 2 (.slice A' m c') m xs) (hb : w.heap.size + 2 ≤ base)
    (hg : ((w3.alloc (.cells #[.int .i64 (n : Int), .slice A' m c'] 69)).alloc (.cells us t)).grownBy w4 (Value.slice A' m c').ownBlock) :
    TwoQ w w4 n A l c ∧ (w4.cell? ⟨w3.heap.size, 0, none⟩ = some (.int .i64 (n : Int)) ∧ w4.cell? ⟨w3.heap.size, 1, none⟩ = some (.slice A' m c')) ∧ (∀ i, w4.frozen? ⟨w3.heap.size, i, none⟩ = false) ∧ w4.heap[w3.heap.size]? = some (.cells #[.int .i64 (n : Int), .slice A' m c'] 69) := by
  have hlt : ∀ g, (Value.slice A' m c').ownBlock = some g → w.heap.size + 2 ≤ g ∧ g < w3.heap.size := fun g hg => by have := ho.lt g hg; omega
  have b1 := below_box w3 (.cells #[.int .i64 (n : Int), .slice A' m c'] 69)
  have b2 := below_box (w3.alloc (.cells #[.int .i64 (n : Int), .slice A' m c'] 69)) (.cells us t)
  have z1 : (w3.alloc (.cells #[.int .i64 (n : Int), .slice A' m c'] 69)).heap.size = w3.heap.size + 1 := by simp
  have z2 : ((w3.alloc (.cells #[.int .i64 (n : Int), .slice A' m c'] 69)).alloc (.cells us t)).heap.size = w3.heap.size + 2 := by simp
  have hq : w4.heap[w3.heap.size]? = some (.cells #[.int .i64 (n : Int), .slice A' m c'] 69) := by
    rw [hg.block w3.heap.size (by rw [z2]; omega) (fun e => by have := hlt _ e.symm; omega), b2.block w3.heap.size (by rw [z1]; omega)]
    exact heap_alloc_new w3 _
  have hkp : ∀ p, p < w.heap.size + 2 → w4.heap[p]? = w3.heap[p]? := fun p hp => by
    have hs := h.hs
    rw [hg.block p (by rw [z2]; omega) (fun e => by have := hlt _ e.symm; omega), b2.block p (by rw [z1]; omega), b1.block p (by omega)]
  have hs := h.hs
  have hsz := hg.size
  rw [z2] at hsz
  refine ⟨⟨(World.cell?_of_block (a := ⟨w.heap.size, 0, none⟩) (hkp _ (by show w.heap.size < _; omega))).trans h.a0, (World.cell?_of_block (a := ⟨w.heap.size, 1, none⟩) (hkp _ (by show w.heap.size < _; omega))).trans h.a1, fun i => (World.frozen?_of_block (a := ⟨w.heap.size, i, none⟩) (hkp _ (by show w.heap.size < _; omega))).trans (h.af i),
    (World.cell?_of_block (a := ⟨w.heap.size + 1, 0, none⟩) (hkp _ (by show w.heap.size + 1 < _; omega))).trans h.d0, (World.cell?_of_block (a := ⟨w.heap.size + 1, 1, none⟩) (hkp _ (by show w.heap.size + 1 < _; omega))).trans h.d1, fun i => (World.frozen?_of_block (a := ⟨w.heap.size + 1, i, none⟩) (hkp _ (by show w.heap.size + 1 < _; omega))).trans (h.df i), by omega, ?_⟩, ⟨?_, ?_⟩, fun i => ?_, hq⟩
  · have := (h.bw.trans (b1.mono (by omega))).trans (b2.mono (by rw [z1]; omega))
    exact this.trans ⟨hg.os, hg.tape, hg.output, by omega, fun i hi => hg.block i (by omega) (fun e => by have := hlt _ e.symm; omega)⟩
  · exact cell_of_row _ _ 0 _ _ _ hq
  · exact cell_of_row _ _ 1 _ _ _ hq
  · exact frozen_of_row _ _ i _ _ hq
set_option maxHeartbeats 4000000 in
theorem rraise_any {w : World} {hi n : Nat} {Q : QL} {v : Value} (h : RefQ w hi n Q v) (hh : hi ≤ w.heap.size) (id k : Int) :
    Calls Try.prog 49 #[v, .int .i64 id, .int .i64 k] w (RAct w hi n (qRaise Q id k).2 (qRaise Q id k).1) := by
  have HRQ := Kept.mk h
  obtain ⟨⟨A, c, rfl, hR, hA⟩, hl, hn⟩ := h
  have hll : (Q.length : Int) ≤ 4096 := by omega
  have hnn : (n : Int) ≤ 4096 := by omega
  obtain ⟨i0, hi0, hz0, hz1, hz2⟩ := info_parts info_one
  go_enter Try.func49, Try.ntmps49
  go_wp2_with fail
  obtain ⟨W1, hW1⟩ : ∃ W1, W1 = (w.alloc (.cells #[.int .i64 (n : Int), .slice A Q.length c] 69)).alloc (.cells #[.int .i64 0, .slice none 0 0] 69) := ⟨_, rfl⟩
  obtain ⟨f1, f2, f3, f4, f5⟩ := two_new (w := w) (w1 := W1) (by rw [hW1]; exact Below.refl _ _)
  have f7 : ∀ i, W1.frozen? ⟨w.heap.size, i, none⟩ = false := fun i => by
    have hb : Below (w.alloc (.cells #[.int .i64 (n : Int), .slice A Q.length c] 69)).heap.size (w.alloc (.cells #[.int .i64 (n : Int), .slice A Q.length c] 69)) W1 := by rw [hW1]; exact below_box _ _
    exact box_free hb i
  have HX := Kept.mk (show TwoQ w W1 n A Q.length c from ⟨f1 0 _ rfl, f1 1 _ rfl, f7, f2 0 _ rfl, f2 1 _ rfl, f3, f4, f5⟩)
  rw [← hW1]
  clear hW1 f1 f2 f3 f4 f5 f7 hR
  refine (rprio_any k _).mono ?_
  rintro e w2 ⟨rfl, rfl⟩
  by_cases hk : ¬ (0 ≤ k ∧ k < 64)
  · have e : qRaise Q id k = (1, Q) := by unfold qRaise; rw [if_pos hk]
    rw [decide_eq_false hk]
    obtain ⟨a0, a1, af, d0, d1, df, hs, hbw⟩ := HX.out
    have hs1 : w.heap.size + 1 < _ := hs
    have hs0 : w.heap.size < _ := Nat.lt_of_succ_lt hs1
    go_wp2
    refine bodyPost_ret (results_que rfl _ _ (w.heap.size + 1) (.int .i64 (n : Int)) (.slice A Q.length c) (.int .i64 1) rfl rfl (by go_simp) (by go_simp)) rfl ?_
    rw [e]
    have hb := HX.out.bw.trans (set_far2 (b := w.heap.size + 1) (i := 0) (j := 1) (Nat.le_succ _) (.int .i64 (n : Int)) (.slice A Q.length c))
    exact ⟨_, rfl, HRQ.out.below hb, hb⟩
  have hk := Classical.not_not.1 hk
  rw [decide_eq_true hk]
  obtain ⟨j, rfl⟩ : ∃ j : Nat, k = j := ⟨k.toNat, by omega⟩
  obtain ⟨a0, a1, af, d0, d1, df, hs, hbw⟩ := HX.out
  have hs1 : w.heap.size + 1 < _ := hs
  have hs0 : w.heap.size < _ := Nat.lt_of_succ_lt hs1
  go_wp2_with fail
  refine (rfind_any (hi := hi) (HRQ.out.below HX.out.bw) id).mono ?_
  rintro e w2 ⟨a, b, rfl, hb2⟩
  have HX2 := Kept.mk (HX.out.below hb2)
  clear hb2 a0 a1 af d0 d1 df hs hbw hs1 hs0
  by_cases hm : id ∈ Q.ids
  · have e : qRaise Q id j = (0, Q.rem id ++ [(id, j)]) := by unfold qRaise; rw [if_neg (by simpa using hk), if_pos hm]; rfl
    rw [decide_eq_true hm]
    obtain ⟨a0, a1, af, d0, d1, df, hs, hbw⟩ := HX2.out
    have hs1 : w.heap.size + 1 < _ := hs
    have hs0 : w.heap.size < _ := Nat.lt_of_succ_lt hs1
    go_wp2_with fail
    have hb25 := below_box w2 (.cells #[.int .i64 a, .int .i64 b] 77)
    have HX25 := HX2.out.below hb25
    refine (rwithout_any (hi := hi) (HRQ.out.below HX25.bw) id).mono ?_
    rintro e w3 ⟨A', c', rfl, own, hb3⟩
    have HX3 := Kept.mk (HX25.below hb3)
    have HO := Kept.mk own
    have hz : w.heap.size + 2 ≤ (w2.alloc (.cells #[.int .i64 a, .int .i64 b] 77)).heap.size := HX25.hs
    have HZ := Kept.mk hz
    have hrl : (Q.rem id).length ≤ 4096 := Nat.le_trans (List.length_filter_le _ _) hl
    obtain ⟨m, hmq⟩ : ∃ m, m = (Q.rem id).length := ⟨_, rfl⟩
    rw [← hmq] at hrl HO ⊢
    have HMQ := Kept.mk hmq
    clear hmq
    clear hb25 HX25 hz a0 a1 af d0 d1 df hs hbw hs1 hs0 own
    have hbase := hb3.size
    clear hb3
    have HBS := Kept.mk hbase
    clear hbase
    obtain ⟨a0, a1, af, d0, d1, df, hs, hbw⟩ := HX3.out
    have hs1 : w.heap.size + 1 < _ := hs
    have hs0 : w.heap.size < _ := Nat.lt_of_succ_lt hs1
    have hgb : w3.heap.size < w3.heap.size + 1 := Nat.lt_succ_self _
    go_wp2_with (at_builtin; refine wpList_append_own _ rfl _ _ 67 rfl (w.heap.size + 2) 77 i0 (.agg #[.int .i64 0, .int .i64 0]) 2 16 Try.underlying67 hi0 hz0 hz1 hz2 rfl (by decide) _ _ _ rfl (((own_mono HO.out (by have := HZ.out; omega)).alloc _).alloc _) ⟨w3.heap.size + 1, 0, none⟩ 1 1 [.int .i64 id, .int .i64 (j : Int)] rfl rfl (cell_two_at _ _ _ _ _ (by simp)) (by simp [Value.oneCell']) (by simp only [maxLen]; omega) (by omega) (by simp; omega) ?_; intro v' w4 hown' hgrow _; obtain ⟨A5, c5, rfl⟩ := own_slice hown'; obtain ⟨G1, G2, G3, G4⟩ := raise_app HX3.out HO.out (by have := HZ.out; omega) hgrow; have HG1 := Kept.mk G1; have HG2 := Kept.mk G2; have HG4 := Kept.mk G4; have HOW := Kept.mk hown'; obtain ⟨a0, a1, af, d0, d1, df, hs, hbw⟩ := G1; obtain ⟨r0, r1⟩ := G2; clear hown' hgrow; have hs1 : w.heap.size + 1 < w4.heap.size := hs)
    have hs3 := HX3.out.hs
    have hlen : (Q.rem id ++ [(id, j)]).length = m + 1 := by rw [List.length_append, ← HMQ.out]; rfl
    have own5 := own_set_ne (o := 1) HOW.out (own_ne_type HOW.out HG4.out (by decide)) (.slice A5 (m + 1) c5)
    have hsl : w3.heap.size < w4.heap.size := by
      rcases Nat.lt_or_ge w3.heap.size w4.heap.size with h | h
      · exact h
      · have := HG4.out
        rw [Array.getElem?_eq_none h] at this
        cases this
    have bw5 := HG1.out.bw.setCell (p := ⟨w3.heap.size, 1, none⟩) (show w.heap.size ≤ w3.heap.size by omega) (.slice A5 (m + 1) c5)
    have hcs : (Q.rem id).flatMap qcells ++ [Value.int .i64 id, .int .i64 (j : Int)] = (Q.rem id ++ [(id, j)]).flatMap qcells := by rw [List.flatMap_append]; rfl
    rw [hcs] at own5
    have hfin := act_own (a := 0) (n := n) (Q := Q.rem id ++ [(id, j)]) (A := A5) (c := c5) (base := w.heap.size + 2) hh bw5 (by rw [hlen]; exact own5) (Nat.le_refl _) hn (by
      have h3 := rem_lt hm
      rw [List.length_append]
      show (Q.rem id).length + 1 ≤ 4096
      omega)
    rw [hlen] at hfin
    clear own5 bw5 hcs
    refine bodyPost_ret (results_que rfl _ _ (w.heap.size + 1) (.int .i64 (n : Int)) (.slice A5 (m + 1) c5) (.int .i64 0) rfl rfl (by go_simp) (by go_simp)) rfl ?_
    rw [e]
    exact hfin
  · have e : qRaise Q id j = (3, Q) := by unfold qRaise; rw [if_neg (by simpa using hk), if_neg hm]
    rw [decide_eq_false hm]
    obtain ⟨a0, a1, af, d0, d1, df, hs, hbw⟩ := HX2.out
    have hs1 : w.heap.size + 1 < _ := hs
    have hs0 : w.heap.size < _ := Nat.lt_of_succ_lt hs1
    go_wp2
    refine bodyPost_ret (results_que rfl _ _ (w.heap.size + 1) (.int .i64 (n : Int)) (.slice A Q.length c) (.int .i64 3) rfl rfl (by go_simp) (by go_simp)) rfl ?_
    rw [e]
    have hb := (HX2.out.bw.trans (set_far2 (b := w.heap.size + 1) (i := 0) (j := 1) (Nat.le_succ _) (.int .i64 (n : Int)) (.slice A Q.length c))).alloc (by simp; omega) (.cells #[.int .i64 a, .int .i64 b] 77)
    exact ⟨_, rfl, HRQ.out.below hb, hb⟩
end Go.Proofs.Ytcchmkpodfjhcaa
