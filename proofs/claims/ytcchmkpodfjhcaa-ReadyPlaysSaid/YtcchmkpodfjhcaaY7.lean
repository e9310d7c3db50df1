/-
  The walk of the reference queue's Push.
-/
import Derived.Test.YtcchmkpodfjhcaaY6
import Derived.Laws.AppendOwnNone
namespace Go.Proofs.Ytcchmkpodfjhcaa
open Go.RowKit
set_option linter.unusedVariables false
theorem qcells_one (Q : QL) : ∀ u ∈ Q.flatMap qcells, u.oneCell' = true := by
  intro u hu
  obtain ⟨x, hx, hu⟩ := List.mem_flatMap.1 hu
  simp only [qcells, List.mem_cons, List.not_mem_nil, or_false] at hu
  rcases hu with rfl | rfl <;> rfl
theorem rq_cells {w : World} {hi b off : Nat} {Q : QL} (h : RQ w hi (some ⟨b, off, none⟩) Q) : ∀ (j : Nat) (u : Value), (Q.flatMap qcells)[j]? = some u → w.cell? ((⟨b, off, none⟩ : Addr).add j) = some u := by
  intro j u hu
  obtain ⟨i, y, hi, hc⟩ := cells2_of Q j u hu
  have hlt := (List.getElem?_eq_some_iff.1 hi).1
  obtain ⟨b', off', e, _, _, hcs⟩ := h (by omega)
  cases e
  obtain ⟨c1, c2⟩ := hcs i y hi
  have ha : (⟨b, off, none⟩ : Addr).add j = ⟨b, off + j, none⟩ := by unfold Addr.add; split <;> simp_all
  rw [ha]
  rcases hc with ⟨rfl, rfl⟩ | ⟨rfl, rfl⟩
  · exact c1
  · exact c2
theorem wpList_app2 {P : Program} {w : World} {ops : Array Oper} {rest : List Oper} {o : Oper} {a : Act} {Z : Exit → Act → World → Prop} (hgd : o.guard = none) (s x : Operand) (t : TypeId)
    (ho : o.op = .call { callee := .builtin .append, args := #[s, x], argTypes := #[t, t] })
    (base : Nat) (e : TypeId) (i : TypeInfo) (z : Value) (bytes : Nat) (ht : P.underlying t = some (.slice e)) (hi : P.info? e = some i) (hz : i.zero = some z)
    (hsize : i.size = 2) (hby : i.bytes = bytes) (hzs : z.cells.size = 2) (hbb : bytes ≤ 65536)
    (v : Value) (n : Nat) (ys : List Value) (hs : a.eval s = v) (hown : w.ownsRow base e 2 v n ys)
    (A : Option Addr) (Q : QL) (c B : Nat) (hx : a.eval x = .slice A Q.length c) (hR : RQ w B A Q) (hn : A = none → c = 0) (hlen : n + Q.length ≤ 2147483648) (hbase : base ≤ w.heap.size)
    (h : ∀ v' w', w'.ownsRow base e 2 v' (n + Q.length) (ys ++ Q.flatMap qcells) → Below base w w' → wpList P ops Z rest (a.put o.dst v') w') : wpList P ops Z (o :: rest) a w := by
  cases A with
  | none =>
    have h0 : Q.length = 0 := by
      rcases Nat.eq_zero_or_pos Q.length with h0 | h0
      · exact h0
      · obtain ⟨_, _, e, _⟩ := hR h0; cases e
    have : Q = [] := List.eq_nil_of_length_eq_zero h0
    subst this
    refine wpList_append_own_none hgd s x t ho base e i 2 ht hi v n ys hs hown (by rw [hx, hn rfl]; rfl) ?_
    exact h v w (by simpa using hown) (Below.refl _ _)
  | some ad =>
    obtain ⟨b, off, ic⟩ := ad
    refine wpList_append_own w hgd s x t ho base e i z 2 bytes ht hi hz hsize hby hzs (by omega) v n ys hs hown ⟨b, off, ic⟩ Q.length c (Q.flatMap qcells) hx (cells2_length Q) ?_ (qcells_one Q) (by simp only [maxLen]; omega) ?_ hbase ?_
    · intro j u hu
      have hj : j < Q.length * 2 := by
        have := (List.getElem?_eq_some_iff.1 hu).1
        rwa [cells2_length] at this
      obtain ⟨b', off', e', hb, hc⟩ := hR (by omega)
      cases e'
      exact rq_cells hR j u hu
    · calc (n + Q.length) * bytes ≤ 2147483648 * 65536 := Nat.mul_le_mul hlen hbb
        _ ≤ 140737488355328 := by omega
    · intro v' w' hw hg _
      exact h v' w' hw ((Below.refl _ _).grown hg hbase fun k hk => (hown.lt k hk).1)
theorem own_made2 {e : TypeId} {base : Nat} (w : World) (n : Nat) (hn : n = w.heap.size) (hb : base ≤ n) : (w.alloc (.cells #[] e)).ownsRow base e 2 (.slice (some ⟨n, 0, none⟩) 0 0) 0 [] := by
  subst hn
  exact World.ownsRow_made w #[] 0 hb (by decide) rfl
theorem TwoQ.below2 {w W W' : World} {n : Nat} {A : Option Addr} {l c : Nat} (h : TwoQ w W n A l c) (hb : Below (w.heap.size + 2) W W') : TwoQ w W' n A l c := by
  have hs := h.hs
  have k : ∀ p, p < w.heap.size + 2 → W'.heap[p]? = W.heap[p]? := fun p hp => hb.block p (by omega)
  exact ⟨(World.cell?_of_block (a := ⟨w.heap.size, 0, none⟩) (k _ (by show w.heap.size < _; omega))).trans h.a0, (World.cell?_of_block (a := ⟨w.heap.size, 1, none⟩) (k _ (by show w.heap.size < _; omega))).trans h.a1, fun i => (World.frozen?_of_block (a := ⟨w.heap.size, i, none⟩) (k _ (by show w.heap.size < _; omega))).trans (h.af i),
    (World.cell?_of_block (a := ⟨w.heap.size + 1, 0, none⟩) (k _ (by show w.heap.size + 1 < _; omega))).trans h.d0, (World.cell?_of_block (a := ⟨w.heap.size + 1, 1, none⟩) (k _ (by show w.heap.size + 1 < _; omega))).trans h.d1, fun i => (World.frozen?_of_block (a := ⟨w.heap.size + 1, i, none⟩) (k _ (by show w.heap.size + 1 < _; omega))).trans (h.df i), Nat.le_trans hs hb.size, h.bw.trans (hb.mono (by omega))⟩
set_option maxHeartbeats 4000000 in
theorem rpush_any {w : World} {hi n : Nat} {Q : QL} {v : Value} (h : RefQ w hi n Q v) (hh : hi ≤ w.heap.size) (id k : Int) :
    Calls Try.prog 44 #[v, .int .i64 id, .int .i64 k] w (RAct w hi n (qPush n Q id k).2 (qPush n Q id k).1) := by
  have HRQ := Kept.mk h
  obtain ⟨⟨A, c, rfl, hR, hA⟩, hl, hn⟩ := h
  have HR := Kept.mk (fun (W : World) (hb : Below w.heap.size w W) => hR.below hb)
  have HA := Kept.mk hA
  clear hA
  have hll : (Q.length : Int) ≤ 4096 := by omega
  have hnn : (n : Int) ≤ 4096 := by omega
  obtain ⟨i0, hi0, hz0, hz1, hz2⟩ := info_parts info_one
  go_enter Try.func44, Try.ntmps44
  go_wp2_with fail
  obtain ⟨W1, hW1⟩ : ∃ W1, W1 = (w.alloc (.cells #[.int .i64 (n : Int), .slice A Q.length c] 69)).alloc (.cells #[.int .i64 0, .slice none 0 0] 69) := ⟨_, rfl⟩
  obtain ⟨f1, f2, f3, f4, f5⟩ := two_new (w := w) (w1 := W1) (by rw [hW1]; exact Below.refl _ _)
  have f7 : ∀ i, W1.frozen? ⟨w.heap.size, i, none⟩ = false := fun i => by
    have hb : Below (w.alloc (.cells #[.int .i64 (n : Int), .slice A Q.length c] 69)).heap.size (w.alloc (.cells #[.int .i64 (n : Int), .slice A Q.length c] 69)) W1 := by rw [hW1]; exact below_box _ _
    exact box_free hb i
  have HX := Kept.mk (show TwoQ w W1 n A Q.length c from ⟨f1 0 _ rfl, f1 1 _ rfl, f7, f2 0 _ rfl, f2 1 _ rfl, f3, f4, f5⟩)
  rw [← hW1]
  clear hW1 f1 f2 f3 f4 f5 f7 hR
  refine (rprio_any k _).mono ?_
  rintro e w2 ⟨rfl, rfl⟩
  by_cases hk : ¬ (0 ≤ k ∧ k < 64)
  · have e : qPush n Q id k = (1, Q) := by unfold qPush; rw [if_pos hk]
    rw [decide_eq_false hk]
    obtain ⟨a0, a1, af, d0, d1, df, hs, hbw⟩ := HX.out
    have hs1 : w.heap.size + 1 < _ := hs
    have hs0 : w.heap.size < _ := Nat.lt_of_succ_lt hs1
    go_wp2
    refine bodyPost_ret (results_que rfl _ _ (w.heap.size + 1) (.int .i64 (n : Int)) (.slice A Q.length c) (.int .i64 1) rfl rfl (by go_simp) (by go_simp)) rfl ?_
    rw [e]
    have hb := HX.out.bw.trans (set_far2 (b := w.heap.size + 1) (i := 0) (j := 1) (Nat.le_succ _) (.int .i64 (n : Int)) (.slice A Q.length c))
    exact ⟨_, rfl, HRQ.out.below hb, hb⟩
  have hk := Classical.not_not.1 hk
  rw [decide_eq_true hk]
  obtain ⟨j, rfl⟩ : ∃ j : Nat, k = j := ⟨k.toNat, by omega⟩
  obtain ⟨a0, a1, af, d0, d1, df, hs, hbw⟩ := HX.out
  have hs1 : w.heap.size + 1 < _ := hs
  have hs0 : w.heap.size < _ := Nat.lt_of_succ_lt hs1
  go_wp2_with fail
  refine (rfind_any (hi := hi) (HRQ.out.below HX.out.bw) id).mono ?_
  rintro e w2 ⟨a, b, rfl, hb2⟩
  have HX2 := Kept.mk (HX.out.below hb2)
  clear hb2 a0 a1 af d0 d1 df hs hbw hs1 hs0
  by_cases hm : id ∈ Q.ids
  · have e : qPush n Q id j = (4, Q) := by unfold qPush; rw [if_neg (by simpa using hk), if_pos hm]
    rw [decide_eq_true hm]
    obtain ⟨a0, a1, af, d0, d1, df, hs, hbw⟩ := HX2.out
    have hs1 : w.heap.size + 1 < _ := hs
    have hs0 : w.heap.size < _ := Nat.lt_of_succ_lt hs1
    go_wp2
    refine bodyPost_ret (results_que rfl _ _ (w.heap.size + 1) (.int .i64 (n : Int)) (.slice A Q.length c) (.int .i64 4) rfl rfl (by go_simp) (by go_simp)) rfl ?_
    rw [e]
    have hb := (HX2.out.bw.trans (set_far2 (b := w.heap.size + 1) (i := 0) (j := 1) (Nat.le_succ _) (.int .i64 (n : Int)) (.slice A Q.length c))).alloc (by simp; omega) (.cells #[.int .i64 a, .int .i64 b] 77)
    exact ⟨_, rfl, HRQ.out.below hb, hb⟩
  rw [decide_eq_false hm]
  by_cases hf : n ≤ Q.length
  · have e : qPush n Q id j = (5, Q) := by unfold qPush; rw [if_neg (by simpa using hk), if_neg hm, if_pos hf]
    have hf2 : (n : Int) ≤ (Q.length : Int) := by omega
    obtain ⟨a0, a1, af, d0, d1, df, hs, hbw⟩ := HX2.out
    have hs1 : w.heap.size + 1 < _ := hs
    have hs0 : w.heap.size < _ := Nat.lt_of_succ_lt hs1
    go_wp2
    refine bodyPost_ret (results_que rfl _ _ (w.heap.size + 1) (.int .i64 (n : Int)) (.slice A Q.length c) (.int .i64 5) rfl rfl (by go_simp) (by go_simp)) rfl ?_
    rw [e]
    have hb := (HX2.out.bw.trans (set_far2 (b := w.heap.size + 1) (i := 0) (j := 1) (Nat.le_succ _) (.int .i64 (n : Int)) (.slice A Q.length c))).alloc (by simp; omega) (.cells #[.int .i64 a, .int .i64 b] 77)
    exact ⟨_, rfl, HRQ.out.below hb, hb⟩
  · have e : qPush n Q id j = (0, Q ++ [(id, j)]) := by unfold qPush; rw [if_neg (by simpa using hk), if_neg hm, if_neg hf]; rfl
    have hf2 : ¬ (n : Int) ≤ (Q.length : Int) := by omega
    have hb25 := below_box w2 (.cells #[.int .i64 a, .int .i64 b] 77)
    have hb26 := below_box (w2.alloc (.cells #[.int .i64 a, .int .i64 b] 77)) (.cells #[] 77)
    have HX3 := Kept.mk ((HX2.out.below hb25).below hb26)
    have HQ3 := Kept.mk (HR.out _ HX3.out.bw)
    clear hb25 hb26
    obtain ⟨a0, a1, af, d0, d1, df, hs, hbw⟩ := HX2.out
    have hs1 : w.heap.size + 1 < _ := hs
    have hs0 : w.heap.size < _ := Nat.lt_of_succ_lt hs1
    go_wp2_with (first
      | (at_builtin; refine wpList_app2 rfl _ _ 67 rfl (w.heap.size + 2) 77 i0 (.agg #[.int .i64 0, .int .i64 0]) 16 Try.underlying67 hi0 hz0 hz1 hz2 rfl (by decide) _ 0 [] rfl (own_made2 (w2.alloc (.cells #[.int .i64 a, .int .i64 b] 77)) _ (by simp) (by omega)) A Q c hi rfl HQ3.out HA.out (by omega) (HX3.out.hs) ?_; intro v5 w5 own5 bl5; have own5' : w5.ownsRow (w.heap.size + 2) 77 2 v5 Q.length (Q.flatMap qcells) := (Nat.zero_add Q.length) ▸ own5; clear own5; have own5 := own5'; clear own5'; obtain ⟨A5, c5, rfl⟩ := own_slice own5; have HX5 := Kept.mk (HX3.out.below2 bl5); have HO5 := Kept.mk own5; clear own5 bl5; obtain ⟨a0, a1, af, d0, d1, df, hs, hbw⟩ := HX5.out; have hs1 : w.heap.size + 1 < w5.heap.size := hs; have hs0 : w.heap.size < w5.heap.size := Nat.lt_of_succ_lt hs1)
      | (at_builtin; refine wpList_append_own _ rfl _ _ 67 rfl (w.heap.size + 2) 77 i0 (.agg #[.int .i64 0, .int .i64 0]) 2 16 Try.underlying67 hi0 hz0 hz1 hz2 rfl (by decide) _ _ _ rfl (HO5.out.alloc _) ⟨w5.heap.size, 0, none⟩ 1 1 [.int .i64 id, .int .i64 (j : Int)] rfl rfl (cell_two_at _ _ _ _ _ rfl) (by simp [Value.oneCell']) (by simp only [maxLen]; omega) (by omega) (by simp; omega) ?_; intro v6 w6 own6 hgrow _; obtain ⟨A6, c6, rfl⟩ := own_slice own6; have HX6 := Kept.mk ((HX5.out.below (below_box w5 (.cells #[.int .i64 id, .int .i64 (j : Int)] 77))).below2 ((Below.refl _ _).grown hgrow (by simp; omega) fun k hk => (HO5.out.lt k hk).1)); have HO6 := Kept.mk own6; clear own6 hgrow; obtain ⟨a0, a1, af, d0, d1, df, hs, hbw⟩ := HX6.out; have hs1 : w.heap.size + 1 < w6.heap.size := hs; have hs0 : w.heap.size < w6.heap.size := Nat.lt_of_succ_lt hs1))
    have hlen : (Q ++ [(id, j)]).length = Q.length + 1 := by rw [List.length_append]; rfl
    have own5 := own_set (o := 1) HO6.out (show w.heap.size < w.heap.size + 2 by omega) (.slice A6 (Q.length + 1) c6)
    have bw5 := HX6.out.bw.setCell (p := ⟨w.heap.size, 1, none⟩) (Nat.le_refl w.heap.size) (.slice A6 (Q.length + 1) c6)
    have hcs : Q.flatMap qcells ++ [Value.int .i64 id, .int .i64 (j : Int)] = (Q ++ [(id, j)]).flatMap qcells := by rw [List.flatMap_append]; rfl
    rw [hcs] at own5
    have hfin := act_own (a := 0) (n := n) (Q := Q ++ [(id, j)]) (A := A6) (c := c6) (base := w.heap.size + 2) hh bw5 (by rw [hlen]; exact own5) (Nat.le_refl _) hn (by
      rw [hlen]
      omega)
    rw [hlen] at hfin
    clear own5 bw5 hcs
    refine bodyPost_ret (results_que rfl _ _ (w.heap.size + 1) (.int .i64 (n : Int)) (.slice A6 (Q.length + 1) c6) (.int .i64 0) rfl rfl (by go_simp) (by go_simp)) rfl ?_
    rw [e]
    exact hfin
end Go.Proofs.Ytcchmkpodfjhcaa
