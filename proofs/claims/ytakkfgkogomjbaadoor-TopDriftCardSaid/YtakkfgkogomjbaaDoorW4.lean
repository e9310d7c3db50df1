/-
  The wheel: the walk of drop.
-/
import Derived.Test.YtakkfgkogomjbaaDoorW3
namespace Go.Proofs.YtakkfgkogomjbaaDoor
open Go.RowKit Go.Shelf Go.Maps Go.ChangeMaps Go.WideShapes Go.WideElems
set_option linter.unusedVariables false
theorem only_of_turned {w w' : World} {M : Nat} (h : w.mapTurned w' M) : Only w w' M := by
  obtain ⟨es, clock, es', clock', h1, rfl⟩ := h
  exact (block_set w M _ (by rcases Nat.lt_or_ge M w.heap.size with h | h; exact h; rw [Array.getElem?_eq_none h] at h1; cases h1)).1
theorem map_drop {w : World} {M N : Nat} {f : Int → Option Nat} (h : MapIs w M (N + 1) f) {id : Int} (hid : (Lit.int .i64 id).wf = true) {x : Nat} (hf : f id = some x) (ty : TypeId) :
    ∃ w', (Builtin.delete_ #[90, 3] ty #[.map (some M), .int .i64 id]).run Tryd.prog w = .ok (.tuple #[]) w' ∧ Only w w' M ∧ MapIs w' M N (fun a => if a = id then none else f a) := by
  obtain ⟨D, hown, hsz, h3⟩ := h
  obtain ⟨w', hrun, hown', ht⟩ := hown.drop keyInt Tryd.underlying90 (keyOf_int_mk Tryd.underlying3 hid) ty
  exact ⟨w', hrun, only_of_turned ht, MapIs.del hown hsz h3 hid hf hown'⟩
theorem wh_inW {n : Nat} {S : PS} {F G : Nat → Int} (hg : Good n 258 S F G) {q x : Nat} (hq : q < 258) (hx : x ∈ S.list (q : Int)) : x < n ∧ wh n S x = ((q : Int), (0 : Int)) := by
  obtain ⟨h1, _, _, h2⟩ := hg.list hq
  have hxn := h2 x hx
  refine ⟨hxn, ?_⟩
  unfold wh
  rw [if_neg (by omega)]
  have : S.loc x = some q := hg.rep.loc h1 hx
  rw [show ((x : Int)).toNat = x from by omega, this]
theorem filter_len {α : Type} (g : α → Int) : ∀ {A : List α}, (A.map g).Nodup → ∀ {t : α}, t ∈ A → (A.filter fun u => decide (g u ≠ g t)).length + 1 = A.length
  | [], _, t, h => by cases h
  | b :: r, hn, t, h => by
    rw [List.map_cons, List.nodup_cons] at hn
    rcases List.mem_cons.1 h with rfl | h
    · rw [List.filter_cons_of_neg (by simp), List.filter_eq_self.2 (fun u hu => by
        simp only [decide_eq_true_eq]; intro e; exact hn.1 (by rw [← e]; exact List.mem_map_of_mem hu)), List.length_cons]
    · rw [List.filter_cons_of_pos (by simp only [decide_eq_true_eq]; intro e; exact hn.1 (by rw [e]; exact List.mem_map_of_mem h)), List.length_cons, List.length_cons, filter_len g hn.2 h]
theorem give_list {S : PS} {x : Nat} (q : Nat) : (S.give x).list (q : Int) = (S.list (q : Int)).filter fun y => decide (y ≠ x) := list_outq S x q
theorem WK.uniq {w : World} {lo hi wb I M p L K n : Nat} {S : PS} {T : Nat → Tm} {f : Int → Option Nat} {F : Nat → Nat} {now tu : Int} {A : List Tm} {X : List Nat} (h : WK w lo hi wb I M p L K n S T f F now tu A X) {q r x y : Nat} (hq : q < 258) (hr : r < 258) (hx : x ∈ S.list (q : Int)) (hy : y ∈ S.list (r : Int)) (e : (T x).id = (T y).id) : x = y := by
  have h1 := (h.fi (T x).id x).2 ⟨q, hq, hx, rfl⟩
  have h2 := (h.fi (T y).id y).2 ⟨r, hr, hy, rfl⟩
  rw [e, h2] at h1
  injection h1 with h1
  exact h1.symm
theorem WK.give {w w' : World} {lo hi wb I M p L K n : Nat} {S : PS} {T : Nat → Tm} {f : Int → Option Nat} {F : Nat → Nat} {now tu : Int} {A : List Tm} (h : WK w lo hi wb I M p L K n S T f F now tu A []) {q x : Nat} (hq : q < 258) (hx : x ∈ S.list (q : Int))
    (hh : hi ≤ w'.heap.size) (hp : PoolAt w' lo (lo + 3) p L K n 258 (S.give x)) (hc : WC w' wb now tu p I M n F) (hn : NB w' I (n * 3) (tmN T)) (hm : MapIs w' M (A.filter fun t => decide (t.id ≠ (T x).id)).length (fun a => if a = (T x).id then none else f a)) :
    WK w' lo hi wb I M p L K n (S.give x) T (fun a => if a = (T x).id then none else f a) F now tu (A.filter fun t => decide (t.id ≠ (T x).id)) [q] := by
  have co := h.co
  have hTx := co.mem q hq x hx
  refine ⟨h.ly, hh, hp, hc, hn, hm, ⟨?_, fun r hr y hy => ?_, fun t ht => ?_, ?_, fun t ht => co.du t (List.mem_filter.1 ht).1, co.tn.filter _, fun t ht => co.tu t (List.mem_filter.1 ht).1⟩, fun a y => ?_, h.fl, fun l i hl hi hne => ?_, h.n0, h.n1, h.t0, h.t1⟩
  · have := filter_len Tm.id co.ids hTx
    have := co.len
    show (S.pile ++ [x]).length + _ = n
    rw [List.length_append, List.length_singleton]
    omega
  · rw [give_list] at hy
    obtain ⟨h1, h2⟩ := List.mem_filter.1 hy
    exact List.mem_filter.2 ⟨co.mem r hr y h1, by
      simp only [decide_eq_true_eq] at h2 ⊢
      exact fun e => h2 (h.uniq hr hq h1 hx e)⟩
  · obtain ⟨h1, h2⟩ := List.mem_filter.1 ht
    obtain ⟨r, hr, y, hy, e⟩ := co.all t h1
    refine ⟨r, hr, y, ?_, e⟩
    rw [give_list]
    refine List.mem_filter.2 ⟨hy, ?_⟩
    simp only [decide_eq_true_eq] at h2 ⊢
    rintro rfl
    exact h2 (by rw [e])
  · exact co.ids.sublist (List.filter_sublist.map _)
  · constructor
    · intro e
      split at e
      · cases e
      · rename_i ha
        obtain ⟨r, hr, hy, e2⟩ := (h.fi a y).1 e
        refine ⟨r, hr, ?_, e2⟩
        rw [give_list]
        refine List.mem_filter.2 ⟨hy, ?_⟩
        simp only [decide_eq_true_eq]
        rintro rfl
        exact ha e2.symm
    · rintro ⟨r, hr, hy, rfl⟩
      rw [give_list] at hy
      obtain ⟨h1, h2⟩ := List.mem_filter.1 hy
      simp only [decide_eq_true_eq] at h2
      rw [if_neg fun e => h2 (h.uniq hr hq h1 hx e)]
      exact (h.fi _ y).2 ⟨r, hr, h1, rfl⟩
  · rw [h.bi l i hl hi (by simp), give_list]
    obtain ⟨F', G', _, hG⟩ := h.pa.of
    have hxq : x ∉ S.list ((l * 64 + i : Nat) : Int) := fun h2 => by
      obtain ⟨g1, _⟩ := hG.list (k := l * 64 + i) (by omega)
      obtain ⟨g2, _⟩ := hG.list hq
      have := (hG.rep.one g1 g2 h2 hx).1
      simp at hne
      omega
    rw [filter_notin hxq]
theorem pl_give {S : PS} {T : Nat → Tm} {now : Int} (h : Pl S T now) (x : Nat) : Pl (S.give x) T now := fun q hq y hy => by
  rw [give_list] at hy
  exact h q hq y (List.mem_filter.1 hy).1
set_option maxHeartbeats 4000000 in
set_option maxRecDepth 100000 in
theorem wdrop_any {w : World} {lo hi wb I M p L K n : Nat} {S : PS} {T : Nat → Tm} {f : Int → Option Nat} {F : Nat → Nat} {now tu : Int} {A : List Tm} (h : WK w lo hi wb I M p L K n S T f F now tu A []) {q x : Nat} (hq : q < 258) (hx : x ∈ S.list (q : Int)) (hid : (Lit.int .i64 (T x).id).wf = true) :
    Calls Tryd.prog 47 #[.pointer (some ⟨wb, 0, none⟩), .int .i64 (x : Int)] w (fun e w' => e = .returned (.tuple #[]) ∧ Kp lo hi w w' ∧ ∃ F', WK w' lo hi wb I M p L K n (S.give x) T (fun a => if a = (T x).id then none else f a) F' now tu (A.filter fun t => decide (t.id ≠ (T x).id)) []) := by
  obtain ⟨F0, G0, _, hG⟩ := h.pa.of
  obtain ⟨hxn, hw⟩ := wh_inW hG hq hx
  have HW := pwhere h.pa x
  rw [hw] at HW
  have HT := give_any h.pa x
  have eg : gv n S x = (0, S.give x) := by unfold gv; rw [hw]; rfl
  rw [eg] at HT
  have HK := Kept.mk h
  have HX := Kept.mk hx
  have hly := h.ly
  obtain ⟨c0, c1, c2, c3, c4, c5, c6, c7, c8, wf⟩ := h.wc
  have hTx := h.co.mem q hq x hx
  have hfl := filter_len Tm.id h.co.ids hTx
  obtain ⟨A', hA'⟩ : ∃ A', A' = A.filter fun t => decide (t.id ≠ (T x).id) := ⟨_, rfl⟩
  have HA' := Kept.mk hA'
  rw [← hA'] at hfl ⊢
  have hf := (h.fi (T x).id x).2 ⟨q, hq, hx, rfl⟩
  have HFI := Kept.mk hf
  have HFL := Kept.mk hfl
  obtain ⟨idx, hidx⟩ : ∃ idx, idx = (T x).id := ⟨_, rfl⟩
  have HIX := Kept.mk hidx
  rw [← hidx] at hid ⊢
  have hn4 : n ≤ 4096 := h.pa.nb
  clear h hG hw hx eg hTx hfl hA' hf hidx
  go_enter Tryd.func47, Tryd.ntmps47
  go_wp2_with (go_at_call 71; refine (HW).mono ?_; rintro e w' ⟨rfl, rfl⟩)
  refine HT.mono ?_
  rintro e w1 ⟨rfl, hp1, hk1⟩
  obtain ⟨g1, g2, g3⟩ := HK.out.after hk1
  have HP1 := Kept.mk hp1
  have HK1 := Kept.mk hk1
  have HG1 := Kept.mk g1
  have HG2 := Kept.mk g2
  have g3d : MapIs w1.drew M (A'.length + 1) f := by rw [HFL.out]; exact g3.kept rfl
  obtain ⟨w2, m1, ho2, hm2⟩ := map_drop g3d hid (by rw [HIX.out]; exact HFI.out) 0
  have HM2 := Kept.mk hm2
  have HO2 := Kept.mk ho2
  have k0 : w1.cell? ⟨I, x * 3, none⟩ = some (.int .i64 idx) := by rw [HIX.out, ← tmN_0]; exact g2.c (x * 3) (by omega)
  clear c0 c1 c2 c3 c4 c5 c6 c7 c8 wf HW HT hp1 hk1 g2 g3 g3d ho2 hm2
  obtain ⟨c0, c1, c2, c3, c4, c5, c6, c7, c8, wf⟩ := g1
  have hxn3 : (x : Int) < (n : Int) := by omega
  go_upto_region 2 with fail
  go_region
  have hz2 : w2.heap.size = w1.heap.size := HO2.out.size
  have b2 : ∀ i, i ≠ M → w2.heap[i]? = w1.heap[i]? := HO2.out.kept
  have hhi : hi ≤ w2.heap.size := by rw [hz2]; exact Nat.le_trans HK.out.hh HK1.out.size
  have h2 := HK.out.give hq HX.out (w' := w2) hhi (HP1.out.keptW (by omega) fun i hi => b2 i (by have := hly.m1; omega)) (HG1.out.kept (b2 _ hly.wm)) (HG2.out.kept (b2 _ hly.im)) (by rw [← HA'.out, ← HIX.out]; exact HM2.out)
  rw [← HA'.out, ← HIX.out] at h2
  have K2 := Kept.mk (show Kp lo hi w w2 from (HK1.out.wide hly.lh).trans ⟨HO2.out.os, HO2.out.tape, HO2.out.output, by omega, fun i _ h2 => b2 i (by have := hly.m1; have := hly.m2; omega)⟩)
  have HN := wnote_any h2.pa h2.wc h2.fl q
  have H2 := Kept.mk h2
  clear hz2 b2 hhi h2 m1 c0 c1 c2 c3 c4 c5 c6 c7 c8 wf k0
  go_wp2_with fail
  refine HN.mono ?_
  intro e w3 hn
  obtain ⟨rfl, hk3, F3, h3⟩ := H2.out.note (Y := []) (fun y hy => .inl (List.mem_singleton.1 hy)) hn
  have H3 := Kept.mk h3
  have K3 := Kept.mk hk3
  clear hn h3 hk3
  go_wp2
  refine bodyPost_end (results_none rfl _ _ _) rfl ⟨rfl, K2.out.trans K3.out, F3, H3.out⟩
end Go.Proofs.YtakkfgkogomjbaaDoor
