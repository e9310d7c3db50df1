/-
  The walk of the plan's goes.
-/
import Derived.Test.YtcchmkpodfjhcaaM4
namespace Go.Proofs.Ytcchmkpodfjhcaa
open Go.RowKit
set_option linter.unusedVariables false
theorem grow_blockQ {a w' : World} {v : Value} {base n sz b : Nat} {e : TypeId} {xs : List Value} (hg : a.grownBy w' v.ownBlock) (hown : a.ownsRow base e sz v n xs) (hb : b < base) (hs : b < a.heap.size) : w'.heap[b]? = a.heap[b]? :=
  (Below.refl (b + 1) a).grown hg (by omega) (fun k hk => Nat.le_trans hb (hown.lt k hk).1) |>.block b (Nat.lt_succ_self b)
theorem cell_farQ {w : World} {p : Addr} {b o : Nat} (v : Value) (h : b ≠ p.block) : (w.setCell p v).cell? ⟨b, o, none⟩ = w.cell? ⟨b, o, none⟩ := World.cell?_of_block (a := ⟨b, o, none⟩) (Below.heap_setCell _ _ _ _ h)
theorem frozen_farQ {w : World} {p : Addr} {b o : Nat} (v : Value) : (w.setCell p v).frozen? ⟨b, o, none⟩ = w.frozen? ⟨b, o, none⟩ := World.frozen?_setCell _ _ _ _
def Gone (w : World) (y : PLy) (A : Option Addr) (xs : List Q3) (cap : Nat) (D : Nat → Nat) (k : Nat) (st : Sch) (e : Ending) (w' : World) : Prop :=
  e = .returned (.tuple #[]) ∧ PM w w' y A xs cap D k st ∧ PQ40 w' y xs.length (Qs (pcs xs) D st.left k)
set_option maxRecDepth 100000 in
set_option maxHeartbeats 30000000 in
theorem goes_any {w W : World} {y : PLy} {A : Option Addr} {xs : List Q3} {cap k : Nat} {D : Nat → Nat} {st : Sch} (hw : Wk y xs D) (h : PM w W y A xs cap D k st) (hq : PQ40 W y xs.length (Qs (pcs xs) D st.left k)) (hk : k ≤ xs.length) (hbl : st.busy.length ≤ 4096)
    {i n : Nat} (hi : i < xs.length) (hin : ∃ j, j < k ∧ D j = i) (h0 : 0 < n) (hn : n ≤ st.left i) (hlb : st.left i ≤ 1099511627776) (hnow : st.now + n ≤ 9007199254740992) :
    Calls Try.prog 111 #[.pointer (some ⟨y.pb, 0, none⟩), .int .i64 (i : Int), .int .i64 (n : Int)] W (Gone w y A xs cap D k (go st i n)) := by
  have HW := Kept.mk hw
  have HP := Kept.mk h
  have HQ := Kept.mk hq
  have HIN := Kept.mk hin
  have hlen := hw.len
  have hnhi : (n : Int) ≤ 9007199254740992 := by omega
  obtain ⟨t0, ht0⟩ : ∃ t0, t0 = st.now := ⟨_, rfl⟩
  obtain ⟨t1, ht1⟩ : ∃ t1, t1 = st.now + n := ⟨_, rfl⟩
  have hnw : (t0 : Int) + (n : Int) = (t1 : Int) := by omega
  have ht1b : (t1 : Int) ≤ 9007199254740992 := by omega
  have ht0b : (t0 : Int) ≤ 9007199254740992 := by omega
  obtain ⟨Ac, cc, Al, cl, Ab, cb, hb, h1, h2, h3⟩ := h.box
  have c5 := cell_of_row _ _ 5 _ _ _ hb
  have c6 := cell_of_row _ _ 6 _ _ _ hb
  have fz : ∀ i, W.frozen? ⟨y.pb, i, none⟩ = false := fun i => frozen_of_row _ _ i _ _ hb
  simp only [List.getElem?_toArray, List.getElem?_cons_zero, List.getElem?_cons_succ] at c5 c6
  obtain ⟨i0, hi0, hz0, hz1, hz2⟩ := info_parts info_ivl
  have H3 := Kept.mk h3
  have C5 := Kept.mk c5
  have HB := Kept.mk hb
  clear hw h hq hin h1 h2 h3 hb
  have hcut1 : st.busy = [] ∨ ∃ b f t, st.busy = b ++ [(f, t)] := by
    rcases List.eq_nil_or_concat st.busy with e | ⟨b, x, e⟩
    · exact .inl e
    · exact .inr ⟨b, x.1, x.2, by rw [e, List.concat_eq_append]⟩
  obtain ⟨nb, hnb⟩ : ∃ nb, nb = st.busy.length := ⟨_, rfl⟩
  rw [← hnb] at c5 hbl
  rw [← ht0] at c6
  have HT0 := Kept.mk ht0
  have HT1 := Kept.mk ht1
  obtain ⟨z, hz⟩ : ∃ z : Int, z = (nb : Int) - 1 := ⟨_, rfl⟩
  have e6 : (nb : Int) - 1 = z := hz.symm
  obtain ⟨bb, hbb⟩ : ∃ bb : Bool, bb = true ↔ ∃ b f, st.busy = b ++ [(f, st.now)] := by
    by_cases hc : ∃ b f, st.busy = b ++ [(f, st.now)]
    · exact ⟨true, fun _ => hc, fun _ => rfl⟩
    · exact ⟨false, fun h => (by cases h), fun h => absurd h hc⟩
  have HBB := Kept.mk hbb
  have HNB := Kept.mk hnb
  have HZ := Kept.mk hz
  have HC1 := Kept.mk hcut1
  -- the last stretch, in memory
  have LAST := Kept.mk (fun (b : List (Nat × Nat)) (f t : Nat) (e : st.busy = b ++ [(f, t)]) => show ∃ g cb', Ab = some ⟨g, 0, none⟩ ∧ y.hi ≤ g ∧ nb = b.length + 1 ∧ W.cell? ⟨g, b.length * 2 + 1, none⟩ = some (.int .i64 (t : Int)) ∧ (∀ j, W.frozen? ⟨g, j, none⟩ = false) from by
    have hl : st.busy.length = b.length + 1 := by rw [e, List.length_append]; rfl
    obtain ⟨g, cap', e1, e2, e3⟩ := H3.out.form (by omega)
    have e4 : Ab = some ⟨g, 0, none⟩ := by injection e1
    have h3' := H3.out
    rw [e4] at h3'
    refine ⟨g, cb, e4, e2, by omega, ?_, fun j => h3'.frozenAt j⟩
    rw [h3'.cellAt (b.length * 2 + 1) (by omega), e, ivC_snoc, List.getElem?_append_right (by rw [ivC_len]; omega), ivC_len]
    simp)
  clear hbb hz hnb hcut1 ht0 ht1 hnow
  go_enter Try.func111, Try.ntmps111
  go_upto_region 1 with fail
  go_cut [29] from 13 to 29 (fun s wx => s = .bool bb ∧ ∃ m, wx = W.drewN m)
  case first =>
    rcases HC1.out with hnil | ⟨b, f, t, hbt⟩
    · have hz1 : decide ((0 : Int) ≤ z) = false := decide_eq_false (by have := HZ.out; have := HNB.out; rw [hnil] at this; simp at this; omega)
      have HF := Kept.mk (show bb = false by
        cases hb : bb with
        | false => rfl
        | true => obtain ⟨b, f, e⟩ := HBB.out.1 hb; rw [hnil] at e; simp at e)
      clear hnil
      go_wp2_with fail
      go_quiet (fail)
      go_wp2
      go_meet
      exact ⟨by rw [HF.out], _, rfl⟩
    · obtain ⟨g, cb', rfl, hg, hnb1, hcell, hfz⟩ := LAST.out b f t hbt
      obtain ⟨p, hp⟩ : ∃ p, p = b.length := ⟨_, rfl⟩
      rw [← hp] at hcell hnb1
      have hzp : z = (p : Int) := by have := HZ.out; omega
      have hpn : (p : Int) < (nb : Int) := by omega
      subst hzp
      have HP1 := Kept.mk hp
      by_cases htn : t = t0
      · have HF := Kept.mk (show bb = true from HBB.out.2 ⟨b, f, by rw [hbt, htn, HT0.out]⟩)
        have htn' : ((t : Int) == (t0 : Int)) = true := by simp; omega
        have htn2 : (t == t0) = true := by simp [htn]
        clear hp hnb1 hbt htn
        go_wp2_with fail
        go_quiet (fail)
        go_wp2
        go_meet
        exact ⟨by rw [HF.out], _, rfl⟩
      · have HF := Kept.mk (show bb = false by
          cases hb : bb with
          | false => rfl
          | true =>
            obtain ⟨b', f', e⟩ := HBB.out.1 hb
            rw [hbt] at e
            have := (List.append_inj' e rfl).2
            simp at this
            have := HT0.out
            omega)
        have htn' : ((t : Int) == (t0 : Int)) = false := by simp; omega
        have htn2 : (t == t0) = false := by simp [htn]
        clear hp hnb1 hbt htn
        go_wp2_with fail
        go_quiet (fail)
        go_wp2
        go_meet
        exact ⟨by rw [HF.out], _, rfl⟩
  case rest =>
    obtain ⟨rfl, m, hwc⟩ := hcut
    have HP1 := Kept.mk (show PM w wc y A xs cap D k st by rw [hwc]; exact HP.out.drewN m)
    have HQ1 := Kept.mk (show PQ40 wc y xs.length (Qs (pcs xs) D st.left k) by rw [hwc]; exact HQ.out.drewN m)
    have b5 : wc.cell? ⟨y.pb, 5, none⟩ = some (.slice Ab nb cb) := by rw [hwc]; exact c5
    have b6 : wc.cell? ⟨y.pb, 6, none⟩ = some (.int .i64 (t0 : Int)) := by rw [hwc]; exact c6
    have bfz : ∀ i, wc.frozen? ⟨y.pb, i, none⟩ = false := by rw [hwc]; exact fz
    have HO1 := Kept.mk (show wc.ownsRow y.hi 110 2 (.slice Ab nb cb) nb (ivC st.busy) by rw [hwc, HNB.out]; exact H3.out)
    have LAST1 := Kept.mk (fun (b : List (Nat × Nat)) (f t : Nat) (e : st.busy = b ++ [(f, t)]) => show ∃ g cb', Ab = some ⟨g, 0, none⟩ ∧ y.hi ≤ g ∧ nb = b.length + 1 ∧ wc.cell? ⟨g, b.length * 2 + 1, none⟩ = some (.int .i64 (t : Int)) ∧ (∀ j, wc.frozen? ⟨g, j, none⟩ = false) from by rw [hwc]; exact LAST.out b f t e)
    clear hwc c5 c6 fz LAST HP HQ H3 C5 HB
    go_upto_if 29 with fail
    go_cut [6] from 30 to 61 (fun s wx => s = .int .i64 z ∧ PM w wx y A xs cap D k { st with busy := ext st.busy st.now n } ∧ PQ40 wx y xs.length (Qs (pcs xs) D st.left k))
    case first =>
      cases hb : bb with
      | true =>
        obtain ⟨b, f, hbt⟩ := HBB.out.1 hb
        have HBT := Kept.mk hbt
        obtain ⟨g, cb', rfl, hg, hnb1, hcell, hfz⟩ := LAST1.out b f st.now hbt
        rw [← HT0.out] at hcell
        obtain ⟨p, hp⟩ : ∃ p, p = b.length := ⟨_, rfl⟩
        rw [← hp] at hcell hnb1
        have hzp : z = (p : Int) := by have := HZ.out; omega
        have hpn : (p : Int) < (nb : Int) := by omega
        subst hzp
        have hf := hfz (p * 2 + 1)
        have HP2 := Kept.mk hp
        have HNB1 := Kept.mk hnb1
        subst hb
        clear hp hnb1 hbt hfz
        go_wp2_with fail
        go_meet
        have hgb : Below y.hi wc (wc.setCell ⟨g, p * 2 + 1, none⟩ (.int .i64 (t1 : Int))) := (Below.refl _ _).setCell (p := ⟨g, p * 2 + 1, none⟩) hg _
        have hown := (HO1.out.stored (p * 2 + 1) (.int .i64 (t1 : Int))).1
        have hset : (ivC st.busy).set (p * 2 + 1) (.int .i64 (t1 : Int)) = ivC (ext st.busy st.now n) := by
          rw [HBT.out, ext_same, ivC_snoc, ivC_snoc, List.set_append_right _ _ (by rw [ivC_len, HP2.out]; omega), ivC_len, HP2.out]
          simp [HT1.out]
        rw [hset] at hown
        have hlen2 : (ext st.busy st.now n).length = st.busy.length := by rw [HBT.out, ext_same]; simp
        refine ⟨rfl, ?_, HQ1.out.kp (by simp) fun i h1 h2 => hgb.block _ h2⟩
        refine HP1.out.same HW.out.lo hgb rfl rfl rfl hlen2 fun Ab' cb'' h1 h2 => ?_
        rw [b5] at h2
        cases h2
        rw [← HNB.out]
        exact hown
      | false =>
        subst hb
        have hno : ext st.busy st.now n = st.busy ++ [(t0, t1)] := by
          rw [HT0.out, HT1.out]
          rcases HC1.out with e | ⟨b, f, t, e⟩
          · rw [e]; rfl
          · rw [e]
            refine ext_new b f t st.now n fun e' => ?_
            have := HBB.out.2 ⟨b, f, by rw [e, e']⟩
            cases this
        have HNO := Kept.mk hno
        have HO2 := Kept.mk (show ((wc.alloc (.cells #[.int .i64 (t0 : Int), .int .i64 (t1 : Int)] 110)).drew).ownsRow y.hi 110 2 (.slice Ab nb cb) nb (ivC st.busy) from HO1.out.alloc _)
        have hhi1 : y.hi ≤ wc.heap.size := by
          obtain ⟨_, _, _, _, hk⟩ := HQ1.out.of
          exact hk.hh
        have hpl1 : y.pb < wc.heap.size := HP1.out.lt
        have HH := Kept.mk (show y.hi ≤ ((wc.alloc (.cells #[.int .i64 (t0 : Int), .int .i64 (t1 : Int)] 110)).drew).heap.size by show _ ≤ (wc.alloc _).heap.size; simp; omega)
        have HPL := Kept.mk (show y.pb < ((wc.alloc (.cells #[.int .i64 (t0 : Int), .int .i64 (t1 : Int)] 110)).drew).heap.size by show _ < (wc.alloc _).heap.size; simp; omega)
        have HHI := Kept.mk (show y.pb < y.hi by have := HW.out.lo.b3; have := HW.out.lo.b6; omega)
        have HB5 := Kept.mk (show ((wc.alloc (.cells #[.int .i64 (t0 : Int), .int .i64 (t1 : Int)] 110)).drew).cell? ⟨y.pb, 5, none⟩ = some (.slice Ab nb cb) from ((below_box wc _).cell (p := ⟨y.pb, 5, none⟩) hpl1).trans b5)
        have HF5 := Kept.mk (show ((wc.alloc (.cells #[.int .i64 (t0 : Int), .int .i64 (t1 : Int)] 110)).drew).frozen? ⟨y.pb, 5, none⟩ = false from ((below_box wc _).frozen (p := ⟨y.pb, 5, none⟩) hpl1).trans (bfz 5))
        have HN2 := Kept.mk (show ∀ j u, [Value.int .i64 (t0 : Int), .int .i64 (t1 : Int)][j]? = some u → ((wc.alloc (.cells #[.int .i64 (t0 : Int), .int .i64 (t1 : Int)] 110)).drew).cell? ((⟨wc.heap.size, 0, none⟩ : Addr).add j) = some u from World.news_of_block (cs := #[.int .i64 (t0 : Int), .int .i64 (t1 : Int)]) (heap_alloc_new wc _))
        have wr1 : IntKind.i64.wrap (t1 : Int) = (t1 : Int) := by simp [IntKind.wrap, IntKind.bits, IntKind.signed]; omega
        have wr2 : IntKind.i64.wrap ((t0 : Int) + (n : Int)) = (t1 : Int) := by rw [hnw]; exact wr1
        have ha5 : (wc.alloc (.cells #[.int .i64 (t0 : Int), .int .i64 (t1 : Int)] 110)).cell? ⟨y.pb, 5, none⟩ = some (.slice Ab nb cb) := ((below_box wc _).cell (p := ⟨y.pb, 5, none⟩) hpl1).trans b5
        have FIN := Kept.mk (fun (g5 cap5 : Nat) (w5 : World) (ho : w5.ownsRow y.hi 110 2 (.slice (some ⟨g5, 0, none⟩) (nb + 1) cap5) (nb + 1) (ivC st.busy ++ [.int .i64 (t0 : Int), .int .i64 (t1 : Int)])) (hg : ((wc.alloc (.cells #[.int .i64 (t0 : Int), .int .i64 (t1 : Int)] 110)).drew).grownBy w5 (Value.slice Ab nb cb).ownBlock) => show PM w (w5.setCell ⟨y.pb, 5, none⟩ (.slice (some ⟨g5, 0, none⟩) (nb + 1) cap5)) y A xs cap D k { st with busy := ext st.busy st.now n } ∧ PQ40 (w5.setCell ⟨y.pb, 5, none⟩ (.slice (some ⟨g5, 0, none⟩) (nb + 1) cap5)) y xs.length (Qs (pcs xs) D st.left k) from by
          have hb2 : Below y.hi wc ((wc.alloc (.cells #[.int .i64 (t0 : Int), .int .i64 (t1 : Int)] 110)).drew) := ((Below.refl _ _).alloc hhi1 _).drewN 1
          have hb5 : Below y.hi wc w5 := hb2.grown hg (by have := HH.out; omega) fun j hj => (HO2.out.lt j hj).1
          have hl5 : (ext st.busy st.now n).length = nb + 1 := by rw [hno, HNB.out]; simp
          have e5 : ivC st.busy ++ [.int .i64 (t0 : Int), .int .i64 (t1 : Int)] = ivC (ext st.busy st.now n) := by rw [hno, ivC_snoc]
          rw [e5] at ho
          have hgr := HP1.out.grown (W1 := w5) (st' := { st with busy := ext st.busy st.now n }) HW.out.lo hb5 rfl rfl rfl (A' := some ⟨g5, 0, none⟩) (c' := cap5) (by
            show w5.ownsRow y.hi 110 2 (.slice (some ⟨g5, 0, none⟩) (ext st.busy st.now n).length cap5) (ext st.busy st.now n).length (ivC (ext st.busy st.now n))
            rw [hl5]; exact ho)
          have hgr' : PM w (w5.setCell ⟨y.pb, 5, none⟩ (.slice (some ⟨g5, 0, none⟩) (ext st.busy st.now n).length cap5)) y A xs cap D k { st with busy := ext st.busy st.now n } := hgr
          rw [hl5] at hgr'
          exact ⟨hgr', (HQ1.out.kp hb5.size fun i h1 h2 => hb5.block _ h2).far (p := ⟨y.pb, 5, none⟩) (.inl HW.out.lo.b3) _⟩)
        clear hno hhi1 hpl1
        go_upto_region 3 with fail
        go_region_law (first
          | (refine step_append_lies _ rfl (.tmp 46) (.tmp 58) 88 rfl y.hi 110 i0 (.agg #[.int .i64 0, .int .i64 0]) 2 16 Try.underlying88 hi0 hz0 hz1 hz2 rfl (by decide) (.slice Ab nb cb) nb (ivC st.busy) rfl HO2.out ⟨wc.heap.size, 0, none⟩ 1 1 [.int .i64 (t0 : Int), .int .i64 (t1 : Int)] rfl rfl HN2.out (by simp [Value.oneCell']) (by decide) (by simp only [maxLen]; omega) (by omega) HH.out _ rfl ?_; intro g5 cap5 w5 own5 grow5 _ _; have blk5 := grow_blockQ grow5 HO2.out HHI.out HPL.out; have q5 : w5.cell? ⟨y.pb, 5, none⟩ = some (.slice Ab nb cb) := (World.cell?_of_block (a := ⟨y.pb, 5, none⟩) blk5).trans HB5.out; have f5 : w5.frozen? ⟨y.pb, 5, none⟩ = false := (World.frozen?_of_block (a := ⟨y.pb, 5, none⟩) blk5).trans HF5.out; have HOW5 := Kept.mk own5; have HG5 := Kept.mk grow5; clear own5 grow5 blk5))
        all_goals go_wp2_with fail
        all_goals go_meet
        all_goals exact ⟨rfl, FIN.out _ _ _ HOW5.out HG5.out⟩
    case rest =>
      obtain ⟨rfl, hP2, hQ2⟩ := hcut
      obtain ⟨Ac2, cc2, Al2, cl2, Ab2, cb2, hb2, g1, g2, g3⟩ := hP2.box
      have c2' := cell_of_row _ _ 2 _ _ _ hb2
      have c3' := cell_of_row _ _ 3 _ _ _ hb2
      have c4' := cell_of_row _ _ 4 _ _ _ hb2
      have c6' := cell_of_row _ _ 6 _ _ _ hb2
      have fz2 : ∀ i, wc.frozen? ⟨y.pb, i, none⟩ = false := fun i => frozen_of_row _ _ i _ _ hb2
      simp only [List.getElem?_toArray, List.getElem?_cons_zero, List.getElem?_cons_succ] at c2' c3' c4' c6'
      have hxs0 : 0 < xs.length := by omega
      have hAl := g2 hxs0
      subst hAl
      rw [← HT0.out] at c6'
      have l0 := (hP2.left hxs0).c i hi
      have lf := (hP2.left hxs0).f i
      have df := (hP2.done hxs0).f i
      have d0 := (hP2.done hxs0).c i hi
      obtain ⟨lv, hlv⟩ : ∃ lv, lv = st.left i := ⟨_, rfl⟩
      obtain ⟨dv, hdv⟩ : ∃ dv : Int, dv = if st.left i = 0 then (st.done i : Int) else 0 := ⟨_, rfl⟩
      have l0' : wc.cell? ⟨y.gl, i, none⟩ = some (.int .i64 (lv : Int)) := by rw [hlv]; exact l0
      have d0' : wc.cell? ⟨y.gd, i, none⟩ = some (.int .i64 dv) := by rw [hdv]; exact d0
      obtain ⟨l1, hl1⟩ : ∃ l1, l1 = lv - n := ⟨_, rfl⟩
      have el : (lv : Int) - (n : Int) = (l1 : Int) := by omega
      have lb1 : (l1 : Int) ≤ 1099511627776 := by omega
      have lb2 : (lv : Int) ≤ 1099511627776 := by omega
      have ne1 := (HW.out.lo.c2 hxs0).2.2.1
      have ne2 := (HW.out.lo.c2 hxs0).2.2.2.1
      have ne3 := HW.out.lo.b5
      have ne1' : y.pb ≠ y.gl := fun e => ne1 e.symm
      have ne2' : y.gd ≠ y.gl := fun e => ne2 e.symm
      have ne3' : y.gd ≠ y.pb := fun e => ne3 e.symm
      have ii : (i : Int) < (xs.length : Int) := by omega
      have fz26 := fz2 6
      -- the plan behind the three stores
      have hP3 := hP2.boxed (o := 6) (v := .int .i64 (t1 : Int)) (k' := k) (st' := { st with busy := ext st.busy st.now n, now := t1 }) HW.out.lo rfl rfl ⟨Ac2, cc2, some ⟨y.gl, 0, none⟩, cl2, Ab2, cb2, by rw [block_setQ hb2]; rfl, g1, g2, g3⟩
      have hP4 := hP3.lefted (i := i) (v := l1) HW.out.lo hi (by show st.left i ≠ 0; omega)
      have hQ4 := (hQ2.far (p := ⟨y.pb, 6, none⟩) (.inl HW.out.lo.b3) (.int .i64 (t1 : Int))).far (p := ⟨y.gl, i, none⟩) (.inl (HW.out.lo.c2 hxs0).2.1) (.int .i64 (l1 : Int))
      have HP4 := Kept.mk hP4
      have HQ4 := Kept.mk hQ4
      have HLV := Kept.mk hlv
      have HL1 := Kept.mk hl1
      have hlvb : (lv : Int) ≤ 9007199254740992 ∨ True := .inr trivial
      clear hP2 hQ2 hb2 g1 g2 g3 l0 d0 hlv hdv hl1 hP3 hP4 hQ4 HP1 HQ1 HO1 LAST1 hlvb fz2 b5 b6 bfz
      go_upto_if 87 with fail
      obtain ⟨W4, hW4⟩ : ∃ W4, W4 = (wc.setCell ⟨y.pb, 6, none⟩ (.int .i64 (t1 : Int))).setCell ⟨y.gl, i, none⟩ (.int .i64 (l1 : Int)) := ⟨_, rfl⟩
      have q2 : W4.cell? ⟨y.pb, 2, none⟩ = some (.pointer (some ⟨y.qb, 0, none⟩)) := by rw [hW4, cell_farQ _ ne1', World.cell?_setCell_other _ _ _ _ (by simp)]; exact c2'
      have q4 : W4.cell? ⟨y.pb, 4, none⟩ = some (.slice (some ⟨y.gd, 0, none⟩) xs.length xs.length) := by rw [hW4, cell_farQ _ ne1', World.cell?_setCell_other _ _ _ _ (by simp)]; exact c4'
      have q6 : W4.cell? ⟨y.pb, 6, none⟩ = some (.int .i64 (t1 : Int)) := by rw [hW4, cell_farQ _ ne1']; exact World.cell?_setCell_same' _ _ _ (by rw [c6']; rfl)
      have qd : W4.cell? ⟨y.gd, i, none⟩ = some (.int .i64 dv) := by rw [hW4, cell_farQ _ ne2', cell_farQ _ ne3']; exact d0'
      have qf : W4.frozen? ⟨y.gd, i, none⟩ = false := by rw [hW4, World.frozen?_setCell, World.frozen?_setCell]; exact df
      rw [← hW4] at HP4 HQ4 ⊢
      clear hW4 c2' c3' c4' c6' l0' d0' lf df fz26
      by_cases hl0 : l1 = 0
      · subst hl0
        have hlz : st.left i - n = 0 := by have := HL1.out; have := HLV.out; omega
        have hP5 := HP4.out.doned (i := i) (v := t1) HW.out.lo hi (by show upf st.left i 0 i = 0; exact upf_same _ _ _)
        have hPF : PM w ((W4.setCell ⟨y.gd, i, none⟩ (.int .i64 (t1 : Int))).drew) y A xs cap D k (go st i n) := by
          have := hP5.drewN 1
          have e : (go st i n) = { left := upf st.left i 0, done := upf (upf st.done i 0) i t1, busy := ext st.busy st.now n, now := t1 } := by
            have e1 : upf (upf st.done i 0) i t1 = upf st.done i t1 := by
              funext j; unfold upf; split <;> rfl
            unfold go
            rw [hlz, e1, ← HT1.out]
          rw [e]
          exact this
        have hQ5 : PQ40 ((W4.setCell ⟨y.gd, i, none⟩ (.int .i64 (t1 : Int))).drew) y xs.length (Qs (pcs xs) D st.left k) := (HQ4.out.far (p := ⟨y.gd, i, none⟩) (.inl HW.out.lo.b4) (.int .i64 (t1 : Int))).drewN 1
        have hrem : qRemove (Qs (pcs xs) D st.left k) (i : Int) = (0, Qs (pcs xs) D (go st i n).left k) := by
          have e : (go st i n).left = upf st.left i 0 := by unfold go; rw [hlz]
          rw [e, Qs_rem HW.out.ord hk]
          unfold qRemove
          rw [if_pos]
          obtain ⟨j, j1, j2⟩ := HIN.out
          exact List.mem_map.2 ⟨_, Qs_mem.2 ⟨j, j1, by rw [j2]; omega, rfl⟩, by simp [j2]⟩
        have hcall := remove_at hQ5 (wf_nat' (show i ≤ 4096 by omega)) hrem
        have HPF := Kept.mk hPF
        have HCALL := Kept.mk hcall
        clear hPF hQ5 hcall hrem hP5 HP4 HQ4 hlz
        go_upto_region 7 with fail
        go_region
        all_goals (go_wp2_with fail)
        all_goals (refine HCALL.out.mono ?_)
        all_goals (rintro e w9 ⟨rfl, hQ9, hK9⟩)
        all_goals (have HP9 := Kept.mk (HPF.out.queued HW.out.lo hK9))
        all_goals go_wp2
        all_goals go_end0
        all_goals exact ⟨rfl, HP9.out, hQ9⟩
      · have hlz : st.left i - n ≠ 0 := by have := HL1.out; have := HLV.out; omega
        have hlnz : ((l1 : Int) == 0) = false := by simp; omega
        have hlnz2 : (l1 == 0) = false := by simp [hl0]
        have hPF : PM w W4 y A xs cap D k (go st i n) := by
          have := HP4.out.undone (i := i) (v := t1) (by show upf st.left i l1 i ≠ 0; rw [upf_same]; exact hl0)
          have e : (go st i n) = { left := upf st.left i l1, done := upf (upf st.done i 0) i t1, busy := ext st.busy st.now n, now := t1 } := by
            have e1 : upf (upf st.done i 0) i t1 = upf st.done i t1 := by
              funext j; unfold upf; split <;> rfl
            unfold go
            rw [e1, ← HT1.out, HL1.out, HLV.out]
          rw [e]
          exact this
        have hQ5 : PQ40 W4 y xs.length (Qs (pcs xs) D (go st i n).left k) := by
          have e : (go st i n).left = upf st.left i (st.left i - n) := rfl
          rw [e, Qs_same (by omega) (by omega)]
          exact HQ4.out
        have HPF := Kept.mk hPF
        have HQ5 := Kept.mk hQ5
        clear hPF hQ5 HP4 HQ4 hlz
        go_wp2
        go_end0
        exact ⟨rfl, HPF.out, HQ5.out⟩
end Go.Proofs.Ytcchmkpodfjhcaa
