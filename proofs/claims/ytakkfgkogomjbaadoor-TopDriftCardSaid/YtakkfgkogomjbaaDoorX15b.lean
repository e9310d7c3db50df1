/-
  The law TopDrift: the first one of those that are due is taken out of the wheel, and there is one.
-/
import Derived.Test.YtakkfgkogomjbaaDoorX15
import Derived.Test.YtakkfgkogomjbaaDoorCalmR
namespace Go.Proofs.YtakkfgkogomjbaaDoor
open Go.RowKit Go.Shelf Go.Maps Go.ChangeMaps
set_option linter.unusedVariables false
set_option linter.unusedSimpArgs false
attribute [local go_sem] Oper.semAt_some
theorem kp_bel0 {lo hi B : Nat} {a b c : World} (h : Kp lo hi a b) (hb : Below B b c) (hB : a.heap.size ≤ B) : Kp lo hi a c :=
  ⟨hb.os.trans h.os, hb.tape.trans h.tape, hb.output.trans h.output, Nat.le_trans h.size hb.size, fun i h1 h2 => (hb.block i (by omega)).trans (h.block i h1 h2)⟩
theorem keeps_below {W W' : World} (h : Below W.heap.size W W') : KeepsOthers W W' :=
  ⟨h.size, fun k o hk _ => (h.block k (Array.getElem?_eq_some_iff.1 hk).1).trans hk⟩
theorem below_growq (W : World) (q : Nat) (os : Array Obj) : Below W.heap.size W (Go.Sort.grow (W.drewN q) os) := by
  have h := (Below.refl W.heap.size W).drewN q
  have hs : (W.drewN q).heap = W.heap := rfl
  refine ⟨h.os, h.tape, h.output, by simp [Go.Sort.grow, hs], fun i hi => ?_⟩
  show ((W.drewN q).heap ++ os)[i]? = W.heap[i]?
  rw [hs, Array.getElem?_append_left hi]
set_option maxRecDepth 100000 in
set_option maxHeartbeats 8000000 in
theorem wpop_one {w : World} {lo hi wb I M p L K n : Nat} {now tu : Int} {x : Tm} (h : WAt w lo hi wb I M p L K n now tu [x]) (hx : x.du ≤ now) (hid : (Lit.int .i64 x.id).wf = true) :
    Calls Tryd.prog 28 #[.pointer (some ⟨wb, 0, none⟩)] w fun e w' => e = .returned (.tuple #[.agg #[.int .i64 x.id, .int .i64 x.du], .bool true]) ∧ WAt w' lo hi wb I M p L K n now tu [] ∧ Kp lo hi w w' := by
  obtain ⟨S, T, f, F, h, hpl⟩ := h.of
  obtain ⟨i, hl, hTi⟩ := (due_one h hpl).1 hx
  have HF := Kept.mk (fun (w' : World) (hb : Below w.heap.size w w') => show _ from by
    have := pfirst (h.below (hb.mono h.hh)).pa ((257 : Nat) : Int)
    rw [hl] at this
    simp only [List.head?_cons, optV] at this
    exact this)
  have HK := Kept.mk h
  have HPL := Kept.mk hpl
  have HL := Kept.mk hl
  have HTI := Kept.mk hTi
  have hhi := h.hh
  have hly := h.ly
  obtain ⟨c0, c1, c2, c3, c4, c5, c6, c7, c8, wf⟩ := h.wc
  have hin : i < n := by
    obtain ⟨F', G', _, hG⟩ := h.pa.of
    exact (list_nodup hG ((257 : Nat) : Int)).2.2 i (by rw [hl]; simp)
  have hn4 : n ≤ 4096 := h.pa.nb
  clear h hpl hl hTi hx
  have hlh := hly.lh
  have hql : wb < w.heap.size := by have := hly.q2; omega
  refine (callsIn_wide (n := 4)).1 ?_
  refine callsIn_of_wp_marks Tryd.func28 rfl trivial ?_ rfl
  simp only [Tryd.ntmps28, List.size_toArray, List.length_cons, List.length_nil, Nat.reduceAdd, Nat.reduceSub, Array.replicate_succ, Array.replicate_zero, List.push_toArray, List.append_toArray, List.nil_append, List.cons_append]
  gi_wp2_with fail
  refine ⟨trivial, ?_⟩
  refine (callsIn_wide.2 (HF.out _ ?hb)).mono ?_
  case hb => exact two_below0 _ _ _
  rintro e w1 ⟨rfl, rfl⟩
  obtain ⟨W1, hW1⟩ : ∃ W1, W1 = (w.alloc (.cells #[.pointer (some ⟨wb, 0, none⟩)] 47)).alloc (.cells #[.int .i64 0, .int .i64 0] 52) := ⟨_, rfl⟩
  have Z1 := Kept.mk (show W1.heap.size = w.heap.size + 2 by rw [hW1]; simp)
  have e0 : W1.heap[w.heap.size]? = some (.cells #[.pointer (some ⟨wb, 0, none⟩)] 47) := by rw [hW1]; exact (heap_alloc_old _ _ (by simp)).trans (heap_alloc_new w _)
  have e1 : W1.heap[w.heap.size + 1]? = some (.cells #[.int .i64 0, .int .i64 0] 52) := by rw [hW1]; exact heap_alloc2_new _ _ _
  have hb1 : Below w.heap.size w W1 := by rw [hW1]; exact two_below0 _ _ _
  rw [← hW1]
  clear hW1 c0 c1 c2 c3 c4 c5 c6 c7 c8 wf
  obtain ⟨c0, c1, c2, c3, c4, c5, c6, c7, c8, wf⟩ := (HK.out.below (hb1.mono hhi)).wc
  have x0 := cell_of_row _ _ 0 _ _ _ e0
  have E0 := Kept.mk e0
  have E1 := Kept.mk e1
  have B1 := Kept.mk hb1
  have hql1 : wb < W1.heap.size := by have := Z1.out; omega
  have hx1 : w.heap.size < W1.heap.size := by have := Z1.out; omega
  clear e0 e1 hb1
  gi_wp2_with fail
  refine ⟨trivial, ?_⟩
  refine (callsIn_wide.2 (peach_any p (257 : Int) _)).mono ?_
  rintro e w2 ⟨rfl, rfl⟩
  gi_wp2_with fail
  obtain ⟨W2, hW2⟩ : ∃ W2, W2 = ((W1.alloc (.cells #[.int .i64 (i : Int)] 3)).alloc (.cells #[.pointer (some ⟨p, 0, none⟩)] 44)).alloc (.cells #[.int .i64 257] 3) := ⟨_, rfl⟩
  have hb2 : Below W1.heap.size W1 W2 := by rw [hW2]; exact three_below0 _ _ _ _ (Nat.le_refl _)
  have z2 : W2.heap.size = W1.heap.size + 3 := by rw [hW2]; simp
  have e2 : W2.heap[W1.heap.size]? = some (.cells #[.int .i64 (i : Int)] 3) := by
    rw [hW2]
    refine Eq.trans (heap_alloc_old ((W1.alloc _).alloc _) _ (by simp; omega)) ?_
    exact (heap_alloc_old (W1.alloc _) _ (by simp)).trans (heap_alloc_new W1 _)
  have e3 : W2.heap[W1.heap.size + 1]? = some (.cells #[.pointer (some ⟨p, 0, none⟩)] 44) := by rw [hW2]; exact heap3_mid0 _ _ _ _
  have e4 : W2.heap[W1.heap.size + 1 + 1]? = some (.cells #[.int .i64 257] 3) := by
    rw [hW2]
    have h := heap_alloc_new ((W1.alloc (.cells #[.int .i64 (i : Int)] 3)).alloc (.cells #[.pointer (some ⟨p, 0, none⟩)] 44)) (.cells #[.int .i64 257] 3)
    simpa using h
  rw [← hW2]
  clear hW2 c0 c1 c2 c3 c4 c5 c6 c7 c8 wf x0
  obtain ⟨g, hg⟩ : ∃ g, g = w.heap.size := ⟨_, rfl⟩
  have hz := Z1.out
  rw [← hg] at hz
  have ez : W1.heap.size = g + 2 := hz
  rw [ez] at z2 e2 e3 e4 hb2 ⊢
  have B2 := Kept.mk (show Below g w W2 by rw [hg]; exact B1.out.trans (hb2.mono (by omega)))
  have e0 : W2.heap[g]? = some (.cells #[.pointer (some ⟨wb, 0, none⟩)] 47) := (hb2.block g (by omega)).trans (by rw [hg]; exact E0.out)
  have e1 : W2.heap[g + 1]? = some (.cells #[.int .i64 0, .int .i64 0] 52) := (hb2.block (g + 1) (by omega)).trans (by rw [hg]; exact E1.out)
  have HG := Kept.mk hg
  rw [← hg] at hhi hql ⊢
  clear hg hz ez Z1 E0 E1 B1 hql1 hx1 hb2 HF
  have Z2 := Kept.mk z2
  clear z2
  have hIl : I < g := by have := hly.i2; omega
  refine wpIn_rangeFunc_ownF rfl (by omega) (gf := 66) (lb := #[.pointer (some ⟨g + 2 + 1, 0, none⟩), .pointer (some ⟨g + 2 + 1 + 1, 0, none⟩)]) rfl trivial (enters_of Tryd.func66 (by kernel_rfl) rfl)
    (peach_of (4 - 1) (by omega) (g + 2 + 1) (g + 2 + 1 + 1) (g + 5) (g + 5) lo (lo + 3) p L K n 258 S (257 : Int) (by omega) (by omega) (by omega) (by omega) (by omega) (by omega) W2 (cell_of_row _ _ 0 _ _ _ e3) (cell_of_row _ _ 0 _ _ _ e4) (HK.out.pa.below_hi (B2.out.mono (by omega))))
    KpE.trans (KpE.book (by have := Z2.out; omega)) (Below.refl _ _) (fun _ => rfl)
    (fun pre W => True ∧ Below (g + 5) W2 W)
    (fun c pre W => False ∧ Below (g + 5) W2 W)
    (OwnFrom.and (Own.from (fun s A B row hs hg hr => trivial) _) (ownFrom_below (by have := Z2.out; omega) (by have := Z2.out; omega)))
    (fun c => OwnFrom.and (Own.from (fun s A B row hs hg hr => hs) _) (ownFrom_below (by have := Z2.out; omega) (by have := Z2.out; omega)))
    ⟨trivial, Below.refl _ _⟩
    (fun y => { tmps := #[.pointer (some ⟨wb, 0, none⟩), .pointer (some ⟨g, 0, none⟩), .pointer (some ⟨g + 1, 0, none⟩), .bool false, .pointer (some ⟨g + 2, 0, none⟩), .bool true, .int .i64 (y.1 : Int), undef,
      .tuple #[.int .i64 (i : Int), .bool true], .pointer (some ⟨wb, 0, none⟩), .pointer (some ⟨wb, 0, none⟩), .pointer (some ⟨wb, 2, none⟩), .pointer (some ⟨p, 0, none⟩), .tuple #[.int .i64 (i : Int), .bool true],
      .int .i64 (i : Int), .bool true, .bool true, .bool false, undef, .pointer (some ⟨wb, 0, none⟩), .pointer (some ⟨wb, 0, none⟩), .pointer (some ⟨wb, 2, none⟩), .pointer (some ⟨p, 0, none⟩),
      .func (.func 66) #[] #[.pointer (some ⟨g + 2 + 1, 0, none⟩), .pointer (some ⟨g + 2 + 1 + 1, 0, none⟩)],
      .int .i64 (y.1 : Int), undef, undef, undef, undef, undef, undef, undef, undef, undef, undef, undef, undef, undef, undef, undef, undef, undef, undef, undef, undef, undef, undef, undef, undef, undef, undef, undef, undef, undef], defers := [] }) ?assign ?body ?done ?stop
  case assign =>
    intro l x W K hK
    gi_wp2
    exact hK
  case body =>
    rintro l pre ⟨y, hym⟩ W ⟨_, hbW⟩ hpl
    obtain rfl : y = i := by rw [show ((257 : Nat) : Int) = 257 from rfl] at HL; rw [HL.out] at hym; simpa using hym
    have hK2 := HK.out.below ((B2.out.mono hhi).trans (hbW.mono (by omega)))
    have b0 : W.cell? ⟨g, 0, none⟩ = some (.pointer (some ⟨wb, 0, none⟩)) := cell_of_row _ _ 0 _ _ _ ((hbW.block g (by omega)).trans e0)
    have b2 : W.cell? ⟨g + 2, 0, none⟩ = some (.int .i64 (y : Int)) := cell_of_row _ _ 0 _ _ _ ((hbW.block (g + 2) (by omega)).trans e2)
    have c3 := hK2.wc.c3
    have m0 := hK2.nb.c (y * 3) (by omega)
    have m1 := hK2.nb.c (y * 3 + 1) (by omega)
    have m2 := hK2.nb.c (y * 3 + 2) (by omega)
    rw [tmN_0, HTI.out] at m0
    rw [tmN_1, HTI.out] at m1
    rw [tmN_2, HTI.out] at m2
    have hxn3 : (y : Int) < (n : Int) := by omega
    have HBW := Kept.mk hbW
    have HBE := Kept.mk (before_any x x)
    rw [cfT_self] at HBE
    have h11 : 1 ≤ 4 - 1 - 1 := by decide
    clear hK2 hbW e0 e1 e2 e3 e4
    gi_wp2_with fail
    have hsz : g + 5 ≤ W.heap.size := by have := Z2.out; have := HBW.out.size; omega
    have HLT := Kept.mk (show g < W.heap.size ∧ g + 2 < W.heap.size ∧ wb < W.heap.size ∧ I < W.heap.size by omega)
    have HZ := Kept.mk hsz
    obtain ⟨Wd, hWd⟩ : ∃ Wd, Wd = W.drew := ⟨_, rfl⟩
    have HBD := Kept.mk (show Below W.heap.size W Wd by rw [hWd]; exact (Below.refl _ W).drewN 1)
    have HS := Kept.mk (show (fun V : World => V.cell? ⟨g, 0, none⟩ = some (.pointer (some ⟨wb, 0, none⟩)) ∧ V.cell? ⟨g + 2, 0, none⟩ = some (.int .i64 (y : Int)) ∧ V.cell? ⟨wb, 3, none⟩ = some (.slice (some ⟨I, 0, none⟩) n n) ∧ V.cell? ⟨I, y * 3, none⟩ = some (.int .i64 x.id) ∧ V.cell? ⟨I, y * 3 + 1, none⟩ = some (.int .i64 x.du) ∧ V.cell? ⟨I, y * 3 + 2, none⟩ = some (.int .i64 x.tn)) Wd by rw [hWd]; exact ⟨b0, b2, c3, m0, m1, m2⟩)
    have HSB := Kept.mk (fun (V : World) (hb : Below Wd.heap.size Wd V) => show (fun V : World => V.cell? ⟨g, 0, none⟩ = some (.pointer (some ⟨wb, 0, none⟩)) ∧ V.cell? ⟨g + 2, 0, none⟩ = some (.int .i64 (y : Int)) ∧ V.cell? ⟨wb, 3, none⟩ = some (.slice (some ⟨I, 0, none⟩) n n) ∧ V.cell? ⟨I, y * 3, none⟩ = some (.int .i64 x.id) ∧ V.cell? ⟨I, y * 3 + 1, none⟩ = some (.int .i64 x.du) ∧ V.cell? ⟨I, y * 3 + 2, none⟩ = some (.int .i64 x.tn)) V from by
      obtain ⟨l1, l2, l3, l4⟩ := HLT.out
      have hle := HBD.out.size
      have hS := HS.out
      exact ⟨(hb.cell (p := ⟨g, 0, none⟩) (Nat.lt_of_lt_of_le l1 hle)).trans hS.1, (hb.cell (p := ⟨g + 2, 0, none⟩) (Nat.lt_of_lt_of_le l2 hle)).trans hS.2.1, (hb.cell (p := ⟨wb, 3, none⟩) (Nat.lt_of_lt_of_le l3 hle)).trans hS.2.2.1, (hb.cell (p := ⟨I, y * 3, none⟩) (Nat.lt_of_lt_of_le l4 hle)).trans hS.2.2.2.1, (hb.cell (p := ⟨I, y * 3 + 1, none⟩) (Nat.lt_of_lt_of_le l4 hle)).trans hS.2.2.2.2.1, (hb.cell (p := ⟨I, y * 3 + 2, none⟩) (Nat.lt_of_lt_of_le l4 hle)).trans hS.2.2.2.2.2⟩)
    refine wpIn_round_late (fun V : World => V.cell? ⟨g, 0, none⟩ = some (.pointer (some ⟨wb, 0, none⟩)) ∧ V.cell? ⟨g + 2, 0, none⟩ = some (.int .i64 (y : Int)) ∧ V.cell? ⟨wb, 3, none⟩ = some (.slice (some ⟨I, 0, none⟩) n n) ∧ V.cell? ⟨I, y * 3, none⟩ = some (.int .i64 x.id) ∧ V.cell? ⟨I, y * 3 + 1, none⟩ = some (.int .i64 x.du) ∧ V.cell? ⟨I, y * 3 + 2, none⟩ = some (.int .i64 x.tn)) (fun _ => false) (by kernel_rfl) (by kernel_rfl) ?_
    rw [← hWd]
    clear hWd b0 b2 c3 m0 m1 m2 hsz
    refine wpAnyT_take (i := 0) (v := ?v0) [0] (by simp only [List.getElem?_toArray, List.getElem?_cons_succ, List.getElem?_cons_zero]; exact rfl) (by kernel_rfl) (by kernel_rfl) (by kernel_rfl) (by kernel_rfl) (by intro _ _ _ h; exact h) (Or.inl ⟨by rfl, ?hy0⟩) HS.out ?rest0
    case hy0 => (intro w hSw; go_simp; try with_reducible rfl)
    try simp only [Act.put, List.setIfInBounds_toArray, List.set_cons_zero, List.set_cons_succ]
    refine wpAnyT_take (i := 1) (v := ?v1) [1] (by simp only [List.getElem?_toArray, List.getElem?_cons_succ, List.getElem?_cons_zero]; exact rfl) (by kernel_rfl) (by kernel_rfl) (by kernel_rfl) (by kernel_rfl) (by intro _ _ _ h; exact h) (Or.inl ⟨by rfl, ?hy1⟩) HS.out ?rest1
    case hy1 => (intro w hSw; go_simp; try with_reducible rfl)
    try simp only [Act.put, List.setIfInBounds_toArray, List.set_cons_zero, List.set_cons_succ]
    refine wpAnyT_take (i := 2) (v := ?v2) [2] (by simp only [List.getElem?_toArray, List.getElem?_cons_succ, List.getElem?_cons_zero]; exact rfl) (by kernel_rfl) (by kernel_rfl) (by kernel_rfl) (by kernel_rfl) (by intro _ _ _ h; exact h) (Or.inl ⟨by rfl, ?hy2⟩) HS.out ?rest2
    case hy2 => (intro w hSw; go_simp; try with_reducible rfl)
    try simp only [Act.put, List.setIfInBounds_toArray, List.set_cons_zero, List.set_cons_succ]
    refine wpAnyT_take (i := 3) (v := ?v3) [3] (by simp only [List.getElem?_toArray, List.getElem?_cons_succ, List.getElem?_cons_zero]; exact rfl) (by kernel_rfl) (by kernel_rfl) (by kernel_rfl) (by kernel_rfl) (by intro _ _ _ h; exact h) (Or.inl ⟨by rfl, ?hy3⟩) HS.out ?rest3
    case hy3 => (intro w hSw; go_simp; try with_reducible rfl)
    try simp only [Act.put, List.setIfInBounds_toArray, List.set_cons_zero, List.set_cons_succ]
    refine wpAnyT_take (i := 4) (v := ?v4) [4] (by simp only [List.getElem?_toArray, List.getElem?_cons_succ, List.getElem?_cons_zero]; exact rfl) (by kernel_rfl) (by kernel_rfl) (by kernel_rfl) (by kernel_rfl) (by intro _ _ _ h; exact h) (Or.inl ⟨by rfl, ?hy4⟩) HS.out ?rest4
    case hy4 => (intro w hSw; go_simp; try with_reducible rfl)
    try simp only [Act.put, List.setIfInBounds_toArray, List.set_cons_zero, List.set_cons_succ]
    refine wpAnyT_take (i := 5) (v := ?v5) [5] (by simp only [List.getElem?_toArray, List.getElem?_cons_succ, List.getElem?_cons_zero]; exact rfl) (by kernel_rfl) (by kernel_rfl) (by kernel_rfl) (by kernel_rfl) (by intro _ _ _ h; exact h) (Or.inl ⟨by rfl, ?hy5⟩) HS.out ?rest5
    case hy5 => (intro w hSw; go_simp; try with_reducible rfl)
    try simp only [Act.put, List.setIfInBounds_toArray, List.set_cons_zero, List.set_cons_succ]
    refine wpAnyT_take (i := 6) (v := ?v6) [6] (by simp only [List.getElem?_toArray, List.getElem?_cons_succ, List.getElem?_cons_zero]; exact rfl) (by kernel_rfl) (by kernel_rfl) (by kernel_rfl) (by kernel_rfl) (by intro _ _ _ h; exact h) (Or.inl ⟨by rfl, ?hy6⟩) HS.out ?rest6
    case hy6 => (intro w hSw; go_simp; try with_reducible rfl)
    try simp only [Act.put, List.setIfInBounds_toArray, List.set_cons_zero, List.set_cons_succ]
    refine wpAnyT_take (i := 7) (v := ?v7) [7] (by simp only [List.getElem?_toArray, List.getElem?_cons_succ, List.getElem?_cons_zero]; exact rfl) (by kernel_rfl) (by kernel_rfl) (by kernel_rfl) (by kernel_rfl) (by intro _ _ _ h; exact h) (Or.inl ⟨by rfl, ?hy7⟩) HS.out ?rest7
    case hy7 => (intro w hSw; go_simp; try with_reducible rfl)
    try simp only [Act.put, List.setIfInBounds_toArray, List.set_cons_zero, List.set_cons_succ]
    refine wpAnyT_take (i := 8) (v := ?v8) [8] (by simp only [List.getElem?_toArray, List.getElem?_cons_succ, List.getElem?_cons_zero]; exact rfl) (by kernel_rfl) (by kernel_rfl) (by kernel_rfl) (by kernel_rfl) (by intro _ _ _ h; exact h) (Or.inl ⟨by rfl, ?hy8⟩) HS.out ?rest8
    case hy8 => (intro w hSw; go_simp; try with_reducible rfl)
    try simp only [Act.put, List.setIfInBounds_toArray, List.set_cons_zero, List.set_cons_succ]
    refine wpAnyT_take (i := 9) (v := ?v9) [9] (by simp only [List.getElem?_toArray, List.getElem?_cons_succ, List.getElem?_cons_zero]; exact rfl) (by kernel_rfl) (by kernel_rfl) (by kernel_rfl) (by kernel_rfl) (by intro _ _ _ h; exact h) (Or.inl ⟨by rfl, ?hy9⟩) HS.out ?rest9
    case hy9 => (intro w hSw; go_simp; try with_reducible rfl)
    try simp only [Act.put, List.setIfInBounds_toArray, List.set_cons_zero, List.set_cons_succ]
    refine wpAnyT_take (i := 10) (v := ?v10) [10] (by simp only [List.getElem?_toArray, List.getElem?_cons_succ, List.getElem?_cons_zero]; exact rfl) (by kernel_rfl) (by kernel_rfl) (by kernel_rfl) (by kernel_rfl) (by intro _ _ _ h; exact h) (Or.inl ⟨by rfl, ?hy10⟩) HS.out ?rest10
    case hy10 => (intro w hSw; go_simp; try with_reducible rfl)
    try simp only [Act.put, List.setIfInBounds_toArray, List.set_cons_zero, List.set_cons_succ]
    refine wpAnyT_take (i := 11) (v := ?v11) [11] (by simp only [List.getElem?_toArray, List.getElem?_cons_succ, List.getElem?_cons_zero]; exact rfl) (by kernel_rfl) (by kernel_rfl) (by kernel_rfl) (by kernel_rfl) (by intro _ _ _ h; exact h) (Or.inl ⟨by rfl, ?hy11⟩) HS.out ?rest11
    case hy11 => (intro w hSw; go_simp; try with_reducible rfl)
    try simp only [Act.put, List.setIfInBounds_toArray, List.set_cons_zero, List.set_cons_succ]
    refine wpAnyT_take (i := 12) (v := ?v12) [12] (by simp only [List.getElem?_toArray, List.getElem?_cons_succ, List.getElem?_cons_zero]; exact rfl) (by kernel_rfl) (by kernel_rfl) (by kernel_rfl) (by kernel_rfl) (by intro _ _ _ h; exact h) (Or.inl ⟨by rfl, ?hy12⟩) HS.out ?rest12
    case hy12 => (intro w hSw; go_simp; try with_reducible rfl)
    try simp only [Act.put, List.setIfInBounds_toArray, List.set_cons_zero, List.set_cons_succ]
    refine wpAnyT_take (i := 13) (v := ?v13) [13] (by simp only [List.getElem?_toArray, List.getElem?_cons_succ, List.getElem?_cons_zero]; exact rfl) (by kernel_rfl) (by kernel_rfl) (by kernel_rfl) (by kernel_rfl) (by intro _ _ _ h; exact h) (Or.inl ⟨by rfl, ?hy13⟩) HS.out ?rest13
    case hy13 => (intro w hSw; go_simp; try with_reducible rfl)
    try simp only [Act.put, List.setIfInBounds_toArray, List.set_cons_zero, List.set_cons_succ]
    refine wpAnyT_one 14 (by kernel_rfl) (by simp only [List.getElem?_toArray, List.getElem?_cons_succ, List.getElem?_cons_zero]; exact rfl) (fun K hK => ?_)
    go_simp
    go_at_call 46
    refine (HBE.out _).mono ?_
    rintro e w3 ⟨rfl, qq, oss, rfl⟩
    have HBG := Kept.mk (below_growq Wd qq oss)
    refine hK.out _ _ (fun _ => HSB.out _ HBG.out) ?_
    clear hK K
    try simp only [Act.put, List.setIfInBounds_toArray, List.set_cons_zero, List.set_cons_succ]
    refine wpAnyT_one 15 (by kernel_rfl) (by simp only [List.getElem?_toArray, List.getElem?_cons_succ, List.getElem?_cons_zero]; exact rfl) (fun K hK => ?_)
    go_simp
    refine hK.out _ _ (fun _ => HSB.out _ HBG.out) ?_
    clear hK K
    try simp only [Act.put, List.setIfInBounds_toArray, List.set_cons_zero, List.set_cons_succ]
    refine wpAnyT_done (by kernel_rfl) ?_ _
    have HBT := Kept.mk (show Below W.heap.size W (Go.Sort.grow (Wd.drewN qq) oss) from HBD.out.trans (HBG.out.mono HBD.out.size))
    rename_i kk hkk
    refine hkk _ _ ?_
    gi_wp2
    exact ⟨keeps_below HBT.out, KpE.of_below (HBT.out.mono HZ.out), HBW.out.trans (HBT.out.mono HZ.out)⟩
  case done =>
    rintro D l W hD hl ⟨_, hbW⟩ hK
    have HKD := Kept.mk hK
    have HHD := Kept.mk hD
    have hsz : g + 5 ≤ W.heap.size := by have := Z2.out; have := hbW.size; omega
    have hK2 := HK.out.below ((B2.out.mono hhi).trans (hbW.mono (by omega)))
    have b0 : W.cell? ⟨g, 0, none⟩ = some (.pointer (some ⟨wb, 0, none⟩)) := cell_of_row _ _ 0 _ _ _ ((hbW.block g (by omega)).trans e0)
    have b2 : W.cell? ⟨g + 2, 0, none⟩ = some (.int .i64 (i : Int)) := cell_of_row _ _ 0 _ _ _ ((hbW.block (g + 2) (by omega)).trans e2)
    have c3 := hK2.wc.c3
    have m0 := hK2.nb.c (i * 3) (by omega)
    have m1 := hK2.nb.c (i * 3 + 1) (by omega)
    rw [tmN_0, HTI.out] at m0
    rw [tmN_1, HTI.out] at m1
    have hxn3 : (i : Int) < (n : Int) := by omega
    have HBW := Kept.mk hbW
    have E1 := Kept.mk e1
    have HK2 := Kept.mk hK2
    have hlg : g < W.heap.size := by omega
    have hlg2 : g + 2 < W.heap.size := by omega
    have hlw : wb < W.heap.size := by omega
    have hlI : I < W.heap.size := by omega
    clear hK2 hbW e0 e1 e2 e3 e4 hK hD
    gi_wp2_with fail
    refine wpIn_wide.2 ?_
    go_region
    rename_i kk hkk
    refine hkk _ _ ?_
    obtain ⟨W3, hW3⟩ : ∃ W3, W3 = (W.alloc (.cells #[.int .i64 x.id, .int .i64 x.du] 52)).drew := ⟨_, rfl⟩
    rw [← hW3]
    have hb3 : Below W.heap.size W W3 := by rw [hW3]; exact (below_box W _).drewN 1
    have x3 : W3.heap[W.heap.size]? = some (.cells #[.int .i64 x.id, .int .i64 x.du] 52) := by rw [hW3]; exact heap_alloc_new W _
    have Z3 := Kept.mk (show W3.heap.size = W.heap.size + 1 by rw [hW3]; simp [World.drew])
    clear hW3
    have HK3 := Kept.mk (HK2.out.below (hb3.mono (by omega)))
    have X3 := Kept.mk x3
    have HB3 := Kept.mk hb3
    have E13 := Kept.mk ((hb3.block (g + 1) (by omega)).trans ((HBW.out.block (g + 1) (by omega)).trans E1.out))
    have d0 : W3.cell? ⟨g, 0, none⟩ = some (.pointer (some ⟨wb, 0, none⟩)) := (hb3.cell (p := ⟨g, 0, none⟩) hlg).trans b0
    have d2 : W3.cell? ⟨g + 2, 0, none⟩ = some (.int .i64 (i : Int)) := (hb3.cell (p := ⟨g + 2, 0, none⟩) hlg2).trans b2
    have HDR := wdrop_any HK3.out (q := 257) (x := i) (by omega) (by rw [HL.out]; simp) (by rw [HTI.out]; exact hid)
    rw [HTI.out] at HDR
    have HD3 := Kept.mk ((hb3.block D (Array.getElem?_eq_some_iff.1 HKD.out).1).trans HKD.out)
    clear b0 b2 c3 m0 m1 x3 hb3 HK2
    gi_wp2_with fail
    refine ⟨trivial, ?_⟩
    refine (callsIn_wide.2 HDR).mono ?_
    rintro e w4 ⟨rfl, hk4, F4, hw4⟩
    have hz3 := Z3.out
    have hDl := (Array.getElem?_eq_some_iff.1 HD3.out).1
    have x4 := (hk4.block W.heap.size (by omega) (.inr (by omega))).trans X3.out
    have e14 := (hk4.block (g + 1) (by omega) (.inr (by omega))).trans E13.out
    have hD4 := (hk4.block D hDl (.inr (by have := HHD.out; have := Z2.out; omega))).trans HD3.out
    have y0 : w4.cell? ⟨W.heap.size, 0, none⟩ = some (.int .i64 x.id) := cell_of_row _ _ 0 _ _ _ x4
    have y1 : w4.cell? ⟨W.heap.size, 1, none⟩ = some (.int .i64 x.du) := cell_of_row _ _ 1 _ _ _ x4
    have g0 : w4.cell? ⟨g + 1, 0, none⟩ = some (.int .i64 0) := cell_of_row _ _ 0 _ _ _ e14
    have g1 : w4.cell? ⟨g + 1, 1, none⟩ = some (.int .i64 0) := cell_of_row _ _ 1 _ _ _ e14
    have r0 := frozen_of_row _ _ 0 _ _ e14
    have r1 := frozen_of_row _ _ 1 _ _ e14
    have HE := Kept.mk (show ((w4.setCell ⟨g + 1, 0, none⟩ (.int .i64 x.id)).setCell ⟨g + 1, 1, none⟩ (.int .i64 x.du)).heap[g + 1]? = some (.cells #[.int .i64 x.id, .int .i64 x.du] 52) from
      heap_setCell_same _ (g + 1) 1 _ _ _ (heap_setCell_same w4 (g + 1) 0 _ _ _ e14))
    have HD4 := Kept.mk (((KeepsOthers.setCell w4 ⟨g + 1, 0, none⟩ (.int .i64 x.id)).trans (KeepsOthers.setCell _ ⟨g + 1, 1, none⟩ (.int .i64 x.du))).same D _ hD4 rfl)
    have HK4 := Kept.mk hk4
    have HW4 := Kept.mk hw4
    clear hz3 hDl x4 e14 hD4 hk4 hw4 HDR d0 d2
    gi_wp2_with fail
    refine ⟨by simp, .inl ⟨_, _, rfl, run_takeDeferred HD4.out, ?_⟩⟩
    have hDg : D ≠ g + 1 := by have := HHD.out; have := Z2.out; omega
    have hDh : hi ≤ D := by have := HHD.out; have := Z2.out; omega
    refine ⟨.tuple #[.agg #[.int .i64 x.id, .int .i64 x.du], .bool true], results_row1b (p := 2) (u := 3) rfl _ _ (g + 1) 52 #[.int .i64 x.id, .int .i64 x.du] (0, 0) _ rfl ?row Tryd.underlying52 rfl (by kernel_rfl), rfl, ?_, ?_⟩
    case row => exact (World.putObj_heap_other (Ne.symm hDg)).trans HE.out
    · refine ⟨S.give i, T, (fun a => if a = x.id then none else f a), F4, ?_, pl_give HPL.out i⟩
      have hw5 := HW4.out
      rw [show ([x].filter fun t => decide (t.id ≠ x.id)) = [] by simp] at hw5
      refine hw5.below ?_
      exact (((Below.refl hi w4).setCell (p := ⟨g + 1, 0, none⟩) (by show hi ≤ g + 1; omega) _).setCell (p := ⟨g + 1, 1, none⟩) (by show hi ≤ g + 1; omega) _).trans (belowK_b (w := W2) (n₀ := hi) (by have := Z2.out; omega) _ D _ _ HHD.out HD4.out rfl rfl)
    · have hz := Z2.out
      have hg := HG.out
      have k4 : Kp lo hi w w4 := (((Kp.of_below (by rw [← hg]; exact B2.out)).trans (Kp.of_below (HBW.out.mono (by omega)))).trans (Kp.of_below HB3.out)).trans HK4.out
      refine kp_bel0 (B := w.heap.size) k4 ?_ (Nat.le_refl _)
      exact (((Below.refl _ w4).setCell (p := ⟨g + 1, 0, none⟩) (by show w.heap.size ≤ g + 1; omega) _).setCell (p := ⟨g + 1, 1, none⟩) (by show w.heap.size ≤ g + 1; omega) _).trans (belowK_b (w := W2) (n₀ := w.heap.size) (by omega) _ D _ _ HHD.out HD4.out rfl rfl)
  case stop =>
    rintro D c pre W hD hpre ⟨hf, hbW⟩ hK
    exact hf.elim
end Go.Proofs.YtakkfgkogomjbaaDoor
