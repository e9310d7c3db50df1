/-
  The law TopJoined: a task that comes to a configuration makes no bound of another one less, if it may come, and both are found; a task's bound is the same whatever place it has among the others; every argument reads afterwards as before. No condition.
-/
import Derived.Test.YtfneloplbkjbhaaN12
import Derived.Test.YtfneloplbkjbhaaCalmT
import Derived.Deep.RegionLaw
import Derived.Laws.AppendOwnNone
namespace Go.Proofs.Ytfneloplbkjbhaa.topJoined
open Go.ChangeShapes Go.WideShapes Go.ChangeAt Go.RowKit
set_option linter.unusedVariables false
set_option linter.unusedSimpArgs false
theorem info_tk : (Try.prog.info? 31).map (fun i => (i.zero, i.size, i.bytes)) = some (some (.agg #[.int .u8 0, .int .i64 0, .int .i64 0, .int .i64 0, .int .i64 0, .int .i64 0, .int .i64 0, .int .i64 0, .int .i64 0, .int .i64 0]), 10, 80) := by kernel_rfl
theorem wp_region_late {P : Program} {ops : Array Oper} {Q : Exit → Act → World → Prop} {id : Nat} {a : Act} {w : World} (S : World → Prop) (T : Nat → Bool) (hm : P.follows .mixedOrders = true)
    (h : wpAnyT P .any ops Q S T ops.size (Array.replicate ops.size false) a w.drew) : (Code.region id ops true).wp P Q a w := wp_region_any hm (wpAny_of_T _ _ _ _ h)
theorem addB_block (a : Addr) (n : Nat) : (a.add n).block = a.block := by unfold Addr.add; split <;> rfl
theorem lt_of_block {w : World} {b : Nat} {o : Obj} (h : w.heap[b]? = some o) : b < w.heap.size := (Array.getElem?_eq_some_iff.1 h).1
theorem own_lit {e : TypeId} {size : Nat} (w : World) (cur : Array Value) (n : Nat) (hm : n ≤ maxLen) (hs : cur.size = n * size) : (w.alloc (.cells cur e)).ownsRow w.heap.size e size (.slice (some ⟨w.heap.size, 0, none⟩) n n) n cur.toList :=
  ⟨by simpa using hs, .inr ⟨w.heap.size, n, cur, rfl, Nat.le_refl _, heap_alloc_new w _, Nat.le_refl _, hm, hs, by rw [← hs, ← Array.length_toList, List.take_length]⟩⟩
/-- The configuration with one more task behind. -/
def cD (c : Cf) (t : Tk) : Cf := { c with ts := c.ts ++ [t] }
/-- The configuration with one more task ahead. -/
def cE (c : Cf) (t : Tk) : Cf := { c with ts := t :: c.ts }
set_option maxRecDepth 100000 in
set_option maxHeartbeats 16000000 in
theorem walk (c : Cf) (At : Option Addr) (ct : Nat) (Al : Option Addr) (cl : Nat) (Ah : Option Addr) (ch : Nat) (t0 t1 t2 t3 t4 t5 t6 t7 t8 t9 : Int) (i : Int) (w : World)
    (hT : RT w w.heap.size At c.ts) (hL : R4 w w.heap.size Al c.ls) (hH : R4 w w.heap.size Ah c.hs) (hmx : -9223372036854775808 ≤ c.mx) (hwp : ∀ t ∈ c.ts, (Lit.int .i64 t.p).wf = true) (hwh : ∀ x ∈ c.hs, (Lit.int .i64 x.a).wf = true) (hwt : (Lit.int .i64 t1).wf = true) (hwi : -9223372036854775808 ≤ i ∧ i ≤ 9223372036854775807)
    (hnc : At = none → ct = 0) (z2 : c.ts.length * 80 ≤ 140737488351232) (z3 : c.ls.length * 32 ≤ 140737488351232) (z4 : c.hs.length * 32 ≤ 140737488351232) :
    Calls Try.prog 3 #[.agg #[.int .i64 c.mn, .int .i64 c.mx, .int .i64 c.sw, .slice At c.ts.length ct, .slice Al c.ls.length cl, .slice Ah c.hs.length ch], .agg #[.int .u8 t0, .int .i64 t1, .int .i64 t2, .int .i64 t3, .int .i64 t4, .int .i64 t5, .int .i64 t6, .int .i64 t7, .int .i64 t8, .int .i64 t9], .int .i64 i] w fun e w' => e = .returned (.bool true) ∧ Below w.heap.size w w' := by
  obtain ⟨i0, hi0, hz0, hz1, hz2⟩ := info_parts info_tk
  obtain ⟨tt, htt⟩ : ∃ tt : Tk, tt = ⟨t0, t1, t2, t3, t4, t5, t6, t7, t8, t9⟩ := ⟨_, rfl⟩
  have HTT := Kept.mk htt
  have HWT := Kept.mk (show (Lit.int .i64 tt.p).wf = true by rw [htt]; exact hwt)
  have HC := Kept.mk (fun (V : World) (hV : Below w.heap.size w V) => show CV V V.heap.size c #[.int .i64 c.mn, .int .i64 c.mx, .int .i64 c.sw, .slice At c.ts.length ct, .slice Al c.ls.length cl, .slice Ah c.hs.length ch] from
    ⟨hmx, hwp, hwh, by omega, by omega, by omega, At, ct, Al, cl, Ah, ch, rfl, (hT.below hV).mono hV.size, (hL.below hV).mono hV.size, (hH.below hV).mono hV.size⟩)
  have HD := Kept.mk (fun (V : World) (hV : Below w.heap.size w V) (A : Option Addr) (k : Nat) (hR : RT V V.heap.size A (c.ts ++ [tt])) => show CV V V.heap.size (cD c tt) #[.int .i64 c.mn, .int .i64 c.mx, .int .i64 c.sw, .slice A (c.ts.length + 1) k, .slice Al c.ls.length cl, .slice Ah c.hs.length ch] from
    ⟨hmx, fun t ht => by rcases List.mem_append.1 ht with h | h; exact hwp t h; rw [List.mem_singleton.1 h]; exact HWT.out, hwh, by show (c.ts ++ [tt]).length ≤ _; rw [List.length_append, List.length_singleton]; omega, by show c.ls.length ≤ _; omega, by show c.hs.length ≤ _; omega, A, k, Al, cl, Ah, ch, by show _ = #[_, _, _, Value.slice A (c.ts ++ [tt]).length k, _, _]; rw [List.length_append, List.length_singleton]; rfl, hR, (hL.below hV).mono hV.size, (hH.below hV).mono hV.size⟩)
  have HE := Kept.mk (fun (V : World) (hV : Below w.heap.size w V) (A : Option Addr) (k : Nat) (hR : RT V V.heap.size A (tt :: c.ts)) => show CV V V.heap.size (cE c tt) #[.int .i64 c.mn, .int .i64 c.mx, .int .i64 c.sw, .slice A (c.ts.length + 1) k, .slice Al c.ls.length cl, .slice Ah c.hs.length ch] from
    ⟨hmx, fun t ht => by rcases List.mem_cons.1 ht with h | h; rw [h]; exact HWT.out; exact hwp t h, hwh, by show (tt :: c.ts).length ≤ _; rw [List.length_cons]; omega, by show c.ls.length ≤ _; omega, by show c.hs.length ≤ _; omega, A, k, Al, cl, Ah, ch, rfl, hR, (hL.below hV).mono hV.size, (hH.below hV).mono hV.size⟩)
  have HNC := Kept.mk hnc
  have HT := Kept.mk hT
  have HWI := Kept.mk hwi
  obtain ⟨mn, hmn⟩ : ∃ mn, mn = c.mn := ⟨_, rfl⟩
  obtain ⟨mx, hmx2⟩ : ∃ mx, mx = c.mx := ⟨_, rfl⟩
  obtain ⟨sw, hsw⟩ : ∃ sw, sw = c.sw := ⟨_, rfl⟩
  obtain ⟨nl, hnl⟩ : ∃ nl, nl = c.ls.length := ⟨_, rfl⟩
  obtain ⟨nh, hnh⟩ : ∃ nh, nh = c.hs.length := ⟨_, rfl⟩
  obtain ⟨wl, hwl⟩ : ∃ wl, wl = (w.alloc (.cells #[.int .i64 mn, .int .i64 mx, .int .i64 sw, .slice At c.ts.length ct, .slice Al nl cl, .slice Ah nh ch] 28)).alloc (.cells #[.int .u8 t0, .int .i64 t1, .int .i64 t2, .int .i64 t3, .int .i64 t4, .int .i64 t5, .int .i64 t6, .int .i64 t7, .int .i64 t8, .int .i64 t9] 31) := ⟨_, rfl⟩
  rw [← hmn, ← hmx2, ← hsw, ← hnl, ← hnh] at HC HD HE
  rw [← hmn, ← hmx2, ← hsw, ← hnl, ← hnh]
  clear hmn hmx2 hsw hwt hT hL hH hmx hwp hwh hnc hwi htt z3 z4 hnl hnh
  go_enter Try.func3, Try.ntmps3
  go_wp2_with fail
  refine (begins_any _).mono ?_
  rintro e w1 ⟨rfl, rfl⟩
  obtain ⟨bc, hbc⟩ : ∃ bc, bc = w.heap.size := ⟨_, rfl⟩
  go_upto_region 4 with fail
  obtain ⟨w2, hw2⟩ : ∃ w2, w2 = (wl.alloc (.cells #[.int .i64 mn, .int .i64 mx, .int .i64 sw, .slice At c.ts.length ct, .slice Al nl cl, .slice Ah nh ch] 28)) := ⟨_, rfl⟩
  rw [hwl] at hw2
  rw [← hw2, ← hbc]
  have hzw : w2.heap.size = bc + 3 := by rw [hw2, hbc]; simp
  have hrc : w2.heap[bc]? = some (.cells #[.int .i64 mn, .int .i64 mx, .int .i64 sw, .slice At c.ts.length ct, .slice Al nl cl, .slice Ah nh ch] 28) := by
    rw [hw2, hbc]; exact (heap_alloc_old _ _ (by simp; omega)).trans ((heap_alloc_old _ _ (by simp)).trans (heap_alloc_new w _))
  have hrt : w2.heap[bc + 1]? = some (.cells #[.int .u8 t0, .int .i64 t1, .int .i64 t2, .int .i64 t3, .int .i64 t4, .int .i64 t5, .int .i64 t6, .int .i64 t7, .int .i64 t8, .int .i64 t9] 31) := by
    rw [hw2, hbc]
    have h := heap_alloc_new (w.alloc (.cells #[.int .i64 mn, .int .i64 mx, .int .i64 sw, .slice At c.ts.length ct, .slice Al nl cl, .slice Ah nh ch] 28)) (.cells #[.int .u8 t0, .int .i64 t1, .int .i64 t2, .int .i64 t3, .int .i64 t4, .int .i64 t5, .int .i64 t6, .int .i64 t7, .int .i64 t8, .int .i64 t9] 31)
    rw [show (w.alloc (.cells #[.int .i64 mn, .int .i64 mx, .int .i64 sw, .slice At c.ts.length ct, .slice Al nl cl, .slice Ah nh ch] 28)).heap.size = w.heap.size + 1 by simp] at h
    exact (heap_alloc_old _ _ (by simp)).trans h
  have hrd : w2.heap[bc + 1 + 1]? = some (.cells #[.int .i64 mn, .int .i64 mx, .int .i64 sw, .slice At c.ts.length ct, .slice Al nl cl, .slice Ah nh ch] 28) := by
    rw [hw2, hbc]
    have h := heap_alloc_new ((w.alloc (.cells #[.int .i64 mn, .int .i64 mx, .int .i64 sw, .slice At c.ts.length ct, .slice Al nl cl, .slice Ah nh ch] 28)).alloc (.cells #[.int .u8 t0, .int .i64 t1, .int .i64 t2, .int .i64 t3, .int .i64 t4, .int .i64 t5, .int .i64 t6, .int .i64 t7, .int .i64 t8, .int .i64 t9] 31)) (.cells #[.int .i64 mn, .int .i64 mx, .int .i64 sw, .slice At c.ts.length ct, .slice Al nl cl, .slice Ah nh ch] 28)
    rw [show ((w.alloc (.cells #[.int .i64 mn, .int .i64 mx, .int .i64 sw, .slice At c.ts.length ct, .slice Al nl cl, .slice Ah nh ch] 28)).alloc (.cells #[.int .u8 t0, .int .i64 t1, .int .i64 t2, .int .i64 t3, .int .i64 t4, .int .i64 t5, .int .i64 t6, .int .i64 t7, .int .i64 t8, .int .i64 t9] 31)).heap.size = w.heap.size + 1 + 1 by simp] at h
    exact h
  have B2 := Kept.mk (show Below w.heap.size w w2 by rw [hw2]; exact (((Below.refl _ _).alloc (Nat.le_refl _) _).alloc (by simp <;> omega) _).alloc (by simp <;> omega) _)
  have X2 := Kept.mk (show RT w2 w2.heap.size At c.ts from (HT.out.below B2.out).mono B2.out.size)
  have HRC := Kept.mk hrc
  have HRT := Kept.mk hrt
  have HDB := Kept.mk (fun (V : World) (hV : Below w2.heap.size w2 V) => show V.heap[bc + 1 + 1]? = some (.cells #[.int .i64 mn, .int .i64 mx, .int .i64 sw, .slice At c.ts.length ct, .slice Al nl cl, .slice Ah nh ch] 28) from (hV.block _ (by omega)).trans hrd)
  have HS := Kept.mk (fun (V : World) (hV : Below w2.heap.size w2 V) => show (fun V : World => V.cell? ⟨bc, 3, none⟩ = some (.slice At c.ts.length ct) ∧ V.cell? ⟨bc + 1, 0, none⟩ = some (.int .u8 t0) ∧ V.cell? ⟨bc + 1, 1, none⟩ = some (.int .i64 t1) ∧ V.cell? ⟨bc + 1, 2, none⟩ = some (.int .i64 t2) ∧ V.cell? ⟨bc + 1, 3, none⟩ = some (.int .i64 t3) ∧ V.cell? ⟨bc + 1, 4, none⟩ = some (.int .i64 t4) ∧ V.cell? ⟨bc + 1, 5, none⟩ = some (.int .i64 t5) ∧ V.cell? ⟨bc + 1, 6, none⟩ = some (.int .i64 t6) ∧ V.cell? ⟨bc + 1, 7, none⟩ = some (.int .i64 t7) ∧ V.cell? ⟨bc + 1, 8, none⟩ = some (.int .i64 t8) ∧ V.cell? ⟨bc + 1, 9, none⟩ = some (.int .i64 t9)) V from by
    have h1 := (hV.block bc (by omega)).trans hrc
    have h2 := (hV.block (bc + 1) (by omega)).trans hrt
    exact ⟨cell_of_row _ _ 3 _ _ _ h1, cell_of_row _ _ 0 _ _ _ h2, cell_of_row _ _ 1 _ _ _ h2, cell_of_row _ _ 2 _ _ _ h2, cell_of_row _ _ 3 _ _ _ h2, cell_of_row _ _ 4 _ _ _ h2, cell_of_row _ _ 5 _ _ _ h2, cell_of_row _ _ 6 _ _ _ h2, cell_of_row _ _ 7 _ _ _ h2, cell_of_row _ _ 8 _ _ _ h2, cell_of_row _ _ 9 _ _ _ h2⟩)
  have HPOST := Kept.mk (fun (g cap : Nat) (VF : World) (hO : VF.ownsRow w2.heap.size 31 10 (.slice (some ⟨g, 0, none⟩) (c.ts.length + 1) cap) (c.ts.length + 1) (c.ts.flatMap Tk.cells ++ [.int .u8 t0, .int .i64 t1, .int .i64 t2, .int .i64 t3, .int .i64 t4, .int .i64 t5, .int .i64 t6, .int .i64 t7, .int .i64 t8, .int .i64 t9])) (hV : Below w2.heap.size w2 VF) => show
      Kept ((VF.setCell ⟨bc + 1 + 1, 3, none⟩ (.slice (some ⟨g, 0, none⟩) (c.ts.length + 1) cap)).heap[bc + 1 + 1]? = some (.cells #[.int .i64 mn, .int .i64 mx, .int .i64 sw, .slice (some ⟨g, 0, none⟩) (c.ts.length + 1) cap, .slice Al nl cl, .slice Ah nh ch] 28)) ∧
      Kept (RT (VF.setCell ⟨bc + 1 + 1, 3, none⟩ (.slice (some ⟨g, 0, none⟩) (c.ts.length + 1) cap)) (VF.setCell ⟨bc + 1 + 1, 3, none⟩ (.slice (some ⟨g, 0, none⟩) (c.ts.length + 1) cap)).heap.size (some ⟨g, 0, none⟩) (c.ts ++ [tt])) ∧
      Kept (Below (bc + 1 + 1) w2 (VF.setCell ⟨bc + 1 + 1, 3, none⟩ (.slice (some ⟨g, 0, none⟩) (c.ts.length + 1) cap))) from by
    have hbd : VF.heap[bc + 1 + 1]? = _ := HDB.out VF hV
    have hO' : VF.ownsRow w2.heap.size 31 10 (.slice (some ⟨g, 0, none⟩) (c.ts.length + 1) cap) (c.ts.length + 1) ((c.ts ++ [tt]).flatMap Tk.cells) := by
      rw [List.flatMap_append, HTT.out]; exact hO
    have hge : w2.heap.size ≤ g := (hO'.lt g rfl).1
    obtain ⟨A, k, hv, hR, _⟩ := RT.of_own hO'
    injection hv with hA hn hk
    subst hA
    refine ⟨⟨heap_setCell_same _ _ 3 _ _ _ hbd⟩, ⟨?_⟩, ⟨(show Below (bc + 1 + 1) w2 VF from hV.mono (by omega)).setCell (p := ⟨bc + 1 + 1, 3, none⟩) (Nat.le_refl _) _⟩⟩
    intro h0
    obtain ⟨b, off, e, hb, hc⟩ := hR h0
    refine ⟨b, off, e, by simpa using hb, fun j x o u hj ho => ?_⟩
    have hbg : b = g := by cases e; rfl
    rw [World.cell?_setCell_other _ _ _ _ (by intro e2; have := congrArg Addr.block e2; simp at this; omega)]
    exact hc j x o u hj ho)
  have HBC := Kept.mk hbc
  clear hw2 hwl hrc hrt hrd hbc wl
  obtain ⟨bd, hbd⟩ : ∃ bd, bd = bc + 1 + 1 := ⟨_, rfl⟩
  rw [← hbd] at HDB HPOST ⊢
  have HBD := Kept.mk hbd
  have HS2 := Kept.mk (fun (V : World) (u : Value) (hV : Below w2.heap.size w2 V) => show (fun V : World => V.cell? ⟨bc, 3, none⟩ = some (.slice At c.ts.length ct) ∧ V.cell? ⟨bc + 1, 0, none⟩ = some (.int .u8 t0) ∧ V.cell? ⟨bc + 1, 1, none⟩ = some (.int .i64 t1) ∧ V.cell? ⟨bc + 1, 2, none⟩ = some (.int .i64 t2) ∧ V.cell? ⟨bc + 1, 3, none⟩ = some (.int .i64 t3) ∧ V.cell? ⟨bc + 1, 4, none⟩ = some (.int .i64 t4) ∧ V.cell? ⟨bc + 1, 5, none⟩ = some (.int .i64 t5) ∧ V.cell? ⟨bc + 1, 6, none⟩ = some (.int .i64 t6) ∧ V.cell? ⟨bc + 1, 7, none⟩ = some (.int .i64 t7) ∧ V.cell? ⟨bc + 1, 8, none⟩ = some (.int .i64 t8) ∧ V.cell? ⟨bc + 1, 9, none⟩ = some (.int .i64 t9)) (V.setCell ⟨bd, 3, none⟩ u) from by
    obtain ⟨g, g0, g1, g2, g3, g4, g5, g6, g7, g8, g9⟩ := HS.out V hV
    have n1 : ∀ o, (⟨bd, 3, none⟩ : Addr) ≠ ⟨bc, o, none⟩ := fun o e2 => by have := congrArg Addr.block e2; simp at this; omega
    have n2 : ∀ o, (⟨bd, 3, none⟩ : Addr) ≠ ⟨bc + 1, o, none⟩ := fun o e2 => by have := congrArg Addr.block e2; simp at this; omega
    exact ⟨(World.cell?_setCell_other _ _ _ _ (n1 _)).trans g, (World.cell?_setCell_other _ _ _ _ (n2 _)).trans g0, (World.cell?_setCell_other _ _ _ _ (n2 _)).trans g1, (World.cell?_setCell_other _ _ _ _ (n2 _)).trans g2, (World.cell?_setCell_other _ _ _ _ (n2 _)).trans g3, (World.cell?_setCell_other _ _ _ _ (n2 _)).trans g4, (World.cell?_setCell_other _ _ _ _ (n2 _)).trans g5, (World.cell?_setCell_other _ _ _ _ (n2 _)).trans g6, (World.cell?_setCell_other _ _ _ _ (n2 _)).trans g7, (World.cell?_setCell_other _ _ _ _ (n2 _)).trans g8, (World.cell?_setCell_other _ _ _ _ (n2 _)).trans g9⟩)
  clear hbd
  go_cut [7] from 18 to 25 (fun s wx => s = .pointer (some ⟨bd, 0, none⟩) ∧ ∃ g cap, Kept (wx.heap[bd]? = some (.cells #[.int .i64 mn, .int .i64 mx, .int .i64 sw, .slice (some ⟨g, 0, none⟩) (c.ts.length + 1) cap, .slice Al nl cl, .slice Ah nh ch] 28)) ∧ Kept (RT wx wx.heap.size (some ⟨g, 0, none⟩) (c.ts ++ [tt])) ∧ Kept (Below (bd) w2 wx))
  case first =>
    obtain ⟨w2d, hw2d⟩ : ∃ w2d, w2d = w2.drew := ⟨_, rfl⟩
    have HB0 : Below w2.heap.size w2 w2d := by rw [hw2d]; exact (Below.refl _ _).drewN 1
    have HHELD := Kept.mk (HS.out w2d HB0)
    refine wp_region_late (fun V : World => V.cell? ⟨bc, 3, none⟩ = some (.slice At c.ts.length ct) ∧ V.cell? ⟨bc + 1, 0, none⟩ = some (.int .u8 t0) ∧ V.cell? ⟨bc + 1, 1, none⟩ = some (.int .i64 t1) ∧ V.cell? ⟨bc + 1, 2, none⟩ = some (.int .i64 t2) ∧ V.cell? ⟨bc + 1, 3, none⟩ = some (.int .i64 t3) ∧ V.cell? ⟨bc + 1, 4, none⟩ = some (.int .i64 t4) ∧ V.cell? ⟨bc + 1, 5, none⟩ = some (.int .i64 t5) ∧ V.cell? ⟨bc + 1, 6, none⟩ = some (.int .i64 t6) ∧ V.cell? ⟨bc + 1, 7, none⟩ = some (.int .i64 t7) ∧ V.cell? ⟨bc + 1, 8, none⟩ = some (.int .i64 t8) ∧ V.cell? ⟨bc + 1, 9, none⟩ = some (.int .i64 t9)) (fun _ => false) (by kernel_rfl) ?_
    rw [← hw2d]
    clear hw2d
    refine wpAnyT_take (i := 1) (v := ?v1x1) [1] (by simp only [List.getElem?_toArray, List.getElem?_cons_succ, List.getElem?_cons_zero]; exact rfl) (by kernel_rfl) (by kernel_rfl) (by kernel_rfl) (by kernel_rfl) (by intro _ _ _ h; exact h) (Or.inl ⟨by rfl, ?hy1x1⟩) HHELD.out ?rest1x1
    case hy1x1 => (intro w hSw; go_simp; try with_reducible rfl)
    try simp only [Act.put, List.setIfInBounds_toArray, List.set_cons_zero, List.set_cons_succ]
    refine wpAnyT_take (i := 2) (v := ?v2x2) [2] (by simp only [List.getElem?_toArray, List.getElem?_cons_succ, List.getElem?_cons_zero]; exact rfl) (by kernel_rfl) (by kernel_rfl) (by kernel_rfl) (by kernel_rfl) (by intro _ _ _ h; exact h) (Or.inl ⟨by rfl, ?hy2x2⟩) HHELD.out ?rest2x2
    case hy2x2 => (intro w hSw; go_simp; try with_reducible rfl)
    try simp only [Act.put, List.setIfInBounds_toArray, List.set_cons_zero, List.set_cons_succ]
    refine wpAnyT_take (i := 4) (v := ?v4x3) [4] (by simp only [List.getElem?_toArray, List.getElem?_cons_succ, List.getElem?_cons_zero]; exact rfl) (by kernel_rfl) (by kernel_rfl) (by kernel_rfl) (by kernel_rfl) (by intro _ _ _ h; exact h) (Or.inl ⟨by rfl, ?hy4x3⟩) HHELD.out ?rest4x3
    case hy4x3 => (intro w hSw; go_simp; try with_reducible rfl)
    try simp only [Act.put, List.setIfInBounds_toArray, List.set_cons_zero, List.set_cons_succ]
    refine wpAnyT_two 0 5 (by kernel_rfl) (by simp only [List.getElem?_toArray, List.getElem?_cons_succ, List.getElem?_cons_zero]; exact rfl) (by simp only [List.getElem?_toArray, List.getElem?_cons_succ, List.getElem?_cons_zero]; exact rfl) (fun K hK => ?_) (fun K hK => ?_)
    · go_simp
      refine hK.out _ _ (fun _ => HS.out _ (HB0.alloc HB0.size _)) ?_
      clear hK K
      have ow1 := own_made10 (e := 31) (base := w2.heap.size) w2d w2d.heap.size rfl HB0.size
      have hb1 := HB0.alloc HB0.size (.cells #[] 31)
      obtain ⟨ge, hge⟩ : ∃ ge, ge = w2d.heap.size := ⟨_, rfl⟩
      obtain ⟨V1, hV1⟩ : ∃ V, V = w2d.alloc (.cells #[] 31) := ⟨_, rfl⟩
      have hgl : ge < V1.heap.size := by rw [hV1, hge]; simp
      rw [← hV1] at ow1 hb1  ⊢
      rw [← hge] at ow1  ⊢
      clear hV1 hge
      try simp only [Act.put, List.setIfInBounds_toArray, List.set_cons_zero, List.set_cons_succ]
      refine wpAnyT_two 3 5 (by kernel_rfl) (by simp only [List.getElem?_toArray, List.getElem?_cons_succ, List.getElem?_cons_zero]; exact rfl) (by simp only [List.getElem?_toArray, List.getElem?_cons_succ, List.getElem?_cons_zero]; exact rfl) (fun K hK => ?_) (fun K hK => ?_)
      · refine step_wp rfl (wp_appT (.tmp 18) (.tmp 20) 24 rfl w2.heap.size 31 i0 (.agg #[.int .u8 0, .int .i64 0, .int .i64 0, .int .i64 0, .int .i64 0, .int .i64 0, .int .i64 0, .int .i64 0, .int .i64 0, .int .i64 0]) 80 Try.underlying24 hi0 hz0 hz1 hz2 rfl (.slice (some ⟨ge, 0, none⟩) 0 0) 0 [] rfl ow1 At c.ts ct w2.heap.size rfl (X2.out.below hb1) HNC.out (by simp only [maxLen]; omega) (by omega) hb1.size ?_)
        intro v2 V2 own2 grow2
        have hb2 := hb1.grown grow2 hb1.size (fun j hj => (ow1.lt j hj).1)
        obtain ⟨Av, cv, rfl⟩ := own_slice own2
        rw [Nat.zero_add] at own2 ⊢
        rw [List.nil_append] at own2
        refine hK.out _ _ (fun _ => HS.out _ hb2) ?_
        clear hK K grow2
        try simp only [Act.put, List.setIfInBounds_toArray, List.set_cons_zero, List.set_cons_succ]
        refine wpAnyT_one 5 (by kernel_rfl) (by simp only [List.getElem?_toArray, List.getElem?_cons_succ, List.getElem?_cons_zero]; exact rfl) (fun K hK => ?_)
        go_simp
        refine hK.out _ _ (fun _ => HS.out _ (hb2.alloc hb2.size _)) ?_
        clear hK K
        have pq3 : ∀ j u, [Value.int .u8 t0, .int .i64 t1, .int .i64 t2, .int .i64 t3, .int .i64 t4, .int .i64 t5, .int .i64 t6, .int .i64 t7, .int .i64 t8, .int .i64 t9][j]? = some u → (V2.alloc (.cells #[.int .u8 t0, .int .i64 t1, .int .i64 t2, .int .i64 t3, .int .i64 t4, .int .i64 t5, .int .i64 t6, .int .i64 t7, .int .i64 t8, .int .i64 t9] 31)).cell? ((⟨V2.heap.size, 0, none⟩ : Addr).add j) = some u := World.news_of_block (cs := #[.int .u8 t0, .int .i64 t1, .int .i64 t2, .int .i64 t3, .int .i64 t4, .int .i64 t5, .int .i64 t6, .int .i64 t7, .int .i64 t8, .int .i64 t9]) (heap_alloc_new V2 _)
        have hb3 := hb2.alloc hb2.size (.cells #[.int .u8 t0, .int .i64 t1, .int .i64 t2, .int .i64 t3, .int .i64 t4, .int .i64 t5, .int .i64 t6, .int .i64 t7, .int .i64 t8, .int .i64 t9] 31)
        have ow3 := own2.alloc (.cells #[.int .u8 t0, .int .i64 t1, .int .i64 t2, .int .i64 t3, .int .i64 t4, .int .i64 t5, .int .i64 t6, .int .i64 t7, .int .i64 t8, .int .i64 t9] 31)
        obtain ⟨gx, hgxx⟩ : ∃ gx, gx = V2.heap.size := ⟨_, rfl⟩
        skip
        obtain ⟨V3, hV3⟩ : ∃ V, V = V2.alloc (.cells #[.int .u8 t0, .int .i64 t1, .int .i64 t2, .int .i64 t3, .int .i64 t4, .int .i64 t5, .int .i64 t6, .int .i64 t7, .int .i64 t8, .int .i64 t9] 31) := ⟨_, rfl⟩
        have hgx : gx < V3.heap.size := by rw [hV3, hgxx]; simp
        rw [← hV3] at pq3 hb3 ow3 ⊢
        rw [← hgxx] at pq3 ⊢
        clear hV3 hgxx
        try simp only [Act.put, List.setIfInBounds_toArray, List.set_cons_zero, List.set_cons_succ]
        refine wpAnyT_one 6 (by kernel_rfl) (by simp only [List.getElem?_toArray, List.getElem?_cons_succ, List.getElem?_cons_zero]; exact rfl) (fun K hK => ?_)
        refine step_append_lies _ rfl (.tmp 21) (.tmp 23) 24 rfl w2.heap.size 31 i0 (.agg #[.int .u8 0, .int .i64 0, .int .i64 0, .int .i64 0, .int .i64 0, .int .i64 0, .int .i64 0, .int .i64 0, .int .i64 0, .int .i64 0]) 10 80 Try.underlying24 hi0 hz0 hz1 hz2 rfl (by decide) (.slice Av c.ts.length cv) c.ts.length (c.ts.flatMap Tk.cells) rfl ow3 ⟨_, 0, none⟩ 1 1 [.int .u8 t0, .int .i64 t1, .int .i64 t2, .int .i64 t3, .int .i64 t4, .int .i64 t5, .int .i64 t6, .int .i64 t7, .int .i64 t8, .int .i64 t9] rfl rfl pq3 (by simp [Value.oneCell']) (by decide) (by simp only [maxLen]; omega) (by omega) hb3.size _ rfl ?_
        intro gF capF VF ownF growF liesF hltF
        have hbF := hb3.grown growF hb3.size (fun j hj => (ow3.lt j hj).1)
        have HFIN := Kept.mk (HPOST.out gF capF VF ownF hbF)
        have hfz : VF.frozen? ⟨bd, 3, none⟩ = false := frozen_of_row _ _ 3 _ _ (HDB.out VF hbF)
        have hcl : VF.cell? ⟨bd, 3, none⟩ = some (.slice At c.ts.length ct) := cell_of_row _ _ 3 _ _ _ (HDB.out VF hbF)
        refine hK.out _ _ (fun _ => HS.out _ hbF) ?_
        clear hK K growF liesF ownF
        try simp only [Act.put, List.setIfInBounds_toArray, List.set_cons_zero, List.set_cons_succ]
        have HHELD2 := Kept.mk (HS.out _ hbF)
        refine wpAnyT_take (i := 7) (v := ?v7x4) [7] (by simp only [List.getElem?_toArray, List.getElem?_cons_succ, List.getElem?_cons_zero]; exact rfl) (by kernel_rfl) (by kernel_rfl) (by kernel_rfl) (by kernel_rfl) (by intro _ _ _ h; exact h) (Or.inl ⟨by rfl, ?hy7x4⟩) HHELD2.out ?rest7x4
        case hy7x4 => (intro w hSw; go_simp; try with_reducible rfl)
        try simp only [Act.put, List.setIfInBounds_toArray, List.set_cons_zero, List.set_cons_succ]
        refine wpAnyT_one 8 (by kernel_rfl) (by simp only [List.getElem?_toArray, List.getElem?_cons_succ, List.getElem?_cons_zero]; exact rfl) (fun K hK => ?_)
        go_simp
        refine hK.out _ _ (fun _ => HS2.out _ _ hbF) ?_
        clear hK K
        try simp only [Act.put, List.setIfInBounds_toArray, List.set_cons_zero, List.set_cons_succ]
        refine wpAnyT_done (by kernel_rfl) ?_ _
        go_wp2
        go_meet
        exact ⟨rfl, gF, capF, HFIN.out⟩
      · go_simp
        refine hK.out _ _ (fun _ => HS.out _ (hb1.alloc hb1.size _)) ?_
        clear hK K
        have pq5 : ∀ j u, [Value.int .u8 t0, .int .i64 t1, .int .i64 t2, .int .i64 t3, .int .i64 t4, .int .i64 t5, .int .i64 t6, .int .i64 t7, .int .i64 t8, .int .i64 t9][j]? = some u → (V1.alloc (.cells #[.int .u8 t0, .int .i64 t1, .int .i64 t2, .int .i64 t3, .int .i64 t4, .int .i64 t5, .int .i64 t6, .int .i64 t7, .int .i64 t8, .int .i64 t9] 31)).cell? ((⟨V1.heap.size, 0, none⟩ : Addr).add j) = some u := World.news_of_block (cs := #[.int .u8 t0, .int .i64 t1, .int .i64 t2, .int .i64 t3, .int .i64 t4, .int .i64 t5, .int .i64 t6, .int .i64 t7, .int .i64 t8, .int .i64 t9]) (heap_alloc_new V1 _)
        have hb5 := hb1.alloc hb1.size (.cells #[.int .u8 t0, .int .i64 t1, .int .i64 t2, .int .i64 t3, .int .i64 t4, .int .i64 t5, .int .i64 t6, .int .i64 t7, .int .i64 t8, .int .i64 t9] 31)
        have ow5 := ow1.alloc (.cells #[.int .u8 t0, .int .i64 t1, .int .i64 t2, .int .i64 t3, .int .i64 t4, .int .i64 t5, .int .i64 t6, .int .i64 t7, .int .i64 t8, .int .i64 t9] 31)
        obtain ⟨gx, hgxx⟩ : ∃ gx, gx = V1.heap.size := ⟨_, rfl⟩
        have hgg : gx ≠ ge := by omega
        obtain ⟨V5, hV5⟩ : ∃ V, V = V1.alloc (.cells #[.int .u8 t0, .int .i64 t1, .int .i64 t2, .int .i64 t3, .int .i64 t4, .int .i64 t5, .int .i64 t6, .int .i64 t7, .int .i64 t8, .int .i64 t9] 31) := ⟨_, rfl⟩
        have hgx : gx < V5.heap.size := by rw [hV5, hgxx]; simp
        rw [← hV5] at pq5 hb5 ow5 ⊢
        rw [← hgxx] at pq5 ⊢
        clear hV5 hgxx
        try simp only [Act.put, List.setIfInBounds_toArray, List.set_cons_zero, List.set_cons_succ]
        refine wpAnyT_one 3 (by kernel_rfl) (by simp only [List.getElem?_toArray, List.getElem?_cons_succ, List.getElem?_cons_zero]; exact rfl) (fun K hK => ?_)
        refine step_wp rfl (wp_appT (.tmp 18) (.tmp 20) 24 rfl w2.heap.size 31 i0 (.agg #[.int .u8 0, .int .i64 0, .int .i64 0, .int .i64 0, .int .i64 0, .int .i64 0, .int .i64 0, .int .i64 0, .int .i64 0, .int .i64 0]) 80 Try.underlying24 hi0 hz0 hz1 hz2 rfl (.slice (some ⟨ge, 0, none⟩) 0 0) 0 [] rfl ow5 At c.ts ct w2.heap.size rfl (X2.out.below hb5) HNC.out (by simp only [maxLen]; omega) (by omega) hb5.size ?_)
        intro v6 V6 own6 grow6
        have hb6 := hb5.grown grow6 hb5.size (fun j hj => (ow5.lt j hj).1)
        obtain ⟨Av, cv, rfl⟩ := own_slice own6
        rw [Nat.zero_add] at own6 ⊢
        rw [List.nil_append] at own6
        have pq6 : ∀ j u, [Value.int .u8 t0, .int .i64 t1, .int .i64 t2, .int .i64 t3, .int .i64 t4, .int .i64 t5, .int .i64 t6, .int .i64 t7, .int .i64 t8, .int .i64 t9][j]? = some u → V6.cell? ((⟨gx, 0, none⟩ : Addr).add j) = some u := fun j u hj => (grow6.cell_far _ (by rw [addB_block]; exact hgx) (by rw [addB_block]; intro e; simp [Value.ownBlock] at e; exact hgg e)).trans (pq5 j u hj)
        refine hK.out _ _ (fun _ => HS.out _ hb6) ?_
        clear hK K grow6
        try simp only [Act.put, List.setIfInBounds_toArray, List.set_cons_zero, List.set_cons_succ]
        refine wpAnyT_one 6 (by kernel_rfl) (by simp only [List.getElem?_toArray, List.getElem?_cons_succ, List.getElem?_cons_zero]; exact rfl) (fun K hK => ?_)
        refine step_append_lies _ rfl (.tmp 21) (.tmp 23) 24 rfl w2.heap.size 31 i0 (.agg #[.int .u8 0, .int .i64 0, .int .i64 0, .int .i64 0, .int .i64 0, .int .i64 0, .int .i64 0, .int .i64 0, .int .i64 0, .int .i64 0]) 10 80 Try.underlying24 hi0 hz0 hz1 hz2 rfl (by decide) (.slice Av c.ts.length cv) c.ts.length (c.ts.flatMap Tk.cells) rfl own6 ⟨_, 0, none⟩ 1 1 [.int .u8 t0, .int .i64 t1, .int .i64 t2, .int .i64 t3, .int .i64 t4, .int .i64 t5, .int .i64 t6, .int .i64 t7, .int .i64 t8, .int .i64 t9] rfl rfl pq6 (by simp [Value.oneCell']) (by decide) (by simp only [maxLen]; omega) (by omega) hb6.size _ rfl ?_
        intro gF capF VF ownF growF liesF hltF
        have hbF := hb6.grown growF hb6.size (fun j hj => (own6.lt j hj).1)
        have HFIN := Kept.mk (HPOST.out gF capF VF ownF hbF)
        have hfz : VF.frozen? ⟨bd, 3, none⟩ = false := frozen_of_row _ _ 3 _ _ (HDB.out VF hbF)
        have hcl : VF.cell? ⟨bd, 3, none⟩ = some (.slice At c.ts.length ct) := cell_of_row _ _ 3 _ _ _ (HDB.out VF hbF)
        refine hK.out _ _ (fun _ => HS.out _ hbF) ?_
        clear hK K growF liesF ownF
        try simp only [Act.put, List.setIfInBounds_toArray, List.set_cons_zero, List.set_cons_succ]
        have HHELD2 := Kept.mk (HS.out _ hbF)
        refine wpAnyT_take (i := 7) (v := ?v7x5) [7] (by simp only [List.getElem?_toArray, List.getElem?_cons_succ, List.getElem?_cons_zero]; exact rfl) (by kernel_rfl) (by kernel_rfl) (by kernel_rfl) (by kernel_rfl) (by intro _ _ _ h; exact h) (Or.inl ⟨by rfl, ?hy7x5⟩) HHELD2.out ?rest7x5
        case hy7x5 => (intro w hSw; go_simp; try with_reducible rfl)
        try simp only [Act.put, List.setIfInBounds_toArray, List.set_cons_zero, List.set_cons_succ]
        refine wpAnyT_one 8 (by kernel_rfl) (by simp only [List.getElem?_toArray, List.getElem?_cons_succ, List.getElem?_cons_zero]; exact rfl) (fun K hK => ?_)
        go_simp
        refine hK.out _ _ (fun _ => HS2.out _ _ hbF) ?_
        clear hK K
        try simp only [Act.put, List.setIfInBounds_toArray, List.set_cons_zero, List.set_cons_succ]
        refine wpAnyT_done (by kernel_rfl) ?_ _
        go_wp2
        go_meet
        exact ⟨rfl, gF, capF, HFIN.out⟩
    · go_simp
      refine hK.out _ _ (fun _ => HS.out _ (HB0.alloc HB0.size _)) ?_
      clear hK K
      have pq8 : ∀ j u, [Value.int .u8 t0, .int .i64 t1, .int .i64 t2, .int .i64 t3, .int .i64 t4, .int .i64 t5, .int .i64 t6, .int .i64 t7, .int .i64 t8, .int .i64 t9][j]? = some u → (w2d.alloc (.cells #[.int .u8 t0, .int .i64 t1, .int .i64 t2, .int .i64 t3, .int .i64 t4, .int .i64 t5, .int .i64 t6, .int .i64 t7, .int .i64 t8, .int .i64 t9] 31)).cell? ((⟨w2d.heap.size, 0, none⟩ : Addr).add j) = some u := World.news_of_block (cs := #[.int .u8 t0, .int .i64 t1, .int .i64 t2, .int .i64 t3, .int .i64 t4, .int .i64 t5, .int .i64 t6, .int .i64 t7, .int .i64 t8, .int .i64 t9]) (heap_alloc_new w2d _)
      have hb8 := HB0.alloc HB0.size (.cells #[.int .u8 t0, .int .i64 t1, .int .i64 t2, .int .i64 t3, .int .i64 t4, .int .i64 t5, .int .i64 t6, .int .i64 t7, .int .i64 t8, .int .i64 t9] 31)
      obtain ⟨gx, hgxx⟩ : ∃ gx, gx = w2d.heap.size := ⟨_, rfl⟩
      skip
      obtain ⟨V8, hV8⟩ : ∃ V, V = w2d.alloc (.cells #[.int .u8 t0, .int .i64 t1, .int .i64 t2, .int .i64 t3, .int .i64 t4, .int .i64 t5, .int .i64 t6, .int .i64 t7, .int .i64 t8, .int .i64 t9] 31) := ⟨_, rfl⟩
      have hgx : gx < V8.heap.size := by rw [hV8, hgxx]; simp
      rw [← hV8] at pq8 hb8  ⊢
      rw [← hgxx] at pq8 ⊢
      clear hV8 hgxx
      try simp only [Act.put, List.setIfInBounds_toArray, List.set_cons_zero, List.set_cons_succ]
      refine wpAnyT_one 0 (by kernel_rfl) (by simp only [List.getElem?_toArray, List.getElem?_cons_succ, List.getElem?_cons_zero]; exact rfl) (fun K hK => ?_)
      go_simp
      refine hK.out _ _ (fun _ => HS.out _ (hb8.alloc hb8.size _)) ?_
      clear hK K
      have ow9 := own_made10 (e := 31) (base := w2.heap.size) V8 V8.heap.size rfl hb8.size
      have hb9 := hb8.alloc hb8.size (.cells #[] 31)
      have pq9 : ∀ j u, [Value.int .u8 t0, .int .i64 t1, .int .i64 t2, .int .i64 t3, .int .i64 t4, .int .i64 t5, .int .i64 t6, .int .i64 t7, .int .i64 t8, .int .i64 t9][j]? = some u → (V8.alloc (.cells #[] 31)).cell? ((⟨gx, 0, none⟩ : Addr).add j) = some u := fun j u hj => ((below_box V8 _).cell (p := (⟨gx, 0, none⟩ : Addr).add j) (by rw [addB_block]; exact hgx)).trans (pq8 j u hj)
      have hgx9 : gx < (V8.alloc (.cells #[] 31)).heap.size := by simp; omega
      have hgg : gx ≠ V8.heap.size := by omega
      obtain ⟨ge, hge⟩ : ∃ ge, ge = V8.heap.size := ⟨_, rfl⟩
      obtain ⟨V9, hV9⟩ : ∃ V, V = V8.alloc (.cells #[] 31) := ⟨_, rfl⟩
      have hgl : ge < V9.heap.size := by rw [hV9, hge]; simp
      rw [← hV9] at ow9 hb9 pq9 hgx9 ⊢
      rw [← hge] at ow9 hgg ⊢
      clear hV9 hge
      try simp only [Act.put, List.setIfInBounds_toArray, List.set_cons_zero, List.set_cons_succ]
      replace hgx := hgx9
      refine wpAnyT_one 3 (by kernel_rfl) (by simp only [List.getElem?_toArray, List.getElem?_cons_succ, List.getElem?_cons_zero]; exact rfl) (fun K hK => ?_)
      refine step_wp rfl (wp_appT (.tmp 18) (.tmp 20) 24 rfl w2.heap.size 31 i0 (.agg #[.int .u8 0, .int .i64 0, .int .i64 0, .int .i64 0, .int .i64 0, .int .i64 0, .int .i64 0, .int .i64 0, .int .i64 0, .int .i64 0]) 80 Try.underlying24 hi0 hz0 hz1 hz2 rfl (.slice (some ⟨ge, 0, none⟩) 0 0) 0 [] rfl ow9 At c.ts ct w2.heap.size rfl (X2.out.below hb9) HNC.out (by simp only [maxLen]; omega) (by omega) hb9.size ?_)
      intro v10 V10 own10 grow10
      have hb10 := hb9.grown grow10 hb9.size (fun j hj => (ow9.lt j hj).1)
      obtain ⟨Av, cv, rfl⟩ := own_slice own10
      rw [Nat.zero_add] at own10 ⊢
      rw [List.nil_append] at own10
      have pq10 : ∀ j u, [Value.int .u8 t0, .int .i64 t1, .int .i64 t2, .int .i64 t3, .int .i64 t4, .int .i64 t5, .int .i64 t6, .int .i64 t7, .int .i64 t8, .int .i64 t9][j]? = some u → V10.cell? ((⟨gx, 0, none⟩ : Addr).add j) = some u := fun j u hj => (grow10.cell_far _ (by rw [addB_block]; exact hgx) (by rw [addB_block]; intro e; simp [Value.ownBlock] at e; exact hgg e)).trans (pq9 j u hj)
      refine hK.out _ _ (fun _ => HS.out _ hb10) ?_
      clear hK K grow10
      try simp only [Act.put, List.setIfInBounds_toArray, List.set_cons_zero, List.set_cons_succ]
      refine wpAnyT_one 6 (by kernel_rfl) (by simp only [List.getElem?_toArray, List.getElem?_cons_succ, List.getElem?_cons_zero]; exact rfl) (fun K hK => ?_)
      refine step_append_lies _ rfl (.tmp 21) (.tmp 23) 24 rfl w2.heap.size 31 i0 (.agg #[.int .u8 0, .int .i64 0, .int .i64 0, .int .i64 0, .int .i64 0, .int .i64 0, .int .i64 0, .int .i64 0, .int .i64 0, .int .i64 0]) 10 80 Try.underlying24 hi0 hz0 hz1 hz2 rfl (by decide) (.slice Av c.ts.length cv) c.ts.length (c.ts.flatMap Tk.cells) rfl own10 ⟨_, 0, none⟩ 1 1 [.int .u8 t0, .int .i64 t1, .int .i64 t2, .int .i64 t3, .int .i64 t4, .int .i64 t5, .int .i64 t6, .int .i64 t7, .int .i64 t8, .int .i64 t9] rfl rfl pq10 (by simp [Value.oneCell']) (by decide) (by simp only [maxLen]; omega) (by omega) hb10.size _ rfl ?_
      intro gF capF VF ownF growF liesF hltF
      have hbF := hb10.grown growF hb10.size (fun j hj => (own10.lt j hj).1)
      have HFIN := Kept.mk (HPOST.out gF capF VF ownF hbF)
      have hfz : VF.frozen? ⟨bd, 3, none⟩ = false := frozen_of_row _ _ 3 _ _ (HDB.out VF hbF)
      have hcl : VF.cell? ⟨bd, 3, none⟩ = some (.slice At c.ts.length ct) := cell_of_row _ _ 3 _ _ _ (HDB.out VF hbF)
      refine hK.out _ _ (fun _ => HS.out _ hbF) ?_
      clear hK K growF liesF ownF
      try simp only [Act.put, List.setIfInBounds_toArray, List.set_cons_zero, List.set_cons_succ]
      have HHELD2 := Kept.mk (HS.out _ hbF)
      refine wpAnyT_take (i := 7) (v := ?v7x6) [7] (by simp only [List.getElem?_toArray, List.getElem?_cons_succ, List.getElem?_cons_zero]; exact rfl) (by kernel_rfl) (by kernel_rfl) (by kernel_rfl) (by kernel_rfl) (by intro _ _ _ h; exact h) (Or.inl ⟨by rfl, ?hy7x6⟩) HHELD2.out ?rest7x6
      case hy7x6 => (intro w hSw; go_simp; try with_reducible rfl)
      try simp only [Act.put, List.setIfInBounds_toArray, List.set_cons_zero, List.set_cons_succ]
      refine wpAnyT_one 8 (by kernel_rfl) (by simp only [List.getElem?_toArray, List.getElem?_cons_succ, List.getElem?_cons_zero]; exact rfl) (fun K hK => ?_)
      go_simp
      refine hK.out _ _ (fun _ => HS2.out _ _ hbF) ?_
      clear hK K
      try simp only [Act.put, List.setIfInBounds_toArray, List.set_cons_zero, List.set_cons_succ]
      refine wpAnyT_done (by kernel_rfl) ?_ _
      go_wp2
      go_meet
      exact ⟨rfl, gF, capF, HFIN.out⟩
  case rest =>
    obtain ⟨rfl, g, cap, hD, hRD, B3⟩ := hcut
    obtain ⟨w3, hw3⟩ : ∃ w3, w3 = wc := ⟨_, rfl⟩
    subst hw3
    have BW3 := Kept.mk (show Below w.heap.size w w3 from B2.out.trans (B3.out.mono (by have := HBD.out; have := HBC.out; omega)))
    have hz3 : bd < w3.heap.size := lt_of_block hD.out
    have r3c : w3.heap[bc]? = some (.cells #[.int .i64 mn, .int .i64 mx, .int .i64 sw, .slice At c.ts.length ct, .slice Al nl cl, .slice Ah nh ch] 28) := (B3.out.block bc (by have := HBD.out; omega)).trans HRC.out
    have r3t : w3.heap[bc + 1]? = some (.cells #[.int .u8 t0, .int .i64 t1, .int .i64 t2, .int .i64 t3, .int .i64 t4, .int .i64 t5, .int .i64 t6, .int .i64 t7, .int .i64 t8, .int .i64 t9] 31) := (B3.out.block (bc + 1) (by have := HBD.out; omega)).trans HRT.out
    have R3C := Kept.mk r3c
    have X3 := Kept.mk (show RT w3 w3.heap.size At c.ts from (HT.out.below BW3.out).mono BW3.out.size)
    have HCC := Kept.mk (show w3.cell? ⟨bc, 0, none⟩ = some (.int .i64 mn) ∧ w3.cell? ⟨bc, 1, none⟩ = some (.int .i64 mx) ∧ w3.cell? ⟨bc, 2, none⟩ = some (.int .i64 sw) ∧ w3.cell? ⟨bc, 3, none⟩ = some (.slice At c.ts.length ct) ∧ w3.cell? ⟨bc, 4, none⟩ = some (.slice Al nl cl) ∧ w3.cell? ⟨bc, 5, none⟩ = some (.slice Ah nh ch) from ⟨cell_of_row _ _ 0 _ _ _ r3c, cell_of_row _ _ 1 _ _ _ r3c, cell_of_row _ _ 2 _ _ _ r3c, cell_of_row _ _ 3 _ _ _ r3c, cell_of_row _ _ 4 _ _ _ r3c, cell_of_row _ _ 5 _ _ _ r3c⟩)
    obtain ⟨k0, k1, k2, k3, k4, k5⟩ := HCC.out
    obtain ⟨be, hbe⟩ : ∃ be, be = w3.heap.size := ⟨_, rfl⟩
    go_upto_region 6 with fail
    obtain ⟨we, hwe⟩ : ∃ we, we = w3.alloc (.cells #[.int .i64 mn, .int .i64 mx, .int .i64 sw, .slice At c.ts.length ct, .slice Al nl cl, .slice Ah nh ch] 28) := ⟨_, rfl⟩
    rw [← hwe, ← hbe]
    have HBE := Kept.mk hbe
    have HEZ := Kept.mk (show we.heap.size = be + 1 by rw [hwe, hbe]; simp)
    have BE := Kept.mk (show Below w3.heap.size w3 we by rw [hwe]; exact below_box _ _)
    have HROW := Kept.mk (show we.heap[be]? = some (.cells #[.int .i64 mn, .int .i64 mx, .int .i64 sw, .slice At c.ts.length ct, .slice Al nl cl, .slice Ah nh ch] 28) by rw [hwe, hbe]; exact heap_alloc_new _ _)
    have ret := (BE.out.block (bc + 1) (by have := HBD.out; omega)).trans r3t
    have HTC := Kept.mk (show we.cell? ⟨bc + 1, 0, none⟩ = some (.int .u8 t0) ∧ we.cell? ⟨bc + 1, 1, none⟩ = some (.int .i64 t1) ∧ we.cell? ⟨bc + 1, 2, none⟩ = some (.int .i64 t2) ∧ we.cell? ⟨bc + 1, 3, none⟩ = some (.int .i64 t3) ∧ we.cell? ⟨bc + 1, 4, none⟩ = some (.int .i64 t4) ∧ we.cell? ⟨bc + 1, 5, none⟩ = some (.int .i64 t5) ∧ we.cell? ⟨bc + 1, 6, none⟩ = some (.int .i64 t6) ∧ we.cell? ⟨bc + 1, 7, none⟩ = some (.int .i64 t7) ∧ we.cell? ⟨bc + 1, 8, none⟩ = some (.int .i64 t8) ∧ we.cell? ⟨bc + 1, 9, none⟩ = some (.int .i64 t9) from ⟨cell_of_row _ _ 0 _ _ _ ret, cell_of_row _ _ 1 _ _ _ ret, cell_of_row _ _ 2 _ _ _ ret, cell_of_row _ _ 3 _ _ _ ret, cell_of_row _ _ 4 _ _ _ ret, cell_of_row _ _ 5 _ _ _ ret, cell_of_row _ _ 6 _ _ _ ret, cell_of_row _ _ 7 _ _ _ ret, cell_of_row _ _ 8 _ _ _ ret, cell_of_row _ _ 9 _ _ _ ret⟩)
    have e3 : we.cell? ⟨bc, 3, none⟩ = some (.slice At c.ts.length ct) := cell_of_row _ _ 3 _ _ _ ((BE.out.block bc (by have := HBD.out; omega)).trans r3c)
    obtain ⟨j0, j1, j2, j3, j4, j5, j6, j7, j8, j9⟩ := HTC.out
    have hbl : be < we.heap.size := by rw [HEZ.out]; omega
    have hbcl : bc < we.heap.size := by have := HBD.out; have := HEZ.out; have := HBE.out; omega
    clear r3c r3t hbe hwe hzw ret HRT HRC HPOST HDB HS HS2 X2 k0 k1 k2 k3 k4 k5
    go_cut [8] from 27 to 32 (fun s wx => s = .pointer (some ⟨be, 0, none⟩) ∧ ∃ ge cae, Kept (wx.heap[be]? = some (.cells #[.int .i64 mn, .int .i64 mx, .int .i64 sw, .slice (some ⟨ge, 0, none⟩) (c.ts.length + 1) cae, .slice Al nl cl, .slice Ah nh ch] 28)) ∧ Kept (RT wx wx.heap.size (some ⟨ge, 0, none⟩) (tt :: c.ts)) ∧ Kept (Below w3.heap.size w3 wx))
    case first =>
      have HO := Kept.mk (show (we.alloc (.cells #[.int .u8 t0, .int .i64 t1, .int .i64 t2, .int .i64 t3, .int .i64 t4, .int .i64 t5, .int .i64 t6, .int .i64 t7, .int .i64 t8, .int .i64 t9] 31)).ownsRow we.heap.size 31 10 (.slice (some ⟨we.heap.size, 0, none⟩) 1 1) 1 [.int .u8 t0, .int .i64 t1, .int .i64 t2, .int .i64 t3, .int .i64 t4, .int .i64 t5, .int .i64 t6, .int .i64 t7, .int .i64 t8, .int .i64 t9] from own_lit we #[.int .u8 t0, .int .i64 t1, .int .i64 t2, .int .i64 t3, .int .i64 t4, .int .i64 t5, .int .i64 t6, .int .i64 t7, .int .i64 t8, .int .i64 t9] 1 (by decide) rfl)
      have HX := Kept.mk (show RT (we.alloc (.cells #[.int .u8 t0, .int .i64 t1, .int .i64 t2, .int .i64 t3, .int .i64 t4, .int .i64 t5, .int .i64 t6, .int .i64 t7, .int .i64 t8, .int .i64 t9] 31)) w3.heap.size At c.ts from X3.out.below (BE.out.alloc BE.out.size _))
      have hbase : we.heap.size ≤ (we.alloc (.cells #[.int .u8 t0, .int .i64 t1, .int .i64 t2, .int .i64 t3, .int .i64 t4, .int .i64 t5, .int .i64 t6, .int .i64 t7, .int .i64 t8, .int .i64 t9] 31)).heap.size := by simp
      have hmax : 1 + c.ts.length ≤ maxLen := by simp only [maxLen]; omega
      have hbyt : (1 + c.ts.length) * 80 ≤ 140737488355328 := by omega
      have HF := Kept.mk (fun (v' : Value) (w' : World) (hO : w'.ownsRow we.heap.size 31 10 v' (1 + c.ts.length) ([.int .u8 t0, .int .i64 t1, .int .i64 t2, .int .i64 t3, .int .i64 t4, .int .i64 t5, .int .i64 t6, .int .i64 t7, .int .i64 t8, .int .i64 t9] ++ c.ts.flatMap Tk.cells)) (hg : (we.alloc (.cells #[.int .u8 t0, .int .i64 t1, .int .i64 t2, .int .i64 t3, .int .i64 t4, .int .i64 t5, .int .i64 t6, .int .i64 t7, .int .i64 t8, .int .i64 t9] 31)).grownBy w' (Value.slice (some ⟨we.heap.size, 0, none⟩) 1 1).ownBlock) => show
          ∃ ge cae, v' = .slice (some ⟨ge, 0, none⟩) (c.ts.length + 1) cae ∧ w'.cell? ⟨be, 3, none⟩ = some (.slice At c.ts.length ct) ∧ w'.frozen? ⟨be, 3, none⟩ = false ∧
          Kept ((w'.setCell ⟨be, 3, none⟩ (.slice (some ⟨ge, 0, none⟩) (c.ts.length + 1) cae)).heap[be]? = some (.cells #[.int .i64 mn, .int .i64 mx, .int .i64 sw, .slice (some ⟨ge, 0, none⟩) (c.ts.length + 1) cae, .slice Al nl cl, .slice Ah nh ch] 28)) ∧ Kept (RT (w'.setCell ⟨be, 3, none⟩ (.slice (some ⟨ge, 0, none⟩) (c.ts.length + 1) cae)) (w'.setCell ⟨be, 3, none⟩ (.slice (some ⟨ge, 0, none⟩) (c.ts.length + 1) cae)).heap.size (some ⟨ge, 0, none⟩) (tt :: c.ts)) ∧ Kept (Below w3.heap.size w3 (w'.setCell ⟨be, 3, none⟩ (.slice (some ⟨ge, 0, none⟩) (c.ts.length + 1) cae))) from by
        have hb1 : Below we.heap.size we w' := (below_box we _).grown hg (by simp) fun q hq => (HO.out.lt q hq).1
        have hO' : w'.ownsRow we.heap.size 31 10 v' (c.ts.length + 1) ((tt :: c.ts).flatMap Tk.cells) := by
          rw [List.flatMap_cons, HTT.out, Nat.add_comm]; exact hO
        obtain ⟨gg, kk, hv, _, hlt⟩ := hO'.form (by omega)
        subst hv
        have hge : we.heap.size ≤ gg := (hO'.lt gg rfl).1
        obtain ⟨A, k, hv, hR, _⟩ := RT.of_own hO'
        injection hv with hA hn hk
        subst hA
        have hrow' := (hb1.block be hbl).trans HROW.out
        refine ⟨gg, kk, rfl, cell_of_row _ _ 3 _ _ _ hrow', frozen_of_row _ _ 3 _ _ hrow', ⟨heap_setCell_same _ _ 3 _ _ _ hrow'⟩, ⟨?_⟩, ⟨?_⟩⟩
        · intro h0
          obtain ⟨b, off, e, hb, hc⟩ := hR h0
          refine ⟨b, off, e, by simpa using hb, fun j x o u hj ho => ?_⟩
          have hbg : b = gg := by cases e; rfl
          rw [World.cell?_setCell_other _ _ _ _ (by intro e2; have := congrArg Addr.block e2; simp at this; omega)]
          exact hc j x o u hj ho
        · have hb0 : Below w3.heap.size w3 w' := BE.out.trans (hb1.mono BE.out.size)
          exact hb0.setCell (p := ⟨be, 3, none⟩) (by show _ ≤ be; have := HBE.out; omega) _)
      go_wp2_with (at_builtin; refine wpList_appT rfl (.tmp 28) (.tmp 30) 24 rfl we.heap.size 31 i0 (.agg #[.int .u8 0, .int .i64 0, .int .i64 0, .int .i64 0, .int .i64 0, .int .i64 0, .int .i64 0, .int .i64 0, .int .i64 0, .int .i64 0]) 80 Try.underlying24 hi0 hz0 hz1 hz2 rfl (.slice (some ⟨we.heap.size, 0, none⟩) 1 1) 1 [.int .u8 t0, .int .i64 t1, .int .i64 t2, .int .i64 t3, .int .i64 t4, .int .i64 t5, .int .i64 t6, .int .i64 t7, .int .i64 t8, .int .i64 t9] rfl HO.out At c.ts ct _ rfl HX.out HNC.out hmax hbyt hbase ?_; intro v5 w5 own5 grow5; obtain ⟨ge, cae, rfl, q1, q2, q3⟩ := HF.out v5 w5 own5 grow5; have HQ3 := Kept.mk q3; clear own5 grow5 q3)
      go_meet
      exact ⟨rfl, ge, cae, HQ3.out⟩
    case rest =>
      obtain ⟨rfl, ge, cae, hE, hRE, B4⟩ := hcut
      obtain ⟨w4, hw4⟩ : ∃ w4, w4 = wc := ⟨_, rfl⟩
      subst hw4
      have BW4 := Kept.mk (BW3.out.trans (B4.out.mono BW3.out.size))
      have HKC := Kept.mk (fun (V : World) (hV : Below w4.heap.size w4 V) => show (V.cell? ⟨bc, 0, none⟩ = some (.int .i64 mn) ∧ V.cell? ⟨bc, 1, none⟩ = some (.int .i64 mx) ∧ V.cell? ⟨bc, 2, none⟩ = some (.int .i64 sw) ∧ V.cell? ⟨bc, 3, none⟩ = some (.slice At c.ts.length ct) ∧ V.cell? ⟨bc, 4, none⟩ = some (.slice Al nl cl) ∧ V.cell? ⟨bc, 5, none⟩ = some (.slice Ah nh ch)) ∧ CV V V.heap.size c #[.int .i64 mn, .int .i64 mx, .int .i64 sw, .slice At c.ts.length ct, .slice Al nl cl, .slice Ah nh ch] from by
        have hb := B4.out.trans (hV.mono B4.out.size)
        have h := (hb.block bc (by have := HBD.out; omega)).trans R3C.out
        exact ⟨⟨cell_of_row _ _ 0 _ _ _ h, cell_of_row _ _ 1 _ _ _ h, cell_of_row _ _ 2 _ _ _ h, cell_of_row _ _ 3 _ _ _ h, cell_of_row _ _ 4 _ _ _ h, cell_of_row _ _ 5 _ _ _ h⟩, HC.out V (BW4.out.trans (hV.mono BW4.out.size))⟩)
      have HKD := Kept.mk (fun (V : World) (hV : Below w4.heap.size w4 V) => show (V.cell? ⟨bd, 0, none⟩ = some (.int .i64 mn) ∧ V.cell? ⟨bd, 1, none⟩ = some (.int .i64 mx) ∧ V.cell? ⟨bd, 2, none⟩ = some (.int .i64 sw) ∧ V.cell? ⟨bd, 3, none⟩ = some (.slice (some ⟨g, 0, none⟩) (c.ts.length + 1) cap) ∧ V.cell? ⟨bd, 4, none⟩ = some (.slice Al nl cl) ∧ V.cell? ⟨bd, 5, none⟩ = some (.slice Ah nh ch)) ∧ CV V V.heap.size (cD c tt) #[.int .i64 mn, .int .i64 mx, .int .i64 sw, .slice (some ⟨g, 0, none⟩) (c.ts.length + 1) cap, .slice Al nl cl, .slice Ah nh ch] from by
        have hb := B4.out.trans (hV.mono B4.out.size)
        have h := (hb.block bd hz3).trans hD.out
        exact ⟨⟨cell_of_row _ _ 0 _ _ _ h, cell_of_row _ _ 1 _ _ _ h, cell_of_row _ _ 2 _ _ _ h, cell_of_row _ _ 3 _ _ _ h, cell_of_row _ _ 4 _ _ _ h, cell_of_row _ _ 5 _ _ _ h⟩, HD.out V (BW4.out.trans (hV.mono BW4.out.size)) _ _ ((hRD.out.below hb).mono hb.size)⟩)
      have HKE := Kept.mk (fun (V : World) (hV : Below w4.heap.size w4 V) => show (V.cell? ⟨be, 0, none⟩ = some (.int .i64 mn) ∧ V.cell? ⟨be, 1, none⟩ = some (.int .i64 mx) ∧ V.cell? ⟨be, 2, none⟩ = some (.int .i64 sw) ∧ V.cell? ⟨be, 3, none⟩ = some (.slice (some ⟨ge, 0, none⟩) (c.ts.length + 1) cae) ∧ V.cell? ⟨be, 4, none⟩ = some (.slice Al nl cl) ∧ V.cell? ⟨be, 5, none⟩ = some (.slice Ah nh ch)) ∧ CV V V.heap.size (cE c tt) #[.int .i64 mn, .int .i64 mx, .int .i64 sw, .slice (some ⟨ge, 0, none⟩) (c.ts.length + 1) cae, .slice Al nl cl, .slice Ah nh ch] from by
        have h := (hV.block be (lt_of_block hE.out)).trans hE.out
        exact ⟨⟨cell_of_row _ _ 0 _ _ _ h, cell_of_row _ _ 1 _ _ _ h, cell_of_row _ _ 2 _ _ _ h, cell_of_row _ _ 3 _ _ _ h, cell_of_row _ _ 4 _ _ _ h, cell_of_row _ _ 5 _ _ _ h⟩, HE.out V (BW4.out.trans (hV.mono BW4.out.size)) _ _ ((hRE.out.below hV).mono hV.size)⟩)
      clear HC HD HE hE hRE B4 BW3 HTC HCC X3 R3C B3 hD hRD hz3 HBE HBC HBD HT HNC HEZ BE HROW e3 hbl hbcl j0 j1 j2 j3 j4 j5 j6 j7 j8 j9 B2
      have HK4 := Kept.mk (HKC.out w4 (Below.refl _ _))
      obtain ⟨k0, k1, k2, k3, k4, k5⟩ := HK4.out.1
      go_wp2_with fail
      refine (bound_any c _ w4 i HK4.out.2).mono ?_
      rintro e w5 ⟨b5, v1, y1, rfl, n1, p1⟩
      have B5 := Kept.mk b5
      have N1 := Kept.mk n1
      have P1 := Kept.mk p1
      clear b5 n1 p1 k0 k1 k2 k3 k4 k5 HK4
      have HK5 := Kept.mk (HKD.out w5 B5.out)
      obtain ⟨k0, k1, k2, k3, k4, k5⟩ := HK5.out.1
      go_wp2_with fail
      refine (bound_any (cD c tt) _ w5 i HK5.out.2).mono ?_
      rintro e w6 ⟨b6, v2, y2, rfl, n2, p2⟩
      have B6 := Kept.mk (B5.out.trans (b6.mono B5.out.size))
      have P2 := Kept.mk p2
      clear b6 n2 p2 k0 k1 k2 k3 k4 k5 HK5 B5
      go_upto_region 9 with fail
      go_cut [63] from 40 to 63 (fun s wx => ∃ bb : Bool, s = .bool bb ∧ Kept (Below w4.heap.size w4 wx) ∧ Kept (bb = true → y1 ≠ 0 ∨ ∀ x ∈ allF c, x.y = 0) ∧ Kept (bb = false → (∀ x ∈ allF c, x.y = 0) ∧ (∀ x ∈ allF (cD c tt), x.y = 0) ∧ 0 ≤ i ∧ i < c.ts.length))
      case first =>
        have HK6 := Kept.mk (HKC.out w6 B6.out)
        obtain ⟨k0, k1, k2, k3, k4, k5⟩ := HK6.out.1
        go_wp2_with fail
        refine (vcheck_any c _ w6 HK6.out.2).mono ?_
        rintro e w7 ⟨ya, rfl, hya, b7⟩
        have B7 := Kept.mk (B6.out.trans (b7.mono B6.out.size))
        have HYA := Kept.mk hya
        clear b7 hya k0 k1 k2 k3 k4 k5 HK6
        by_cases ha : ya = 0
        · have HA := Kept.mk (HYA.out.1 ha)
          have d0 : (ya != 0) = false := by simp [ha]
          clear ha
          have HK7 := Kept.mk (HKD.out w7 B7.out)
          obtain ⟨k0, k1, k2, k3, k4, k5⟩ := HK7.out.1
          go_wp2_with fail
          refine (vcheck_any (cD c tt) _ w7 HK7.out.2).mono ?_
          rintro e w8 ⟨yb, rfl, hyb, b8⟩
          have B8 := Kept.mk (B7.out.trans (b8.mono B7.out.size))
          have HYB := Kept.mk hyb
          clear b8 hyb k0 k1 k2 k3 k4 k5 HK7
          have HK8 := Kept.mk (HKC.out w8 B8.out)
          obtain ⟨k0, k1, k2, k3, k4, k5⟩ := HK8.out.1
          by_cases hb : yb = 0
          · have HB := Kept.mk (HYB.out.1 hb)
            have d1 : (yb != 0) = false := by simp [hb]
            clear hb
            by_cases hi : i < 0
            · have d2 : decide (i < 0) = true := decide_eq_true hi
              clear hi
              go_wp2
              go_meet
              exact ⟨true, rfl, B8, ⟨fun _ => .inr HA.out⟩, ⟨fun h => by cases h⟩⟩
            · have d2 : decide (i < 0) = false := decide_eq_false hi
              by_cases hn : i < (c.ts.length : Int)
              · have d3 : decide ((c.ts.length : Int) ≤ i) = false := decide_eq_false (by omega)
                have HI := Kept.mk (show 0 ≤ i ∧ i < (c.ts.length : Int) from ⟨by omega, hn⟩)
                clear hi hn
                go_wp2
                go_meet
                exact ⟨false, rfl, B8, ⟨fun h => by cases h⟩, ⟨fun _ => ⟨HA.out, HB.out, HI.out⟩⟩⟩
              · have d3 : decide ((c.ts.length : Int) ≤ i) = true := decide_eq_true (by omega)
                clear hi hn
                go_wp2
                go_meet
                exact ⟨true, rfl, B8, ⟨fun _ => .inr HA.out⟩, ⟨fun h => by cases h⟩⟩
          · have d1 : (yb != 0) = true := by simp [hb]
            clear hb
            go_wp2
            go_meet
            exact ⟨true, rfl, B8, ⟨fun _ => .inr HA.out⟩, ⟨fun h => by cases h⟩⟩
        · have d0 : (ya != 0) = true := by simp [ha]
          have HN := Kept.mk (N1.out fun h => ha (HYA.out.2 h))
          clear ha
          go_wp2
          go_meet
          exact ⟨true, rfl, B7, ⟨fun _ => .inl HN.out⟩, ⟨fun h => by cases h⟩⟩
      case rest =>
        obtain ⟨bb, rfl, B7, hbt, hbf⟩ := hcut
        obtain ⟨w7, hw7⟩ : ∃ w7, w7 = wc := ⟨_, rfl⟩
        subst hw7
        cases bb with
        | true =>
          by_cases hy : y1 = 0
          · have d0 : (y1 != 0) = false := by simp [hy]
            have HA := Kept.mk (show ∀ x ∈ allF c, x.y = 0 from (hbt.out rfl).resolve_left fun h => h hy)
            have HK7 := Kept.mk (HKC.out w7 B7.out)
            obtain ⟨k0, k1, k2, k3, k4, k5⟩ := HK7.out.1
            clear hy hbt hbf
            go_wp2_with fail
            refine (vcheck_any c _ w7 HK7.out.2).mono ?_
            rintro e w8 ⟨ya, rfl, hya, b8⟩
            have B8 := Kept.mk (B7.out.trans (b8.mono B7.out.size))
            obtain rfl : ya = 0 := hya.2 HA.out
            clear b8 hya
            go_wp2
            go_ret
            exact ⟨rfl, BW4.out.trans (B8.out.mono BW4.out.size)⟩
          · have d0 : (y1 != 0) = true := by simp [hy]
            clear hy hbt hbf
            go_wp2
            go_ret
            exact ⟨rfl, BW4.out.trans (B7.out.mono BW4.out.size)⟩
        | false =>
          obtain ⟨hA, hB, hi0, hi1⟩ := hbf.out rfl
          obtain ⟨k, rfl⟩ := Int.eq_ofNat_of_zero_le hi0
          have hk : k < c.ts.length := by omega
          obtain ⟨x, hx⟩ : ∃ x, c.ts[k]? = some x := ⟨_, List.getElem?_eq_getElem hk⟩
          have hxd : (cD c tt).ts[k]? = some x := by show (c.ts ++ [tt])[k]? = _; rw [List.getElem?_append_left hk]; exact hx
          have hxe : (cE c tt).ts[k + 1]? = some x := by show (tt :: c.ts)[k + 1]? = _; rw [List.getElem?_cons_succ]; exact hx
          have hperm : (tt :: c.ts).Perm (cD c tt).ts := (List.perm_append_singleton tt c.ts).symm
          have hE := (allz_perm (c := cD c tt) hperm).2 hB
          obtain ⟨e1, e2⟩ := P1.out hA k x rfl hx
          obtain ⟨e3, e4⟩ := P2.out hB k x rfl hxd
          have HMORE := Kept.mk (fun (h1 : y1 = 0) (h2 : y2 = 0) => show v1 ≤ v2 from by
            rw [e1, e3]; exact bnd_more tt x (e2.symm.trans h1) (e4.symm.trans h2))
          have HPE := Kept.mk (show bndE (cE c tt) x = y2 ∧ bndV (cE c tt) x = v2 from by
            have := bnd_perm (c := cD c tt) hperm x
            exact ⟨this.1.trans e4.symm, this.2.trans e3.symm⟩)
          have HXE := Kept.mk hxe
          have HEE := Kept.mk (show ∀ x ∈ allF (cE c tt), x.y = 0 from hE)
          have HK7 := Kept.mk (HKE.out w7 B7.out)
          obtain ⟨k0, k1, k2, k3, k4, k5⟩ := HK7.out.1
          have hkb : (k : Int) ≤ 1759218604390 := by omega
          clear hA hB hi0 hi1 hk hx hxd hxe hperm hE e1 e2 e3 e4 hbt hbf P1 P2 N1 B6 z2
          go_wp2_with fail
          refine (vcheck_any (cE c tt) _ w7 HK7.out.2).mono ?_
          rintro e w8 ⟨ya, rfl, hya, b8⟩
          have B8 := Kept.mk (B7.out.trans (b8.mono B7.out.size))
          obtain rfl : ya = 0 := hya.2 HEE.out
          clear b8 hya k0 k1 k2 k3 k4 k5 HK7
          have HK8 := Kept.mk (HKE.out w8 B8.out)
          obtain ⟨k0, k1, k2, k3, k4, k5⟩ := HK8.out.1
          go_wp2_with fail
          refine (bound_any (cE c tt) _ w8 _ HK8.out.2).mono ?_
          rintro e w9 ⟨b9, v3, y3, rfl, _, p3⟩
          have B9 := Kept.mk (B8.out.trans (b9.mono B8.out.size))
          obtain ⟨e1, e2⟩ := p3 HEE.out (k + 1) x (by omega) HXE.out
          obtain rfl : v3 = v2 := e1.trans HPE.out.2
          obtain rfl : y3 = y2 := e2.trans HPE.out.1
          clear b9 p3 e1 e2 k0 k1 k2 k3 k4 k5 HK8
          have d0 : (v3 == v3) = true := by simp
          have d1 : (y3 == y3) = true := by simp
          by_cases h1 : y1 = 0
          · have d2 : (y1 != 0) = false := by simp [h1]
            by_cases h2 : y3 = 0
            · have d3 : (y3 != 0) = false := by simp [h2]
              have d4 : decide (v1 ≤ v3) = true := decide_eq_true (HMORE.out h1 h2)
              clear h1 h2
              go_wp2
              go_ret
              exact ⟨rfl, BW4.out.trans (B9.out.mono BW4.out.size)⟩
            · have d3 : (y3 != 0) = true := by simp [h2]
              clear h1 h2
              go_wp2
              go_ret
              exact ⟨rfl, BW4.out.trans (B9.out.mono BW4.out.size)⟩
          · have d2 : (y1 != 0) = true := by simp [h1]
            clear h1
            go_wp2
            go_ret
            exact ⟨rfl, BW4.out.trans (B9.out.mono BW4.out.size)⟩
abbrev spec := Rows.topJoinedSpec
theorem leaves_tsk : leaves Try.prog 3 31 = some [some .u8, some .i64, some .i64, some .i64, some .i64, some .i64, some .i64, some .i64, some .i64, some .i64] := by kernel_rfl
set_option maxRecDepth 100000 in
theorem contract (H : Type) (enc : TypeId × Value → H) (W : World) (base : Nat) (args : Array Value) (ds gs : List (DataW H)) (before : List MemPlace)
    (hval0 : ∀ (j : Nat) t v, Try.f3.params[j]? = some t → args[j]? = some v → Value.okWide Try.prog W .any base t v)
    (hW : DataW.Whole enc Try.prog Try.f3.params.toList spec.vars false W args.toList ds gs before)
    (hsz : (DataW.weightsEach Try.prog (Try.f3.params.toList ++ spec.plain.varTypes Try.prog) (ds ++ gs)).all (· ≤ reachBytes) = true) :
    Calls Try.prog 3 args W fun e W' => ∃ v, e = .returned v ∧ spec.post enc Try.prog Try.f3 false true false false W args v W' := by
  have hval : ∀ (j : Nat) t v, Try.f3.params[j]? = some t → args[j]? = some v → Value.okWide Try.prog W .any base t v := hval0
  have hW' := hW
  obtain ⟨p, q, hA0, hV, rfl, hfz, hnd⟩ := hW
  have hA : DataW.TrodAll enc Try.prog W 0 (fun _ => true) true Try.f3.params.toList args.toList ds p := hA0
  rw [Try.params3] at hA hval hsz
  obtain ⟨v0, vs0, d0, ds0, p0, q0, hargs, rfl, rfl, h0, r0⟩ := trodAll_cons hA
  obtain ⟨v1, vs1, d1, ds1, p1, q1, rfl, rfl, rfl, h1, r1⟩ := trodAll_cons r0
  obtain ⟨v2, vs2, d2, ds2, p2, q2, rfl, rfl, rfl, h2, r2⟩ := trodAll_cons r1
  obtain ⟨rfl, rfl, rfl⟩ := trodAll_nil r2
  obtain rfl : args = #[v0, v1, v2] := by cases args; simp_all
  obtain ⟨rfl, rfl⟩ := trodVars_none hV
  obtain ⟨c, At, ct, Al, cl, Ah, ch, rfl, hT, hL, hH, hmx, hwp, hwh, hnc, z2, z3, z4⟩ := open_cfgw (hval 0 _ v0 rfl rfl) h0 hsz 0 rfl rfl
  obtain ⟨cs, rfl, hcs⟩ := open_leafy 3 leaves_tsk Try.underlying31 (hval 1 _ v1 rfl rfl) h1
  obtain ⟨x0, _, rfl, _, x1, _, rfl, hw1, x2, _, rfl, _, x3, _, rfl, _, x4, _, rfl, _, x5, _, rfl, _, x6, _, rfl, _, x7, _, rfl, _, x8, _, rfl, _, x9, _, rfl, _, rfl⟩ := hcs
  obtain ⟨i, rfl, rfl, rfl, wi⟩ := open_int Try.underlying3 (hval 2 _ v2 rfl rfl) h2
  refine (walk c At ct Al cl Ah ch x0 x1 x2 x3 x4 x5 x6 x7 x8 x9 i W hT hL hH hmx hwp hwh hw1 (by simp [Lit.wf, IntKind.min, IntKind.max, IntKind.signed, IntKind.bits] at wi; omega) hnc z2 z3 z4).mono fun e W' ⟨he, hb⟩ => ?_
  subst he
  exact ⟨_, rfl, law_post try_laidOut (by kernel_rfl) rfl rfl Try.underlying4 hW' rfl rfl rfl hb⟩

set_option maxRecDepth 100000 in
theorem lifted (os : Os) (started : os.Started) (H : Type) (enc : TypeId × Value → H) :
    ReturnsInHanded {} Try.checked os 3 .any (Rows.topJoinedSpec.pre6 enc Try.prog Try.f3 Rows.topJoinedRow.domain false) (Rows.topJoinedSpec.post enc Try.prog Try.f3 false true false false) := by
  refine returnsInHanded_of_change_sized (C := Try.checked) own started (by kernel_rfl) Try.func3
    (ChangeSpec.witness6 (enc := enc) (C := Try.checked) false ⟨#[], #[.agg #[.int .i64 0, .int .i64 0, .int .i64 0, .slice none 0 0, .slice none 0 0, .slice none 0 0], .agg #[.int .u8 0, .int .i64 0, .int .i64 0, .int .i64 0, .int .i64 0, .int .i64 0, .int .i64 0, .int .i64 0, .int .i64 0, .int .i64 0], .int .i64 0], []⟩ 8 (by kernel_rfl) (by kernel_rfl) (by kernel_rfl) (by kernel_rfl)) ?_
  intro W base args ds gs before hval hW hcnd hsz _
  exact contract H enc W base args ds gs before hval hW hsz

theorem over : Rows.topJoinedRow.holds Try.pinned (OpenSpec.ofChange Rows.topJoinedSpec) :=
  OpenClaim.holds_of_wide 3 Try.f3 rfl rfl rfl rfl rfl rfl rfl ⟨rfl, rfl, rfl, rfl, rfl⟩ rfl rfl rfl rfl rfl (by kernel_rfl) Try.func3 (by kernel_rfl)
    (of_decide_eq_true (by kernel_rfl)) (by unfold Func.isWrapper; first | (rw [if_pos (by decide +kernel)]; kernel_rfl) | (rw [if_neg (by decide +kernel)]; exact ⟨rfl, rfl⟩))
    (fun os started H enc _ => lifted os started H enc)

/-- The statement. -/
theorem proved : Rows.TopJoinedSaid :=
  over
#print axioms proved
end Go.Proofs.Ytfneloplbkjbhaa.topJoined
