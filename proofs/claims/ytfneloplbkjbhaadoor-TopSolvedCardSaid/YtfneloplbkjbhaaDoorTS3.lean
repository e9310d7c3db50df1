/-
  A configuration as text: a task's words, with its lock.
-/
import Derived.Test.YtfneloplbkjbhaaDoorTS2
namespace Go.Proofs.YtfneloplbkjbhaaDoor
open Go.RowKit Go.Shelf
open Go.Lib (byteCells itoa)
set_option linter.unusedVariables false
/-- The words of a task with a lock. -/
def tkL (t : Tk) : List (List UInt8) := tkW t ++ [[108, 111, 99, 107], itoa t.g, itoa t.h, itoa t.i]
def tkNL (t : Tk) : Prop := tkN t ∧ TN t.g ∧ TN t.h ∧ TN t.i
theorem WS.bad {g K : Nat} {ss : List (List UInt8)} {o : Nat} {w : World} (h : WS g K ss o false w) : WS g K ss o false (w.setCell ⟨g, 1, none⟩ (.bool false)) := by
  obtain ⟨a, ha, hm⟩ := h.me
  exact ⟨⟨a, ha, set_at hm _⟩, (heap_setCell_other w ⟨g, 1, none⟩ K _ (fun e => h.ne e.symm)).trans h.row, h.ne⟩
theorem WR.bad {B g K : Nat} {ss : List (List UInt8)} {wa w : World} {o : Nat} (h : WR B g K ss false wa o w) : WR B g K ss false wa o (w.setCell ⟨g, 1, none⟩ (.bool false)) :=
  ⟨h.ws.bad, gb_trans h.gb (gb_set _ _ _ _), h.en, h.bg, h.ga, h.sl⟩
set_option maxHeartbeats 6400000 in
set_option maxRecDepth 100000 in
theorem wtask_lock (B g K : Nat) (hd : List UInt8) (t : Tk) (w : World) (ht : tkNL t) (h : WS g K (hd :: tkL t) 1 false w) (EN : EnvS B w) (hB : B ≤ g) :
    Calls Tryd.prog 47 #[.pointer (some ⟨g, 0, none⟩), .int .u8 t.k] w fun e w' => e = .returned (.agg t.arr) ∧ WS g K (hd :: tkL t) 11 false w' ∧ w.grownBy w' (some g) := by
  obtain ⟨⟨n1, n2, n3, n4, n5, n6⟩, n7, n8, n9⟩ := ht
  obtain ⟨bad, hbad⟩ : ∃ bad, bad = false := ⟨_, rfl⟩
  rw [← hbad] at h ⊢
  have hgl := h.lt
  have hKl : K < w.heap.size := (Array.getElem?_eq_some_iff.1 h.row).1
  obtain ⟨wa, hwa⟩ : ∃ wa, wa = w.alloc (.cells zTk 54) := ⟨_, rfl⟩
  have r1 : wa.heap[w.heap.size]? = some (.cells zTk 54 (0, 0)) := by rw [hwa]; exact heap_alloc_new w _
  have sa : wa.heap.size = w.heap.size + 1 := by rw [hwa]; simp
  have ba : Below w.heap.size w wa := by rw [hwa]; exact below_box w _
  have R1 := Kept.mk (show WR B g K (hd :: tkL t) bad wa 1 wa from ⟨h.on ba, gb_refl _ _, EN.on (ba.mono (by omega)), hB, by omega, by simp [tkL, tkW]⟩)
  have HA := Kept.mk ba
  have HR := Kept.mk r1
  clear h EN r1 ba
  have q1 := Kept.mk (R1.out.count (n := t.p) rfl n1)
  rw [hwa] at q1
  go_enter Tryd.func47, Tryd.ntmps47
  go_wp2_with (go_at_call 48; refine q1.out.mono ?_; rintro e w1 ⟨rfl, R2⟩; refine Hid.out ?_)
  refine Lib.hid ?_
  rw [← hwa] at R2
  clear hwa
  have q2 := Kept.mk (R2.num (n := t.b) rfl n2)
  go_wp2_with (go_at_call 46; refine q2.out.mono ?_; rintro e w2 ⟨rfl, R3⟩; refine Hid.out ?_)
  refine Lib.hid ?_
  have q3 := Kept.mk (R3.num (n := t.c) rfl n3)
  go_wp2_with (go_at_call 46; refine q3.out.mono ?_; rintro e w3 ⟨rfl, R4⟩; refine Hid.out ?_)
  refine Lib.hid ?_
  have q4 := Kept.mk (R4.num (n := t.d) rfl n4)
  go_wp2_with (go_at_call 46; refine q4.out.mono ?_; rintro e w4 ⟨rfl, R5⟩; refine Hid.out ?_)
  refine Lib.hid ?_
  have q5 := Kept.mk (R5.num (n := t.e) rfl n5)
  go_wp2_with (go_at_call 46; refine q5.out.mono ?_; rintro e w5 ⟨rfl, R6⟩; refine Hid.out ?_)
  refine Lib.hid ?_
  have q6 := Kept.mk (R6.count (n := t.f) rfl n6)
  go_wp2_with (go_at_call 48; refine q6.out.mono ?_; rintro e w6 ⟨rfl, R7⟩; refine Hid.out ?_)
  refine Lib.hid ?_
  clear q1 q2 q3 q4 q5 q6 R2 R3 R4 R5 R6
  subst hbad
  have bt := below_box w6 (.cells #[.int .u8 t.k, .int .i64 t.p, .int .i64 t.b, .int .i64 t.c, .int .i64 t.d, .int .i64 t.e, .int .i64 t.f, .int .i64 (-1), .int .i64 0, .int .i64 0] 54)
  have R8 := Kept.mk (R7.on bt)
  have HT5 := Kept.mk (show (w6.alloc (.cells #[.int .u8 t.k, .int .i64 t.p, .int .i64 t.b, .int .i64 t.c, .int .i64 t.d, .int .i64 t.e, .int .i64 t.f, .int .i64 (-1), .int .i64 0, .int .i64 0] 54)).heap[w6.heap.size]? = some (.cells #[.int .u8 t.k, .int .i64 t.p, .int .i64 t.b, .int .i64 t.c, .int .i64 t.d, .int .i64 t.e, .int .i64 t.f, .int .i64 (-1), .int .i64 0, .int .i64 0] 54 (0, 0)) from heap_alloc_new w6 _)
  obtain ⟨ax, ha0, hme⟩ := R7.ws.me
  have hz : (hd :: tkL t).length - 7 = 4 := rfl
  rw [hz] at hme
  have cl : w6.cell? ⟨g, 0, none⟩ = some (.slice ax 4 4) := cell_of_row _ _ 0 _ _ _ hme
  have cb : w6.cell? ⟨g, 1, none⟩ = some (.bool false) := cell_of_row _ _ 1 _ _ _ hme
  have g6 : g < w6.heap.size := R7.ws.lt
  have hrl : w.heap.size < w6.heap.size := by have := R7.gb.size; omega
  obtain ⟨w6a, hw6⟩ : ∃ w6a, w6a = w6.alloc (.cells #[.int .u8 t.k, .int .i64 t.p, .int .i64 t.b, .int .i64 t.c, .int .i64 t.d, .int .i64 t.e, .int .i64 t.f, .int .i64 (-1), .int .i64 0, .int .i64 0] 54) := ⟨_, rfl⟩
  rw [← hw6] at R8 HT5
  have s6 : w6a.heap.size = w6.heap.size + 1 := by rw [hw6]; simp
  have R8b := Kept.mk (show WR B g K (hd :: tkL t) false w6a 7 w6a from ⟨R8.out.ws, gb_refl _ _, R8.out.env, hB, by omega, R8.out.sl⟩)
  have q7 := Kept.mk (R8b.out.word (s := [108, 111, 99, 107]) rfl)
  rw [hw6] at q7
  clear hme ha0 hz bt R7
  go_wp2_with (go_at_call 45; refine q7.out.mono ?_; rintro e w7 ⟨rfl, R9⟩; refine Hid.out ?_)
  refine Lib.hid ?_
  rw [← hw6] at R9
  clear hw6
  have c71 : w7.cell? ⟨g, 1, none⟩ = some (.bool false) := by obtain ⟨a7, _, h7⟩ := R9.ws.me; exact cell_of_row _ _ 1 _ _ _ h7
  have f71 : w7.frozen? ⟨g, 1, none⟩ = false := by obtain ⟨a7, _, h7⟩ := R9.ws.me; simp [World.frozen?, h7]
  have R10 := R9.bad
  have q8 := Kept.mk (R10.count (n := t.g) rfl n7)
  clear cl cb
  go_wp2_with (go_at_call 48; refine q8.out.mono ?_; rintro e w8 ⟨rfl, R11⟩; refine Hid.out ?_)
  refine Lib.hid ?_
  have q9 := Kept.mk (R11.num (n := t.h) rfl n8)
  go_wp2_with (go_at_call 46; refine q9.out.mono ?_; rintro e w9 ⟨rfl, R12⟩; refine Hid.out ?_)
  refine Lib.hid ?_
  have q10 := Kept.mk (R12.num (n := t.i) rfl n9)
  go_wp2_with (go_at_call 46; refine q10.out.mono ?_; rintro e w10 ⟨rfl, R13⟩; refine Hid.out ?_)
  refine Lib.hid ?_
  have h5 := (R13.gb.block w6.heap.size (by omega) (fun e => by injection e; omega)).trans HT5.out
  have hr := (R13.gb.block w.heap.size (by omega) (fun e => by injection e; omega)).trans ((R8.out.gb.block w.heap.size (by omega) (fun e => by injection e; omega)).trans HR.out)
  have b0 := cell_of_row w10 w6.heap.size 0 _ _ _ h5
  have b1 := cell_of_row w10 w6.heap.size 1 _ _ _ h5
  have b2 := cell_of_row w10 w6.heap.size 2 _ _ _ h5
  have b3 := cell_of_row w10 w6.heap.size 3 _ _ _ h5
  have b4 := cell_of_row w10 w6.heap.size 4 _ _ _ h5
  have b5 := cell_of_row w10 w6.heap.size 5 _ _ _ h5
  have b6 := cell_of_row w10 w6.heap.size 6 _ _ _ h5
  have b7 := cell_of_row w10 w6.heap.size 7 _ _ _ h5
  have b8 := cell_of_row w10 w6.heap.size 8 _ _ _ h5
  have b9 := cell_of_row w10 w6.heap.size 9 _ _ _ h5
  have f7 : w10.frozen? ⟨w6.heap.size, 7, none⟩ = false := by simp [World.frozen?, h5]
  have f8 : w10.frozen? ⟨w6.heap.size, 8, none⟩ = false := by simp [World.frozen?, h5]
  have f9 : w10.frozen? ⟨w6.heap.size, 9, none⟩ = false := by simp [World.frozen?, h5]
  simp only [List.getElem?_toArray, List.getElem?_cons_zero, List.getElem?_cons_succ] at b0 b1 b2 b3 b4 b5 b6 b7 b8 b9
  have rb : (((w10.setCell ⟨w6.heap.size, 7, none⟩ (.int .i64 t.g)).setCell ⟨w6.heap.size, 8, none⟩ (.int .i64 t.h)).setCell ⟨w6.heap.size, 9, none⟩ (.int .i64 t.i)).heap[w.heap.size]? = some (.cells zTk 54 (0, 0)) := by
    rw [heap_setCell_other _ _ _ _ (show w.heap.size ≠ w6.heap.size by omega), heap_setCell_other _ _ _ _ (show w.heap.size ≠ w6.heap.size by omega), heap_setCell_other _ _ _ _ (show w.heap.size ≠ w6.heap.size by omega)]
    exact hr
  have HS := Kept.mk (show WS g K (hd :: tkL t) 11 false (((w10.setCell ⟨w6.heap.size, 7, none⟩ (.int .i64 t.g)).setCell ⟨w6.heap.size, 8, none⟩ (.int .i64 t.h)).setCell ⟨w6.heap.size, 9, none⟩ (.int .i64 t.i)) from by
    have e1 : g ≠ w6.heap.size := by omega
    have e2 : K ≠ w6.heap.size := by omega
    exact ((R13.ws.keep (heap_setCell_other _ _ _ _ e1) (heap_setCell_other _ _ _ _ e2)).keep (heap_setCell_other _ _ _ _ e1) (heap_setCell_other _ _ _ _ e2)).keep (heap_setCell_other _ _ _ _ e1) (heap_setCell_other _ _ _ _ e2))
  have BS := Kept.mk (show Below w.heap.size w10 (((w10.setCell ⟨w6.heap.size, 7, none⟩ (.int .i64 t.g)).setCell ⟨w6.heap.size, 8, none⟩ (.int .i64 t.h)).setCell ⟨w6.heap.size, 9, none⟩ (.int .i64 t.i)) from
    (((Below.refl _ _).setCell (by simp; omega) _).setCell (by simp; omega) _).setCell (by simp; omega) _)
  have G10 := Kept.mk (show w.grownBy w10 (some g) from
    ⟨R13.gb.os.trans (R8.out.gb.os.trans HA.out.os), R13.gb.tape.trans (R8.out.gb.tape.trans HA.out.tape), R13.gb.output.trans (R8.out.gb.output.trans HA.out.output), Nat.le_trans (Nat.le_trans HA.out.size R8.out.gb.size) R13.gb.size, fun i hi hn => (R13.gb.block i (by omega) hn).trans ((R8.out.gb.block i (by omega) hn).trans (HA.out.block i hi))⟩)
  clear q7 q8 q9 q10 R9 R10 R11 R12 hr c71 f71
  go_wp2_with (refine wpList_store_at rfl 54 _ _ rfl w.heap.size 0 rfl t.arr rfl 54 zTk t.arr rb size_tk (by simp) (tk_one _) rfl ?_; intro w11 hp; have HP := Kept.mk hp; clear hp)
  refine bodyPost_ret (v := .agg t.arr) (results_cell_row (p := 4) rfl _ _ w.heap.size 54 _ (0, 0) _ rfl HP.out.here Tryd.underlying54 rfl size_tk) rfl ⟨rfl, HS.out.keep (HP.out.far _ (by omega)) (HP.out.far _ (by omega)), ?_⟩
  exact gb_then G10.out (BS.out.trans (HP.out.below _ (Nat.le_refl _)))
end Go.Proofs.YtfneloplbkjbhaaDoor
