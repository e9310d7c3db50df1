/-
  A configuration as text: may a task be told?
-/
import Derived.Test.YtfneloplbkjbhaaDoorTS5
namespace Go.Proofs.YtfneloplbkjbhaaDoor
open Go.RowKit Go.Shelf
set_option linter.unusedVariables false
def oddT (t : Tk) : Bool := (t.k == 0 || decide (3 ≤ t.k)) || !toldB (tkNums t) || (if t.g < 0 then !(t.g == -1 && t.h == 0 && t.i == 0) else !toldB (lkNums t))
theorem told_res {w w' : World} {nb : Nat} {ns : List Int} (h : w'.heap[nb]? = some (.cells (ns.map (Value.int .i64)).toArray 2 (0, 0))) (hl : ns.length ≤ 64) :
    Calls Tryd.prog 42 #[.slice (some ⟨nb, 0, none⟩) ns.length ns.length] w' fun e w'' => e = .returned (.bool (toldB ns)) ∧ w' = w'' :=
  told_any _ _ ns w' (NumRes.ints (w := w') h) (by omega)
theorem told_at {w' w1 : World} {nb : Nat} {ns : List Int} (b : Bool) (hb : toldB ns = b) (h : w'.heap[nb]? = some (.cells (ns.map (Value.int .i64)).toArray 2 (0, 0))) (hl : ns.length ≤ 64) :
    Calls Tryd.prog 42 #[.slice (some ⟨nb, 0, none⟩) ns.length ns.length] w' fun e w'' => e = .returned (.bool b) ∧ w' = w'' := by
  subst hb
  exact told_res (w := w') h hl
abbrev tkBox (k p b c d e f g h i : Int) (w : World) : World := w.alloc (.cells #[.int .u8 k, .int .i64 p, .int .i64 b, .int .i64 c, .int .i64 d, .int .i64 e, .int .i64 f, .int .i64 g, .int .i64 h, .int .i64 i] 54)
set_option maxRecDepth 100000 in
set_option maxHeartbeats 3200000 in
theorem codd_bad (k p b c d e f g h i : Int) (w : World) (b1 b2 b3 : Bool) (h1 : (g == -1) = b1) (h2 : (h == 0) = b2) (h3 : (i == 0) = b3) (hk : (k == 0) = true ∨ ((k == 0) = false ∧ (decide (3 ≤ k)) = true)) :
    Calls Tryd.prog 43 #[.agg #[.int .u8 k, .int .i64 p, .int .i64 b, .int .i64 c, .int .i64 d, .int .i64 e, .int .i64 f, .int .i64 g, .int .i64 h, .int .i64 i]] w fun e w' => e = .returned (.bool true) ∧ Below w.heap.size w w' := by
  have HB := Kept.mk (below_box w (.cells #[.int .u8 k, .int .i64 p, .int .i64 b, .int .i64 c, .int .i64 d, .int .i64 e, .int .i64 f, .int .i64 g, .int .i64 h, .int .i64 i] 54))
  rcases hk with hk | ⟨hk, hj⟩
  all_goals cases b1 <;> cases b2 <;> cases b3
  all_goals go_enter Tryd.func43, Tryd.ntmps43
  all_goals go_wp2
  all_goals go_ret
  all_goals exact ⟨rfl, HB.out⟩
set_option maxRecDepth 100000 in
set_option maxHeartbeats 3200000 in
theorem codd_far (k p b c d e f g h i : Int) (w : World) (hk : (k == 0) = false) (hj : (decide (3 ≤ k)) = false) (hg : (g == -1) = false) (hg0 : decide (g < 0) = true) (bt : Bool) (ht : toldB (tkNums ⟨k, p, b, c, d, e, f, g, h, i⟩) = bt) :
    Calls Tryd.prog 43 #[.agg #[.int .u8 k, .int .i64 p, .int .i64 b, .int .i64 c, .int .i64 d, .int .i64 e, .int .i64 f, .int .i64 g, .int .i64 h, .int .i64 i]] w fun e w' => e = .returned (.bool true) ∧ Below w.heap.size w w' := by
  have HB := Kept.mk (below_box w (.cells #[.int .u8 k, .int .i64 p, .int .i64 b, .int .i64 c, .int .i64 d, .int .i64 e, .int .i64 f, .int .i64 g, .int .i64 h, .int .i64 i] 54))
  have HS := Kept.mk (show w.heap.size ≤ (tkBox k p b c d e f g h i w).heap.size by simp)
  have HTK := Kept.mk (ctask_any ⟨k, p, b, c, d, e, f, g, h, i⟩ (tkBox k p b c d e f g h i w))
  have HBX := Kept.mk (fun (U : World) (hU : Below (tkBox k p b c d e f g h i w).heap.size (tkBox k p b c d e f g h i w) U) => And.intro (box_cell hU 0 _ rfl) (And.intro (box_cell hU 1 _ rfl) (And.intro (box_cell hU 2 _ rfl) (And.intro (box_cell hU 3 _ rfl) (And.intro (box_cell hU 4 _ rfl) (And.intro (box_cell hU 5 _ rfl) (And.intro (box_cell hU 6 _ rfl) (And.intro (box_cell hU 7 _ rfl) (And.intro (box_cell hU 8 _ rfl) (box_cell hU 9 _ rfl))))))))))
  cases bt
  · go_enter Tryd.func43, Tryd.ntmps43
    go_wp2_with (first | (go_at_call 29; refine HTK.out.mono ?_; rintro e1 w1 ⟨nb, rfl, hnb, hb1⟩; have QB := HBX.out w1 hb1; obtain ⟨q0, q1, q2, q3, q4, q5, q6, q7, q8, q9⟩ := QB; have HTL := Kept.mk (told_at (w1 := w1) (ns := tkNums ⟨k, p, b, c, d, e, f, g, h, i⟩) _ ht hnb (by simp [tkNums])); have HB1 := Kept.mk (HB.out.trans (hb1.mono HS.out)); have HLK := Kept.mk (clocks_any ⟨k, p, b, c, d, e, f, g, h, i⟩ w1); clear hb1 hnb) | (go_at_call 30; refine HLK.out.mono ?_; rintro e3 w3 ⟨nb3, rfl, hnb3, hb3⟩; have HTL3 := Kept.mk (told_at (w1 := w3) (ns := lkNums ⟨k, p, b, c, d, e, f, g, h, i⟩) _ hl hnb3 (by simp [lkNums])); have HB3 := Kept.mk (HB1.out.trans (hb3.mono HB1.out.size)); clear hb3 hnb3) | (go_at_call 42; refine HTL3.out.mono ?_; rintro e4 w4 ⟨rfl, rfl⟩) | (go_at_call 42; refine HTL.out.mono ?_; rintro e2 w2 ⟨rfl, rfl⟩))
    all_goals go_ret
    all_goals exact ⟨rfl, HB1.out⟩
  · go_enter Tryd.func43, Tryd.ntmps43
    go_wp2_with (first | (go_at_call 29; refine HTK.out.mono ?_; rintro e1 w1 ⟨nb, rfl, hnb, hb1⟩; have QB := HBX.out w1 hb1; obtain ⟨q0, q1, q2, q3, q4, q5, q6, q7, q8, q9⟩ := QB; have HTL := Kept.mk (told_at (w1 := w1) (ns := tkNums ⟨k, p, b, c, d, e, f, g, h, i⟩) _ ht hnb (by simp [tkNums])); have HB1 := Kept.mk (HB.out.trans (hb1.mono HS.out)); have HLK := Kept.mk (clocks_any ⟨k, p, b, c, d, e, f, g, h, i⟩ w1); clear hb1 hnb) | (go_at_call 30; refine HLK.out.mono ?_; rintro e3 w3 ⟨nb3, rfl, hnb3, hb3⟩; have HTL3 := Kept.mk (told_at (w1 := w3) (ns := lkNums ⟨k, p, b, c, d, e, f, g, h, i⟩) _ hl hnb3 (by simp [lkNums])); have HB3 := Kept.mk (HB1.out.trans (hb3.mono HB1.out.size)); clear hb3 hnb3) | (go_at_call 42; refine HTL3.out.mono ?_; rintro e4 w4 ⟨rfl, rfl⟩) | (go_at_call 42; refine HTL.out.mono ?_; rintro e2 w2 ⟨rfl, rfl⟩))
    all_goals go_ret
    all_goals exact ⟨rfl, HB1.out⟩
set_option maxRecDepth 100000 in
set_option maxHeartbeats 3200000 in
theorem codd_free1 (k p b c d e f g h i : Int) (w : World) (hk : (k == 0) = false) (hj : (decide (3 ≤ k)) = false) (hg : (g == -1) = true) (hh : (h == 0) = false) (hg0 : decide (g < 0) = true) (bt : Bool) (ht : toldB (tkNums ⟨k, p, b, c, d, e, f, g, h, i⟩) = bt) :
    Calls Tryd.prog 43 #[.agg #[.int .u8 k, .int .i64 p, .int .i64 b, .int .i64 c, .int .i64 d, .int .i64 e, .int .i64 f, .int .i64 g, .int .i64 h, .int .i64 i]] w fun e w' => e = .returned (.bool true) ∧ Below w.heap.size w w' := by
  have HB := Kept.mk (below_box w (.cells #[.int .u8 k, .int .i64 p, .int .i64 b, .int .i64 c, .int .i64 d, .int .i64 e, .int .i64 f, .int .i64 g, .int .i64 h, .int .i64 i] 54))
  have HS := Kept.mk (show w.heap.size ≤ (tkBox k p b c d e f g h i w).heap.size by simp)
  have HTK := Kept.mk (ctask_any ⟨k, p, b, c, d, e, f, g, h, i⟩ (tkBox k p b c d e f g h i w))
  have HBX := Kept.mk (fun (U : World) (hU : Below (tkBox k p b c d e f g h i w).heap.size (tkBox k p b c d e f g h i w) U) => And.intro (box_cell hU 0 _ rfl) (And.intro (box_cell hU 1 _ rfl) (And.intro (box_cell hU 2 _ rfl) (And.intro (box_cell hU 3 _ rfl) (And.intro (box_cell hU 4 _ rfl) (And.intro (box_cell hU 5 _ rfl) (And.intro (box_cell hU 6 _ rfl) (And.intro (box_cell hU 7 _ rfl) (And.intro (box_cell hU 8 _ rfl) (box_cell hU 9 _ rfl))))))))))
  cases bt
  · go_enter Tryd.func43, Tryd.ntmps43
    go_wp2_with (first | (go_at_call 29; refine HTK.out.mono ?_; rintro e1 w1 ⟨nb, rfl, hnb, hb1⟩; have QB := HBX.out w1 hb1; obtain ⟨q0, q1, q2, q3, q4, q5, q6, q7, q8, q9⟩ := QB; have HTL := Kept.mk (told_at (w1 := w1) (ns := tkNums ⟨k, p, b, c, d, e, f, g, h, i⟩) _ ht hnb (by simp [tkNums])); have HB1 := Kept.mk (HB.out.trans (hb1.mono HS.out)); have HLK := Kept.mk (clocks_any ⟨k, p, b, c, d, e, f, g, h, i⟩ w1); clear hb1 hnb) | (go_at_call 30; refine HLK.out.mono ?_; rintro e3 w3 ⟨nb3, rfl, hnb3, hb3⟩; have HTL3 := Kept.mk (told_at (w1 := w3) (ns := lkNums ⟨k, p, b, c, d, e, f, g, h, i⟩) _ hl hnb3 (by simp [lkNums])); have HB3 := Kept.mk (HB1.out.trans (hb3.mono HB1.out.size)); clear hb3 hnb3) | (go_at_call 42; refine HTL3.out.mono ?_; rintro e4 w4 ⟨rfl, rfl⟩) | (go_at_call 42; refine HTL.out.mono ?_; rintro e2 w2 ⟨rfl, rfl⟩))
    all_goals go_ret
    all_goals exact ⟨rfl, HB1.out⟩
  · go_enter Tryd.func43, Tryd.ntmps43
    go_wp2_with (first | (go_at_call 29; refine HTK.out.mono ?_; rintro e1 w1 ⟨nb, rfl, hnb, hb1⟩; have QB := HBX.out w1 hb1; obtain ⟨q0, q1, q2, q3, q4, q5, q6, q7, q8, q9⟩ := QB; have HTL := Kept.mk (told_at (w1 := w1) (ns := tkNums ⟨k, p, b, c, d, e, f, g, h, i⟩) _ ht hnb (by simp [tkNums])); have HB1 := Kept.mk (HB.out.trans (hb1.mono HS.out)); have HLK := Kept.mk (clocks_any ⟨k, p, b, c, d, e, f, g, h, i⟩ w1); clear hb1 hnb) | (go_at_call 30; refine HLK.out.mono ?_; rintro e3 w3 ⟨nb3, rfl, hnb3, hb3⟩; have HTL3 := Kept.mk (told_at (w1 := w3) (ns := lkNums ⟨k, p, b, c, d, e, f, g, h, i⟩) _ hl hnb3 (by simp [lkNums])); have HB3 := Kept.mk (HB1.out.trans (hb3.mono HB1.out.size)); clear hb3 hnb3) | (go_at_call 42; refine HTL3.out.mono ?_; rintro e4 w4 ⟨rfl, rfl⟩) | (go_at_call 42; refine HTL.out.mono ?_; rintro e2 w2 ⟨rfl, rfl⟩))
    all_goals go_ret
    all_goals exact ⟨rfl, HB1.out⟩
set_option maxRecDepth 100000 in
set_option maxHeartbeats 3200000 in
theorem codd_free2 (k p b c d e f g h i : Int) (w : World) (hk : (k == 0) = false) (hj : (decide (3 ≤ k)) = false) (hg : (g == -1) = true) (hh : (h == 0) = true) (hi : (i == 0) = false) (hg0 : decide (g < 0) = true) (bt : Bool) (ht : toldB (tkNums ⟨k, p, b, c, d, e, f, g, h, i⟩) = bt) :
    Calls Tryd.prog 43 #[.agg #[.int .u8 k, .int .i64 p, .int .i64 b, .int .i64 c, .int .i64 d, .int .i64 e, .int .i64 f, .int .i64 g, .int .i64 h, .int .i64 i]] w fun e w' => e = .returned (.bool true) ∧ Below w.heap.size w w' := by
  have HB := Kept.mk (below_box w (.cells #[.int .u8 k, .int .i64 p, .int .i64 b, .int .i64 c, .int .i64 d, .int .i64 e, .int .i64 f, .int .i64 g, .int .i64 h, .int .i64 i] 54))
  have HS := Kept.mk (show w.heap.size ≤ (tkBox k p b c d e f g h i w).heap.size by simp)
  have HTK := Kept.mk (ctask_any ⟨k, p, b, c, d, e, f, g, h, i⟩ (tkBox k p b c d e f g h i w))
  have HBX := Kept.mk (fun (U : World) (hU : Below (tkBox k p b c d e f g h i w).heap.size (tkBox k p b c d e f g h i w) U) => And.intro (box_cell hU 0 _ rfl) (And.intro (box_cell hU 1 _ rfl) (And.intro (box_cell hU 2 _ rfl) (And.intro (box_cell hU 3 _ rfl) (And.intro (box_cell hU 4 _ rfl) (And.intro (box_cell hU 5 _ rfl) (And.intro (box_cell hU 6 _ rfl) (And.intro (box_cell hU 7 _ rfl) (And.intro (box_cell hU 8 _ rfl) (box_cell hU 9 _ rfl))))))))))
  cases bt
  · go_enter Tryd.func43, Tryd.ntmps43
    go_wp2_with (first | (go_at_call 29; refine HTK.out.mono ?_; rintro e1 w1 ⟨nb, rfl, hnb, hb1⟩; have QB := HBX.out w1 hb1; obtain ⟨q0, q1, q2, q3, q4, q5, q6, q7, q8, q9⟩ := QB; have HTL := Kept.mk (told_at (w1 := w1) (ns := tkNums ⟨k, p, b, c, d, e, f, g, h, i⟩) _ ht hnb (by simp [tkNums])); have HB1 := Kept.mk (HB.out.trans (hb1.mono HS.out)); have HLK := Kept.mk (clocks_any ⟨k, p, b, c, d, e, f, g, h, i⟩ w1); clear hb1 hnb) | (go_at_call 30; refine HLK.out.mono ?_; rintro e3 w3 ⟨nb3, rfl, hnb3, hb3⟩; have HTL3 := Kept.mk (told_at (w1 := w3) (ns := lkNums ⟨k, p, b, c, d, e, f, g, h, i⟩) _ hl hnb3 (by simp [lkNums])); have HB3 := Kept.mk (HB1.out.trans (hb3.mono HB1.out.size)); clear hb3 hnb3) | (go_at_call 42; refine HTL3.out.mono ?_; rintro e4 w4 ⟨rfl, rfl⟩) | (go_at_call 42; refine HTL.out.mono ?_; rintro e2 w2 ⟨rfl, rfl⟩))
    all_goals go_ret
    all_goals exact ⟨rfl, HB1.out⟩
  · go_enter Tryd.func43, Tryd.ntmps43
    go_wp2_with (first | (go_at_call 29; refine HTK.out.mono ?_; rintro e1 w1 ⟨nb, rfl, hnb, hb1⟩; have QB := HBX.out w1 hb1; obtain ⟨q0, q1, q2, q3, q4, q5, q6, q7, q8, q9⟩ := QB; have HTL := Kept.mk (told_at (w1 := w1) (ns := tkNums ⟨k, p, b, c, d, e, f, g, h, i⟩) _ ht hnb (by simp [tkNums])); have HB1 := Kept.mk (HB.out.trans (hb1.mono HS.out)); have HLK := Kept.mk (clocks_any ⟨k, p, b, c, d, e, f, g, h, i⟩ w1); clear hb1 hnb) | (go_at_call 30; refine HLK.out.mono ?_; rintro e3 w3 ⟨nb3, rfl, hnb3, hb3⟩; have HTL3 := Kept.mk (told_at (w1 := w3) (ns := lkNums ⟨k, p, b, c, d, e, f, g, h, i⟩) _ hl hnb3 (by simp [lkNums])); have HB3 := Kept.mk (HB1.out.trans (hb3.mono HB1.out.size)); clear hb3 hnb3) | (go_at_call 42; refine HTL3.out.mono ?_; rintro e4 w4 ⟨rfl, rfl⟩) | (go_at_call 42; refine HTL.out.mono ?_; rintro e2 w2 ⟨rfl, rfl⟩))
    all_goals go_ret
    all_goals exact ⟨rfl, HB1.out⟩
set_option maxRecDepth 100000 in
set_option maxHeartbeats 3200000 in
theorem codd_free3 (k p b c d e f g h i : Int) (w : World) (hk : (k == 0) = false) (hj : (decide (3 ≤ k)) = false) (hg : (g == -1) = true) (hh : (h == 0) = true) (hi : (i == 0) = true) (hg0 : decide (g < 0) = true) (bt : Bool) (ht : toldB (tkNums ⟨k, p, b, c, d, e, f, g, h, i⟩) = bt) :
    Calls Tryd.prog 43 #[.agg #[.int .u8 k, .int .i64 p, .int .i64 b, .int .i64 c, .int .i64 d, .int .i64 e, .int .i64 f, .int .i64 g, .int .i64 h, .int .i64 i]] w fun e w' => e = .returned (.bool (!bt)) ∧ Below w.heap.size w w' := by
  have HB := Kept.mk (below_box w (.cells #[.int .u8 k, .int .i64 p, .int .i64 b, .int .i64 c, .int .i64 d, .int .i64 e, .int .i64 f, .int .i64 g, .int .i64 h, .int .i64 i] 54))
  have HS := Kept.mk (show w.heap.size ≤ (tkBox k p b c d e f g h i w).heap.size by simp)
  have HTK := Kept.mk (ctask_any ⟨k, p, b, c, d, e, f, g, h, i⟩ (tkBox k p b c d e f g h i w))
  have HBX := Kept.mk (fun (U : World) (hU : Below (tkBox k p b c d e f g h i w).heap.size (tkBox k p b c d e f g h i w) U) => And.intro (box_cell hU 0 _ rfl) (And.intro (box_cell hU 1 _ rfl) (And.intro (box_cell hU 2 _ rfl) (And.intro (box_cell hU 3 _ rfl) (And.intro (box_cell hU 4 _ rfl) (And.intro (box_cell hU 5 _ rfl) (And.intro (box_cell hU 6 _ rfl) (And.intro (box_cell hU 7 _ rfl) (And.intro (box_cell hU 8 _ rfl) (box_cell hU 9 _ rfl))))))))))
  cases bt
  · go_enter Tryd.func43, Tryd.ntmps43
    go_wp2_with (first | (go_at_call 29; refine HTK.out.mono ?_; rintro e1 w1 ⟨nb, rfl, hnb, hb1⟩; have QB := HBX.out w1 hb1; obtain ⟨q0, q1, q2, q3, q4, q5, q6, q7, q8, q9⟩ := QB; have HTL := Kept.mk (told_at (w1 := w1) (ns := tkNums ⟨k, p, b, c, d, e, f, g, h, i⟩) _ ht hnb (by simp [tkNums])); have HB1 := Kept.mk (HB.out.trans (hb1.mono HS.out)); have HLK := Kept.mk (clocks_any ⟨k, p, b, c, d, e, f, g, h, i⟩ w1); clear hb1 hnb) | (go_at_call 30; refine HLK.out.mono ?_; rintro e3 w3 ⟨nb3, rfl, hnb3, hb3⟩; have HTL3 := Kept.mk (told_at (w1 := w3) (ns := lkNums ⟨k, p, b, c, d, e, f, g, h, i⟩) _ hl hnb3 (by simp [lkNums])); have HB3 := Kept.mk (HB1.out.trans (hb3.mono HB1.out.size)); clear hb3 hnb3) | (go_at_call 42; refine HTL3.out.mono ?_; rintro e4 w4 ⟨rfl, rfl⟩) | (go_at_call 42; refine HTL.out.mono ?_; rintro e2 w2 ⟨rfl, rfl⟩))
    all_goals go_ret
    all_goals exact ⟨rfl, HB1.out⟩
  · go_enter Tryd.func43, Tryd.ntmps43
    go_wp2_with (first | (go_at_call 29; refine HTK.out.mono ?_; rintro e1 w1 ⟨nb, rfl, hnb, hb1⟩; have QB := HBX.out w1 hb1; obtain ⟨q0, q1, q2, q3, q4, q5, q6, q7, q8, q9⟩ := QB; have HTL := Kept.mk (told_at (w1 := w1) (ns := tkNums ⟨k, p, b, c, d, e, f, g, h, i⟩) _ ht hnb (by simp [tkNums])); have HB1 := Kept.mk (HB.out.trans (hb1.mono HS.out)); have HLK := Kept.mk (clocks_any ⟨k, p, b, c, d, e, f, g, h, i⟩ w1); clear hb1 hnb) | (go_at_call 30; refine HLK.out.mono ?_; rintro e3 w3 ⟨nb3, rfl, hnb3, hb3⟩; have HTL3 := Kept.mk (told_at (w1 := w3) (ns := lkNums ⟨k, p, b, c, d, e, f, g, h, i⟩) _ hl hnb3 (by simp [lkNums])); have HB3 := Kept.mk (HB1.out.trans (hb3.mono HB1.out.size)); clear hb3 hnb3) | (go_at_call 42; refine HTL3.out.mono ?_; rintro e4 w4 ⟨rfl, rfl⟩) | (go_at_call 42; refine HTL.out.mono ?_; rintro e2 w2 ⟨rfl, rfl⟩))
    all_goals go_ret
    all_goals exact ⟨rfl, HB1.out⟩
set_option maxRecDepth 100000 in
set_option maxHeartbeats 3200000 in
theorem codd_lock0 (k p b c d e f g h i : Int) (w : World) (hk : (k == 0) = false) (hj : (decide (3 ≤ k)) = false) (hg : (g == -1) = false) (hg0 : decide (g < 0) = false) (ht : toldB (tkNums ⟨k, p, b, c, d, e, f, g, h, i⟩) = false) :
    Calls Tryd.prog 43 #[.agg #[.int .u8 k, .int .i64 p, .int .i64 b, .int .i64 c, .int .i64 d, .int .i64 e, .int .i64 f, .int .i64 g, .int .i64 h, .int .i64 i]] w fun e w' => e = .returned (.bool true) ∧ Below w.heap.size w w' := by
  have HB := Kept.mk (below_box w (.cells #[.int .u8 k, .int .i64 p, .int .i64 b, .int .i64 c, .int .i64 d, .int .i64 e, .int .i64 f, .int .i64 g, .int .i64 h, .int .i64 i] 54))
  have HS := Kept.mk (show w.heap.size ≤ (tkBox k p b c d e f g h i w).heap.size by simp)
  have HTK := Kept.mk (ctask_any ⟨k, p, b, c, d, e, f, g, h, i⟩ (tkBox k p b c d e f g h i w))
  have HBX := Kept.mk (fun (U : World) (hU : Below (tkBox k p b c d e f g h i w).heap.size (tkBox k p b c d e f g h i w) U) => And.intro (box_cell hU 0 _ rfl) (And.intro (box_cell hU 1 _ rfl) (And.intro (box_cell hU 2 _ rfl) (And.intro (box_cell hU 3 _ rfl) (And.intro (box_cell hU 4 _ rfl) (And.intro (box_cell hU 5 _ rfl) (And.intro (box_cell hU 6 _ rfl) (And.intro (box_cell hU 7 _ rfl) (And.intro (box_cell hU 8 _ rfl) (box_cell hU 9 _ rfl))))))))))
  go_enter Tryd.func43, Tryd.ntmps43
  go_wp2_with (first | (go_at_call 29; refine HTK.out.mono ?_; rintro e1 w1 ⟨nb, rfl, hnb, hb1⟩; have QB := HBX.out w1 hb1; obtain ⟨q0, q1, q2, q3, q4, q5, q6, q7, q8, q9⟩ := QB; have HTL := Kept.mk (told_at (w1 := w1) (ns := tkNums ⟨k, p, b, c, d, e, f, g, h, i⟩) _ ht hnb (by simp [tkNums])); have HB1 := Kept.mk (HB.out.trans (hb1.mono HS.out)); have HLK := Kept.mk (clocks_any ⟨k, p, b, c, d, e, f, g, h, i⟩ w1); clear hb1 hnb) | (go_at_call 30; refine HLK.out.mono ?_; rintro e3 w3 ⟨nb3, rfl, hnb3, hb3⟩; have HTL3 := Kept.mk (told_at (w1 := w3) (ns := lkNums ⟨k, p, b, c, d, e, f, g, h, i⟩) _ hl hnb3 (by simp [lkNums])); have HB3 := Kept.mk (HB1.out.trans (hb3.mono HB1.out.size)); clear hb3 hnb3) | (go_at_call 42; refine HTL3.out.mono ?_; rintro e4 w4 ⟨rfl, rfl⟩) | (go_at_call 42; refine HTL.out.mono ?_; rintro e2 w2 ⟨rfl, rfl⟩))
  all_goals go_ret
  all_goals exact ⟨rfl, HB1.out⟩
set_option maxRecDepth 100000 in
set_option maxHeartbeats 3200000 in
theorem codd_lock1 (k p b c d e f g h i : Int) (w : World) (hk : (k == 0) = false) (hj : (decide (3 ≤ k)) = false) (hg : (g == -1) = false) (hg0 : decide (g < 0) = false) (bl : Bool) (hl : toldB (lkNums ⟨k, p, b, c, d, e, f, g, h, i⟩) = bl) (ht : toldB (tkNums ⟨k, p, b, c, d, e, f, g, h, i⟩) = true) :
    Calls Tryd.prog 43 #[.agg #[.int .u8 k, .int .i64 p, .int .i64 b, .int .i64 c, .int .i64 d, .int .i64 e, .int .i64 f, .int .i64 g, .int .i64 h, .int .i64 i]] w fun e w' => e = .returned (.bool (!bl)) ∧ Below w.heap.size w w' := by
  have HB := Kept.mk (below_box w (.cells #[.int .u8 k, .int .i64 p, .int .i64 b, .int .i64 c, .int .i64 d, .int .i64 e, .int .i64 f, .int .i64 g, .int .i64 h, .int .i64 i] 54))
  have HS := Kept.mk (show w.heap.size ≤ (tkBox k p b c d e f g h i w).heap.size by simp)
  have HTK := Kept.mk (ctask_any ⟨k, p, b, c, d, e, f, g, h, i⟩ (tkBox k p b c d e f g h i w))
  have HBX := Kept.mk (fun (U : World) (hU : Below (tkBox k p b c d e f g h i w).heap.size (tkBox k p b c d e f g h i w) U) => And.intro (box_cell hU 0 _ rfl) (And.intro (box_cell hU 1 _ rfl) (And.intro (box_cell hU 2 _ rfl) (And.intro (box_cell hU 3 _ rfl) (And.intro (box_cell hU 4 _ rfl) (And.intro (box_cell hU 5 _ rfl) (And.intro (box_cell hU 6 _ rfl) (And.intro (box_cell hU 7 _ rfl) (And.intro (box_cell hU 8 _ rfl) (box_cell hU 9 _ rfl))))))))))
  cases bl
  · go_enter Tryd.func43, Tryd.ntmps43
    go_wp2_with (first | (go_at_call 29; refine HTK.out.mono ?_; rintro e1 w1 ⟨nb, rfl, hnb, hb1⟩; have QB := HBX.out w1 hb1; obtain ⟨q0, q1, q2, q3, q4, q5, q6, q7, q8, q9⟩ := QB; have HTL := Kept.mk (told_at (w1 := w1) (ns := tkNums ⟨k, p, b, c, d, e, f, g, h, i⟩) _ ht hnb (by simp [tkNums])); have HB1 := Kept.mk (HB.out.trans (hb1.mono HS.out)); have HLK := Kept.mk (clocks_any ⟨k, p, b, c, d, e, f, g, h, i⟩ w1); clear hb1 hnb) | (go_at_call 30; refine HLK.out.mono ?_; rintro e3 w3 ⟨nb3, rfl, hnb3, hb3⟩; have HTL3 := Kept.mk (told_at (w1 := w3) (ns := lkNums ⟨k, p, b, c, d, e, f, g, h, i⟩) _ hl hnb3 (by simp [lkNums])); have HB3 := Kept.mk (HB1.out.trans (hb3.mono HB1.out.size)); clear hb3 hnb3) | (go_at_call 42; refine HTL3.out.mono ?_; rintro e4 w4 ⟨rfl, rfl⟩) | (go_at_call 42; refine HTL.out.mono ?_; rintro e2 w2 ⟨rfl, rfl⟩))
    all_goals go_ret
    all_goals exact ⟨rfl, HB3.out⟩
  · go_enter Tryd.func43, Tryd.ntmps43
    go_wp2_with (first | (go_at_call 29; refine HTK.out.mono ?_; rintro e1 w1 ⟨nb, rfl, hnb, hb1⟩; have QB := HBX.out w1 hb1; obtain ⟨q0, q1, q2, q3, q4, q5, q6, q7, q8, q9⟩ := QB; have HTL := Kept.mk (told_at (w1 := w1) (ns := tkNums ⟨k, p, b, c, d, e, f, g, h, i⟩) _ ht hnb (by simp [tkNums])); have HB1 := Kept.mk (HB.out.trans (hb1.mono HS.out)); have HLK := Kept.mk (clocks_any ⟨k, p, b, c, d, e, f, g, h, i⟩ w1); clear hb1 hnb) | (go_at_call 30; refine HLK.out.mono ?_; rintro e3 w3 ⟨nb3, rfl, hnb3, hb3⟩; have HTL3 := Kept.mk (told_at (w1 := w3) (ns := lkNums ⟨k, p, b, c, d, e, f, g, h, i⟩) _ hl hnb3 (by simp [lkNums])); have HB3 := Kept.mk (HB1.out.trans (hb3.mono HB1.out.size)); clear hb3 hnb3) | (go_at_call 42; refine HTL3.out.mono ?_; rintro e4 w4 ⟨rfl, rfl⟩) | (go_at_call 42; refine HTL.out.mono ?_; rintro e2 w2 ⟨rfl, rfl⟩))
    all_goals go_ret
    all_goals exact ⟨rfl, HB3.out⟩
theorem codd_any (t : Tk) (w : World) : Calls Tryd.prog 43 #[.agg t.arr] w fun e w' => e = .returned (.bool (oddT t)) ∧ Below w.heap.size w w' := by
  obtain ⟨k, p, b, c, d, e, f, g, h, i⟩ := t
  by_cases hk : k = 0 ∨ 3 ≤ k
  · have ho : oddT ⟨k, p, b, c, d, e, f, g, h, i⟩ = true := by
      unfold oddT
      rcases hk with h | h
      · simp [h]
      · simp [h]
    rw [ho]
    refine codd_bad k p b c d e f g h i w _ _ _ rfl rfl rfl ?_
    by_cases h0 : k = 0
    · exact .inl (beq_iff_eq.2 h0)
    · exact .inr ⟨beq_eq_false_iff_ne.2 h0, decide_eq_true (by omega)⟩
  · have hk0 : (k == 0) = false := beq_eq_false_iff_ne.2 (by omega)
    have hj0 : decide (3 ≤ k) = false := decide_eq_false (by omega)
    have ho : oddT ⟨k, p, b, c, d, e, f, g, h, i⟩ = (!toldB (tkNums ⟨k, p, b, c, d, e, f, g, h, i⟩) || (if g < 0 then !(g == -1 && h == 0 && i == 0) else !toldB (lkNums ⟨k, p, b, c, d, e, f, g, h, i⟩))) := by
      unfold oddT
      rw [hk0, hj0]
      rfl
    rw [ho]
    by_cases hg0 : g < 0
    · rw [if_pos hg0]
      have hgd := decide_eq_true hg0
      by_cases h1 : g = -1
      · have b1 : (g == -1) = true := beq_iff_eq.2 h1
        by_cases h2 : h = 0
        · have b2 : (h == 0) = true := beq_iff_eq.2 h2
          by_cases h3 : i = 0
          · have b3 : (i == 0) = true := beq_iff_eq.2 h3
            rw [b1, b2, b3]
            exact (codd_free3 k p b c d e f g h i w hk0 hj0 b1 b2 b3 hgd _ rfl).mono fun e w' h => by simpa using h
          · have b3 : (i == 0) = false := beq_eq_false_iff_ne.2 h3
            rw [b1, b2, b3]
            exact (codd_free2 k p b c d e f g h i w hk0 hj0 b1 b2 b3 hgd _ rfl).mono fun e w' h => by simpa using h
        · have b2 : (h == 0) = false := beq_eq_false_iff_ne.2 h2
          rw [b1, b2]
          exact (codd_free1 k p b c d e f g h i w hk0 hj0 b1 b2 hgd _ rfl).mono fun e w' h => by simpa using h
      · have b1 : (g == -1) = false := beq_eq_false_iff_ne.2 h1
        rw [b1]
        exact (codd_far k p b c d e f g h i w hk0 hj0 b1 hgd _ rfl).mono fun e w' h => by simpa using h
    · rw [if_neg hg0]
      have hgd := decide_eq_false hg0
      have b1 : (g == -1) = false := beq_eq_false_iff_ne.2 (by omega)
      cases ht : toldB (tkNums ⟨k, p, b, c, d, e, f, g, h, i⟩)
      · exact (codd_lock0 k p b c d e f g h i w hk0 hj0 b1 hgd ht).mono fun e w' h => by simpa using h
      · exact (codd_lock1 k p b c d e f g h i w hk0 hj0 b1 hgd _ rfl ht).mono fun e w' h => by simpa using h
end Go.Proofs.YtfneloplbkjbhaaDoor
