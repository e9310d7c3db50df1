/-
  A configuration as text: a task's words.
-/
import Derived.Test.YtfneloplbkjbhaaDoorStA
import Derived.Laws.Rows
namespace Go.Proofs.YtfneloplbkjbhaaDoor
open Go.RowKit Go.Shelf
open Go.Lib (byteCells itoa)
set_option linter.unusedVariables false
/-- A number that may be told. -/
def TN (n : Int) : Prop := 0 ≤ n ∧ n ≤ 4503599627370496
theorem wcount_any (g K : Nat) (ss : List (List UInt8)) (o : Nat) (bad : Bool) (n : Int) (B : Nat) (w : World) (h : WS g K ss o bad w) (hs : ss[o]? = some (itoa n)) (hl : ss.length ≤ 65536) (hn : TN n) (EN : EnvS B w) (hB : B ≤ g) :
    Calls Tryd.prog 48 #[.pointer (some ⟨g, 0, none⟩)] w fun e w' => e = .returned (.int .i64 n) ∧ WS g K ss (o + 1) bad w' ∧ w.grownBy w' (some g) := by
  have HN := Kept.mk (num_any g K ss o bad n B w h hs hl hn.1 hn.2 EN hB)
  clear h hs EN
  go_enter Tryd.func48, Tryd.ntmps48
  go_wp2_with (go_at_call 46; refine HN.out.mono ?_; rintro e w1 ⟨rfl, hw1, hg1⟩)
  go_ret
  exact ⟨rfl, hw1, hg1⟩
/-- How far a line's words are read, from a world on. -/
structure WR (B g K : Nat) (ss : List (List UInt8)) (bad : Bool) (wa : World) (o : Nat) (w : World) : Prop where
  ws : WS g K ss o bad w
  gb : wa.grownBy w (some g)
  en : EnvS B wa
  bg : B ≤ g
  ga : g < wa.heap.size
  sl : ss.length ≤ 65536
theorem WR.next {B g K : Nat} {ss : List (List UInt8)} {bad : Bool} {wa w w' : World} {o : Nat} (h : WR B g K ss bad wa o w) (h1 : WS g K ss (o + 1) bad w') (h2 : w.grownBy w' (some g)) : WR B g K ss bad wa (o + 1) w' :=
  ⟨h1, gb_trans h.gb h2, h.en, h.bg, h.ga, h.sl⟩
theorem WR.env {B g K : Nat} {ss : List (List UInt8)} {bad : Bool} {wa w : World} {o : Nat} (h : WR B g K ss bad wa o w) : EnvS B w :=
  h.en.on (gb_bel h.gb h.bg (by have := h.bg; have := h.ga; omega))
theorem WR.num {B g K : Nat} {ss : List (List UInt8)} {bad : Bool} {wa w : World} {o : Nat} (h : WR B g K ss bad wa o w) {n : Int} (hs : ss[o]? = some (itoa n)) (hn : TN n) :
    Calls Tryd.prog 46 #[.pointer (some ⟨g, 0, none⟩)] w fun e w' => e = .returned (.int .i64 n) ∧ WR B g K ss bad wa (o + 1) w' :=
  (num_any g K ss o bad n B w h.ws hs h.sl hn.1 hn.2 h.env h.bg).mono fun e w' ⟨h1, h2, h3⟩ => ⟨h1, h.next h2 h3⟩
theorem WR.count {B g K : Nat} {ss : List (List UInt8)} {bad : Bool} {wa w : World} {o : Nat} (h : WR B g K ss bad wa o w) {n : Int} (hs : ss[o]? = some (itoa n)) (hn : TN n) :
    Calls Tryd.prog 48 #[.pointer (some ⟨g, 0, none⟩)] w fun e w' => e = .returned (.int .i64 n) ∧ WR B g K ss bad wa (o + 1) w' :=
  (wcount_any g K ss o bad n B w h.ws hs h.sl hn h.env h.bg).mono fun e w' ⟨h1, h2, h3⟩ => ⟨h1, h.next h2 h3⟩
theorem WR.word {B g K : Nat} {ss : List (List UInt8)} {bad : Bool} {wa w : World} {o : Nat} (h : WR B g K ss bad wa o w) {s : List UInt8} (hs : ss[o]? = some s) :
    Calls Tryd.prog 45 #[.pointer (some ⟨g, 0, none⟩)] w fun e w' => e = .returned (.string (BA s)) ∧ WR B g K ss bad wa (o + 1) w' :=
  (next_any g K ss o bad s w h.ws hs h.sl).mono fun e w' ⟨h1, h2, h3⟩ => ⟨h1, h.next h2 h3⟩
theorem WR.on {B g K : Nat} {ss : List (List UInt8)} {bad : Bool} {wa w w' : World} {o : Nat} (h : WR B g K ss bad wa o w) (hb : Below w.heap.size w w') : WR B g K ss bad wa o w' :=
  ⟨h.ws.on hb, gb_trans h.gb (gb_below hb _), h.en, h.bg, h.ga, h.sl⟩
structure Tk where
  k : Int
  p : Int
  b : Int
  c : Int
  d : Int
  e : Int
  f : Int
  g : Int
  h : Int
  i : Int
abbrev Tk.arr (t : Tk) : Array Value := #[.int .u8 t.k, .int .i64 t.p, .int .i64 t.b, .int .i64 t.c, .int .i64 t.d, .int .i64 t.e, .int .i64 t.f, .int .i64 t.g, .int .i64 t.h, .int .i64 t.i]
/-- The words of a task without a lock. -/
def tkW (t : Tk) : List (List UInt8) := [itoa t.p, itoa t.b, itoa t.c, itoa t.d, itoa t.e, itoa t.f]
def tkN (t : Tk) : Prop := TN t.p ∧ TN t.b ∧ TN t.c ∧ TN t.d ∧ TN t.e ∧ TN t.f
abbrev zTk : Array Value := #[.int .u8 0, .int .i64 0, .int .i64 0, .int .i64 0, .int .i64 0, .int .i64 0, .int .i64 0, .int .i64 0, .int .i64 0, .int .i64 0]
theorem gb_then {w a b : World} {r : Option Nat} (h : w.grownBy a r) (hb : Below w.heap.size a b) : w.grownBy b r :=
  ⟨hb.os.trans h.os, hb.tape.trans h.tape, hb.output.trans h.output, Nat.le_trans h.size hb.size, fun i hi hn => (hb.block i hi).trans (h.block i hi hn)⟩
theorem WS.keep {g K : Nat} {ss : List (List UInt8)} {o : Nat} {bad : Bool} {w w' : World} (h : WS g K ss o bad w) (h1 : w'.heap[g]? = w.heap[g]?) (h2 : w'.heap[K]? = w.heap[K]?) : WS g K ss o bad w' := by
  obtain ⟨a, ha, hm⟩ := h.me
  exact ⟨⟨a, ha, h1.trans hm⟩, h2.trans h.row, h.ne⟩
theorem size_tk : (Tryd.prog.info? 54).map (·.size) = some 10 := by kernel_rfl
theorem tk_one (t : Tk) : ∀ v ∈ t.arr.toList, v.oneCell' = true := by
  intro v hv; simp at hv; rcases hv with rfl | rfl | rfl | rfl | rfl | rfl | rfl | rfl | rfl | rfl <;> rfl
set_option maxHeartbeats 6400000 in
set_option maxRecDepth 100000 in
theorem wtask_free (B g K : Nat) (hd : List UInt8) (bad : Bool) (t : Tk) (w : World) (ht : tkN t) (h : WS g K (hd :: tkW t) 1 bad w) (EN : EnvS B w) (hB : B ≤ g) :
    Calls Tryd.prog 47 #[.pointer (some ⟨g, 0, none⟩), .int .u8 t.k] w fun e w' => e = .returned (.agg #[.int .u8 t.k, .int .i64 t.p, .int .i64 t.b, .int .i64 t.c, .int .i64 t.d, .int .i64 t.e, .int .i64 t.f, .int .i64 (-1), .int .i64 0, .int .i64 0]) ∧ WS g K (hd :: tkW t) 7 bad w' ∧ w.grownBy w' (some g) := by
  obtain ⟨n1, n2, n3, n4, n5, n6⟩ := ht
  have hgl := h.lt
  have hKl : K < w.heap.size := (Array.getElem?_eq_some_iff.1 h.row).1
  obtain ⟨wa, hwa⟩ : ∃ wa, wa = w.alloc (.cells zTk 54) := ⟨_, rfl⟩
  have r1 : wa.heap[w.heap.size]? = some (.cells zTk 54 (0, 0)) := by rw [hwa]; exact heap_alloc_new w _
  have sa : wa.heap.size = w.heap.size + 1 := by rw [hwa]; simp
  have ba : Below w.heap.size w wa := by rw [hwa]; exact below_box w _
  have R1 := Kept.mk (show WR B g K (hd :: tkW t) bad wa 1 wa from ⟨h.on ba, gb_refl _ _, EN.on (ba.mono (by omega)), hB, by omega, by simp [tkW]⟩)
  have HA := Kept.mk ba
  have HR := Kept.mk r1
  clear h EN r1 ba
  have q1 := Kept.mk (R1.out.count (n := t.p) rfl n1)
  rw [hwa] at q1
  go_enter Tryd.func47, Tryd.ntmps47
  go_wp2_with (go_at_call 48; refine q1.out.mono ?_; rintro e w1 ⟨rfl, R2⟩; refine Hid.out ?_)
  refine Lib.hid ?_
  rw [← hwa] at R2
  clear hwa
  have q2 := Kept.mk (R2.num (n := t.b) rfl n2)
  go_wp2_with (go_at_call 46; refine q2.out.mono ?_; rintro e w2 ⟨rfl, R3⟩; refine Hid.out ?_)
  refine Lib.hid ?_
  have q3 := Kept.mk (R3.num (n := t.c) rfl n3)
  go_wp2_with (go_at_call 46; refine q3.out.mono ?_; rintro e w3 ⟨rfl, R4⟩; refine Hid.out ?_)
  refine Lib.hid ?_
  have q4 := Kept.mk (R4.num (n := t.d) rfl n4)
  go_wp2_with (go_at_call 46; refine q4.out.mono ?_; rintro e w4 ⟨rfl, R5⟩; refine Hid.out ?_)
  refine Lib.hid ?_
  have q5 := Kept.mk (R5.num (n := t.e) rfl n5)
  go_wp2_with (go_at_call 46; refine q5.out.mono ?_; rintro e w5 ⟨rfl, R6⟩; refine Hid.out ?_)
  refine Lib.hid ?_
  have q6 := Kept.mk (R6.count (n := t.f) rfl n6)
  go_wp2_with (go_at_call 48; refine q6.out.mono ?_; rintro e w6 ⟨rfl, R7⟩; refine Hid.out ?_)
  refine Lib.hid ?_
  clear q1 q2 q3 q4 q5 q6 R2 R3 R4 R5 R6
  have bt := below_box w6 (.cells #[.int .u8 t.k, .int .i64 t.p, .int .i64 t.b, .int .i64 t.c, .int .i64 t.d, .int .i64 t.e, .int .i64 t.f, .int .i64 (-1), .int .i64 0, .int .i64 0] 54)
  have R8 := R7.on bt
  have rb : (w6.alloc (.cells #[.int .u8 t.k, .int .i64 t.p, .int .i64 t.b, .int .i64 t.c, .int .i64 t.d, .int .i64 t.e, .int .i64 t.f, .int .i64 (-1), .int .i64 0, .int .i64 0] 54)).heap[w.heap.size]? = some (.cells zTk 54 (0, 0)) :=
    (R8.gb.block _ (by omega) (fun e => by injection e; omega)).trans HR.out
  obtain ⟨ax, ha0, hme⟩ := R7.ws.me
  have hz : (hd :: tkW t).length - 7 = 0 := rfl
  rw [hz] at hme
  have cl : w6.cell? ⟨g, 0, none⟩ = some (.slice ax 0 0) := cell_of_row _ _ 0 _ _ _ hme
  have g6 : g < w6.heap.size := R7.ws.lt
  have hrl : w.heap.size < w6.heap.size := by have := R7.gb.size; omega
  clear hme ha0 hz bt
  go_wp2_with (refine wpList_store_at rfl 54 _ _ rfl w.heap.size 0 rfl (Tk.arr ⟨t.k, t.p, t.b, t.c, t.d, t.e, t.f, -1, 0, 0⟩) rfl 54 zTk (Tk.arr ⟨t.k, t.p, t.b, t.c, t.d, t.e, t.f, -1, 0, 0⟩) rb size_tk (by simp) (tk_one _) rfl ?_; intro w9 hp; have HP := Kept.mk hp; clear hp)
  refine bodyPost_ret (v := .agg (Tk.arr ⟨t.k, t.p, t.b, t.c, t.d, t.e, t.f, -1, 0, 0⟩)) (results_cell_row (p := 4) rfl _ _ w.heap.size 54 _ (0, 0) _ rfl HP.out.here Tryd.underlying54 rfl size_tk) rfl ⟨rfl, R8.ws.keep (HP.out.far _ (by omega)) (HP.out.far _ (by omega)), ?_⟩
  exact gb_then (gb_then (gb_below HA.out _) (Below.refl _ _) |> fun h => ⟨R8.gb.os.trans h.os, R8.gb.tape.trans h.tape, R8.gb.output.trans h.output, Nat.le_trans h.size R8.gb.size, fun i hi hn => (R8.gb.block i (by omega) hn).trans (h.block i hi hn)⟩) (HP.out.below _ (Nat.le_refl _))
end Go.Proofs.YtfneloplbkjbhaaDoor
