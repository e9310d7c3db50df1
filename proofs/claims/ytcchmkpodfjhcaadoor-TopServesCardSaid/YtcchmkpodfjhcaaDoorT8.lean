/-
  The walk of intc.Make, with all lines of edges.
-/
import Derived.Test.YtcchmkpodfjhcaaDoorT7
namespace Go.Proofs.YtcchmkpodfjhcaaDoor
open Go.RowKit
set_option linter.unusedVariables false
theorem andn_num (a b : Nat) (ha : a < 18446744073709551616) (hb : b < 18446744073709551616) : bits .andNot .u64 (a : Int) (b : Int) = ((a &&& (18446744073709551615 - b) : Nat) : Int) := u64_andNot_nat a b ha hb
theorem bit_comp (b i : Nat) (hb : b < 18446744073709551616) (hi : i < 64) : (18446744073709551615 - b).testBit i = !b.testBit i := by
  have := Nat.testBit_two_pow_sub_succ (n := 64) (x := b) hb i
  rw [show 2 ^ 64 - (b + 1) = 18446744073709551615 - b by omega] at this
  rw [this]; simp [hi]
theorem lt_bit {b : Nat} (h : b < 18446744073709551616) {i : Nat} (hi : b.testBit i = true) : i < 64 := by
  rcases Nat.lt_or_ge i 64 with h1 | h1
  · exact h1
  · exfalso
    have : b < 2 ^ i := Nat.lt_of_lt_of_le h (by have := Nat.pow_le_pow_right (n := 2) (by omega) h1; omega)
    rw [Nat.testBit_lt_two_pow this] at hi; cases hi
theorem mf_of (P M : Nat) (hP : P < 18446744073709551616) (hM : M < 18446744073709551616) (hs : ∀ i, P.testBit i = true → M.testBit i = true) : MF P M := by
  have ho : P ||| M = M := by
    apply Nat.eq_of_testBit_eq
    intro i
    rw [Nat.testBit_or]
    cases hp : P.testBit i with
    | true => rw [hs i hp]; rfl
    | false => simp
  refine ⟨?_, ?_, ?_⟩
  · have z : (0 : Int) = ((0 : Nat) : Int) := rfl
    rw [u64_or_nat _ _ hP hM, ho, z, u64_or_nat _ _ hM (by omega), Nat.or_zero, u64_or_nat _ _ hM hM, Nat.or_self]
  · rw [andn_num _ _ hM hM]
    have : M &&& (18446744073709551615 - M) = 0 := by
      apply Nat.eq_of_testBit_eq
      intro i
      rw [Nat.testBit_and, Nat.zero_testBit]
      cases hm : M.testBit i with
      | false => rfl
      | true => rw [bit_comp _ _ hM (lt_bit hM hm), hm]; rfl
    rw [this]; rfl
  · have z : (0 : Int) = ((0 : Nat) : Int) := rfl
    rw [z, u64_and_nat _ _ (by omega) hM, Nat.zero_and]
theorem mk_lt (xs : List Int) : mk xs < 18446744073709551616 := btN_lt _ _
theorem mk_bit (xs : List Int) (i : Nat) : (mk xs).testBit i = (decide (i < 64) && decide (i < xs.length)) := by
  unfold mk
  rw [btN_bit]
  congr 1
  unfold btP
  rw [decide_eq_decide]
  omega
structure C7 (W : World) (g : Nat) (v0 v1 v2 v3 v4 v5 v6 : Value) : Prop where
  c0 : W.cell? ⟨g, 0, none⟩ = some v0
  c1 : W.cell? ⟨g, 1, none⟩ = some v1
  c2 : W.cell? ⟨g, 2, none⟩ = some v2
  c3 : W.cell? ⟨g, 3, none⟩ = some v3
  c4 : W.cell? ⟨g, 4, none⟩ = some v4
  c5 : W.cell? ⟨g, 5, none⟩ = some v5
  c6 : W.cell? ⟨g, 6, none⟩ = some v6
  fr : ∀ i, W.frozen? ⟨g, i, none⟩ = false
theorem C7.below {W W' : World} {B g : Nat} {v0 v1 v2 v3 v4 v5 v6 : Value} (h : C7 W g v0 v1 v2 v3 v4 v5 v6) (hb : Below B W W') (hd : g < B) : C7 W' g v0 v1 v2 v3 v4 v5 v6 :=
  ⟨(hb.cell (p := (⟨g, 0, none⟩ : Addr)) hd).trans h.c0, (hb.cell (p := (⟨g, 1, none⟩ : Addr)) hd).trans h.c1, (hb.cell (p := (⟨g, 2, none⟩ : Addr)) hd).trans h.c2, (hb.cell (p := (⟨g, 3, none⟩ : Addr)) hd).trans h.c3, (hb.cell (p := (⟨g, 4, none⟩ : Addr)) hd).trans h.c4, (hb.cell (p := (⟨g, 5, none⟩ : Addr)) hd).trans h.c5, (hb.cell (p := (⟨g, 6, none⟩ : Addr)) hd).trans h.c6, fun i => (hb.frozen (p := (⟨g, i, none⟩ : Addr)) hd).trans (h.fr i)⟩
theorem C7.box {w w1 : World} {v0 v1 v2 v3 v4 v5 v6 : Value} {T : TypeId} (hb : Below (w.alloc (.cells #[v0, v1, v2, v3, v4, v5, v6] T)).heap.size (w.alloc (.cells #[v0, v1, v2, v3, v4, v5, v6] T)) w1) : C7 w1 w.heap.size v0 v1 v2 v3 v4 v5 v6 :=
  ⟨box_cell hb 0 _ rfl, box_cell hb 1 _ rfl, box_cell hb 2 _ rfl, box_cell hb 3 _ rfl, box_cell hb 4 _ rfl, box_cell hb 5 _ rfl, box_cell hb 6 _ rfl, box_free hb⟩
theorem own7 {w : World} {base r : Nat} {e : TypeId} {sz n : Nat} {v : Value} {xs : List Value} (h : w.ownsRow base e sz v n xs) (hr : r < base) {v0 v1 v2 v3 v4 v5 v6 : Value} :
    (((((((w.setCell ⟨r, 0, none⟩ v0).setCell ⟨r, 1, none⟩ v1).setCell ⟨r, 2, none⟩ v2).setCell ⟨r, 3, none⟩ v3).setCell ⟨r, 4, none⟩ v4).setCell ⟨r, 5, none⟩ v5).setCell ⟨r, 6, none⟩ v6).ownsRow base e sz v n xs :=
  ownsRow_setCell_below (ownsRow_setCell_below (ownsRow_setCell_below (ownsRow_setCell_below (ownsRow_setCell_below (ownsRow_setCell_below (ownsRow_setCell_below h hr _) hr _) hr _) hr _) hr _) hr _) hr _
set_option maxHeartbeats 4000000 in
theorem make_any (A : Option Addr) (xs : List Int) (cap : Nat) (w : World) (h : Ints w w.heap.size A xs) (hA : A = none → cap = 0) (h1 : 1 ≤ xs.length) (h2 : xs.length ≤ 64) (hx : xs.any oddP = false) :
    Calls Tryd.prog 10 #[.int .u64 (mk xs : Int), .slice A xs.length cap] w (CRes w (0 : Nat) (mk xs : Int) xs [] [.int .i64 0]) := by
  obtain ⟨M, hM⟩ : ∃ M : Int, M = (mk xs : Int) := ⟨_, rfl⟩
  have hm := mf_of 0 (mk xs) (by omega) (mk_lt xs) (fun i h => by simp at h)
  rw [← hM] at hm ⊢
  have HC := Kept.mk (fun W A cap B cap2 (h : Ints W W.heap.size A xs) (k : Ints W W.heap.size B []) => check_any 0 M hm A xs cap hM B [] cap2 W h k h1 h2 hx ⟨by simp, fun _ h => by cases h⟩)
  have HM := Kept.mk hM
  have l1 : xs.length ≤ 17592186044416 := by omega
  clear hM hm hx
  unfold iC at *
  go_enter Tryd.func10, Tryd.ntmps10
  go_wp2_with ((go_at_call 33; refine (clone_any A xs cap _ ((h.below (below_box _ _)).mono (by simp)) hA l1).mono ?_; rintro e w1 ⟨v1, rfl, own1, hb1⟩; obtain ⟨A1, p1, rfl⟩ := own_slice own1))
  have E0 := C7.box hb1
  have hbw := hb1.box (Nat.le_refl _)
  have hz : w.heap.size + 1 ≤ w1.heap.size := by have := hb1.size; simpa using this
  have hi1 := Ints.of_own own1
  have ow1 : w1.ownsRow (w.heap.size + 1) 3 1 (.slice A1 xs.length p1) xs.length (xs.map (Value.int .i64)) := by simpa using own1
  clear h hb1 own1
  refine (lines_any _ _ _ _ _ _ _ _ _ _ l1).mono ?_
  rintro e w2 ⟨rfl, hb2⟩
  rw [← HM.out]
  have Q0 := C7.box hb2
  have hb3 := hb2.box (Nat.le_refl _)
  have zz : w.heap.size < w1.heap.size := by omega
  replace E0 := E0.below hb3 zz
  have hz2 := hb3.size
  have hl2 : w1.heap.size < w2.heap.size := Nat.lt_of_lt_of_le (by simp) hb2.size
  have ow2 := ownsRow_setCell_other (own_below ow1 hb3) (a := ⟨w1.heap.size, 1, none⟩) (by intro h; have := (ow1.lt _ h).2; simp at this) (.int .u64 M)
  have nn : (Value.slice A1 xs.length p1).ownBlock ≠ some w1.heap.size := by intro h; have := (ow1.lt _ h).2; omega
  have hIx := (hi1.2.below (hb3.setCell (p := ⟨w1.heap.size, 1, none⟩) (Nat.le_refl _) (.int .u64 M))).mono (B' := (w2.setCell ⟨w1.heap.size, 1, none⟩ (.int .u64 M)).heap.size) (by simpa using hz2)
  have hbw3 := (hbw.trans (hb3.mono hbw.size)).setCell (p := ⟨w1.heap.size, 1, none⟩) hbw.size (.int .u64 M)
  clear hb2 hi1 hb3 ow1
  obtain ⟨q0, q1, q2, q3, q4, q5, q6, k0⟩ := Q0
  obtain ⟨e0, e1, e2, e3, e4, e5, e6, g0⟩ := E0
  go_wp2_with fail
  have Q1 : C7 (w2.setCell ⟨w1.heap.size, 1, none⟩ (.int .u64 M)) w1.heap.size (.int .u64 0) (.int .u64 M) (.int .u64 0) (.int .u64 M) (.slice A1 xs.length p1) (.int .i64 0) (.slice none 0 0) := by constructor <;> (try intro i) <;> go_simp
  have E1 : C7 (w2.setCell ⟨w1.heap.size, 1, none⟩ (.int .u64 M)) w.heap.size (.int .u64 0) (.int .u64 0) (.int .u64 0) (.int .u64 0) (.slice none 0 0) (.int .i64 0) (.slice none 0 0) := by constructor <;> (try intro i) <;> go_simp
  clear q0 q1 q2 q3 q4 q5 q6 k0 e0 e1 e2 e3 e4 e5 e6 g0
  have hl3 : w1.heap.size < (w2.setCell ⟨w1.heap.size, 1, none⟩ (.int .u64 M)).heap.size := by simpa using hl2
  obtain ⟨W3, hW3⟩ : ∃ W, W = w2.setCell ⟨w1.heap.size, 1, none⟩ (.int .u64 M) := ⟨_, rfl⟩
  rw [← hW3] at Q1 E1 hIx ow2 hbw3 hl3 ⊢
  refine (HC.out W3 A1 p1 none 0 hIx (Ints.nil _ _ _)).mono ?_
  rintro e w3 ⟨rfl, hb4⟩
  obtain ⟨q0, q1, q2, q3, q4, q5, q6, k0⟩ := Q1.below hb4 hl3
  obtain ⟨e0, e1, e2, e3, e4, e5, e6, g0⟩ := E1.below hb4 (by omega)
  have ow3 := own_below ow2 hb4
  have hbw4 := hbw3.trans (hb4.mono hbw3.size)
  clear hb4 Q1 E1 HC
  go_wp2
  refine bodyPost_ret (results_intc (p := 4) (u := 5) rfl _ _ w.heap.size _ _ _ _ _ _ _ rfl (by go_simp <;> rfl) (by go_simp <;> rfl) (by go_simp <;> rfl) (by go_simp <;> rfl) (by go_simp <;> rfl) (by go_simp <;> rfl) (by go_simp <;> rfl)) rfl ?_
  exact ⟨_, rfl, isC_own (own7 ow3 (by omega)) (World.ownsRow_nil _ _ _ _) (Below.refl _ _), res_below (B := w.heap.size) (k := 0) hbw4, rows_own ow3 (World.ownsRow_nil w3 w.heap.size 3 1) (by omega) (Nat.le_refl _)⟩
set_option maxHeartbeats 4000000 in
theorem make_bad (A : Option Addr) (xs : List Int) (cap : Nat) (w : World) (h : Ints w w.heap.size A xs) (hA : A = none → cap = 0) (hl : xs.length ≤ 17592186044416) (hx : Bad xs) :
    Calls Tryd.prog 10 #[.int .u64 (mk xs : Int), .slice A xs.length cap] w (fun e w' => e = .returned (.tuple #[.agg #[.int .u64 0, .int .u64 0, .int .u64 0, .int .u64 0, .slice none 0 0, .int .i64 0, .slice none 0 0], .int .i64 2]) ∧ Below w.heap.size w w') := by
  obtain ⟨M, hM⟩ : ∃ M : Int, M = (mk xs : Int) := ⟨_, rfl⟩
  rw [← hM]
  have HC := Kept.mk (fun W A cap B cap2 (h : Ints W W.heap.size A xs) (k : Ints W W.heap.size B []) => check_bad 0 M 0 M A xs cap (.slice B ([] : List Int).length cap2) W h hl hx)
  have HM := Kept.mk hM
  have l1 := hl
  clear hM hx
  unfold iC at *
  go_enter Tryd.func10, Tryd.ntmps10
  go_wp2_with ((go_at_call 33; refine (clone_any A xs cap _ ((h.below (below_box _ _)).mono (by simp)) hA l1).mono ?_; rintro e w1 ⟨v1, rfl, own1, hb1⟩; obtain ⟨A1, p1, rfl⟩ := own_slice own1))
  have E0 := C7.box hb1
  have hbw := hb1.box (Nat.le_refl _)
  have hz : w.heap.size + 1 ≤ w1.heap.size := by have := hb1.size; simpa using this
  have hi1 := Ints.of_own own1
  have ow1 : w1.ownsRow (w.heap.size + 1) 3 1 (.slice A1 xs.length p1) xs.length (xs.map (Value.int .i64)) := by simpa using own1
  clear h hb1 own1
  refine (lines_any _ _ _ _ _ _ _ _ _ _ l1).mono ?_
  rintro e w2 ⟨rfl, hb2⟩
  rw [← HM.out]
  have Q0 := C7.box hb2
  have hb3 := hb2.box (Nat.le_refl _)
  have zz : w.heap.size < w1.heap.size := by omega
  replace E0 := E0.below hb3 zz
  have hz2 := hb3.size
  have hl2 : w1.heap.size < w2.heap.size := Nat.lt_of_lt_of_le (by simp) hb2.size
  have ow2 := ownsRow_setCell_other (own_below ow1 hb3) (a := ⟨w1.heap.size, 1, none⟩) (by intro h; have := (ow1.lt _ h).2; simp at this) (.int .u64 M)
  have nn : (Value.slice A1 xs.length p1).ownBlock ≠ some w1.heap.size := by intro h; have := (ow1.lt _ h).2; omega
  have hIx := (hi1.2.below (hb3.setCell (p := ⟨w1.heap.size, 1, none⟩) (Nat.le_refl _) (.int .u64 M))).mono (B' := (w2.setCell ⟨w1.heap.size, 1, none⟩ (.int .u64 M)).heap.size) (by simpa using hz2)
  have hbw3 := (hbw.trans (hb3.mono hbw.size)).setCell (p := ⟨w1.heap.size, 1, none⟩) hbw.size (.int .u64 M)
  clear hb2 hi1 hb3 ow1
  obtain ⟨q0, q1, q2, q3, q4, q5, q6, k0⟩ := Q0
  obtain ⟨e0, e1, e2, e3, e4, e5, e6, g0⟩ := E0
  go_wp2_with fail
  have Q1 : C7 (w2.setCell ⟨w1.heap.size, 1, none⟩ (.int .u64 M)) w1.heap.size (.int .u64 0) (.int .u64 M) (.int .u64 0) (.int .u64 M) (.slice A1 xs.length p1) (.int .i64 0) (.slice none 0 0) := by constructor <;> (try intro i) <;> go_simp
  have E1 : C7 (w2.setCell ⟨w1.heap.size, 1, none⟩ (.int .u64 M)) w.heap.size (.int .u64 0) (.int .u64 0) (.int .u64 0) (.int .u64 0) (.slice none 0 0) (.int .i64 0) (.slice none 0 0) := by constructor <;> (try intro i) <;> go_simp
  clear q0 q1 q2 q3 q4 q5 q6 k0 e0 e1 e2 e3 e4 e5 e6 g0
  have hl3 : w1.heap.size < (w2.setCell ⟨w1.heap.size, 1, none⟩ (.int .u64 M)).heap.size := by simpa using hl2
  obtain ⟨W3, hW3⟩ : ∃ W, W = w2.setCell ⟨w1.heap.size, 1, none⟩ (.int .u64 M) := ⟨_, rfl⟩
  rw [← hW3] at Q1 E1 hIx ow2 hbw3 hl3 ⊢
  refine (HC.out W3 A1 p1 none 0 hIx (Ints.nil _ _ _)).mono ?_
  rintro e w3 ⟨rfl, hb4⟩
  obtain ⟨q0, q1, q2, q3, q4, q5, q6, k0⟩ := Q1.below hb4 hl3
  obtain ⟨e0, e1, e2, e3, e4, e5, e6, g0⟩ := E1.below hb4 (by omega)
  have ow3 := own_below ow2 hb4
  have hbw4 := hbw3.trans (hb4.mono hbw3.size)
  clear hb4 Q1 E1 HC
  go_wp2
  refine bodyPost_ret (results_intc (p := 4) (u := 5) rfl _ _ w.heap.size _ _ _ _ _ _ _ rfl (by go_simp <;> rfl) (by go_simp <;> rfl) (by go_simp <;> rfl) (by go_simp <;> rfl) (by go_simp <;> rfl) (by go_simp <;> rfl) (by go_simp <;> rfl)) rfl ?_
  exact ⟨rfl, res_below (B := w.heap.size) (k := 0) hbw4⟩
end Go.Proofs.YtcchmkpodfjhcaaDoor
