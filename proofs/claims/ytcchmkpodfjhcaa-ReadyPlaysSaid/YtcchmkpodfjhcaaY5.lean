/-
  The walks of the reference queue's New, Remove, Raise, Push, Turn.
-/
import Derived.Test.YtcchmkpodfjhcaaY4
namespace Go.Proofs.Ytcchmkpodfjhcaa
open Go.RowKit
set_option linter.unusedVariables false
/-- Ahead of what a call makes of its own: the queue's box, the result's box. -/
structure TwoQ (w W : World) (n : Nat) (A : Option Addr) (l c : Nat) : Prop where
  a0 : W.cell? ⟨w.heap.size, 0, none⟩ = some (.int .i64 (n : Int))
  a1 : W.cell? ⟨w.heap.size, 1, none⟩ = some (.slice A l c)
  af : ∀ i, W.frozen? ⟨w.heap.size, i, none⟩ = false
  d0 : W.cell? ⟨w.heap.size + 1, 0, none⟩ = some (.int .i64 0)
  d1 : W.cell? ⟨w.heap.size + 1, 1, none⟩ = some (.slice none 0 0)
  df : ∀ i, W.frozen? ⟨w.heap.size + 1, i, none⟩ = false
  hs : w.heap.size + 2 ≤ W.heap.size
  bw : Below w.heap.size w W
theorem TwoQ.below {w W W' : World} {n : Nat} {A : Option Addr} {l c : Nat} (h : TwoQ w W n A l c) (hb : Below W.heap.size W W') : TwoQ w W' n A l c := by
  have hs := h.hs
  have k : ∀ p, p < w.heap.size + 2 → W'.heap[p]? = W.heap[p]? := fun p hp => hb.block p (by omega)
  exact ⟨(World.cell?_of_block (a := ⟨w.heap.size, 0, none⟩) (k _ (by show w.heap.size < _; omega))).trans h.a0, (World.cell?_of_block (a := ⟨w.heap.size, 1, none⟩) (k _ (by show w.heap.size < _; omega))).trans h.a1, fun i => (World.frozen?_of_block (a := ⟨w.heap.size, i, none⟩) (k _ (by show w.heap.size < _; omega))).trans (h.af i),
    (World.cell?_of_block (a := ⟨w.heap.size + 1, 0, none⟩) (k _ (by show w.heap.size + 1 < _; omega))).trans h.d0, (World.cell?_of_block (a := ⟨w.heap.size + 1, 1, none⟩) (k _ (by show w.heap.size + 1 < _; omega))).trans h.d1, fun i => (World.frozen?_of_block (a := ⟨w.heap.size + 1, i, none⟩) (k _ (by show w.heap.size + 1 < _; omega))).trans (h.df i), Nat.le_trans hs hb.size, h.bw.trans (hb.mono (by omega))⟩
/-- What an act of the reference gives. -/
def RAct (w : World) (hi n : Nat) (Q : QL) (a : Int) (e : Ending) (w' : World) : Prop := ∃ v, e = .returned (.tuple #[v, .int .i64 a]) ∧ RefQ w' hi n Q v ∧ Below w.heap.size w w'
theorem rnew_bad (n : Int) (h : ¬ (1 ≤ n ∧ n ≤ 4096)) (w : World) :
    Calls Try.prog 43 #[.int .i64 n] w fun e w' => e = .returned (.tuple #[.agg #[.int .i64 0, .slice none 0 0], .bool false]) ∧ Below w.heap.size w w' := by
  have hb := below_box w (.cells #[.int .i64 0, .slice none 0 0] 69)
  by_cases h1 : n < 1
  · go_enter Try.func43, Try.ntmps43
    go_wp2
    refine bodyPost_ret (results_que rfl _ _ w.heap.size (.int .i64 0) (.slice none 0 0) (.bool false) rfl rfl (by go_simp) (by go_simp)) rfl ⟨rfl, hb⟩
  · have h2 : 4096 < n := by omega
    go_enter Try.func43, Try.ntmps43
    go_wp2
    refine bodyPost_ret (results_que rfl _ _ w.heap.size (.int .i64 0) (.slice none 0 0) (.bool false) rfl rfl (by go_simp) (by go_simp)) rfl ⟨rfl, hb⟩
theorem rnew_any (n : Nat) (h1 : 1 ≤ n) (h2 : n ≤ 4096) (w : World) :
    Calls Try.prog 43 #[.int .i64 n] w fun e w' => e = .returned (.tuple #[.agg #[.int .i64 (n : Int), .slice none 0 0], .bool true]) ∧ Below w.heap.size w w' := by
  have q1 : ¬ (n : Int) < 1 := by omega
  have q2 : ¬ (4096 : Int) < (n : Int) := by omega
  have hb := below_box w (.cells #[.int .i64 (n : Int), .slice none 0 0] 69)
  go_enter Try.func43, Try.ntmps43
  go_wp2
  refine bodyPost_ret (results_que rfl _ _ w.heap.size (.int .i64 (n : Int)) (.slice none 0 0) (.bool true) rfl rfl (by go_simp) (by go_simp)) rfl ⟨rfl, hb⟩
theorem refq_new (w : World) (hi n : Nat) (hn : n ≤ 4096) : RefQ w hi n [] (.agg #[.int .i64 (n : Int), .slice none 0 0]) := ⟨⟨none, 0, rfl, RQ.nil _ _ _, fun _ => rfl⟩, by simp, hn⟩
theorem set_far2 {W : World} {b i j : Nat} {B : Nat} (hB : B ≤ b) (u v : Value) : Below B W ((W.setCell ⟨b, i, none⟩ u).setCell ⟨b, j, none⟩ v) := ((Below.refl B W).setCell (p := ⟨b, i, none⟩) hB _).setCell (p := ⟨b, j, none⟩) hB _
theorem act_own {w w3 : World} {hi n base : Nat} {A : Option Addr} {c : Nat} {Q : QL} {a : Int} (hh : hi ≤ w.heap.size) (hb : Below w.heap.size w w3) (ho : w3.ownsRow base 77 2 (.slice A Q.length c) Q.length (Q.flatMap qcells)) (hB : w.heap.size + 2 ≤ base) (hn : n ≤ 4096) (hl : Q.length ≤ 4096) :
    RAct w hi n Q a (.returned (.tuple #[.agg #[.int .i64 (n : Int), .slice A Q.length c], .int .i64 a])) ((w3.setCell ⟨w.heap.size + 1, 0, none⟩ (.int .i64 (n : Int))).setCell ⟨w.heap.size + 1, 1, none⟩ (.slice A Q.length c)) :=
  ⟨_, rfl, ⟨⟨A, c, rfl, RQ.of_own (own_set (own_set ho (by omega) _) (by omega) _) (by omega), own_nil ho⟩, hl, hn⟩, hb.trans (set_far2 (Nat.le_succ _) _ _)⟩
set_option maxHeartbeats 4000000 in
theorem rremove_any {w : World} {hi n : Nat} {Q : QL} {v : Value} (h : RefQ w hi n Q v) (hh : hi ≤ w.heap.size) (id : Int) :
    Calls Try.prog 47 #[v, .int .i64 id] w (RAct w hi n (qRemove Q id).2 (qRemove Q id).1) := by
  have HRQ := Kept.mk h
  obtain ⟨⟨A, c, rfl, hR, hA⟩, hl, hn⟩ := h
  have hll : (Q.length : Int) ≤ 4096 := by omega
  have hnn : (n : Int) ≤ 4096 := by omega
  go_enter Try.func47, Try.ntmps47
  go_wp2_with fail
  obtain ⟨W1, hW1⟩ : ∃ W1, W1 = (w.alloc (.cells #[.int .i64 (n : Int), .slice A Q.length c] 69)).alloc (.cells #[.int .i64 0, .slice none 0 0] 69) := ⟨_, rfl⟩
  obtain ⟨f1, f2, f3, f4, f5⟩ := two_new (w := w) (w1 := W1) (by rw [hW1]; exact Below.refl _ _)
  have f7 : ∀ i, W1.frozen? ⟨w.heap.size, i, none⟩ = false := fun i => by
    have hb : Below (w.alloc (.cells #[.int .i64 (n : Int), .slice A Q.length c] 69)).heap.size (w.alloc (.cells #[.int .i64 (n : Int), .slice A Q.length c] 69)) W1 := by rw [hW1]; exact below_box _ _
    exact box_free hb i
  have HX := Kept.mk (show TwoQ w W1 n A Q.length c from ⟨f1 0 _ rfl, f1 1 _ rfl, f7, f2 0 _ rfl, f2 1 _ rfl, f3, f4, f5⟩)
  rw [← hW1]
  clear hW1 f1 f2 f3 f4 f5 f7 hR
  refine (rfind_any (hi := hi) (HRQ.out.blocks HX.out.bw.size fun i _ hi => HX.out.bw.block i hi) id).mono ?_
  rintro e w2 ⟨a, b, rfl, hb2⟩
  have HX2 := Kept.mk (HX.out.below hb2)
  have HB2 := Kept.mk hb2
  by_cases hm : id ∈ Q.ids
  · have e : qRemove Q id = (0, Q.rem id) := by unfold qRemove; rw [if_pos hm]
    rw [e, decide_eq_true hm]
    obtain ⟨a0, a1, af, d0, d1, df, hs, hbw⟩ := HX2.out
    have hs1 : w.heap.size + 1 < _ := hs
    have hs0 : w.heap.size < _ := Nat.lt_of_succ_lt hs1
    go_wp2_with fail
    have hb25 := below_box w2 (.cells #[.int .i64 a, .int .i64 b] 77)
    have HX25 := HX2.out.below hb25
    refine (rwithout_any (hi := hi) (HRQ.out.below HX25.bw) id).mono ?_
    rintro e w3 ⟨A', c', rfl, own, hb3⟩
    have HX3 := Kept.mk (HX25.below hb3)
    have HO := Kept.mk own
    have hz : w.heap.size + 2 ≤ (w2.alloc (.cells #[.int .i64 a, .int .i64 b] 77)).heap.size := HX25.hs
    have HZ := Kept.mk hz
    clear own hb3 hb25 HX25 hz a0 a1 af d0 d1 df hs hbw hs1 hs0
    obtain ⟨a0, a1, af, d0, d1, df, hs, hbw⟩ := HX3.out
    have hs1 : w.heap.size + 1 < _ := hs
    have hs0 : w.heap.size < _ := Nat.lt_of_succ_lt hs1
    go_wp2
    refine bodyPost_ret (results_que rfl _ _ (w.heap.size + 1) (.int .i64 (n : Int)) (.slice A' (Q.rem id).length c') (.int .i64 0) rfl rfl (by go_simp) (by go_simp)) rfl ?_
    rw [e]
    exact act_own hh HX3.out.bw HO.out (by have := HZ.out; omega) hn (Nat.le_trans (List.length_filter_le _ _) hl)
  · have e : qRemove Q id = (3, Q) := by unfold qRemove; rw [if_neg hm]
    rw [e, decide_eq_false hm]
    obtain ⟨a0, a1, af, d0, d1, df, hs, hbw⟩ := HX2.out
    have hs1 : w.heap.size + 1 < _ := hs
    have hs0 : w.heap.size < _ := Nat.lt_of_succ_lt hs1
    go_wp2
    refine bodyPost_ret (results_que rfl _ _ (w.heap.size + 1) (.int .i64 (n : Int)) (.slice A Q.length c) (.int .i64 3) rfl rfl (by go_simp) (by go_simp)) rfl ?_
    have hb := (HX2.out.bw.trans (set_far2 (b := w.heap.size + 1) (i := 0) (j := 1) (Nat.le_succ _) (.int .i64 (n : Int)) (.slice A Q.length c))).alloc (by simp; omega) (.cells #[.int .i64 a, .int .i64 b] 77)
    rw [e]
    exact ⟨_, rfl, HRQ.out.below hb, hb⟩
end Go.Proofs.Ytcchmkpodfjhcaa
