/-
  The state of the law ReadyPlays between two acts: the queue, the reference in its box.
-/
import Derived.Test.YtcchmkpodfjhcaaY8
import Derived.Test.YtcchmkpodfjhcaaL11t
import Derived.Test.YtcchmkpodfjhcaaR2
namespace Go.Proofs.Ytcchmkpodfjhcaa
open Go.RowKit
set_option linter.unusedVariables false
/-- A box that holds a reference queue. -/
def BQ (w : World) (d n : Nat) (A : Option Addr) (l c : Nat) : Prop := w.heap[d]? = some (.cells #[.int .i64 (n : Int), .slice A l c] 69)
theorem BQ.c0 {w : World} {d n l c : Nat} {A : Option Addr} (h : BQ w d n A l c) : w.cell? ⟨d, 0, none⟩ = some (.int .i64 (n : Int)) := cell_of_row _ _ 0 _ _ _ h
theorem BQ.c1 {w : World} {d n l c : Nat} {A : Option Addr} (h : BQ w d n A l c) : w.cell? ⟨d, 1, none⟩ = some (.slice A l c) := cell_of_row _ _ 1 _ _ _ h
theorem BQ.fr {w : World} {d n l c : Nat} {A : Option Addr} (h : BQ w d n A l c) (i : Nat) : w.frozen? ⟨d, i, none⟩ = false := frozen_of_row _ _ i _ _ h
theorem BQ.lt {w : World} {d n l c : Nat} {A : Option Addr} (h : BQ w d n A l c) : d < w.heap.size := cell_lt h.c0
theorem BQ.kept {w w' : World} {d n l c : Nat} {A : Option Addr} (h : BQ w d n A l c) (hb : w'.heap[d]? = w.heap[d]?) : BQ w' d n A l c := hb.trans h
theorem BQ.below {w w' : World} {d n l c : Nat} {A : Option Addr} (h : BQ w d n A l c) (hb : Below w.heap.size w w') : BQ w' d n A l c := h.kept (hb.block _ h.lt)
/-- The rows of a reference queue do not lie in such a box. -/
theorem RQ.ne_box {w : World} {hi d n l c : Nat} {A B : Option Addr} {Q : QL} (h : RQ w hi A Q) (hb : BQ w d n B l c) : RQ w hi A Q ∧ ∀ b off, 0 < Q.length → A = some ⟨b, off, none⟩ → b ≠ d := by
  refine ⟨h, fun b off h0 hA => ?_⟩
  rintro rfl
  obtain ⟨b', off', e, _, _, hc⟩ := h h0
  rw [hA] at e
  cases e
  obtain ⟨q1, q2⟩ := hc 0 Q[0] (List.getElem?_eq_getElem h0)
  rw [cell_of_row _ _ _ _ _ _ hb] at q1 q2
  match off with
  | 0 => simp at q2
  | 1 => simp at q1
  | o + 2 => simp at q1
theorem RQ.set_box {w : World} {hi d n l c : Nat} {A B : Option Addr} {Q : QL} (h : RQ w hi A Q) (hb : BQ w d n B l c) (i : Nat) (u : Value) : RQ (w.setCell ⟨d, i, none⟩ u) hi A Q := fun h0 => by
  have hne := (h.ne_box hb).2
  obtain ⟨b, off, e, h1, h2, hc⟩ := h h0
  have hbd := hne b off h0 e
  have hk : (w.setCell ⟨d, i, none⟩ u).heap[b]? = w.heap[b]? := Below.heap_setCell _ _ _ _ hbd
  refine ⟨b, off, e, h1, by simpa using h2, fun j y hj => ?_⟩
  obtain ⟨q1, q2⟩ := hc j y hj
  exact ⟨(World.cell?_of_block (a := ⟨b, off + j * 2, none⟩) hk).trans q1, (World.cell?_of_block (a := ⟨b, off + j * 2 + 1, none⟩) hk).trans q2⟩
theorem BQ.set {w : World} {d n l c l' c' : Nat} {A A' : Option Addr} (h : BQ w d n A l c) : BQ ((w.setCell ⟨d, 0, none⟩ (.int .i64 (n : Int))).setCell ⟨d, 1, none⟩ (.slice A' l' c')) d n A' l' c' := by
  have h1 : (w.setCell ⟨d, 0, none⟩ (.int .i64 (n : Int))).heap[d]? = some (.cells #[.int .i64 (n : Int), .slice A l c] 69) := block_setCell h _
  exact block_setCell h1 _
theorem RQ.set2 {w : World} {hi d n l c l' c' : Nat} {A B A' : Option Addr} {Q : QL} (h : RQ w hi A Q) (hb : BQ w d n B l c) : RQ ((w.setCell ⟨d, 0, none⟩ (.int .i64 (n : Int))).setCell ⟨d, 1, none⟩ (.slice A' l' c')) hi A Q := by
  have h1 : BQ (w.setCell ⟨d, 0, none⟩ (.int .i64 (n : Int))) d n B l c := block_setCell (w := w) hb _
  exact (h.set_box hb 0 _).set_box h1 1 _
/-- The state between two acts. -/
structure S11 (w wr : World) (lo hi qb I M p L K n d : Nat) (Q : QL) (A : Option Addr) (c : Nat) : Prop where
  qa : QAt wr lo hi qb I M p L K n Q
  bx : BQ wr d n A Q.length c
  rq : RQ wr hi A Q
  na : A = none → c = 0
  wf : ∀ x ∈ Q, (Lit.int .i64 x.1).wf = true
  hd : hi ≤ d
  lw : w.heap.size ≤ lo
  lh : lo ≤ hi
  nb : n ≤ 4096
  bw : Below w.heap.size w wr
theorem QAt.len {w : World} {lo hi qb I M p L K n : Nat} {Q : QL} (h : QAt w lo hi qb I M p L K n Q) : Q.length ≤ n := by
  obtain ⟨S, _, _, _, hk⟩ := h.of
  have := hk.co.len
  omega
theorem S11.next {w wr W : World} {lo hi qb I M p L K n d : Nat} {Q : QL} {A : Option Addr} {c : Nat} (h : S11 w wr lo hi qb I M p L K n d Q A c) (hb : Below wr.heap.size wr W) : S11 w W lo hi qb I M p L K n d Q A c :=
  ⟨h.qa.below (hb.mono h.qa.hi), h.bx.below hb, h.rq.below hb, h.na, h.wf, h.hd, h.lw, h.lh, h.nb, h.bw.trans (hb.mono h.bw.size)⟩
theorem S11.ref {w wr : World} {lo hi qb I M p L K n d : Nat} {Q : QL} {A : Option Addr} {c : Nat} (h : S11 w wr lo hi qb I M p L K n d Q A c) : RefQ wr hi n Q (.agg #[.int .i64 (n : Int), .slice A Q.length c]) :=
  ⟨⟨A, c, rfl, h.rq, h.na⟩, Nat.le_trans h.qa.len h.nb, h.nb⟩
/-- The world behind the store of the reference's new value into its own box v (= x + 1). -/
theorem S11.mid {w w7 : World} {lo hi qb I M p L K n d x : Nat} {Q : QL} {B : Option Addr} {c : Nat} (h : S11 w w7 lo hi qb I M p L K n d Q B c) (hdx : d < x) (u v : Value) : QAt ((w7.setCell ⟨x + 1, 0, none⟩ u).setCell ⟨x + 1, 1, none⟩ v) lo hi qb I M p L K n Q :=
  h.qa.below (set_far2 (by have := h.hd; omega) u v)
/-- Behind both acts: what lies where. -/
theorem S11.acted {w w7 w8 : World} {lo hi qb I M p L K n d x : Nat} {Q Q' : QL} {B A7 : Option Addr} {c c7 : Nat} {o : Obj} (h : S11 w w7 lo hi qb I M p L K n d Q B c) (hv : BQ w7 (x + 1) n B Q.length c) (hx : w7.heap[x]? = some o) (hdx : d < x)
    (hr : RefQ w7 hi n Q' (.agg #[.int .i64 (n : Int), .slice A7 Q'.length c7])) (hk : Kp lo hi ((w7.setCell ⟨x + 1, 0, none⟩ (.int .i64 (n : Int))).setCell ⟨x + 1, 1, none⟩ (.slice A7 Q'.length c7)) w8) :
    BQ w8 (x + 1) n A7 Q'.length c7 ∧ BQ w8 d n B Q.length c ∧ (RQ w8 hi A7 Q' ∧ (A7 = none → c7 = 0)) ∧ w8.heap[x]? = some o ∧ Below w.heap.size w w8 := by
  obtain ⟨⟨A', c', e, h3, h4⟩, _, _⟩ := hr
  cases e
  have hd := h.hd
  have hl := hv.lt
  have hdl := h.bx.lt
  have hm := set_far2 (W := w7) (b := x + 1) (i := 0) (j := 1) (B := x + 1) (Nat.le_refl _) (.int .i64 (n : Int)) (.slice A7 Q'.length c7)
  have hs : ((w7.setCell ⟨x + 1, 0, none⟩ (.int .i64 (n : Int))).setCell ⟨x + 1, 1, none⟩ (.slice A7 Q'.length c7)).heap.size = w7.heap.size := by simp
  have kb : ∀ i, hi ≤ i → i < w7.heap.size → w8.heap[i]? = ((w7.setCell ⟨x + 1, 0, none⟩ (.int .i64 (n : Int))).setCell ⟨x + 1, 1, none⟩ (.slice A7 Q'.length c7)).heap[i]? := fun i h1 h2 => hk.block i (by rw [hs]; exact h2) (.inr h1)
  refine ⟨(hv.set (A' := A7) (l' := Q'.length) (c' := c7)).kept (kb _ (by omega) hl), (h.bx.kept (hm.block d (by omega))).kept (kb _ (by omega) hdl), ⟨(h3.set2 hv).kp hk, h4⟩, ((kb x (by omega) (by omega)).trans (hm.block x (by omega))).trans hx, ?_⟩
  have hb := h.bw.size
  have q1 := h.lw
  have q2 := h.lh
  exact hk.below (h.bw.trans (hm.mono (by omega))) h.lw (by rw [hs]; exact hb)
/-- Behind the copy of the new value into the reference's box. -/
theorem S11.done {w w7 w8 : World} {lo hi qb I M p L K n d : Nat} {Q Q' : QL} {B A7 : Option Addr} {c c7 : Nat} (h : S11 w w7 lo hi qb I M p L K n d Q B c) (hq : QAt w8 lo hi qb I M p L K n Q') (hb : BQ w8 d n B Q.length c) (hr : RQ w8 hi A7 Q') (hn : A7 = none → c7 = 0) (hw : ∀ y ∈ Q', (Lit.int .i64 y.1).wf = true) (hbw : Below w.heap.size w w8) :
    S11 w ((w8.setCell ⟨d, 0, none⟩ (.int .i64 (n : Int))).setCell ⟨d, 1, none⟩ (.slice A7 Q'.length c7)) lo hi qb I M p L K n d Q' A7 c7 := by
  have hd := h.hd
  have h1 := h.lw
  have h2 := h.lh
  exact ⟨hq.below (set_far2 hd _ _), hb.set, hr.set2 hb, hn, hw, hd, h1, h2, h.nb, hbw.trans (set_far2 (by omega) _ _)⟩
end Go.Proofs.Ytcchmkpodfjhcaa
