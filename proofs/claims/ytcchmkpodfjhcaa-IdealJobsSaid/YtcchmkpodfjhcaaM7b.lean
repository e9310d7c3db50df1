/-
  The plan's beginning: all counted; sorted; with its queue.
-/
import Derived.Test.YtcchmkpodfjhcaaM7a
import Derived.Test.YtcchmkpodfjhcaaM4
import Derived.Test.YtcchmkpodfjhcaaQ9
namespace Go.Proofs.Ytcchmkpodfjhcaa
open Go.RowKit
set_option linter.unusedVariables false
/-- What begin leaves. -/
def Beg (w : World) (A : Option Addr) (xs : List Q3) (cap : Nat) (e : Ending) (w' : World) : Prop :=
  ∃ y D, e = .returned (.pointer (some ⟨y.pb, 0, none⟩)) ∧ y.B = w.heap.size ∧ Wk y xs D ∧ PM w w' y A xs cap D 0 (sch0 (pcs xs)) ∧ PQ40 w' y xs.length []
/-- The plan when its pieces are sorted. -/
structure BS (w W : World) (B : Nat) (A : Option Addr) (xs : List Q3) (cap : Nat) (D : Nat → Nat) (gc gl : Nat) : Prop where
  box : ∃ Ac cc Al cl, W.heap[B + 2]? = some (.cells #[.slice A xs.length cap, .slice Ac xs.length cc, .pointer none, .slice Al xs.length cl, .slice (some ⟨B + 1, 0, none⟩) xs.length xs.length, .slice none 0 0, .int .i64 0] 160) ∧
    (0 < xs.length → Ac = some ⟨gc, 0, none⟩ ∧ xs.length ≤ cc) ∧ (0 < xs.length → Al = some ⟨gl, 0, none⟩)
  bx : W.heap[B]? = some (.cells #[.slice A xs.length cap] 84)
  come : 0 < xs.length → NB W gc xs.length (fun i => (D i : Int))
  left : 0 < xs.length → NB W gl xs.length (fun i => ((pcs xs).C i : Int))
  done : 0 < xs.length → NB W (B + 1) xs.length (fun _ => 0)
  c1 : 0 < xs.length → B + 3 ≤ gc ∧ gc < W.heap.size
  c2 : 0 < xs.length → B + 3 ≤ gl ∧ gl < W.heap.size ∧ gl ≠ gc
  size : B + 3 ≤ W.heap.size
  bw : Below B w W
/-- All are counted. -/
theorem BG.counted {w W : World} {B cap : Nat} {A : Option Addr} {xs : List Q3} (h : BG w W B A xs cap xs.length xs.length) : ∃ gc gl, BS w W B A xs cap (fun k => k) gc gl := by
  obtain ⟨X, d1, d2⟩ := h.done
  obtain ⟨Ac, cc, Al, cl, h1, h2, h3, h4⟩ := h.box
  by_cases h0 : 0 < xs.length
  · have k1 : ∃ g, Ac = some ⟨g, 0, none⟩ ∧ B + 3 ≤ g ∧ g < W.heap.size ∧ xs.length ≤ cc := by
      rcases h2.2 with ⟨_, h⟩ | ⟨g, cap', cur, e, e1, e2, e3, _⟩
      · omega
      · cases e; exact ⟨g, rfl, e1, lt_of_block e2, e3⟩
    have k2 : ∃ g, Al = some ⟨g, 0, none⟩ ∧ B + 3 ≤ g ∧ g < W.heap.size := by
      rcases h3.2 with ⟨_, h⟩ | ⟨g, cap', cur, e, e1, e2, e3, _⟩
      · omega
      · cases e; exact ⟨g, rfl, e1, lt_of_block e2⟩
    obtain ⟨gc, rfl, a1, a2, a3⟩ := k1
    obtain ⟨gl, rfl, b1, b2⟩ := k2
    refine ⟨gc, gl, ⟨⟨_, cc, _, cl, h1, fun _ => ⟨rfl, a3⟩, fun _ => rfl⟩, h.bx, fun _ => ⟨fun j hj => ?_, fun j => h2.frozenAt j⟩, fun _ => ⟨fun j hj => ?_, fun j => h3.frozenAt j⟩, fun _ => ⟨fun j hj => ?_, fun j => frozen_of_row _ _ j _ _ d1⟩, fun _ => ⟨a1, a2⟩, fun _ => ⟨b1, b2, fun e => h4 gc rfl (by rw [e]; rfl)⟩, h.size, h.bw⟩⟩
    · rw [h2.cellAt j (by omega)]
      simp [idC, hj]
    · rw [h3.cellAt j (by omega)]
      simp [csC, hj]
    · rw [cell_of_row _ _ j _ _ _ d1]; exact d2 j hj
  · exact ⟨0, 0, ⟨⟨Ac, cc, Al, cl, h1, fun g => absurd g h0, fun g => absurd g h0⟩, h.bx, fun g => absurd g h0, fun g => absurd g h0, fun g => absurd g h0, fun g => absurd g h0, fun g => absurd g h0, h.size, h.bw⟩⟩
/-- The numbers are sorted. -/
theorem BS.sorted {w W W' : World} {B cap gc gl : Nat} {A : Option Addr} {xs : List Q3} {D D' : Nat → Nat} (h : BS w W B A xs cap D gc gl) (h0 : 0 < xs.length) (hk : Kp gc (gc + 1) W W') (hd : DB W' gc xs.length D') : BS w W' B A xs cap D' gc gl := by
  have c1 := h.c1 h0
  have c2 := h.c2 h0
  have hs := h.size
  have kb : ∀ b, b < W.heap.size → b ≠ gc → W'.heap[b]? = W.heap[b]? := fun b hb hne => hk.block b hb (by omega)
  obtain ⟨Ac, cc, Al, cl, h1, h2, h3⟩ := h.box
  have hz := hk.size
  exact ⟨⟨Ac, cc, Al, cl, (kb _ (by omega) (by omega)).trans h1, h2, h3⟩, (kb _ (by omega) (by omega)).trans h.bx, fun _ => hd.nb, fun _ => (h.left h0).kept (kb _ (by omega) (by omega)), fun _ => (h.done h0).kept (kb _ (by omega) (by omega)), fun _ => ⟨c1.1, by omega⟩, fun _ => ⟨c2.1, by omega, c2.2.2⟩, by omega, hk.below h.bw (by omega) (by have := h.bw.size; omega)⟩
/-- Its queue is made. -/
theorem BS.queued {w W W' : World} {cap gc gl hi qb I M p L K : Nat} {A : Option Addr} {xs : List Q3} {D : Nat → Nat} (h : BS w W w.heap.size A xs cap D gc gl) (hR : Rt xs) (hx : R3 w w.heap.size A xs) (ho : Ord40 (pcs xs) D) (hq : QAt W' W.heap.size hi qb I M p L K (max xs.length 1) []) (hb : Below W.heap.size W W') :
    Beg w A xs cap (.returned (.pointer (some ⟨w.heap.size + 2, 0, none⟩))) (W'.setCell ⟨w.heap.size + 2, 2, none⟩ (.pointer (some ⟨qb, 0, none⟩))) := by
  have hs := h.size
  have l3 := hq.of
  obtain ⟨_, _, _, _, hk⟩ := hq.of
  have l4 := hk.ly.lh
  obtain ⟨Ac, cc, Al, cl, h1, h2, h3⟩ := h.box
  have h1' : W'.heap[w.heap.size + 2]? = _ := (hb.block _ (by omega)).trans h1
  have hne : ∀ b, b ≠ w.heap.size + 2 → (W'.setCell ⟨w.heap.size + 2, 2, none⟩ (.pointer (some ⟨qb, 0, none⟩))).heap[b]? = W'.heap[b]? := fun b hb' => Below.heap_setCell _ _ _ _ (by simp; omega)
  have hbB : Below w.heap.size w W' := h.bw.trans (hb.mono (by omega))
  have hbB' : Below w.heap.size w (W'.setCell ⟨w.heap.size + 2, 2, none⟩ (.pointer (some ⟨qb, 0, none⟩))) := hbB.setCell (p := ⟨w.heap.size + 2, 2, none⟩) (by simp) _
  refine ⟨⟨w.heap.size, w.heap.size + 2, w.heap.size + 1, gc, gl, W.heap.size, hi, qb, I, M, p, L, K⟩, D, rfl, rfl, ⟨⟨by simp, by simp, by show w.heap.size + 2 < W.heap.size; omega, by show w.heap.size + 1 < W.heap.size; omega, by simp, by show W.heap.size ≤ hi; omega, fun h0 => ?_, fun h0 => ?_⟩, hR.ok, hR.len, ho⟩, ?_, ?_⟩
  · have := h.c1 h0; show w.heap.size ≤ gc ∧ gc < W.heap.size ∧ gc ≠ w.heap.size + 2 ∧ gc ≠ w.heap.size + 1; omega
  · have := h.c2 h0; show w.heap.size ≤ gl ∧ gl < W.heap.size ∧ gl ≠ w.heap.size + 2 ∧ gl ≠ w.heap.size + 1 ∧ gl ≠ gc; omega
  · refine ⟨⟨Ac, cc, Al, cl, none, 0, ?_, ?_, h3, ?_⟩, hx.below hbB', fun h0 => ?_, fun h0 => ?_, fun h0 => ?_, hbB'⟩
    · show (W'.setCell ⟨w.heap.size + 2, 2, none⟩ _).heap[w.heap.size + 2]? = _
      rw [block_setQ h1']; rfl
    · intro h0
      exact h2 h0
    · exact ⟨rfl, .inl ⟨rfl, rfl⟩⟩
    · have c := h.c1 h0
      exact ((h.come h0).kept (hb.block _ c.2)).kept (hne _ (by show gc ≠ _; omega))
    · have c := h.c2 h0
      exact ((h.left h0).kept (hb.block _ c.2.1)).kept (hne _ (by show gl ≠ _; omega))
    · have hd := ((h.done h0).kept (hb.block _ (by omega))).kept (hne (w.heap.size + 1) (by omega))
      refine ⟨fun j hj => ?_, hd.f⟩
      have hc := hR.C0 j hj
      rw [hd.c j hj]
      have : ¬ (sch0 (pcs xs)).left j = 0 := by show ¬ (pcs xs).C j = 0; omega
      simp only [if_neg this]
  · exact QAt.blocks hq (by simp) fun i h1 h2 => hne i (by have : W.heap.size ≤ i := h1; omega)
/-- .. how its numbers are compared. -/
theorem BS.cmp {w W : World} {cap gc gl : Nat} {A : Option Addr} {xs : List Q3} {D : Nat → Nat} (h : BS w W w.heap.size A xs cap D gc gl) (hR : Rt xs) (hx : R3 w w.heap.size A xs) (h0 : 0 < xs.length) : Cmp W gc xs.length w.heap.size (pcs xs).A := by
  have c1 := h.c1 h0
  have hs := h.size
  obtain ⟨b, off, rfl, hbB, hp⟩ := pc_at hR.ok (hx.below h.bw) h0
  refine ⟨fun W' hk x y hx' hy' => cmpf_any (b := b) (off := off) (cap := cap) ?_ (fun i hi => ?_) hx' hy'⟩
  · exact cell_of_row _ _ 0 _ _ _ ((hk.block w.heap.size (by omega) (by omega)).trans h.bx)
  · rw [World.cell?_of_block (a := ⟨b, off + i * 3 + 1, none⟩) (hk.block b (by omega) (by omega))]
    exact (hp i hi).2.1
end Go.Proofs.Ytcchmkpodfjhcaa
