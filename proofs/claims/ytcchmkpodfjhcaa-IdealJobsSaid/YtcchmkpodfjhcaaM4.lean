/-
  The walk of the plan's goes.
-/
import Derived.Test.YtcchmkpodfjhcaaM3
import Derived.Laws.OwnMore
import Derived.Deep.AppendLies
import Derived.Deep.RegionLaw
import Derived.Deep.DeepCutAuto
import Derived.Deep.CutRange
namespace Go.Proofs.Ytcchmkpodfjhcaa
open Go.RowKit
set_option linter.unusedVariables false
theorem info_ivl : (Try.prog.info? 110).map (fun i => (i.zero, i.size, i.bytes)) = some (some (.agg #[.int .i64 0, .int .i64 0]), 2, 16) := by kernel_rfl
theorem ivC_snoc (b : List (Nat × Nat)) (x : Nat × Nat) : ivC (b ++ [x]) = ivC b ++ [.int .i64 (x.1 : Int), .int .i64 (x.2 : Int)] := by
  unfold ivC; rw [List.flatMap_append]; rfl
theorem ivC_len : ∀ b : List (Nat × Nat), (ivC b).length = b.length * 2
  | [] => rfl
  | x :: r => by
    have := ivC_len r
    unfold ivC at this ⊢
    rw [List.flatMap_cons, List.length_append, this]; simp; omega
section
variable {w W W1 : World} {y : PLy} {A : Option Addr} {xs : List Q3} {cap k : Nat} {D : Nat → Nat} {st st' : Sch}
/-- The row of stretches alone was turned, in its place. -/
theorem PM.same (hw : PLo y xs.length) (h : PM w W y A xs cap D k st) (hb : Below y.hi W W1) (hl : st'.left = st.left) (hd : st'.done = st.done) (hn : st'.now = st.now) (hlen : st'.busy.length = st.busy.length)
    (ho : ∀ Ab cb, W.ownsRow y.hi 110 2 (.slice Ab st.busy.length cb) st.busy.length (ivC st.busy) → W.cell? ⟨y.pb, 5, none⟩ = some (.slice Ab st.busy.length cb) → W1.ownsRow y.hi 110 2 (.slice Ab st.busy.length cb) st.busy.length (ivC st'.busy)) : PM w W1 y A xs cap D k st' := by
  have b1 := hw.b1
  have b3 := hw.b3
  have b4 := hw.b4
  have b6 := hw.b6
  obtain ⟨Ac, cc, Al, cl, Ab, cb, e1, e2, e3, e4⟩ := h.box
  have hbB : Below y.B W W1 := hb.mono (by omega)
  refine ⟨⟨Ac, cc, Al, cl, Ab, cb, by rw [hb.block _ (by omega), e1, hn, hlen], e2, e3, by rw [hlen]; exact ho Ab cb e4 (cell_of_row _ _ 5 _ _ _ e1)⟩, h.pc.below hbB, fun h0 => (h.come h0).kept (hb.block _ (by have := (hw.c1 h0).2.1; omega)), fun h0 => ?_, fun h0 => ?_, h.bw.trans hbB⟩
  · rw [hl]; exact (h.left h0).kept (hb.block _ (by have := (hw.c2 h0).2.1; omega))
  · rw [hl, hd]; exact (h.done h0).kept (hb.block _ (by omega))
theorem PM.below (hw : PLo y xs.length) (h : PM w W y A xs cap D k st) (hb : Below y.hi W W1) (ho : ∀ Ab cb, W.ownsRow y.hi 110 2 (.slice Ab st.busy.length cb) st.busy.length (ivC st.busy) → W1.ownsRow y.hi 110 2 (.slice Ab st.busy.length cb) st.busy.length (ivC st.busy)) : PM w W1 y A xs cap D k st :=
  h.same hw hb rfl rfl rfl rfl fun Ab cb h1 _ => ho Ab cb h1
/-- The row of stretches has grown. -/
theorem PM.grown (hw : PLo y xs.length) (h : PM w W y A xs cap D k st) (hb : Below y.hi W W1) (hl : st'.left = st.left) (hd : st'.done = st.done) (hn : st'.now = st.now) {A' : Option Addr} {c' : Nat}
    (ho : W1.ownsRow y.hi 110 2 (.slice A' st'.busy.length c') st'.busy.length (ivC st'.busy)) : PM w (W1.setCell ⟨y.pb, 5, none⟩ (.slice A' st'.busy.length c')) y A xs cap D k st' := by
  have b1 := hw.b1
  have b3 := hw.b3
  have b4 := hw.b4
  have b5 := hw.b5
  have b6 := hw.b6
  obtain ⟨Ac, cc, Al, cl, Ab, cb, e1, e2, e3, e4⟩ := h.box
  have e1' : W1.heap[y.pb]? = _ := (hb.block _ (by omega)).trans e1
  have hbB : Below y.B W (W1.setCell ⟨y.pb, 5, none⟩ (.slice A' st'.busy.length c')) := (hb.mono (show y.B ≤ y.hi by omega)).setCell (p := ⟨y.pb, 5, none⟩) b1 _
  have far : ∀ i, i ≠ y.pb → i < y.hi → (W1.setCell ⟨y.pb, 5, none⟩ (.slice A' st'.busy.length c')).heap[i]? = W.heap[i]? := fun i g1 g2 => (Below.heap_setCell _ _ _ _ g1).trans (hb.block _ g2)
  refine ⟨⟨Ac, cc, Al, cl, A', c', by rw [block_setQ e1', hn]; rfl, e2, e3, own_setQ ho (by omega) _⟩, h.pc.below hbB, fun h0 => (h.come h0).kept (far _ (hw.c1 h0).2.2.1 (by have := (hw.c1 h0).2.1; omega)), fun h0 => ?_, fun h0 => ?_, h.bw.trans hbB⟩
  · rw [hl]; exact (h.left h0).kept (far _ (hw.c2 h0).2.2.1 (by have := (hw.c2 h0).2.1; omega))
  · rw [hl, hd]; exact (h.done h0).kept (far _ (fun e => b5 e.symm) (by omega))
/-- What is left of a piece is turned. -/
theorem PM.lefted (hw : PLo y xs.length) (h : PM w W y A xs cap D k st) {i v : Nat} (hi : i < xs.length) (hz : st.left i ≠ 0) : PM w (W.setCell ⟨y.gl, i, none⟩ (.int .i64 (v : Int))) y A xs cap D k { st with left := upf st.left i v, done := upf st.done i 0 } := by
  have h0 : 0 < xs.length := by omega
  have c1 := hw.c1 h0
  have c2 := hw.c2 h0
  have b1 := hw.b1
  have b2 := hw.b2
  have b4 := hw.b4
  have b6 := hw.b6
  obtain ⟨Ac, cc, Al, cl, Ab, cb, e1, e2, e3, e4⟩ := h.box
  have hbB : Below y.B W (W.setCell ⟨y.gl, i, none⟩ (.int .i64 (v : Int))) := (Below.refl _ _).setCell (p := ⟨y.gl, i, none⟩) c2.1 _
  have far : ∀ j, j ≠ y.gl → (W.setCell ⟨y.gl, i, none⟩ (.int .i64 (v : Int))).heap[j]? = W.heap[j]? := fun j g1 => Below.heap_setCell _ _ _ _ g1
  refine ⟨⟨Ac, cc, Al, cl, Ab, cb, (far _ (fun e => c2.2.2.1 e.symm)).trans e1, e2, e3, own_setQ e4 (by omega) _⟩, h.pc.below hbB, fun h0 => (h.come h0).kept (far _ (fun e => c2.2.2.2.2 e.symm)), fun h0 => ?_, fun h0 => ?_, h.bw.trans hbB⟩
  · have hs := (h.left h0).set hi (v : Int)
    refine ⟨fun j hj => (hs.c j hj).trans ?_, hs.f⟩
    unfold upd upf
    dsimp only
    by_cases e : j = i
    · simp [e]
    · simp [e]
  · have hs := (h.done h0).kept (far _ (fun e => c2.2.2.2.1 e.symm))
    refine ⟨fun j hj => (hs.c j hj).trans ?_, hs.f⟩
    unfold upf
    dsimp only
    by_cases e : j = i
    · subst e; simp [hz]
    · simp [e]
/-- When a piece is done is put down. -/
theorem PM.doned (hw : PLo y xs.length) (h : PM w W y A xs cap D k st) {i v : Nat} (hi : i < xs.length) (hz : st.left i = 0) : PM w (W.setCell ⟨y.gd, i, none⟩ (.int .i64 (v : Int))) y A xs cap D k { st with done := upf st.done i v } := by
  have h0 : 0 < xs.length := by omega
  have c1 := hw.c1 h0
  have c2 := hw.c2 h0
  have b1 := hw.b1
  have b2 := hw.b2
  have b4 := hw.b4
  have b5 := hw.b5
  have b6 := hw.b6
  obtain ⟨Ac, cc, Al, cl, Ab, cb, e1, e2, e3, e4⟩ := h.box
  have hbB : Below y.B W (W.setCell ⟨y.gd, i, none⟩ (.int .i64 (v : Int))) := (Below.refl _ _).setCell (p := ⟨y.gd, i, none⟩) b2 _
  have far : ∀ j, j ≠ y.gd → (W.setCell ⟨y.gd, i, none⟩ (.int .i64 (v : Int))).heap[j]? = W.heap[j]? := fun j g1 => Below.heap_setCell _ _ _ _ g1
  refine ⟨⟨Ac, cc, Al, cl, Ab, cb, (far _ b5).trans e1, e2, e3, own_setQ e4 (by omega) _⟩, h.pc.below hbB, fun h0 => (h.come h0).kept (far _ c1.2.2.2), fun h0 => (h.left h0).kept (far _ c2.2.2.2.1), fun h0 => ?_, h.bw.trans hbB⟩
  have hs := (h.done h0).set hi (v : Int)
  refine ⟨fun j hj => (hs.c j hj).trans ?_, hs.f⟩
  unfold upd upf
  dsimp only
  by_cases e : j = i
  · subst e; simp [hz]
  · simp [e]
/-- When a piece that is not done is put down tells nothing. -/
theorem PM.undone (h : PM w W y A xs cap D k st) {i v : Nat} (hz : st.left i ≠ 0) : PM w W y A xs cap D k { st with done := upf st.done i v } := by
  refine ⟨h.box, h.pc, h.come, h.left, fun h0 => ⟨fun j hj => ((h.done h0).c j hj).trans ?_, (h.done h0).f⟩, h.bw⟩
  unfold upf
  dsimp only
  by_cases e : j = i
  · subst e; simp [hz]
  · simp [e]
end
end Go.Proofs.Ytcchmkpodfjhcaa
