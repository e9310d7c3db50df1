/-
  hist.sum over whatever iterator: a range over a function whose body adds to a captured histogram.
-/
import Derived.Test.YtmaehcecilnglaaH3
import Derived.Test.YtmaehcecilnglaaItW
namespace Go.Proofs.Ytmaehcecilnglaa
open Go.RowKit Go.Shelf
set_option linter.unusedVariables false
attribute [local go_sem] Oper.semAt_some

section
variable {F : Fence} {n : Nat} {P : Program}
theorem wpListIn_load_row (w : World) {ops : Array Oper} {rest : List Oper} {o : Oper} {a : Act} {Q : Exit → Act → World → Prop} (hgd : o.guard = none) (ty : TypeId) (x : Operand) (ho : o.op = .load ty x)
    (g : Nat) (hx : a.eval x = .pointer (some ⟨g, 0, none⟩)) (t : TypeId) (cs : Array Value) (fr : Nat × Nat) (d : TypeDesc) (hg : w.heap[g]? = some (.cells cs t fr))
    (hu : P.underlying ty = some d) (hd : (match d with | .struct _ | .array _ _ => true | _ => false) = true) (hi : (P.info? ty).map (·.size) = some cs.size)
    (h : wpListIn F n P ops Q rest (a.put o.dst (.agg cs)) w) : wpListIn F n P ops Q (o :: rest) a w := by
  refine wpListIn_plain hgd fun K hK' => ?_
  unfold Oper.wpIn
  refine ⟨?_, ?_⟩
  · simp [Oper.about, ho]
  · rw [Oper.semAt_eq _ _ _ (by rw [ho]; intro c hc'; cases hc')]
    unfold execOp
    simp only [ho, hx, Instr.loadAt, Instr.sureAddr, Sem.run_bind, Sem.run_pure, Result.andThen_ok, run_loadVar_row w g t ty cs fr d hg hu hd hi]
    exact hK' _ _ h
theorem wpListIn_store_row (w : World) {ops : Array Oper} {rest : List Oper} {o : Oper} {a : Act} {Q : Exit → Act → World → Prop} (hgd : o.guard = none) (ty : TypeId) (x y : Operand) (ho : o.op = .store ty x y)
    (g : Nat) (hx : a.eval x = .pointer (some ⟨g, 0, none⟩)) (new : Array Value) (hy : a.eval y = .agg new) (t : TypeId) (cs : Array Value) (hg : w.heap[g]? = some (.cells cs t (0, 0)))
    (hi : (P.info? ty).map (·.size) = some new.size) (hs : new.size = cs.size) (h1 : ∀ v ∈ new.toList, v.oneCell' = true)
    (h : wpListIn F n P ops Q rest (a.put o.dst undef) (w.setRow g new)) : wpListIn F n P ops Q (o :: rest) a w := by
  refine wpListIn_plain hgd fun K hK' => ?_
  unfold Oper.wpIn
  refine ⟨?_, ?_⟩
  · simp [Oper.about, ho]
  · rw [Oper.semAt_eq _ _ _ (by rw [ho]; intro c hc'; cases hc')]
    unfold execOp
    simp only [ho, hx, hy, Instr.storeAt, Instr.sureAddr, Sem.run_bind, Sem.run_pure, Result.andThen_ok, run_storeVar_row w g t ty cs new hg hi hs h1]
    exact hK' _ _ h
end
abbrev encI (x : Int) : Array Value := #[.int .i64 x]
/-- What a round of such a loop keeps: what lies below n₀. -/
def KpB (n₀ : Nat) (W W' : World) : Prop := Below n₀ W W'
theorem KpB.trans {n₀ : Nat} {A B C : World} (h : KpB n₀ A B) (k : KpB n₀ B C) : KpB n₀ A C := Below.trans h k
theorem KpB.book {n₀ : Nat} {w : World} (hn : n₀ ≤ w.heap.size) (W : World) (l : Nat) (o o' : Obj) (hl : w.heap.size ≤ l) (h : W.heap[l]? = some o) (hc : o.isCells = false) (hw : o.isWalk = false) : KpB n₀ W (W.putObj l o') :=
  belowK_b hn W l o o' hl h hc hw
/-- All added, the first error ending it. -/
def smF : List Int → List Int → List Int × Int
  | V, [] => (V, 0)
  | V, n :: r => if adE V n ≠ 0 then (hZ, adE V n) else smF (adV V n) r
theorem sm_ok {V : List Int} {pre : List Int} (h : ∀ r, smF hZ (pre ++ r) = smF V r) {n : Int} (he : adE V n = 0) (r : List Int) : smF hZ ((pre ++ [n]) ++ r) = smF (adV V n) r := by
  rw [List.append_assoc, h]
  show smF V (n :: r) = _
  rw [smF, if_neg (by omega)]
theorem sm_bad {V : List Int} {pre : List Int} (h : ∀ r, smF hZ (pre ++ r) = smF V r) {n : Int} (he : adE V n ≠ 0) (r : List Int) : smF hZ ((pre ++ [n]) ++ r) = (hZ, adE V n) := by
  rw [List.append_assoc, h]
  show smF V (n :: r) = _
  rw [smF, if_pos he]
theorem HB.kept {W W' : World} {g : Nat} {V : List Int} {row : Option Nat} (h : HB W g V) (hg : W.grownBy W' row) (hr : ∀ r, row = some r → ∃ o : Obj, W.heap[r]? = some o ∧ o.isCells = false) : HB W' g V := by
  refine (hg.block g h.lt fun e => ?_).trans h
  obtain ⟨o, ho, hc⟩ := hr g e.symm
  unfold HB at h
  rw [h] at ho
  injection ho with ho
  subst ho
  cases hc
theorem keeps_put {W : World} {g : Nat} {V : List Int} (h : HB W g V) (cs : Array Value) : KeepsOthers W (W.setRow g cs) :=
  ⟨by simp, fun k o hk ho => by
    by_cases e : k = g
    · subst e
      unfold HB at h
      rw [h] at hk
      injection hk with hk
      subst hk
      cases ho
    · exact (setRow_other W g k cs e).trans hk⟩
theorem keeps_below {W W' : World} (h : Below W.heap.size W W') : KeepsOthers W W' :=
  ⟨h.size, fun k o hk _ => (h.block k (Array.getElem?_eq_some_iff.1 hk).1).trans hk⟩
theorem same_block {w w' : World} {b o : Nat} (h : w'.heap[b]? = w.heap[b]?) : w'.cell? ⟨b, o, none⟩ = w.cell? ⟨b, o, none⟩ ∧ w'.frozen? ⟨b, o, none⟩ = w.frozen? ⟨b, o, none⟩ := by
  constructor
  · exact World.cell?_of_block h
  · unfold World.frozen?
    simp only [h]
/-- The world behind one round that adds. -/
theorem round_world {w W w1 : World} {V V' : List Int} (hb : Below W.heap.size W w1) (hsz : w.heap.size ≤ W.heap.size) (d2 : HB W (w.heap.size + 2) V) (d0 : HB W w.heap.size hZ) {u : Value} (k1 : W.cell? ⟨w.heap.size + 1, 0, none⟩ = some u) (m1 : W.frozen? ⟨w.heap.size + 1, 0, none⟩ = false) {W4 : World}
    (h4 : ((w1.alloc (.cells #[.int .i64 0, .int .i64 0, .int .i64 0, .int .i64 0, .int .i64 0, .int .i64 0, .int .i64 0, .int .i64 0, .int .i64 0, .int .i64 0, .int .i64 0, .int .i64 0, .int .i64 0, .int .i64 0, .int .i64 0, .int .i64 0, .int .i64 0, .int .i64 0, .int .i64 0, .int .i64 0, .int .i64 0, .int .i64 0, .int .i64 0, .int .i64 0, .int .i64 0, .int .i64 0, .int .i64 0, .int .i64 0, .int .i64 0, .int .i64 0, .int .i64 0, .int .i64 0, .int .i64 0, .int .i64 0, .int .i64 0, .int .i64 0, .int .i64 0, .int .i64 0, .int .i64 0, .int .i64 0, .int .i64 0, .int .i64 0, .int .i64 0, .int .i64 0, .int .i64 0, .int .i64 0, .int .i64 0, .int .i64 0, .int .i64 0, .int .i64 0, .int .i64 0, .int .i64 0, .int .i64 0, .int .i64 0] 24)).setRow w1.heap.size (hC V')).setRow (w.heap.size + 2) (hC V') = W4) :
    KeepsOthers W W4 ∧ Below w.heap.size W W4 ∧ HB W4 (w.heap.size + 2) V' ∧ HB W4 w.heap.size hZ ∧ W4.cell? ⟨w.heap.size + 1, 0, none⟩ = some u ∧ W4.frozen? ⟨w.heap.size + 1, 0, none⟩ = false := by
  have l2 := d2.lt
  have l0 := d0.lt
  have hz := hb.size
  have e2 := d2.below hb l2
  have e2' := ((e2.alloc (.cells #[.int .i64 0, .int .i64 0, .int .i64 0, .int .i64 0, .int .i64 0, .int .i64 0, .int .i64 0, .int .i64 0, .int .i64 0, .int .i64 0, .int .i64 0, .int .i64 0, .int .i64 0, .int .i64 0, .int .i64 0, .int .i64 0, .int .i64 0, .int .i64 0, .int .i64 0, .int .i64 0, .int .i64 0, .int .i64 0, .int .i64 0, .int .i64 0, .int .i64 0, .int .i64 0, .int .i64 0, .int .i64 0, .int .i64 0, .int .i64 0, .int .i64 0, .int .i64 0, .int .i64 0, .int .i64 0, .int .i64 0, .int .i64 0, .int .i64 0, .int .i64 0, .int .i64 0, .int .i64 0, .int .i64 0, .int .i64 0, .int .i64 0, .int .i64 0, .int .i64 0, .int .i64 0, .int .i64 0, .int .i64 0, .int .i64 0, .int .i64 0, .int .i64 0, .int .i64 0, .int .i64 0, .int .i64 0] 24)).put_far (g' := w1.heap.size) (by have := e2.lt; omega) (hC V'))
  have e0 := d0.below hb l0
  subst h4
  refine ⟨?_, ?_, e2'.put _, ((e0.alloc _).put_far (by omega) _).put_far (by omega) _, ?_⟩
  · exact (((keeps_below hb).trans (KeepsOthers.alloc w1 _)).trans (keeps_put (HB.newZ w1) _)).trans (keeps_put e2' _)
  · exact below_put (below_put (((hb.mono hsz).alloc (by omega) _)) (by omega) _) (by omega) _
  · have hbk : (((w1.alloc (.cells #[.int .i64 0, .int .i64 0, .int .i64 0, .int .i64 0, .int .i64 0, .int .i64 0, .int .i64 0, .int .i64 0, .int .i64 0, .int .i64 0, .int .i64 0, .int .i64 0, .int .i64 0, .int .i64 0, .int .i64 0, .int .i64 0, .int .i64 0, .int .i64 0, .int .i64 0, .int .i64 0, .int .i64 0, .int .i64 0, .int .i64 0, .int .i64 0, .int .i64 0, .int .i64 0, .int .i64 0, .int .i64 0, .int .i64 0, .int .i64 0, .int .i64 0, .int .i64 0, .int .i64 0, .int .i64 0, .int .i64 0, .int .i64 0, .int .i64 0, .int .i64 0, .int .i64 0, .int .i64 0, .int .i64 0, .int .i64 0, .int .i64 0, .int .i64 0, .int .i64 0, .int .i64 0, .int .i64 0, .int .i64 0, .int .i64 0, .int .i64 0, .int .i64 0, .int .i64 0, .int .i64 0, .int .i64 0] 24)).setRow w1.heap.size (hC V')).setRow (w.heap.size + 2) (hC V')).heap[w.heap.size + 1]? = W.heap[w.heap.size + 1]? := by
      rw [setRow_other _ _ _ _ (by omega), setRow_other _ _ _ _ (by omega), Below.heap_alloc _ _ _ (by omega)]
      exact hb.block _ (by omega)
    obtain ⟨a, b⟩ := same_block (o := 0) hbk
    exact ⟨a.trans k1, b.trans m1⟩
theorem bad_world {w W w1 : World} {V' : List Int} (hb : Below W.heap.size W w1) (hsz : w.heap.size ≤ W.heap.size) (d0 : HB W w.heap.size hZ) (hlt : w.heap.size + 1 < W.heap.size) {u : Value} (k1 : W.cell? ⟨w.heap.size + 1, 0, none⟩ = some u) (m1 : W.frozen? ⟨w.heap.size + 1, 0, none⟩ = false) {W3 : World}
    (h3 : (w1.alloc (.cells #[.int .i64 0, .int .i64 0, .int .i64 0, .int .i64 0, .int .i64 0, .int .i64 0, .int .i64 0, .int .i64 0, .int .i64 0, .int .i64 0, .int .i64 0, .int .i64 0, .int .i64 0, .int .i64 0, .int .i64 0, .int .i64 0, .int .i64 0, .int .i64 0, .int .i64 0, .int .i64 0, .int .i64 0, .int .i64 0, .int .i64 0, .int .i64 0, .int .i64 0, .int .i64 0, .int .i64 0, .int .i64 0, .int .i64 0, .int .i64 0, .int .i64 0, .int .i64 0, .int .i64 0, .int .i64 0, .int .i64 0, .int .i64 0, .int .i64 0, .int .i64 0, .int .i64 0, .int .i64 0, .int .i64 0, .int .i64 0, .int .i64 0, .int .i64 0, .int .i64 0, .int .i64 0, .int .i64 0, .int .i64 0, .int .i64 0, .int .i64 0, .int .i64 0, .int .i64 0, .int .i64 0, .int .i64 0] 24)).setRow w1.heap.size (hC V') = W3) :
    HB W3 w.heap.size hZ ∧ (W3.setRow w.heap.size (hC hZ)).cell? ⟨w.heap.size + 1, 0, none⟩ = some u ∧ (W3.setRow w.heap.size (hC hZ)).frozen? ⟨w.heap.size + 1, 0, none⟩ = false ∧ (∀ E : Value, KeepsOthers W ((W3.setRow w.heap.size (hC hZ)).setCell ⟨w.heap.size + 1, 0, none⟩ E) ∧ Below w.heap.size W ((W3.setRow w.heap.size (hC hZ)).setCell ⟨w.heap.size + 1, 0, none⟩ E) ∧
      HB ((W3.setRow w.heap.size (hC hZ)).setCell ⟨w.heap.size + 1, 0, none⟩ E) w.heap.size hZ ∧ ((W3.setRow w.heap.size (hC hZ)).setCell ⟨w.heap.size + 1, 0, none⟩ E).cell? ⟨w.heap.size + 1, 0, none⟩ = some E) := by
  have l0 := d0.lt
  have hz := hb.size
  have e0 := d0.below hb l0
  subst h3
  have e0' := (e0.alloc (.cells #[.int .i64 0, .int .i64 0, .int .i64 0, .int .i64 0, .int .i64 0, .int .i64 0, .int .i64 0, .int .i64 0, .int .i64 0, .int .i64 0, .int .i64 0, .int .i64 0, .int .i64 0, .int .i64 0, .int .i64 0, .int .i64 0, .int .i64 0, .int .i64 0, .int .i64 0, .int .i64 0, .int .i64 0, .int .i64 0, .int .i64 0, .int .i64 0, .int .i64 0, .int .i64 0, .int .i64 0, .int .i64 0, .int .i64 0, .int .i64 0, .int .i64 0, .int .i64 0, .int .i64 0, .int .i64 0, .int .i64 0, .int .i64 0, .int .i64 0, .int .i64 0, .int .i64 0, .int .i64 0, .int .i64 0, .int .i64 0, .int .i64 0, .int .i64 0, .int .i64 0, .int .i64 0, .int .i64 0, .int .i64 0, .int .i64 0, .int .i64 0, .int .i64 0, .int .i64 0, .int .i64 0, .int .i64 0] 24)).put_far (g' := w1.heap.size) (by omega) (hC V')
  have hbk : ((((w1.alloc (.cells #[.int .i64 0, .int .i64 0, .int .i64 0, .int .i64 0, .int .i64 0, .int .i64 0, .int .i64 0, .int .i64 0, .int .i64 0, .int .i64 0, .int .i64 0, .int .i64 0, .int .i64 0, .int .i64 0, .int .i64 0, .int .i64 0, .int .i64 0, .int .i64 0, .int .i64 0, .int .i64 0, .int .i64 0, .int .i64 0, .int .i64 0, .int .i64 0, .int .i64 0, .int .i64 0, .int .i64 0, .int .i64 0, .int .i64 0, .int .i64 0, .int .i64 0, .int .i64 0, .int .i64 0, .int .i64 0, .int .i64 0, .int .i64 0, .int .i64 0, .int .i64 0, .int .i64 0, .int .i64 0, .int .i64 0, .int .i64 0, .int .i64 0, .int .i64 0, .int .i64 0, .int .i64 0, .int .i64 0, .int .i64 0, .int .i64 0, .int .i64 0, .int .i64 0, .int .i64 0, .int .i64 0, .int .i64 0] 24)).setRow w1.heap.size (hC V')).setRow w.heap.size (hC hZ))).heap[w.heap.size + 1]? = W.heap[w.heap.size + 1]? := by
    rw [setRow_other _ _ _ _ (by omega), setRow_other _ _ _ _ (by omega), Below.heap_alloc _ _ _ (by omega)]
    exact hb.block _ (by omega)
  obtain ⟨a, b⟩ := same_block (o := 0) hbk
  refine ⟨e0', a.trans k1, b.trans m1, fun E => ⟨?_, ?_, (e0'.put _).set_far (by simp) _, World.cell?_setCell_same' _ _ _ (by rw [a.trans k1]; rfl)⟩⟩
  · exact ((((keeps_below hb).trans (KeepsOthers.alloc w1 _)).trans (keeps_put (HB.newZ w1) _)).trans (keeps_put e0' _)).trans (KeepsOthers.setCell _ _ _)
  · exact (below_put (below_put (((hb.mono hsz).alloc (by omega) _)) (by omega) _) (Nat.le_refl _) _).setCell (p := ⟨w.heap.size + 1, 0, none⟩) (by simp) _
theorem hist_boxes (w : World) {W2 : World} (hW2 : ((w.alloc (.cells #[.int .i64 0, .int .i64 0, .int .i64 0, .int .i64 0, .int .i64 0, .int .i64 0, .int .i64 0, .int .i64 0, .int .i64 0, .int .i64 0, .int .i64 0, .int .i64 0, .int .i64 0, .int .i64 0, .int .i64 0, .int .i64 0, .int .i64 0, .int .i64 0, .int .i64 0, .int .i64 0, .int .i64 0, .int .i64 0, .int .i64 0, .int .i64 0, .int .i64 0, .int .i64 0, .int .i64 0, .int .i64 0, .int .i64 0, .int .i64 0, .int .i64 0, .int .i64 0, .int .i64 0, .int .i64 0, .int .i64 0, .int .i64 0, .int .i64 0, .int .i64 0, .int .i64 0, .int .i64 0, .int .i64 0, .int .i64 0, .int .i64 0, .int .i64 0, .int .i64 0, .int .i64 0, .int .i64 0, .int .i64 0, .int .i64 0, .int .i64 0, .int .i64 0, .int .i64 0, .int .i64 0, .int .i64 0] 24)).alloc (.cells #[.int .i64 0] 26)).alloc (.cells #[.int .i64 0, .int .i64 0, .int .i64 0, .int .i64 0, .int .i64 0, .int .i64 0, .int .i64 0, .int .i64 0, .int .i64 0, .int .i64 0, .int .i64 0, .int .i64 0, .int .i64 0, .int .i64 0, .int .i64 0, .int .i64 0, .int .i64 0, .int .i64 0, .int .i64 0, .int .i64 0, .int .i64 0, .int .i64 0, .int .i64 0, .int .i64 0, .int .i64 0, .int .i64 0, .int .i64 0, .int .i64 0, .int .i64 0, .int .i64 0, .int .i64 0, .int .i64 0, .int .i64 0, .int .i64 0, .int .i64 0, .int .i64 0, .int .i64 0, .int .i64 0, .int .i64 0, .int .i64 0, .int .i64 0, .int .i64 0, .int .i64 0, .int .i64 0, .int .i64 0, .int .i64 0, .int .i64 0, .int .i64 0, .int .i64 0, .int .i64 0, .int .i64 0, .int .i64 0, .int .i64 0, .int .i64 0] 24) = W2) :
    HB W2 w.heap.size hZ ∧ W2.cell? ⟨w.heap.size + 1, 0, none⟩ = some (.int .i64 0) ∧ W2.frozen? ⟨w.heap.size + 1, 0, none⟩ = false ∧ HB W2 (w.heap.size + 2) hZ ∧ W2.heap.size = w.heap.size + 3 ∧ Below w.heap.size w W2 := by
  subst hW2
  have h1 : Below ((w.alloc (.cells #[.int .i64 0, .int .i64 0, .int .i64 0, .int .i64 0, .int .i64 0, .int .i64 0, .int .i64 0, .int .i64 0, .int .i64 0, .int .i64 0, .int .i64 0, .int .i64 0, .int .i64 0, .int .i64 0, .int .i64 0, .int .i64 0, .int .i64 0, .int .i64 0, .int .i64 0, .int .i64 0, .int .i64 0, .int .i64 0, .int .i64 0, .int .i64 0, .int .i64 0, .int .i64 0, .int .i64 0, .int .i64 0, .int .i64 0, .int .i64 0, .int .i64 0, .int .i64 0, .int .i64 0, .int .i64 0, .int .i64 0, .int .i64 0, .int .i64 0, .int .i64 0, .int .i64 0, .int .i64 0, .int .i64 0, .int .i64 0, .int .i64 0, .int .i64 0, .int .i64 0, .int .i64 0, .int .i64 0, .int .i64 0, .int .i64 0, .int .i64 0, .int .i64 0, .int .i64 0, .int .i64 0, .int .i64 0] 24)).alloc (.cells #[.int .i64 0] 26)).heap.size ((w.alloc (.cells #[.int .i64 0, .int .i64 0, .int .i64 0, .int .i64 0, .int .i64 0, .int .i64 0, .int .i64 0, .int .i64 0, .int .i64 0, .int .i64 0, .int .i64 0, .int .i64 0, .int .i64 0, .int .i64 0, .int .i64 0, .int .i64 0, .int .i64 0, .int .i64 0, .int .i64 0, .int .i64 0, .int .i64 0, .int .i64 0, .int .i64 0, .int .i64 0, .int .i64 0, .int .i64 0, .int .i64 0, .int .i64 0, .int .i64 0, .int .i64 0, .int .i64 0, .int .i64 0, .int .i64 0, .int .i64 0, .int .i64 0, .int .i64 0, .int .i64 0, .int .i64 0, .int .i64 0, .int .i64 0, .int .i64 0, .int .i64 0, .int .i64 0, .int .i64 0, .int .i64 0, .int .i64 0, .int .i64 0, .int .i64 0, .int .i64 0, .int .i64 0, .int .i64 0, .int .i64 0, .int .i64 0, .int .i64 0] 24)).alloc (.cells #[.int .i64 0] 26)) (((w.alloc (.cells #[.int .i64 0, .int .i64 0, .int .i64 0, .int .i64 0, .int .i64 0, .int .i64 0, .int .i64 0, .int .i64 0, .int .i64 0, .int .i64 0, .int .i64 0, .int .i64 0, .int .i64 0, .int .i64 0, .int .i64 0, .int .i64 0, .int .i64 0, .int .i64 0, .int .i64 0, .int .i64 0, .int .i64 0, .int .i64 0, .int .i64 0, .int .i64 0, .int .i64 0, .int .i64 0, .int .i64 0, .int .i64 0, .int .i64 0, .int .i64 0, .int .i64 0, .int .i64 0, .int .i64 0, .int .i64 0, .int .i64 0, .int .i64 0, .int .i64 0, .int .i64 0, .int .i64 0, .int .i64 0, .int .i64 0, .int .i64 0, .int .i64 0, .int .i64 0, .int .i64 0, .int .i64 0, .int .i64 0, .int .i64 0, .int .i64 0, .int .i64 0, .int .i64 0, .int .i64 0, .int .i64 0, .int .i64 0] 24)).alloc (.cells #[.int .i64 0] 26)).alloc (.cells #[.int .i64 0, .int .i64 0, .int .i64 0, .int .i64 0, .int .i64 0, .int .i64 0, .int .i64 0, .int .i64 0, .int .i64 0, .int .i64 0, .int .i64 0, .int .i64 0, .int .i64 0, .int .i64 0, .int .i64 0, .int .i64 0, .int .i64 0, .int .i64 0, .int .i64 0, .int .i64 0, .int .i64 0, .int .i64 0, .int .i64 0, .int .i64 0, .int .i64 0, .int .i64 0, .int .i64 0, .int .i64 0, .int .i64 0, .int .i64 0, .int .i64 0, .int .i64 0, .int .i64 0, .int .i64 0, .int .i64 0, .int .i64 0, .int .i64 0, .int .i64 0, .int .i64 0, .int .i64 0, .int .i64 0, .int .i64 0, .int .i64 0, .int .i64 0, .int .i64 0, .int .i64 0, .int .i64 0, .int .i64 0, .int .i64 0, .int .i64 0, .int .i64 0, .int .i64 0, .int .i64 0, .int .i64 0] 24)) := below_box _ _
  have c1 := box_cell h1 0 _ rfl
  have f1 := box_free h1 0
  simp only [World.size_alloc] at c1 f1
  refine ⟨((HB.newZ w).alloc _).alloc _, c1, f1, ?_, by simp, ((Below.refl _ _).alloc (Nat.le_refl _) _).alloc (by simp) _ |>.alloc (by simp; omega) _⟩
  have := HB.newZ ((w.alloc (.cells #[.int .i64 0, .int .i64 0, .int .i64 0, .int .i64 0, .int .i64 0, .int .i64 0, .int .i64 0, .int .i64 0, .int .i64 0, .int .i64 0, .int .i64 0, .int .i64 0, .int .i64 0, .int .i64 0, .int .i64 0, .int .i64 0, .int .i64 0, .int .i64 0, .int .i64 0, .int .i64 0, .int .i64 0, .int .i64 0, .int .i64 0, .int .i64 0, .int .i64 0, .int .i64 0, .int .i64 0, .int .i64 0, .int .i64 0, .int .i64 0, .int .i64 0, .int .i64 0, .int .i64 0, .int .i64 0, .int .i64 0, .int .i64 0, .int .i64 0, .int .i64 0, .int .i64 0, .int .i64 0, .int .i64 0, .int .i64 0, .int .i64 0, .int .i64 0, .int .i64 0, .int .i64 0, .int .i64 0, .int .i64 0, .int .i64 0, .int .i64 0, .int .i64 0, .int .i64 0, .int .i64 0, .int .i64 0] 24)).alloc (.cells #[.int .i64 0] 26))
  simpa using this

theorem results_cells {fn : Func} {p u : Tmp} (h : fn.results = #[.cell p 24, .cell u 26]) (tmps : Array Value) (w : World) (g g' : Nat) (V : List Int) (hV : V.length = 54) (E : Int)
    (hp : tmps.getD p undef = .pointer (some ⟨g, 0, none⟩)) (hg : HB w g V) (hu : tmps.getD u undef = .pointer (some ⟨g', 0, none⟩)) (hc : w.cell? ⟨g', 0, none⟩ = some (.int .i64 E)) :
    (results fn tmps).run Try.prog w = .ok (.tuple #[.agg (hC V), .int .i64 E]) w := by
  have hl := run_loadVar_row (P := Try.prog) w g 24 24 (hC V) (0, 0) _ hg Try.underlying24 rfl (hist_size hV)
  have hp' : tmps[p]?.getD undef = .pointer (some ⟨g, 0, none⟩) := by simpa using hp
  have hu' : tmps[u]?.getD undef = .pointer (some ⟨g', 0, none⟩) := by simpa using hu
  have hl2 : (loadVar 26 ⟨g', 0, none⟩).run Try.prog w = .ok (.int .i64 E) w := by simp [go_sem, hc]
  simp only [results, h]
  simp [hp', hu', asAddr, hl, hl2]
set_option maxRecDepth 100000 in
set_option maxHeartbeats 2000000 in
theorem sum_any (gf : Nat) (lb : Array Value) (ent : Enters Try.prog gf) (ys : List Int) (N : Nat) (w : World) (hseq : SeqStopsK Fence.wide (4 - 1) Try.prog gf lb encI (KpB w.heap.size) (fun l => l = ys) (fun pre => pre <+: ys) N w) :
    Calls Try.prog 27 #[.func (.func gf) #[] lb] w (HistRes w (smF hZ ys).1 (smF hZ ys).2) := by
  refine (callsIn_wide (n := 4)).1 ?_
  refine callsIn_of_wp_marks Try.func27 rfl trivial ?_ rfl
  simp only [Try.ntmps27, List.size_toArray, List.length_cons, List.length_nil, Nat.reduceAdd, Nat.reduceSub, Array.replicate_succ, Array.replicate_zero, List.push_toArray, List.append_toArray, List.nil_append, List.cons_append]
  gi_wp2_with fail
  obtain ⟨W2, hW2⟩ : ∃ W2, ((w.alloc (.cells #[.int .i64 0, .int .i64 0, .int .i64 0, .int .i64 0, .int .i64 0, .int .i64 0, .int .i64 0, .int .i64 0, .int .i64 0, .int .i64 0, .int .i64 0, .int .i64 0, .int .i64 0, .int .i64 0, .int .i64 0, .int .i64 0, .int .i64 0, .int .i64 0, .int .i64 0, .int .i64 0, .int .i64 0, .int .i64 0, .int .i64 0, .int .i64 0, .int .i64 0, .int .i64 0, .int .i64 0, .int .i64 0, .int .i64 0, .int .i64 0, .int .i64 0, .int .i64 0, .int .i64 0, .int .i64 0, .int .i64 0, .int .i64 0, .int .i64 0, .int .i64 0, .int .i64 0, .int .i64 0, .int .i64 0, .int .i64 0, .int .i64 0, .int .i64 0, .int .i64 0, .int .i64 0, .int .i64 0, .int .i64 0, .int .i64 0, .int .i64 0, .int .i64 0, .int .i64 0, .int .i64 0, .int .i64 0] 24)).alloc (.cells #[.int .i64 0] 26)).alloc (.cells #[.int .i64 0, .int .i64 0, .int .i64 0, .int .i64 0, .int .i64 0, .int .i64 0, .int .i64 0, .int .i64 0, .int .i64 0, .int .i64 0, .int .i64 0, .int .i64 0, .int .i64 0, .int .i64 0, .int .i64 0, .int .i64 0, .int .i64 0, .int .i64 0, .int .i64 0, .int .i64 0, .int .i64 0, .int .i64 0, .int .i64 0, .int .i64 0, .int .i64 0, .int .i64 0, .int .i64 0, .int .i64 0, .int .i64 0, .int .i64 0, .int .i64 0, .int .i64 0, .int .i64 0, .int .i64 0, .int .i64 0, .int .i64 0, .int .i64 0, .int .i64 0, .int .i64 0, .int .i64 0, .int .i64 0, .int .i64 0, .int .i64 0, .int .i64 0, .int .i64 0, .int .i64 0, .int .i64 0, .int .i64 0, .int .i64 0, .int .i64 0, .int .i64 0, .int .i64 0, .int .i64 0, .int .i64 0] 24) = W2 := ⟨_, rfl⟩
  obtain ⟨h0, c1, f1, h2, z2, hb2⟩ := hist_boxes w hW2
  rw [hW2]
  clear hW2
  refine wpIn_rangeFunc_ownF rfl (by omega) (gf := gf) (lb := lb) rfl trivial ent hseq
    KpB.trans (KpB.book (by omega)) hb2 (fun _ => rfl)
    (fun pre W => (∃ V : List Int, Hid (∀ r, smF hZ (pre ++ r) = smF V r) ∧ V.length = 54 ∧ HB W (w.heap.size + 2) V ∧ HB W w.heap.size hZ ∧ W.cell? ⟨w.heap.size + 1, 0, none⟩ = some (.int .i64 0) ∧ W.frozen? ⟨w.heap.size + 1, 0, none⟩ = false) ∧ Below w.heap.size w W)
    (fun c pre W => (c = .ret ∧ ∃ E, Hid (∀ r, smF hZ (pre ++ r) = (hZ, E)) ∧ HB W w.heap.size hZ ∧ W.cell? ⟨w.heap.size + 1, 0, none⟩ = some (.int .i64 E)) ∧ Below w.heap.size w W)
    (OwnFrom.and (Own.from (fun s A B row hs hg hr => by
      obtain ⟨V, g1, g2, g3, g4, g5, g6⟩ := hs
      exact ⟨V, g1, g2, g3.kept hg hr, g4.kept hg hr, cell_kept g5 hg hr, (frozen_kept g5 hg hr).trans g6⟩) _) (ownFrom_below (Nat.le_refl _) (by omega)))
    (fun c => OwnFrom.and (Own.from (fun s A B row hs hg hr => by
      obtain ⟨g1, E, g2, g3, g4⟩ := hs
      exact ⟨g1, E, g2, g3.kept hg hr, cell_kept g4 hg hr⟩) _) (ownFrom_below (Nat.le_refl _) (by omega)))
    ⟨⟨hZ, fun _ => rfl, hZ_len, h2, h0, c1, f1⟩, hb2⟩
    (fun x => { tmps := #[.func (.func gf) #[] lb, undef, .pointer (some ⟨w.heap.size, 0, none⟩), .pointer (some ⟨w.heap.size + 1, 0, none⟩), .pointer (some ⟨w.heap.size + 2, 0, none⟩), .int .i64 x, undef, undef, .func (.func gf) #[] lb, .int .i64 x, undef, undef, undef, undef, undef, undef, undef, undef, undef, undef, undef, undef], defers := [] }) ?assign ?body ?done ?stop
  case assign =>
    intro l x W K hK
    gi_wp2
    exact hK
  case body =>
    rintro l pre x W ⟨⟨V, hs, hV, d2, d0, k1, m1⟩, hbW⟩ hpl
    have hV2 := adV_len hV x
    have hsz := hbW.size
    have l0 := d0.lt
    have l2 := d2.lt
    have hlt1 : w.heap.size + 1 < W.heap.size := by omega
    by_cases hE : adE V x = 0
    · have HS := Lib.hid (sm_ok hs.out hE)
      have cA := add_any V hV x
      rw [hE] at cA
      have CA := Lib.hid cA
      clear hs cA hE
      gi_wp2_with (refine wpListIn_load_row _ rfl 24 _ rfl _ rfl 24 (hC V) (0, 0) _ d2 Try.underlying24 rfl (hist_size hV) ?_)
      refine ⟨trivial, ?_⟩
      refine (CallsIn.inRound l (callsIn_wide.2 (CA.out W))).mono ?_
      rintro e w1 ⟨rfl, hb⟩
      have e2 := d2.below hb l2
      have e6 := (HB.newZ w1).put (adV V x)
      have e2' := ((e2.alloc (.cells #[.int .i64 0, .int .i64 0, .int .i64 0, .int .i64 0, .int .i64 0, .int .i64 0, .int .i64 0, .int .i64 0, .int .i64 0, .int .i64 0, .int .i64 0, .int .i64 0, .int .i64 0, .int .i64 0, .int .i64 0, .int .i64 0, .int .i64 0, .int .i64 0, .int .i64 0, .int .i64 0, .int .i64 0, .int .i64 0, .int .i64 0, .int .i64 0, .int .i64 0, .int .i64 0, .int .i64 0, .int .i64 0, .int .i64 0, .int .i64 0, .int .i64 0, .int .i64 0, .int .i64 0, .int .i64 0, .int .i64 0, .int .i64 0, .int .i64 0, .int .i64 0, .int .i64 0, .int .i64 0, .int .i64 0, .int .i64 0, .int .i64 0, .int .i64 0, .int .i64 0, .int .i64 0, .int .i64 0, .int .i64 0, .int .i64 0, .int .i64 0, .int .i64 0, .int .i64 0, .int .i64 0, .int .i64 0] 24)).put_far (g' := w1.heap.size) (by have := e2.lt; omega) (hC (adV V x)))
      gi_wp2_with (first
        | (refine wpListIn_store_row _ rfl 24 _ _ rfl w1.heap.size rfl (hC (adV V x)) rfl 24 (hC hZ) (HB.newZ w1) (hist_size hV2) (by rw [hC_size, hC_size, hV2, hZ_len]) (hC_one _) ?_)
        | (refine wpListIn_load_row _ rfl 24 _ rfl _ rfl 24 (hC (adV V x)) (0, 0) _ e6 Try.underlying24 rfl (hist_size hV2) ?_)
        | (refine wpListIn_store_row _ rfl 24 _ _ rfl _ rfl (hC (adV V x)) rfl 24 (hC V) e2' (hist_size hV2) (by rw [hC_size, hC_size, hV2, hV]) (hC_one _) ?_))
      obtain ⟨r1, r2, r3, r4, r5, r6⟩ := round_world hb hsz d2 d0 k1 m1 (V' := adV V x) rfl
      exact ⟨r1, r2, ⟨adV V x, HS, hV2, r3, r4, r5, r6⟩, hbW.trans r2⟩
    · have HS := Lib.hid (sm_bad hs.out hE)
      have hne : (adE V x != 0) = true := by simp [hE]
      have cA := add_any V hV x
      obtain ⟨E, hEE⟩ : ∃ E, E = adE V x := ⟨_, rfl⟩
      rw [← hEE] at cA HS hne
      have CA := Lib.hid cA
      clear hs cA hE hEE
      gi_wp2_with (refine wpListIn_load_row _ rfl 24 _ rfl _ rfl 24 (hC V) (0, 0) _ d2 Try.underlying24 rfl (hist_size hV) ?_)
      refine ⟨trivial, ?_⟩
      refine (CallsIn.inRound l (callsIn_wide.2 (CA.out W))).mono ?_
      rintro e w1 ⟨rfl, hb⟩
      obtain ⟨e0', k5, m5, r6⟩ := bad_world hb hsz d0 hlt1 k1 m1 (V' := adV V x) rfl
      obtain ⟨r1, r2, r3, r4⟩ := r6 (.int .i64 E)
      have R1 := Lib.hid r1
      have R2 := Lib.hid r2
      have R3 := Lib.hid r3
      have R4 := Lib.hid r4
      clear r1 r2 r3 r4 r6
      gi_wp2_with (first
        | (refine wpListIn_store_row _ rfl 24 _ _ rfl w1.heap.size rfl (hC (adV V x)) rfl 24 (hC hZ) (HB.newZ w1) (hist_size hV2) (by rw [hC_size, hC_size, hV2, hZ_len]) (hC_one _) ?_)
        | (refine wpListIn_store_row _ rfl 24 _ _ rfl _ rfl (hC hZ) (congrArg Value.agg hZ_cells).symm 24 (hC hZ) e0' (hist_size hZ_len) rfl (hC_one _) ?_))
      exact ⟨R1.out, ⟨rfl, E, HS, R3.out, R4.out⟩, hbW.trans R2.out⟩
  case done =>
    rintro D l W hD rfl ⟨⟨V, hs, hV, d2, d0, k1, m1⟩, hbW⟩ hK
    have hr := hs.out []
    rw [List.append_nil] at hr
    have HR := Lib.hid (show smF hZ l = (V, 0) from hr)
    clear hr hs
    have l0 := d0.lt
    have hz := hbW.size
    have e1 := (same_block (w := W) (w' := W.setRow w.heap.size (hC V)) (b := w.heap.size + 1) (o := 0) (setRow_other _ _ _ _ (by omega)))
    have k5 : (W.setRow w.heap.size (hC V)).cell? ⟨w.heap.size + 1, 0, none⟩ = some (.int .i64 0) := e1.1.trans k1
    have m5 : (W.setRow w.heap.size (hC V)).frozen? ⟨w.heap.size + 1, 0, none⟩ = false := e1.2.trans m1
    clear e1
    gi_wp2_with (first
      | (refine wpListIn_load_row _ rfl 24 _ rfl _ rfl 24 (hC V) (0, 0) _ d2 Try.underlying24 rfl (hist_size hV) ?_)
      | (refine wpListIn_store_row _ rfl 24 _ _ rfl _ rfl (hC V) rfl 24 (hC hZ) d0 (hist_size hV) (by rw [hC_size, hC_size, hV, hZ_len]) (hC_one _) ?_))
    have p0 : HB ((W.setRow w.heap.size (hC V)).setCell ⟨w.heap.size + 1, 0, none⟩ (.int .i64 0)) w.heap.size V := (d0.put V).set_far (by simp) _
    have p1 : ((W.setRow w.heap.size (hC V)).setCell ⟨w.heap.size + 1, 0, none⟩ (.int .i64 0)).cell? ⟨w.heap.size + 1, 0, none⟩ = some (.int .i64 0) := World.cell?_setCell_same' _ _ _ (by rw [k5]; rfl)
    have hK2 := ((keeps_put d0 (hC V)).trans (KeepsOthers.setCell _ ⟨w.heap.size + 1, 0, none⟩ (.int .i64 0))).same D _ hK rfl
    refine ⟨by simp, .inl ⟨_, _, rfl, run_takeDeferred hK2, ?_⟩⟩
    have q0 := p0.kept (grownBy_putObj' _ D (.deferred none)) (fun r e => by cases e; exact ⟨_, hK2, rfl⟩)
    have q1 := cell_kept p1 (grownBy_putObj' _ D (.deferred none)) (fun r e => by cases e; exact ⟨_, hK2, rfl⟩)
    refine ⟨.tuple #[.agg (hC V), .int .i64 0], results_cells (p := 2) (u := 3) rfl _ _ w.heap.size (w.heap.size + 1) V hV 0 rfl q0 rfl q1, ?_⟩
    rw [HR.out]
    exact ⟨rfl, (((below_put hbW (Nat.le_refl _) _).setCell (p := ⟨w.heap.size + 1, 0, none⟩) (by simp) _)).trans (belowK_b (w := W2) (by omega) _ D _ _ hD hK2 rfl rfl)⟩
  case stop =>
    rintro D c pre W hD hpre ⟨⟨rfl, E, hs, d0, k1⟩, hbW⟩ hK
    obtain ⟨rest, hrest⟩ := hpre
    have hr := hs.out rest
    rw [hrest] at hr
    have HR := Lib.hid hr
    clear hr hs hrest
    gi_wp2
    refine ⟨by simp, .inl ⟨_, _, rfl, run_takeDeferred hK, ?_⟩⟩
    have q0 := d0.kept (grownBy_putObj' _ D (.deferred none)) (fun r e => by cases e; exact ⟨_, hK, rfl⟩)
    have q1 := cell_kept k1 (grownBy_putObj' _ D (.deferred none)) (fun r e => by cases e; exact ⟨_, hK, rfl⟩)
    refine ⟨.tuple #[.agg (hC hZ), .int .i64 E], results_cells (p := 2) (u := 3) rfl _ _ w.heap.size (w.heap.size + 1) hZ hZ_len E rfl q0 rfl q1, ?_⟩
    rw [HR.out]
    exact ⟨rfl, hbW.trans (belowK_b (w := W2) (by omega) _ D _ _ hD hK rfl rfl)⟩
end Go.Proofs.Ytmaehcecilnglaa
