/-
  The marks that are struck: slices.DeleteFunc at marks.
-/
import Derived.Test.YtfneloplbkjbhaaDoorTM9
import Derived.Laws.CopyRow
import Derived.Laws.CopyOwn
namespace Go.Proofs.YtfneloplbkjbhaaDoor
open Go.RowKit Go.Shelf
set_option linter.unusedVariables false
/-- Block g holds the marks L, and behind them sp. -/
def DR (w : World) (g : Nat) (L : List QM) (sp : List Value) : Prop := ∃ cur : Array Value, w.heap[g]? = some (.cells cur 34 (0, 0)) ∧ cur.toList = L.flatMap QM.cells ++ sp
theorem DR.lt {w : World} {g : Nat} {L : List QM} {sp : List Value} (h : DR w g L sp) : g < w.heap.size := by
  obtain ⟨cur, h1, _⟩ := h
  exact (Array.getElem?_eq_some_iff.1 h1).1
theorem DR.on {w w' : World} {g : Nat} {L : List QM} {sp : List Value} (h : DR w g L sp) (hb : Below w.heap.size w w') : DR w' g L sp := by
  have hlt := h.lt
  obtain ⟨cur, h1, h2⟩ := h
  exact ⟨cur, (hb.block g hlt).trans h1, h2⟩
theorem DR.at {w : World} {g : Nat} {L : List QM} {sp : List Value} (h : DR w g L sp) {i : Nat} {q : QM} (hq : L[i]? = some q) : w.cell? ⟨g, i * 4, none⟩ = some (.int .i64 q.a) ∧ w.cell? ⟨g, i * 4 + 1, none⟩ = some (.int .u8 q.b) ∧ w.cell? ⟨g, i * 4 + 2, none⟩ = some (.int .i64 q.c) ∧ w.cell? ⟨g, i * 4 + 3, none⟩ = some (.int .i64 q.d) := by
  obtain ⟨cur, h1, h2⟩ := h
  have hi : i < L.length := (List.getElem?_eq_some_iff.1 hq).1
  have key : ∀ o, o < 4 → w.cell? ⟨g, i * 4 + o, none⟩ = q.cells[o]? := fun o ho => by
    rw [cell_of_row _ g (i * 4 + o) cur _ _ h1, ← Array.getElem?_toList, h2, List.getElem?_append_left (by rw [cellsM_length]; omega)]
    exact cellsM_at L i o q hq ho
  exact ⟨key 0 (by omega), key 1 (by omega), key 2 (by omega), key 3 (by omega)⟩
theorem DR.free {w : World} {g : Nat} {L : List QM} {sp : List Value} (h : DR w g L sp) (k : Nat) : w.frozen? ⟨g, k, none⟩ = false := by
  obtain ⟨cur, h1, _⟩ := h
  simp [World.frozen?, h1]
theorem flat_set : ∀ (L : List QM) (i : Nat) (q : QM) (sp : List Value), i < L.length → ((((L.flatMap QM.cells ++ sp).set (i * 4) (.int .i64 q.a)).set (i * 4 + 1) (.int .u8 q.b)).set (i * 4 + 2) (.int .i64 q.c)).set (i * 4 + 3) (.int .i64 q.d) = (L.set i q).flatMap QM.cells ++ sp
  | [], i, q, sp, h => by simp at h
  | x :: r, 0, q, sp, _ => by simp [QM.cells]
  | x :: r, i + 1, q, sp, h => by
    have ih := flat_set r i q sp (by simpa using h)
    rw [show (i + 1) * 4 = i * 4 + 4 from by omega, List.set_cons_succ, List.flatMap_cons, List.flatMap_cons, List.append_assoc, List.append_assoc, ← ih]
    simp [QM.cells, List.set_cons_succ]
theorem DR.set {w : World} {g : Nat} {L : List QM} {sp : List Value} (h : DR w g L sp) {i : Nat} (hi : i < L.length) (q : QM) : DR ((((w.setCell ⟨g, i * 4, none⟩ (.int .i64 q.a)).setCell ⟨g, i * 4 + 1, none⟩ (.int .u8 q.b)).setCell ⟨g, i * 4 + 2, none⟩ (.int .i64 q.c)).setCell ⟨g, i * 4 + 3, none⟩ (.int .i64 q.d)) g (L.set i q) sp := by
  obtain ⟨cur, h1, h2⟩ := h
  refine ⟨_, set_at (set_at (set_at (set_at h1 _) _) _) _, ?_⟩
  simp only [Array.toList_setIfInBounds, h2]
  exact flat_set L i q sp hi
theorem setCell_far {w : World} {b o g k : Nat} {v u : Value} (h : w.cell? ⟨b, o, none⟩ = some v) (hne : b ≠ g) : (w.setCell ⟨g, k, none⟩ u).cell? ⟨b, o, none⟩ = some v := by
  rw [World.cell?_of_block (heap_setCell_other w ⟨g, k, none⟩ b u hne)]
  exact h
theorem Cp.set {kb wb : Nat} {kd wh : Int} {w : World} (h : Cp kb wb kd wh w) {g : Nat} (h1 : kb ≠ g) (h2 : wb ≠ g) (k : Nat) (v : Value) : Cp kb wb kd wh (w.setCell ⟨g, k, none⟩ v) := ⟨setCell_far h.k h1, setCell_far h.o h2⟩
theorem zeroC (n : Nat) : (Builtin.zeroCells (Value.agg #[.int .i64 0, .int .u8 0, .int .i64 0, .int .i64 0]).cells n).toList.length = n * 4 ∧ ∀ v ∈ (Builtin.zeroCells (Value.agg #[.int .i64 0, .int .u8 0, .int .i64 0, .int .i64 0]).cells n).toList, v.oneCell' = true := by
  have hs : (Value.agg #[.int .i64 0, .int .u8 0, .int .i64 0, .int .i64 0]).cells = #[.int .i64 0, .int .u8 0, .int .i64 0, .int .i64 0] := by kernel_rfl
  rw [hs]
  constructor
  · simp [Builtin.zeroCells]
  · intro v hv
    simp only [Builtin.zeroCells, Array.toList_map, List.mem_map] at hv
    obtain ⟨i, _, rfl⟩ := hv
    have h4 : i % 4 = 0 ∨ i % 4 = 1 ∨ i % 4 = 2 ∨ i % 4 = 3 := by omega
    have e4 : (#[Value.int .i64 0, Value.int .u8 0, Value.int .i64 0, Value.int .i64 0] : Array Value).size = 4 := rfl
    rw [e4]
    rcases h4 with h | h | h | h <;> rw [h] <;> rfl
/-- The row cleared from place i on. -/
theorem clear_run {w : World} {g : Nat} {L : List QM} {sp : List Value} (h : DR w g L sp) (i : Nat) (hi : i < L.length) (c : Nat) : ∃ w', (∀ ty : TypeId, (Builtin.clear_ #[22] ty #[.slice (some ⟨g, i * 4, none⟩) (L.length - i) c]).run Tryd.prog w = .ok (.tuple #[]) w') ∧ (∀ j q, L[j]? = some q → j < i → w'.cell? ⟨g, j * 4, none⟩ = some (.int .i64 q.a) ∧ w'.cell? ⟨g, j * 4 + 1, none⟩ = some (.int .u8 q.b) ∧ w'.cell? ⟨g, j * 4 + 2, none⟩ = some (.int .i64 q.c) ∧ w'.cell? ⟨g, j * 4 + 3, none⟩ = some (.int .i64 q.d)) ∧ (∀ B a, B ≤ g → Below B a w → Below B a w') ∧ g < w'.heap.size := by
  obtain ⟨cur, h1, h2⟩ := h
  obtain ⟨z1, z2⟩ := zeroC (L.length - i)
  have hsz : cur.size = L.length * 4 + sp.length := by
    rw [← Array.length_toList, h2, List.length_append, cellsM_length]
  obtain ⟨vs, hvs⟩ : ∃ vs, vs = (Builtin.zeroCells (Value.agg #[.int .i64 0, .int .u8 0, .int .i64 0, .int .i64 0]).cells (L.length - i)).toList := ⟨_, rfl⟩
  rw [← hvs] at z1 z2
  have hst := run_storeCells_at Tryd.prog g (i * 4) 34 vs 0 cur w h1 (by rw [z1]; omega) z2
  obtain ⟨m, hm⟩ : ∃ m, L.length - i = m + 1 := ⟨L.length - i - 1, by omega⟩
  have hg := setRow_heap w g cur (cur.toList.take (i * 4 + 0) ++ vs ++ cur.toList.drop (i * 4 + 0 + vs.length)).toArray 34 (0, 0) h1
  refine ⟨w.setRow g (cur.toList.take (i * 4 + 0) ++ vs ++ cur.toList.drop (i * 4 + 0 + vs.length)).toArray, ?_, ?_, ?_, (Array.getElem?_eq_some_iff.1 hg).1⟩
  · intro ty
    rw [hm] at hvs ⊢
    subst hvs
    unfold Builtin.clear_
    simp only [List.getElem?_toArray, List.getElem?_cons_zero, Sem.run_bind, run_underlying Tryd.underlying22, Result.andThen_ok, Tryd.zeroValue34, hst, Sem.run_pure]
  · intro j q hq hji
    have key : ∀ o, o < 4 → (w.setRow g (cur.toList.take (i * 4 + 0) ++ vs ++ cur.toList.drop (i * 4 + 0 + vs.length)).toArray).cell? ⟨g, j * 4 + o, none⟩ = q.cells[o]? := fun o ho => by
      rw [cell_of_row _ g (j * 4 + o) _ _ _ hg, List.getElem?_toArray, List.append_assoc, List.getElem?_append_left (by rw [List.length_take, Array.length_toList]; omega), List.getElem?_take_of_lt (by omega), h2, List.getElem?_append_left (by rw [cellsM_length]; omega)]
      exact cellsM_at L j o q hq ho
    exact ⟨key 0 (by omega), key 1 (by omega), key 2 (by omega), key 3 (by omega)⟩
  · intro B a hB hb
    exact below_setRow hb hB _
end Go.Proofs.YtfneloplbkjbhaaDoor
