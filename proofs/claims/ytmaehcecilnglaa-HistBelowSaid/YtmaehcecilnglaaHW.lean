/-
  Histograms in memory: a struct of 54 numbers, boxed, loaded, stored, indexed.
-/
import Derived.Test.YtmaehcecilnglaaVi
import Derived.Laws.Rows
import Derived.Laws.CopyRow
import Derived.Laws.StructEq
import Derived.Laws.ResultCell
import Derived.KernelRfl
namespace Go.Proofs.Ytmaehcecilnglaa
open Go.RowKit
set_option linter.unusedVariables false

theorem snoc_rec {α : Type} {P : List α → Prop} (h0 : P []) (h1 : ∀ xs x, P xs → P (xs ++ [x])) (xs : List α) : P xs := by
  have : ∀ ys : List α, P ys.reverse := by
    intro ys
    induction ys with
    | nil => exact h0
    | cons y r ih => rw [List.reverse_cons]; exact h1 _ _ ih
  have h := this xs.reverse
  rwa [List.reverse_reverse] at h
/-- The cells of a histogram. -/
def hC (V : List Int) : Array Value := (V.map (Value.int .i64)).toArray
theorem hC_size (V : List Int) : (hC V).size = V.length := by simp [hC]
theorem hC_at {V : List Int} {k : Nat} {x : Int} (h : V[k]? = some x) : (hC V)[k]? = some (.int .i64 x) := by
  unfold hC
  simp [h]
def hZ : List Int := List.replicate 54 0
theorem hZ_cells : hC hZ = #[.int .i64 0, .int .i64 0, .int .i64 0, .int .i64 0, .int .i64 0, .int .i64 0, .int .i64 0, .int .i64 0, .int .i64 0, .int .i64 0, .int .i64 0, .int .i64 0, .int .i64 0, .int .i64 0, .int .i64 0, .int .i64 0, .int .i64 0, .int .i64 0, .int .i64 0, .int .i64 0, .int .i64 0, .int .i64 0, .int .i64 0, .int .i64 0, .int .i64 0, .int .i64 0, .int .i64 0, .int .i64 0, .int .i64 0, .int .i64 0, .int .i64 0, .int .i64 0, .int .i64 0, .int .i64 0, .int .i64 0, .int .i64 0, .int .i64 0, .int .i64 0, .int .i64 0, .int .i64 0, .int .i64 0, .int .i64 0, .int .i64 0, .int .i64 0, .int .i64 0, .int .i64 0, .int .i64 0, .int .i64 0, .int .i64 0, .int .i64 0, .int .i64 0, .int .i64 0, .int .i64 0, .int .i64 0] := by unfold hC hZ; rfl
theorem size_hist : (Try.prog.info? 24).map (·.size) = some 54 := by kernel_rfl
theorem size_arr : (Try.prog.info? 22).map (·.size) = some 54 := by kernel_rfl
theorem hist_size {V : List Int} (h : V.length = 54) : (Try.prog.info? 24).map (·.size) = some (hC V).size := by rw [hC_size, h]; exact size_hist
theorem arr_size {V : List Int} (h : V.length = 54) : (Try.prog.info? 22).map (·.size) = some (hC V).size := by rw [hC_size, h]; exact size_arr
theorem run_idx {V : List Int} {k : Nat} {x : Int} (hl : V.length = 54) (hk : k < 54) (h : V[k]? = some x) (w : World) :
    (Instr.index 22 (.agg (hC V)) (.int .i64 (k : Int))).run Try.prog w = .ok (.int .i64 x) w := by
  have hb : (0 : Int) ≤ (k : Int) ∧ (k : Int) < (54 : Nat) := by omega
  have hsz : (Try.prog.info? 2).map (·.size) = some 1 := by kernel_rfl
  cases hq : Try.prog.info? 2 with
  | none => simp [hq] at hsz
  | some i =>
    have hs : i.size = 1 := by simpa [hq] using hsz
    have hat := hC_at h
    simp [Instr.index, run_underlying Try.underlying22, asIntOf, hb, sizeOf, typeInfo, hq, hs, part, hat]
    intro h54
    omega

variable {P : Program}
theorem run_storeVar_row (w : World) (g : Nat) (t ty : TypeId) (cs new : Array Value) (hg : w.heap[g]? = some (.cells cs t (0, 0)))
    (hi : (P.info? ty).map (·.size) = some new.size) (hs : new.size = cs.size) (h1 : ∀ v ∈ new.toList, v.oneCell' = true) :
    (storeVar ty ⟨g, 0, none⟩ (.agg new)).run P w = .ok () (w.setRow g new) := by
  cases hq : P.info? ty with
  | none => simp [hq] at hi
  | some i =>
    have hsz : i.size = new.size := by simpa [hq] using hi
    have hst := run_storeCells_at (P := P) g 0 t new.toList 0 cs w hg (by simp; omega) h1
    have e : (cs.toList.take (0 + 0) ++ new.toList ++ cs.toList.drop (0 + 0 + new.toList.length)).toArray = new := by
      simp only [Nat.add_zero, List.take_zero, List.nil_append, Nat.zero_add]
      rw [List.drop_eq_nil_of_le (by simp; omega)]
      simp
    rw [e] at hst
    simp [storeVar, Sem.run_bind, sizeOf, typeInfo, hq, hsz, Value.cells, hst]
theorem wp_store_row {o : Oper} {a : Act} {w : World} {K : Act → World → Prop} {Q : Exit → Act → World → Prop} (ty : TypeId) (x y : Operand) (ho : o.op = .store ty x y)
    (g : Nat) (hx : a.eval x = .pointer (some ⟨g, 0, none⟩)) (new : Array Value) (hy : a.eval y = .agg new) (t : TypeId) (cs : Array Value) (hg : w.heap[g]? = some (.cells cs t (0, 0)))
    (hi : (P.info? ty).map (·.size) = some new.size) (hs : new.size = cs.size) (h1 : ∀ v ∈ new.toList, v.oneCell' = true)
    (h : K (a.put o.dst undef) (w.setRow g new)) : o.wp P a w K Q := by
  unfold Oper.wp execOp
  simp only [ho, hx, hy, Instr.storeAt, Instr.sureAddr, Sem.run_bind, Sem.run_pure, Result.andThen_ok, run_storeVar_row w g t ty cs new hg hi hs h1]
  exact h
theorem wpList_store_row {ops : Array Oper} {rest : List Oper} {o : Oper} {a : Act} {w : World} {Q : Exit → Act → World → Prop} (hgd : o.guard = none) (ty : TypeId) (x y : Operand) (ho : o.op = .store ty x y)
    (g : Nat) (hx : a.eval x = .pointer (some ⟨g, 0, none⟩)) (new : Array Value) (hy : a.eval y = .agg new) (t : TypeId) (cs : Array Value) (hg : w.heap[g]? = some (.cells cs t (0, 0)))
    (hi : (P.info? ty).map (·.size) = some new.size) (hs : new.size = cs.size) (h1 : ∀ v ∈ new.toList, v.oneCell' = true)
    (h : wpList P ops Q rest (a.put o.dst undef) (w.setRow g new)) : wpList P ops Q (o :: rest) a w :=
  wpList_plain hgd fun _ hK => wp_store_row ty x y ho g hx new hy t cs hg hi hs h1 (hK _ _ h)
theorem hC_one (V : List Int) : ∀ v ∈ (hC V).toList, v.oneCell' = true := by
  intro v hv
  unfold hC at hv
  simp only [List.mem_map] at hv
  obtain ⟨x, _, rfl⟩ := hv
  rfl
end Go.Proofs.Ytmaehcecilnglaa
