/-
  A struct is stored within a block that is known whole (XR's law, alone).
-/
import Derived.Test.YtfneloplbkjbhaaDoorTS1
import Derived.Laws.CopyRow
namespace Go.Proofs.YtfneloplbkjbhaaDoor
open Go.RowKit
set_option linter.unusedVariables false
section
variable {P : Program}
theorem run_storeVar_at (w : World) (g o : Nat) (t ty : TypeId) (cs new : Array Value) (hg : w.heap[g]? = some (.cells cs t (0, 0)))
    (hi : (P.info? ty).map (·.size) = some new.size) (hs : o + new.size ≤ cs.size) (h1 : ∀ v ∈ new.toList, v.oneCell' = true) :
    (storeVar ty ⟨g, o, none⟩ (.agg new)).run P w = .ok () (w.setRow g (cs.toList.take o ++ new.toList ++ cs.toList.drop (o + new.size)).toArray) := by
  cases hq : P.info? ty with
  | none => simp [hq] at hi
  | some i =>
    have hsz : i.size = new.size := by simpa [hq] using hi
    have hst := run_storeCells_at (P := P) g o t new.toList 0 cs w hg (by simp; omega) h1
    simp only [Nat.add_zero, Array.length_toList] at hst
    simp [storeVar, Sem.run_bind, sizeOf, typeInfo, hq, hsz, Value.cells, hst]
/-- What a store into one block does. -/
structure PutAt (g : Nat) (cs : Array Value) (t : TypeId) (w w' : World) : Prop where
  here : w'.heap[g]? = some (.cells cs t)
  far : ∀ k, k ≠ g → w'.heap[k]? = w.heap[k]?
  below : ∀ B, B ≤ g → Below B w w'
  size : w'.heap.size = w.heap.size
theorem wp_store_at {o : Oper} {a : Act} {w : World} {K : Act → World → Prop} {Q : Exit → Act → World → Prop} (ty : TypeId) (x y : Operand) (ho : o.op = .store ty x y)
    (g k : Nat) (hx : a.eval x = .pointer (some ⟨g, k, none⟩)) (new : Array Value) (hy : a.eval y = .agg new) (t : TypeId) (cs cs' : Array Value) (hg : w.heap[g]? = some (.cells cs t (0, 0)))
    (hi : (P.info? ty).map (·.size) = some new.size) (hs : k + new.size ≤ cs.size) (h1 : ∀ v ∈ new.toList, v.oneCell' = true) (hc : (cs.toList.take k ++ new.toList ++ cs.toList.drop (k + new.size)).toArray = cs')
    (h : ∀ w', PutAt g cs' t w w' → K (a.put o.dst undef) w') : o.wp P a w K Q := by
  unfold Oper.wp execOp
  simp only [ho, hx, hy, Instr.storeAt, Instr.sureAddr, Sem.run_bind, Sem.run_pure, Result.andThen_ok, run_storeVar_at w g k t ty cs new hg hi hs h1]
  refine h _ ⟨?_, fun i hi => setRow_other w g i _ hi, fun B hB => ⟨rfl, rfl, rfl, by simp, fun i hi => setRow_other w g i _ (by omega)⟩, by simp⟩
  rw [hc]
  exact setRow_heap w g _ _ _ _ hg
theorem wpList_store_at {ops : Array Oper} {rest : List Oper} {o : Oper} {a : Act} {w : World} {Q : Exit → Act → World → Prop} (hgd : o.guard = none) (ty : TypeId) (x y : Operand) (ho : o.op = .store ty x y)
    (g k : Nat) (hx : a.eval x = .pointer (some ⟨g, k, none⟩)) (new : Array Value) (hy : a.eval y = .agg new) (t : TypeId) (cs cs' : Array Value) (hg : w.heap[g]? = some (.cells cs t (0, 0)))
    (hi : (P.info? ty).map (·.size) = some new.size) (hs : k + new.size ≤ cs.size) (h1 : ∀ v ∈ new.toList, v.oneCell' = true) (hc : (cs.toList.take k ++ new.toList ++ cs.toList.drop (k + new.size)).toArray = cs')
    (h : ∀ w', PutAt g cs' t w w' → wpList P ops Q rest (a.put o.dst undef) w') : wpList P ops Q (o :: rest) a w :=
  wpList_plain hgd fun _ hK => wp_store_at ty x y ho g k hx new hy t cs cs' hg hi hs h1 hc fun w' hp => hK _ _ (h w' hp)
end
end Go.Proofs.YtfneloplbkjbhaaDoor
