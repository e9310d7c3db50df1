/-
  Two histograms of the same cells are equal; a histogram's block as a range.
-/
import Derived.Test.YtmaehcecilnglaaH10
import Derived.ChangeKeysEq
import Derived.Deep.MidRow
namespace Go.Proofs.Ytmaehcecilnglaa
open Go.RowKit
set_option linter.unusedVariables false

theorem part_at {V : List Int} {i : Nat} {x : Int} (h : V[i]? = some x) (w : World) : (part 2 (hC V) (i * 1)).run Try.prog w = .ok (.int .i64 x) w := by
  have hat := hC_at h
  rw [Nat.mul_one]
  simp [part, isAgg, run_underlying Try.underlying2, hat]
theorem eqItems_hist (d : Nat) (V : List Int) (w : World) : ∀ is : List Nat, (∀ i ∈ is, i < V.length) → (Op.eqItems (d + 1) 2 1 (hC V) (hC V) is).run Try.prog w = .ok true w
  | [], _ => by simp [Op.eqItems]
  | i :: is, h => by
    have hi := h i (by simp)
    have hx : V[i]? = some V[i] := List.getElem?_eq_getElem hi
    have p := part_at hx w
    have ih := eqItems_hist d V w is fun j hj => h j (by simp [hj])
    simp only [Op.eqItems, Sem.run_bind, p, Result.andThen_ok, run_equalIn_int w d 2 .i64 .i64 V[i] V[i] Try.underlying2]
    simpa using ih
theorem cells_int : Try.prog.cellsOf 2 = 1 := by kernel_rfl
theorem size_int64 : (Try.prog.info? 2).isSome = true := by kernel_rfl
theorem eq_arr {V : List Int} (hV : V.length = 54) (d : Nat) (w : World) : (Op.equalIn (d + 2) 22 (.agg (hC V)) (.agg (hC V))).run Try.prog w = .ok true w := by
  obtain ⟨i, hi⟩ := Option.isSome_iff_exists.1 size_int64
  rw [run_equalIn_array w (d + 1) (hC V) (hC V) Try.underlying22 hi, cells_int]
  exact eqItems_hist d V w _ fun j hj => by have := List.mem_range.1 hj; omega
theorem fields_hist : (Try.prog.fieldsOf 24).toList.map (fun f => (f.name, f.type, f.offset)) = [("Many", 22, 0)] := by kernel_rfl
theorem part_arr {V : List Int} (hV : V.length = 54) (w : World) : (part 22 (hC V) 0).run Try.prog w = .ok (.agg (hC V)) w := by
  have hs := size_arr
  cases hq : Try.prog.info? 22 with
  | none => simp [hq] at hs
  | some i =>
    have hz : i.size = 54 := by simpa [hq] using hs
    have e : (hC V).extract 0 54 = hC V := by
      have := hC_size V
      rw [hV] at this
      rw [← this]
      exact Array.extract_size
    simp [part, isAgg, run_underlying Try.underlying22, sizeOf, typeInfo, hq, hz, e]
theorem eq_fields {V : List Int} (hV : V.length = 54) (d : Nat) (w : World) : (Op.eqFields (d + 2) (hC V) (hC V) (Try.prog.fieldsOf 24).toList).run Try.prog w = .ok true w := by
  have h := fields_hist
  generalize (Try.prog.fieldsOf 24).toList = fs at h
  cases fs with
  | nil => simp at h
  | cons f r =>
    cases r with
    | cons g t => simp at h
    | nil =>
      simp only [List.map_cons, List.map_nil, List.cons.injEq, Prod.mk.injEq, and_true] at h
      obtain ⟨h1, h2, h3⟩ := h
      simp [Op.eqFields, h1, h2, h3, part_arr hV, eq_arr hV]
theorem eq_in {V : List Int} (hV : V.length = 54) (d : Nat) (w : World) : (Op.equalIn (d + 3) 24 (.agg (hC V)) (.agg (hC V))).run Try.prog w = .ok true w := by
  have hu : Try.prog.underlying 24 = some (.struct (Try.prog.fieldsOf 24)) := by kernel_rfl
  have hp : Try.prog.stoodInHeld 24 = false := by kernel_rfl
  rw [run_equalIn_struct w (d + 2) 24 (hC V) (hC V) hu hp]
  exact eq_fields hV d w
theorem eq_hist {V : List Int} (hV : V.length = 54) (w : World) : (binOp .eql 24 (.agg (hC V)) (.agg (hC V))).run Try.prog w = .ok (.bool true) w := by
  rw [run_eql_struct w, eq_in hV 9997 w]
  rfl
theorem HB.drew {w : World} {g : Nat} {V : List Int} (h : HB w g V) : HB w.drew g V := h
theorem hC_lit {V : List Int} {f : Nat → Int} (hV : V.length = 54) (hf : f = fun j => V.getD j 0) : hC V = #[.int .i64 (f 0), .int .i64 (f 1), .int .i64 (f 2), .int .i64 (f 3), .int .i64 (f 4), .int .i64 (f 5), .int .i64 (f 6), .int .i64 (f 7), .int .i64 (f 8), .int .i64 (f 9), .int .i64 (f 10), .int .i64 (f 11), .int .i64 (f 12), .int .i64 (f 13), .int .i64 (f 14), .int .i64 (f 15), .int .i64 (f 16), .int .i64 (f 17), .int .i64 (f 18), .int .i64 (f 19), .int .i64 (f 20), .int .i64 (f 21), .int .i64 (f 22), .int .i64 (f 23), .int .i64 (f 24), .int .i64 (f 25), .int .i64 (f 26), .int .i64 (f 27), .int .i64 (f 28), .int .i64 (f 29), .int .i64 (f 30), .int .i64 (f 31), .int .i64 (f 32), .int .i64 (f 33), .int .i64 (f 34), .int .i64 (f 35), .int .i64 (f 36), .int .i64 (f 37), .int .i64 (f 38), .int .i64 (f 39), .int .i64 (f 40), .int .i64 (f 41), .int .i64 (f 42), .int .i64 (f 43), .int .i64 (f 44), .int .i64 (f 45), .int .i64 (f 46), .int .i64 (f 47), .int .i64 (f 48), .int .i64 (f 49), .int .i64 (f 50), .int .i64 (f 51), .int .i64 (f 52), .int .i64 (f 53)] := by
  have e : V = (List.range 54).map f := by
    apply List.ext_getElem (by simp [hV])
    intro i h1 h2
    rw [hf]
    simp [h1]
  rw [e]
  rfl
theorem HB.fn {w : World} {g : Nat} {V : List Int} {f : Nat → Int} (h : HB w g V) (hV : V.length = 54) (hf : f = fun j => V.getD j 0) : ∀ j, j < 54 → w.cell? ⟨g, j, none⟩ = some (.int .i64 (f j)) := by
  intro j hj
  rw [cell_of_row w g j _ _ _ h]
  apply hC_at
  rw [hf]
  simp [hV, hj]
theorem HB.range {w : World} {g : Nat} {V : List Int} (h : HB w g V) : w.rangeAt g 0 (V.map (Value.int .i64)) := by
  intro j v hj
  rw [Nat.zero_add, cell_of_row w g j _ _ _ h]
  unfold hC
  simpa using hj
theorem HB.rangeL {w : World} {g : Nat} {V : List Int} {L : List Value} (h : HB w g V) (hL : L = V.map (Value.int .i64)) : w.rangeAt g 0 L := hL ▸ h.range
theorem hC_L {V : List Int} {L : List Value} (hL : L = V.map (Value.int .i64)) : hC V = L.toArray := by
  subst hL
  rfl
theorem hist_sizeL {V : List Int} {L : List Value} (hV : V.length = 54) (hL : L = V.map (Value.int .i64)) : (Try.prog.info? 24).map (·.size) = some L.length := by
  rw [hist_size hV, hC_L hL]
  simp
theorem exec_eql {V : List Int} {L : List Value} (hV : V.length = 54) (hL : L = V.map (Value.int .i64)) {a : Act} {o : Oper} {x y : Operand} {t : TypeId} (ho : o.op = .binOp .eql 24 x y t) (hx : a.eval x = .agg L.toArray) (hy : a.eval y = .agg L.toArray) (w : World) :
    (execOp a.eval o).run Try.prog w = .ok (.value (.bool true)) w := by
  have q := eq_hist hV w
  rw [hC_L hL] at q
  have g : Try.prog.eqGuardType Try.prog.depth 24 = false := by kernel_rfl
  unfold execOp
  simp only [ho, hx, hy, Sem.run_bind, run_eqGuard_agg (hm := g), q, Result.andThen_ok, Sem.run_pure]
end Go.Proofs.Ytmaehcecilnglaa
