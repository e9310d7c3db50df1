/-
  A configuration that came in is opened: tasks, lines, threads (N12's, without sizes).
-/
import Derived.Test.YtfneloplbkjbhaaDoorTS7
import Derived.Test.YtfneloplbkjbhaaDoorLw
namespace Go.Proofs.YtfneloplbkjbhaaDoor
open Go.ChangeShapes Go.WideShapes Go.ChangeAt Go.RowKit
set_option linter.unusedVariables false
theorem leaves_tk : leaves Tryd.prog 3 54 = some [some .u8, some .i64, some .i64, some .i64, some .i64, some .i64, some .i64, some .i64, some .i64, some .i64] := by kernel_rfl
theorem leaves_ln : leaves Tryd.prog 3 79 = some [some .i64, some .i64, some .i64, some .i64] := by kernel_rfl
theorem leaves_th : leaves Tryd.prog 3 82 = some [some .i64, some .i64, some .i64, some .i64] := by kernel_rfl
theorem cells_ln : Tryd.prog.cellsOf 79 = 4 := by kernel_rfl
theorem cells_th : Tryd.prog.cellsOf 82 = 4 := by kernel_rfl
theorem cells_lns : Tryd.prog.cellsOf 44 = 1 := by kernel_rfl
theorem cells_ths : Tryd.prog.cellsOf 45 = 1 := by kernel_rfl
theorem leaves_tm : leaves Tryd.prog 3 42 = some [some .i64, some .i64] := by kernel_rfl
theorem cells_tm : Tryd.prog.cellsOf 42 = 2 := by kernel_rfl
theorem cells_i64 : Tryd.prog.cellsOf 2 = 1 := by kernel_rfl
theorem cells_ts : Tryd.prog.cellsOf 43 = 1 := by kernel_rfl
theorem cells_tk : Tryd.prog.cellsOf 54 = 10 := by kernel_rfl
theorem cells_cfg : Tryd.prog.cellsOf 47 = 6 := by kernel_rfl
instance : Inhabited Tk := ⟨⟨0, 0, 0, 0, 0, 0, 0, 0, 0, 0⟩⟩
theorem u8_wf {n : Int} (h : (Lit.int .u8 n).wf = true) : 0 ≤ n := by
  have h2 : IntKind.u8.min = 0 := by first | rfl | decide
  simp [Lit.wf] at h
  omega
section
variable {H : Type} {enc : TypeId × Value → H} {w : World} {base : Nat} {spare : Nat → Bool} {held : Bool}
/-- Tasks. -/
theorem rT_of_trod {fuel : Nat} {c : Value} {x : DataW H × List MemPlace} (h : DataW.trod enc Tryd.prog w base spare held fuel 43 [c] = some x) : ∃ (A : Option Addr) (ts : List Tk) (cap : Nat), c = .slice A ts.length cap ∧ RT w w.heap.size A ts ∧ (∀ t ∈ ts, 0 ≤ t.k) ∧ ts.length ≤ 9223372036854775807 := by
  rcases Go.Deep.open_slice Tryd.underlying43 h with ⟨h1, _⟩ | ⟨a, len, cap, m, n', D, Pl, h1, hb, hle, hmax, hm, _, hx⟩
  · simp only [List.cons.injEq, and_true] at h1
    rw [h1]
    exact ⟨none, [], 0, rfl, fun h => by simp at h, fun t h => by simp at h, by simp⟩
  · simp only [List.cons.injEq, and_true] at h1
    rw [h1]
    have hlm : len ≤ m := by rw [hm]; split <;> omega
    have each : ∀ i, i < len → ∃ q : Tk, 0 ≤ q.k ∧ ∀ o u, q.arr[o]? = some u → w.cell? (a.add (i * 10 + o)) = some u := by
      intro i hi
      obtain ⟨cs, hcs, ht'⟩ := hx i (by omega)
      rw [cells_tk] at hcs
      obtain ⟨q1, _, rfl, w1, q2, _, rfl, w2, q3, _, rfl, w3, q4, _, rfl, w4, q5, _, rfl, w5, q6, _, rfl, w6, q7, _, rfl, w7, q8, _, rfl, w8, q9, _, rfl, w9, q10, _, rfl, w10, rfl⟩ := leafy_of_trod 3 54 _ n' cs _ leaves_tk ht'
      obtain ⟨_, _, hcell⟩ := World.cells?_some hcs
      refine ⟨⟨q1, q2, q3, q4, q5, q6, q7, q8, q9, q10⟩, u8_wf w1, fun o u hu => ?_⟩
      have ho : o < 10 := (Array.getElem?_eq_some_iff.1 hu).1
      have := hcell o ho
      rw [Go.Deep.add_add] at this
      rw [this, ← hu]
      simp [Tk.arr]
    obtain ⟨f, hfq⟩ := Go.Deep.choose_lt (α := Tk) (p := fun i q => 0 ≤ q.k ∧ ∀ o u, q.arr[o]? = some u → w.cell? (a.add (i * 10 + o)) = some u) each
    refine ⟨some a, (List.range len).map f, cap, by simp, fun h0 => ?_, (fun t ht => by obtain ⟨i, hi, rfl⟩ := List.mem_map.1 ht; exact (hfq i (List.mem_range.1 hi)).1), by simp; unfold maxLen at hmax; omega⟩
    simp only [List.length_map, List.length_range] at h0
    obtain ⟨hlt, ha⟩ := cell_some_lt ((hfq 0 h0).2 0 _ rfl)
    have e0 : a.add (0 * 10 + 0) = a := by simp [Addr.add]
    rw [e0] at hlt ha
    refine ⟨a.block, a.off, by rw [← ha], hlt, fun j x o u hj ho => ?_⟩
    obtain ⟨hj', e⟩ := List.getElem?_eq_some_iff.1 hj
    simp only [List.length_map, List.length_range] at hj'
    simp only [List.getElem_map, List.getElem_range] at e
    subst e
    have := (hfq j hj').2 o u ho
    have h2 := add_at a.block a.off (j * 10 + o)
    rw [← ha] at h2
    rw [h2] at this
    rw [Nat.add_assoc]
    exact this
theorem array6 {α : Type} {cs : Array α} (h : cs.size = 6) : ∃ c0 c1 c2 c3 c4 c5, cs = #[c0, c1, c2, c3, c4, c5] := by
  obtain ⟨l⟩ := cs
  match l, h with
  | [c0, c1, c2, c3, c4, c5], _ => exact ⟨c0, c1, c2, c3, c4, c5, rfl⟩
theorem ln_of_trod {fuel : Nat} {c : Value} {x : DataW H × List MemPlace} (h : DataW.trod enc Tryd.prog w base spare held fuel 44 [c] = some x) : ∃ (A : Option Addr) (ts : List Q4) (cap : Nat), c = .slice A ts.length cap ∧ R4 w w.heap.size A ts ∧ (∀ t ∈ ts, (Lit.int .i64 t.a).wf = true) ∧ ts.length ≤ 9223372036854775807 := by
  rcases Go.Deep.open_slice Tryd.underlying44 h with ⟨h1, _⟩ | ⟨a, len, cap, m, n', D, Pl, h1, hb, hle, hmax, hm, _, hx⟩
  · simp only [List.cons.injEq, and_true] at h1
    rw [h1]
    exact ⟨none, [], 0, rfl, fun h => by simp at h, fun t h => by simp at h, by simp⟩
  · simp only [List.cons.injEq, and_true] at h1
    rw [h1]
    have hlm : len ≤ m := by rw [hm]; split <;> omega
    have each : ∀ i, i < len → ∃ q : Q4, (Lit.int .i64 q.a).wf = true ∧ ∀ o u, q.cells[o]? = some u → w.cell? (a.add (i * 4 + o)) = some u := by
      intro i hi
      obtain ⟨cs, hcs, ht'⟩ := hx i (by omega)
      rw [cells_ln] at hcs
      obtain ⟨q1, _, rfl, w1, q2, _, rfl, w2, q3, _, rfl, w3, q4, _, rfl, w4, rfl⟩ := leafy_of_trod 3 79 _ n' cs _ leaves_ln ht'
      obtain ⟨_, _, hcell⟩ := World.cells?_some hcs
      refine ⟨⟨q1, q2, q3, q4⟩, w1, fun o u hu => ?_⟩
      have ho : o < 4 := (List.getElem?_eq_some_iff.1 hu).1
      have := hcell o ho
      rw [Go.Deep.add_add] at this
      rw [this, ← hu]
      simp [Q4.cells]
    obtain ⟨f, hfq⟩ := Go.Deep.choose_lt (α := Q4) (p := fun i q => (Lit.int .i64 q.a).wf = true ∧ ∀ o u, q.cells[o]? = some u → w.cell? (a.add (i * 4 + o)) = some u) each
    refine ⟨some a, (List.range len).map f, cap, by simp, fun h0 => ?_, (fun t ht => by obtain ⟨i, hi, rfl⟩ := List.mem_map.1 ht; exact (hfq i (List.mem_range.1 hi)).1), by simp; unfold maxLen at hmax; omega⟩
    simp only [List.length_map, List.length_range] at h0
    obtain ⟨hlt, ha⟩ := cell_some_lt ((hfq 0 h0).2 0 _ rfl)
    have e0 : a.add (0 * 4 + 0) = a := by simp [Addr.add]
    rw [e0] at hlt ha
    refine ⟨a.block, a.off, by rw [← ha], hlt, fun j x hj => ?_⟩
    obtain ⟨hj', e⟩ := List.getElem?_eq_some_iff.1 hj
    simp only [List.length_map, List.length_range] at hj'
    simp only [List.getElem_map, List.getElem_range] at e
    subst e
    have g : ∀ o u, (f j).cells[o]? = some u → w.cell? ⟨a.block, a.off + j * 4 + o, none⟩ = some u := fun o u ho => by
      have := (hfq j hj').2 o u ho
      have h2 := add_at a.block a.off (j * 4 + o)
      rw [← ha] at h2
      rw [h2] at this
      rw [Nat.add_assoc]
      exact this
    exact ⟨g 0 _ rfl, g 1 _ rfl, g 2 _ rfl, g 3 _ rfl⟩
theorem th_of_trod {fuel : Nat} {c : Value} {x : DataW H × List MemPlace} (h : DataW.trod enc Tryd.prog w base spare held fuel 45 [c] = some x) : ∃ (A : Option Addr) (ts : List Q4) (cap : Nat), c = .slice A ts.length cap ∧ R4 w w.heap.size A ts ∧ (∀ t ∈ ts, (Lit.int .i64 t.a).wf = true) ∧ ts.length ≤ 9223372036854775807 := by
  rcases Go.Deep.open_slice Tryd.underlying45 h with ⟨h1, _⟩ | ⟨a, len, cap, m, n', D, Pl, h1, hb, hle, hmax, hm, _, hx⟩
  · simp only [List.cons.injEq, and_true] at h1
    rw [h1]
    exact ⟨none, [], 0, rfl, fun h => by simp at h, fun t h => by simp at h, by simp⟩
  · simp only [List.cons.injEq, and_true] at h1
    rw [h1]
    have hlm : len ≤ m := by rw [hm]; split <;> omega
    have each : ∀ i, i < len → ∃ q : Q4, (Lit.int .i64 q.a).wf = true ∧ ∀ o u, q.cells[o]? = some u → w.cell? (a.add (i * 4 + o)) = some u := by
      intro i hi
      obtain ⟨cs, hcs, ht'⟩ := hx i (by omega)
      rw [cells_th] at hcs
      obtain ⟨q1, _, rfl, w1, q2, _, rfl, w2, q3, _, rfl, w3, q4, _, rfl, w4, rfl⟩ := leafy_of_trod 3 82 _ n' cs _ leaves_th ht'
      obtain ⟨_, _, hcell⟩ := World.cells?_some hcs
      refine ⟨⟨q1, q2, q3, q4⟩, w1, fun o u hu => ?_⟩
      have ho : o < 4 := (List.getElem?_eq_some_iff.1 hu).1
      have := hcell o ho
      rw [Go.Deep.add_add] at this
      rw [this, ← hu]
      simp [Q4.cells]
    obtain ⟨f, hfq⟩ := Go.Deep.choose_lt (α := Q4) (p := fun i q => (Lit.int .i64 q.a).wf = true ∧ ∀ o u, q.cells[o]? = some u → w.cell? (a.add (i * 4 + o)) = some u) each
    refine ⟨some a, (List.range len).map f, cap, by simp, fun h0 => ?_, (fun t ht => by obtain ⟨i, hi, rfl⟩ := List.mem_map.1 ht; exact (hfq i (List.mem_range.1 hi)).1), by simp; unfold maxLen at hmax; omega⟩
    simp only [List.length_map, List.length_range] at h0
    obtain ⟨hlt, ha⟩ := cell_some_lt ((hfq 0 h0).2 0 _ rfl)
    have e0 : a.add (0 * 4 + 0) = a := by simp [Addr.add]
    rw [e0] at hlt ha
    refine ⟨a.block, a.off, by rw [← ha], hlt, fun j x hj => ?_⟩
    obtain ⟨hj', e⟩ := List.getElem?_eq_some_iff.1 hj
    simp only [List.length_map, List.length_range] at hj'
    simp only [List.getElem_map, List.getElem_range] at e
    subst e
    have g : ∀ o u, (f j).cells[o]? = some u → w.cell? ⟨a.block, a.off + j * 4 + o, none⟩ = some u := fun o u ho => by
      have := (hfq j hj').2 o u ho
      have h2 := add_at a.block a.off (j * 4 + o)
      rw [← ha] at h2
      rw [h2] at this
      rw [Nat.add_assoc]
      exact this
    exact ⟨g 0 _ rfl, g 1 _ rfl, g 2 _ rfl, g 3 _ rfl⟩
set_option maxRecDepth 100000 in
/-- A configuration, by value. -/
theorem open_cfg {r : Reach} {b0 : Nat} {v : Value} {d : DataW H} {p : List MemPlace} (hv : Value.okWide Tryd.prog w r b0 47 v) (h : DataW.Trod enc Tryd.prog w base spare held 47 v d p) :
    ∃ (c : Cf) (At : Option Addr) (ct : Nat) (Al : Option Addr) (cl : Nat) (Ah : Option Addr) (ch : Nat), v = .agg #[.int .i64 c.mn, .int .i64 c.mx, .int .i64 c.sw, .slice At c.ts.length ct, .slice Al c.ls.length cl, .slice Ah c.hs.length ch] ∧ RT w w.heap.size At c.ts ∧ R4 w w.heap.size Al c.ls ∧ R4 w w.heap.size Ah c.hs ∧ ∀ t ∈ c.ts, 0 ≤ t.k := by
  obtain ⟨cs, rfl, hcz⟩ := okWide_struct Tryd.underlying47 hv
  obtain ⟨c0, c1, c2, c3, c4, c5, rfl⟩ := array6 (hcz.trans cells_cfg)
  obtain ⟨fuel, hf⟩ := h
  obtain ⟨xs, n, _, hx, _, hlen, hfld⟩ := DataW.trod_struct Tryd.underlying47 hf
  have hlen5 : xs.length = 5 := hlen
  have f0 : DataW.trod enc Tryd.prog w base spare held n 42 [c0, c1] = some xs[0] := by
    have h := hfld 0 _ rfl
    rw [List.getElem?_eq_getElem (by omega)] at h
    simpa [Value.cells, cells_tm] using h
  have f1 : DataW.trod enc Tryd.prog w base spare held n 2 [c2] = some xs[1] := by
    have h := hfld 1 _ rfl
    rw [List.getElem?_eq_getElem (by omega)] at h
    simpa [Value.cells, cells_i64] using h
  have f2' : DataW.trod enc Tryd.prog w base spare held n 43 [c3] = some xs[2] := by
    have h := hfld 2 _ rfl
    rw [List.getElem?_eq_getElem (by omega)] at h
    simpa [Value.cells, cells_ts] using h
  have f3 : DataW.trod enc Tryd.prog w base spare held n 44 [c4] = some xs[3] := by
    have h := hfld 3 _ rfl
    rw [List.getElem?_eq_getElem (by omega)] at h
    simpa [Value.cells, cells_lns] using h
  have f4 : DataW.trod enc Tryd.prog w base spare held n 45 [c5] = some xs[4] := by
    have h := hfld 4 _ rfl
    rw [List.getElem?_eq_getElem (by omega)] at h
    simpa [Value.cells, cells_ths] using h
  obtain ⟨a1, _, e1, _, a2, _, e2, wf2, e3⟩ := leafy_of_trod 3 42 _ n _ _ leaves_tm f0
  simp only [List.cons.injEq] at e1
  obtain ⟨rfl, rfl⟩ := e1
  simp only [List.cons.injEq] at e2
  obtain ⟨rfl, rfl⟩ := e2
  obtain ⟨a3, e4, _⟩ := DataW.trod_int Tryd.underlying2 f1
  simp only [List.cons.injEq, and_true] at e4
  subst e4
  obtain ⟨At, ts, ct, rfl, hR, hwp, hl⟩ := rT_of_trod f2'
  obtain ⟨Al, ls, cl, rfl, hR2, _, hl2⟩ := ln_of_trod f3
  obtain ⟨Ah, hs, ch, rfl, hR3, hwh, hl3⟩ := th_of_trod f4
  exact ⟨⟨a1, a2, a3, ts, ls, hs⟩, At, ct, Al, cl, Ah, ch, rfl, hR, hR2, hR3, hwp⟩
end
end Go.Proofs.YtfneloplbkjbhaaDoor
