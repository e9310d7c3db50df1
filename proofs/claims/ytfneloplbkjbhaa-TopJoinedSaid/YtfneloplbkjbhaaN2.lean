/-
  The walks of storm.New, irq.New (of one line), vet.line.
-/
import Derived.Test.YtfneloplbkjbhaaN1
import Derived.Laws.OwnMore
import Derived.Laws.Rows
import Derived.Laws.CopyRow
import Derived.Deep.AppendLies
import Derived.Deep.RegionLaw
import Derived.Deep.DeepCutAuto
import Derived.Deep.CutRange
namespace Go.Proofs.Ytfneloplbkjbhaa
open Go.RowKit
set_option linter.unusedVariables false
section
variable {P : Program}
/-- A struct is stored at a block's head: its world. -/
theorem run_storeVar_part (w : World) (g : Nat) (t ty : TypeId) (cs new : Array Value) (hg : w.heap[g]? = some (.cells cs t (0, 0)))
    (hi : (P.info? ty).map (·.size) = some new.size) (hs : new.size ≤ cs.size) (h1 : ∀ v ∈ new.toList, v.oneCell' = true) :
    (storeVar ty ⟨g, 0, none⟩ (.agg new)).run P w = .ok () (w.setRow g (new.toList ++ cs.toList.drop new.size).toArray) := by
  cases hq : P.info? ty with
  | none => simp [hq] at hi
  | some i =>
    have hsz : i.size = new.size := by simpa [hq] using hi
    have hst := run_storeCells_at (P := P) g 0 t new.toList 0 cs w hg (by simp; omega) h1
    simp only [Nat.add_zero, List.take_zero, List.nil_append, Nat.zero_add, Array.length_toList] at hst
    simp [storeVar, Sem.run_bind, sizeOf, typeInfo, hq, hsz, Value.cells, hst]
theorem wpList_store_part {ops : Array Oper} {rest : List Oper} {o : Oper} {a : Act} {w : World} {Q : Exit → Act → World → Prop} (hgd : o.guard = none) (ty : TypeId) (x y : Operand) (ho : o.op = .store ty x y)
    (g : Nat) (hx : a.eval x = .pointer (some ⟨g, 0, none⟩)) (new : Array Value) (hy : a.eval y = .agg new) (t : TypeId) (cs : Array Value) (hg : w.heap[g]? = some (.cells cs t (0, 0)))
    (hi : (P.info? ty).map (·.size) = some new.size) (hs : new.size ≤ cs.size) (h1 : ∀ v ∈ new.toList, v.oneCell' = true)
    (h : ∀ w', (∀ B, B ≤ g → Below B w w') → wpList P ops Q rest (a.put o.dst undef) w') : wpList P ops Q (o :: rest) a w := by
  refine wpList_plain hgd fun _ hK => ?_
  unfold Oper.wp execOp
  simp only [ho, hx, hy, Instr.storeAt, Instr.sureAddr, Sem.run_bind, Sem.run_pure, Result.andThen_ok, run_storeVar_part w g t ty cs new hg hi hs h1]
  exact hK _ _ (h _ fun B hB => ⟨rfl, rfl, rfl, by simp, fun i hi => setRow_other w g i _ (by omega)⟩)
end
theorem info_i64N : (Try.prog.info? 2).map (fun i => (i.zero, i.size, i.bytes)) = some (some (.int .i64 0), 1, 8) := by kernel_rfl
theorem make_i64N (n : Nat) (hn : n ≤ 4096) : ∃ X : Array Value, ∀ W, (Instr.makeSlice 66 (.int .i64 n) (.int .i64 n)).run Try.prog W = .ok (.slice (some ⟨W.heap.size, 0, none⟩) n n) (W.alloc (.cells X 2)) := by
  obtain ⟨i0, hi, hz0, hz1, hz2⟩ := info_parts info_i64N
  refine ⟨madeCells (Value.int .i64 0).cells n, fun W => ?_⟩
  have := run_make (P := Try.prog) W 66 2 i0 _ Try.underlying66 hi hz0 .i64 .i64 n n (by omega) (by omega) (by rw [hz2]; omega) (by omega)
  rw [hz1] at this
  simpa using this
/-- A storm's mask. -/
theorem storm_ok (many win : Int) (h1 : 1 ≤ many) (h2 : many ≤ 64) (h3 : 1 ≤ win) (h4 : win ≤ 1099511627776) (w : World) :
    Calls Try.prog 47 #[.int .i64 many, .int .i64 win] w fun e w' => (∃ a, e = .returned (.tuple #[.pointer (some a), .int .i64 0])) ∧ Below w.heap.size w w' := by
  obtain ⟨m, rfl⟩ : ∃ m : Nat, many = (m : Int) := ⟨many.toNat, by omega⟩
  obtain ⟨X, mk1⟩ := make_i64N m (by omega)
  go_enter Try.func47, Try.ntmps47
  go_wp2
  all_goals go_ret2
  all_goals exact ⟨⟨_, rfl⟩, ((Below.refl _ _).alloc (Nat.le_refl _) _).alloc (by simp) _⟩
theorem storm_bad (many win : Int) (h : ¬ (1 ≤ many ∧ many ≤ 64 ∧ 1 ≤ win ∧ win ≤ 1099511627776)) (w : World) :
    Calls Try.prog 47 #[.int .i64 many, .int .i64 win] w fun e w' => e = .returned (.tuple #[.pointer none, .int .i64 1]) ∧ Below w.heap.size w w' := by
  by_cases h1 : many < 1
  · have d1 : decide (many < 1) = true := decide_eq_true h1
    clear h
    go_enter Try.func47, Try.ntmps47
    go_wp2
    go_ret2
    exact ⟨rfl, Below.refl _ _⟩
  · have d1 : decide (many < 1) = false := decide_eq_false h1
    by_cases h2 : 64 < many
    · have d2 : decide (64 < many) = true := decide_eq_true h2
      clear h h1
      go_enter Try.func47, Try.ntmps47
      go_wp2
      go_ret2
      exact ⟨rfl, Below.refl _ _⟩
    · have d2 : decide (64 < many) = false := decide_eq_false h2
      by_cases h3 : win < 1
      · have d3 : decide (win < 1) = true := decide_eq_true h3
        clear h h1 h2
        go_enter Try.func47, Try.ntmps47
        go_wp2
        go_ret2
        exact ⟨rfl, Below.refl _ _⟩
      · have d3 : decide (win < 1) = false := decide_eq_false h3
        have d4 : decide (1099511627776 < win) = true := decide_eq_true (by omega)
        clear h h1 h2 h3
        go_enter Try.func47, Try.ntmps47
        go_wp2
        go_ret2
        exact ⟨rfl, Below.refl _ _⟩
theorem info_ln : (Try.prog.info? 116).map (fun i => (i.zero, i.size, i.bytes)) = some (some (.agg #[.pointer none, .int .i64 0, .int .i64 0, .int .i64 0, .int .i64 0]), 5, 40) := by kernel_rfl
theorem info_intN : (Try.prog.info? 3).map (fun i => (i.zero, i.size, i.bytes)) = some (some (.int .i64 0), 1, 8) := by kernel_rfl
def irqB (x : Q4) : Bool := decide (1 ≤ x.c ∧ x.c ≤ 64 ∧ 1 ≤ x.d ∧ x.d ≤ 1099511627776) && decide (1 ≤ x.b ∧ x.b ≤ 1099511627776) && !oddP x.a
abbrev qC (L : Value) : Array Value := #[.int .u64 0, .int .u64 0, .int .u64 0, .int .u64 0, .slice none 0 0, .int .i64 0, .slice none 0 0, L, .slice none 0 0, .int .u64 0, .int .i64 0]
set_option maxRecDepth 100000 in
set_option maxHeartbeats 8000000 in
theorem irq_any (x : Q4) (A : Option Addr) (cap : Nat) (w : World) (h : R4 w w.heap.size A [x]) :
    Calls Try.prog 42 #[.slice A 1 cap] w fun e w' => (∃ v, e = .returned (.tuple #[v, .int .i64 (if irqB x = true then 0 else 1)])) ∧ Below w.heap.size w w' := by
  obtain ⟨b, off, rfl, hbB, hc⟩ := h (by simp)
  obtain ⟨c1, c2, c3, c4⟩ := hc 0 x rfl
  obtain ⟨pr, tp, mn, wi⟩ := x
  simp only [Nat.zero_mul, Nat.add_zero] at c1 c2 c3 c4
  obtain ⟨i0, hi0, hz0, hz1, hz2⟩ := info_parts info_ln
  obtain ⟨j0, hj0, hj1, hj2, hj3⟩ := info_parts info_intN
  clear hc h
  have HB0 := Kept.mk (show irqB ⟨pr, tp, mn, wi⟩ = (decide (1 ≤ mn ∧ mn ≤ 64 ∧ 1 ≤ wi ∧ wi ≤ 1099511627776) && decide (1 ≤ tp ∧ tp ≤ 1099511627776) && !oddP pr) from rfl)
  obtain ⟨y, hy⟩ : ∃ y : Int, y = (if irqB ⟨pr, tp, mn, wi⟩ = true then 0 else 1) := ⟨_, rfl⟩
  rw [← hy]
  have HY := Kept.mk hy
  clear hy
  go_enter Try.func42, Try.ntmps42
  go_upto_region 3 with fail
  obtain ⟨w0, hw0⟩ : ∃ w0, w0 = (w.alloc (.cells (qC (.slice none 0 0)) 111)).alloc (.cells #[] 3) := ⟨_, rfl⟩
  obtain ⟨q, hq⟩ : ∃ q, q = w.heap.size := ⟨_, rfl⟩
  obtain ⟨R, hR⟩ : ∃ R, R = w.heap.size + 1 := ⟨_, rfl⟩
  have z1 : (w.alloc (.cells (qC (.slice none 0 0)) 111)).heap.size = w.heap.size + 1 := by simp
  have b1 := below_box w (.cells (qC (.slice none 0 0)) 111)
  have b2 := below_box (w.alloc (.cells (qC (.slice none 0 0)) 111)) (.cells #[] 3)
  rw [← hw0] at b2
  have hqc : w0.heap[q]? = some (.cells (qC (.slice none 0 0)) 111) := by
    rw [hq, b2.block _ (by rw [z1]; omega)]; exact heap_alloc_new _ _
  have HB := Kept.mk (show Below q w w0 by rw [hq]; exact b1.trans (b2.mono (by rw [z1]; omega)))
  have HO := Kept.mk (show w0.ownsRow R 3 1 (.slice (some ⟨R, 0, none⟩) 0 0) 0 [] by
    rw [hw0, hR, ← z1]; exact World.ownsRow_made _ #[] 0 (Nat.le_refl _) (by decide) rfl)
  have hsz : R + 1 ≤ w0.heap.size := by rw [hw0, hR]; simp
  have HQ := Kept.mk hqc
  have hqR : q + 1 = R := by omega
  have d1 := (HB.out.cell (p := ⟨b, off, none⟩) (by show b < q; omega)).trans c1
  have d2 := (HB.out.cell (p := ⟨b, off + 1, none⟩) (by show b < q; omega)).trans c2
  have d3 := (HB.out.cell (p := ⟨b, off + 2, none⟩) (by show b < q; omega)).trans c3
  have d4 := (HB.out.cell (p := ⟨b, off + 3, none⟩) (by show b < q; omega)).trans c4
  rw [← hw0, ← hR, ← hq]
  have hbq : b < q := by omega
  have HWQ := Kept.mk hq
  clear hq hw0 hR b1 b2 z1 hqc c1 c2 c3 c4 hbB
  go_wp2_with fail
  go_loopw [5, 17] (fun u t wr => (t = .int .i64 0 ∧ u = .slice (some ⟨R, 0, none⟩) 0 0 ∧ wr = w0) ∨ (t = .int .i64 1 ∧ Kept ((decide (1 ≤ mn ∧ mn ≤ 64 ∧ 1 ≤ wi ∧ wi ≤ 1099511627776) && decide (1 ≤ tp ∧ tp ≤ 1099511627776)) = true) ∧ ∃ (A5 : Option Addr) (c5 : Nat) (Lq : Value), u = .slice A5 1 c5 ∧ wr.ownsRow R 3 1 (.slice A5 1 c5) 1 [.int .i64 pr] ∧ wr.heap[q]? = some (.cells (qC Lq) 111) ∧ R ≤ wr.heap.size ∧ Below q w wr)) (fun _ t _ => 1 - (intOf t).toNat)
  case atStart => exact .inl ⟨rfl, rfl, rfl⟩
  case round =>
    rcases hrel with ⟨rfl, rfl, rfl⟩ | ⟨rfl, hK, A5, c5, Lq, rfl, hO, hqc, hsz2, hb⟩
    · go_upto_region 6 with fail
      obtain ⟨wa, hwa⟩ : ∃ wa, wa = wr.alloc (.cells #[.int .i64 pr, .int .i64 tp, .int .i64 mn, .int .i64 wi] 78) := ⟨_, rfl⟩
      obtain ⟨xb, hxb⟩ : ∃ xb, xb = wr.heap.size := ⟨_, rfl⟩
      have hxc : wa.heap[xb]? = some (.cells #[.int .i64 pr, .int .i64 tp, .int .i64 mn, .int .i64 wi] 78) := by rw [hwa, hxb]; exact heap_alloc_new _ _
      have hba : Below xb wr wa := by rw [hwa, hxb]; exact below_box wr _
      have hqa : wa.heap[q]? = some (.cells (qC (.slice none 0 0)) 111) := (hba.block q (by omega)).trans HQ.out
      have HBA := Kept.mk (show Below q w wa from HB.out.trans (hba.mono (by omega)))
      have HOA := Kept.mk (show wa.ownsRow R 3 1 (.slice (some ⟨R, 0, none⟩) 0 0) 0 [] by rw [hwa]; exact HO.out.alloc _)
      have hxs : xb < wa.heap.size := by rw [hwa, hxb]; simp
      have hqx : q < xb := by omega
      have hRx : R < xb := by omega
      rw [← hwa, ← hxb]
      have HXC := Kept.mk hxc
      have HQA := Kept.mk hqa
      have x0 : wa.cell? ⟨xb, 0, none⟩ = some (.int .i64 pr) := cell_of_row _ _ 0 _ _ _ hxc
      have x1 : wa.cell? ⟨xb, 1, none⟩ = some (.int .i64 tp) := cell_of_row _ _ 1 _ _ _ hxc
      have x2 : wa.cell? ⟨xb, 2, none⟩ = some (.int .i64 mn) := cell_of_row _ _ 2 _ _ _ hxc
      have x3 : wa.cell? ⟨xb, 3, none⟩ = some (.int .i64 wi) := cell_of_row _ _ 3 _ _ _ hxc
      clear hwa hxb hxc hba hqa d1 d2 d3 d4 HB HQ HO hsz
      by_cases hs : 1 ≤ mn ∧ mn ≤ 64 ∧ 1 ≤ wi ∧ wi ≤ 1099511627776
      · have HS := Kept.mk (storm_ok mn wi hs.1 hs.2.1 hs.2.2.1 hs.2.2.2 wa)
        have HY2 := Kept.mk (show y = if (decide (1 ≤ tp ∧ tp ≤ 1099511627776) && !oddP pr) = true then 0 else 1 by rw [HY.out, HB0.out, decide_eq_true hs]; rfl)
        have HK1 := Kept.mk (decide_eq_true hs)
        clear hs HY HB0
        go_wp2_with fail
        refine HS.out.mono ?_
        rintro e w5 ⟨⟨sa, rfl⟩, hb5⟩
        have HB5 := Kept.mk (HBA.out.trans (hb5.mono (by omega)))
        have hx5 : w5.heap[xb]? = some (.cells #[.int .i64 pr, .int .i64 tp, .int .i64 mn, .int .i64 wi] 78) := (hb5.block xb hxs).trans HXC.out
        have hq5 : w5.heap[q]? = some (.cells (qC (.slice none 0 0)) 111) := (hb5.block q (by omega)).trans HQA.out
        have HO5 := Kept.mk (own_below HOA.out hb5)
        have hx5s : xb < w5.heap.size := lt_of_block hx5
        have hq5s : q < w5.heap.size := by omega
        have u1 : w5.cell? ⟨xb, 1, none⟩ = some (.int .i64 tp) := cell_of_row _ _ 1 _ _ _ hx5
        have HX5 := Kept.mk hx5
        have HQ5 := Kept.mk hq5
        clear hb5 hx5 hq5 x0 x1 x2 x3 hxs HOA
        by_cases hp : 1 ≤ tp ∧ tp ≤ 1099511627776
        · have p1 : decide (tp < 1) = false := decide_eq_false (by omega)
          have p2 : decide (1099511627776 < tp) = false := decide_eq_false (by omega)
          have HK2 := Kept.mk (show (decide (1 ≤ mn ∧ mn ≤ 64 ∧ 1 ≤ wi ∧ wi ≤ 1099511627776) && decide (1 ≤ tp ∧ tp ≤ 1099511627776)) = true by rw [HK1.out, decide_eq_true hp]; rfl)
          clear hp HY2 HK1
          have v7 : w5.cell? ⟨q, 7, none⟩ = some (.slice none 0 0) := cell_of_row _ _ 7 _ _ _ HQ5.out
          have vf : w5.frozen? ⟨q, 7, none⟩ = false := frozen_of_row _ _ 7 _ _ HQ5.out
          have HN7 := Kept.mk (show ∀ j u, [Value.pointer (some sa), .int .i64 0, .int .i64 0, .int .i64 0, .int .i64 0][j]? = some u → (w5.alloc (.cells #[.pointer (some sa), .int .i64 0, .int .i64 0, .int .i64 0, .int .i64 0] 116)).cell? ((⟨w5.heap.size, 0, none⟩ : Addr).add j) = some u from World.news_of_block (cs := #[.pointer (some sa), .int .i64 0, .int .i64 0, .int .i64 0, .int .i64 0]) (heap_alloc_new w5 _))
          have HO7 := Kept.mk (show (w5.alloc (.cells #[.pointer (some sa), .int .i64 0, .int .i64 0, .int .i64 0, .int .i64 0] 116)).ownsRow (xb + 1) 116 5 (.slice none 0 0) 0 [] from ⟨rfl, .inl ⟨rfl, rfl⟩⟩)
          have HS7 := Kept.mk (show xb + 1 ≤ (w5.alloc (.cells #[.pointer (some sa), .int .i64 0, .int .i64 0, .int .i64 0, .int .i64 0] 116)).heap.size by simp; omega)
          have HF := Kept.mk (fun (w7 : World) (hg : (w5.alloc (.cells #[.pointer (some sa), .int .i64 0, .int .i64 0, .int .i64 0, .int .i64 0] 116)).grownBy w7 (Value.slice none 0 0).ownBlock) => show w7.cell? ⟨q, 7, none⟩ = some (.slice none 0 0) ∧ w7.frozen? ⟨q, 7, none⟩ = false ∧ ∀ u, ((w7.setCell ⟨q, 7, none⟩ u).cell? ⟨xb, 0, none⟩ = some (.int .i64 pr) ∧ (w7.setCell ⟨q, 7, none⟩ u).heap[q]? = some (.cells (qC u) 111) ∧ (w7.setCell ⟨q, 7, none⟩ u).ownsRow R 3 1 (.slice (some ⟨R, 0, none⟩) 0 0) 0 [] ∧ xb < (w7.setCell ⟨q, 7, none⟩ u).heap.size) ∧ Below q w (w7.setCell ⟨q, 7, none⟩ u) from by
            have hb6 : Below (xb + 1) w5 (w5.alloc (.cells #[.pointer (some sa), .int .i64 0, .int .i64 0, .int .i64 0, .int .i64 0] 116)) := (Below.refl _ _).alloc (by omega) _
            have hb7 : Below (xb + 1) w5 w7 := hb6.grown hg HS7.out fun k hk => (HO7.out.lt k hk).1
            have hx7 := (hb7.block xb (Nat.lt_succ_self _)).trans HX5.out
            have hq7 := (hb7.block q (by omega)).trans HQ5.out
            have ho7 : w7.ownsRow R 3 1 (.slice (some ⟨R, 0, none⟩) 0 0) 0 [] := by
              refine ⟨HO5.out.1, ?_⟩
              rcases HO5.out.2 with e | ⟨g, cap', cur, e1, e2, e3, e4⟩
              · exact .inl e
              · have hgR : g = R := by simp at e1; exact e1.1.symm
                exact .inr ⟨g, cap', cur, e1, e2, (hb7.block g (by omega)).trans e3, e4⟩
            refine ⟨cell_of_row _ _ 7 _ _ _ hq7, frozen_of_row _ _ 7 _ _ hq7, fun u => ⟨⟨?_, ?_, ?_, ?_⟩, (HB5.out.trans (hb7.mono (by omega))).setCell (p := ⟨q, 7, none⟩) (Nat.le_refl _) u⟩⟩
            · rw [World.cell?_setCell_other _ _ _ _ (by simp <;> omega)]; exact cell_of_row _ _ 0 _ _ _ hx7
            · rw [heap_setCell_same w7 q 7 _ _ u hq7]; rfl
            · refine ho7.kept (row := some q) ⟨rfl, rfl, rfl, by simp, fun i _ hi => Below.heap_setCell _ _ _ _ (fun e => hi (by rw [e]))⟩ ?_
              right; intro e'; simp [Value.ownBlock] at e'; omega
            · have := lt_of_block hx7; simp; omega)
          have HF2 := Kept.mk (fun (u : Value) (w7 : World) (h : (w7.cell? ⟨xb, 0, none⟩ = some (.int .i64 pr) ∧ w7.heap[q]? = some (.cells (qC u) 111) ∧ w7.ownsRow R 3 1 (.slice (some ⟨R, 0, none⟩) 0 0) 0 [] ∧ xb < w7.heap.size) ∧ Below q w w7) => show (w7.alloc (.cells #[.int .i64 pr] 3)).ownsRow R 3 1 (.slice (some ⟨R, 0, none⟩) 0 0) 0 [] ∧ R ≤ (w7.alloc (.cells #[.int .i64 pr] 3)).heap.size ∧ (∀ j x, [Value.int .i64 pr][j]? = some x → (w7.alloc (.cells #[.int .i64 pr] 3)).cell? ((⟨w7.heap.size, 0, none⟩ : Addr).add j) = some x) ∧ ∀ w9, (w7.alloc (.cells #[.int .i64 pr] 3)).grownBy w9 (Value.slice (some ⟨R, 0, none⟩) 0 0).ownBlock → w9.heap[q]? = some (.cells (qC u) 111) ∧ R ≤ w9.heap.size ∧ Below q w w9 from by
            have hs := h.1.2.2.2
            refine ⟨h.1.2.2.1.alloc _, by simp; omega, World.news_of_block (cs := #[.int .i64 pr]) (heap_alloc_new w7 _), fun w9 hg => ?_⟩
            have hb8 : Below R w7 (w7.alloc (.cells #[.int .i64 pr] 3)) := (Below.refl _ _).alloc (by omega) _
            have hb9 : Below R w7 w9 := hb8.grown hg (by simp; omega) fun k hk => (h.1.2.2.1.lt k hk).1
            exact ⟨(hb9.block q (by omega)).trans h.1.2.1, by have := hb9.size; omega, h.2.trans (hb9.mono (by omega))⟩)
          go_wp2_with (first
            | (at_builtin; refine wpList_append_lies _ rfl _ _ 108 rfl (xb + 1) 116 i0 (.agg #[.pointer none, .int .i64 0, .int .i64 0, .int .i64 0, .int .i64 0]) 5 40 Try.underlying108 hi0 hz0 hz1 hz2 rfl (by decide) (.slice none 0 0) 0 [] rfl HO7.out ⟨w5.heap.size, 0, none⟩ 1 1 [.pointer (some sa), .int .i64 0, .int .i64 0, .int .i64 0, .int .i64 0] rfl rfl HN7.out (by simp [Value.oneCell']) (by decide) (by simp only [maxLen]; omega) (by omega) HS7.out _ rfl ?_; intro g7 cap7 w7 own7 grow7 _ _; obtain ⟨r1, r2, r3⟩ := HF.out w7 grow7; have HR3 := Kept.mk (HF2.out _ _ (r3 (.slice (some ⟨g7, 0, none⟩) 1 cap7))); have r4 := (r3 (.slice (some ⟨g7, 0, none⟩) 1 cap7)).1.1; have HN9 := Kept.mk (show ∀ j x, [Value.int .i64 pr][j]? = some x → ((w7.setCell ⟨q, 7, none⟩ (.slice (some ⟨g7, 0, none⟩) 1 cap7)).alloc (.cells #[.int .i64 pr] 3)).cell? ((⟨w7.heap.size, 0, none⟩ : Addr).add j) = some x by have h := HR3.out.2.2.1; rwa [show (w7.setCell ⟨q, 7, none⟩ (.slice (some ⟨g7, 0, none⟩) 1 cap7)).heap.size = w7.heap.size by simp] at h); have r5 := (r3 (.slice (some ⟨g7, 0, none⟩) 1 cap7)).1.2.2.2; clear own7 grow7 r3)
            | (at_builtin; refine wpList_append_lies _ rfl _ _ 103 rfl R 3 j0 (.int .i64 0) 1 8 Try.underlying103 hj0 hj1 hj2 hj3 rfl (by decide) (.slice (some ⟨R, 0, none⟩) 0 0) 0 [] rfl HR3.out.1 ⟨w7.heap.size, 0, none⟩ 1 1 [.int .i64 pr] rfl rfl HN9.out (by simp [Value.oneCell']) (by decide) (by simp only [maxLen]; omega) (by omega) HR3.out.2.1 _ rfl ?_; intro g9 cap9 w9 own9 grow9 _ _; have HR9 := Kept.mk (HR3.out.2.2.2 w9 grow9); have HO9 := Kept.mk own9; clear own9 grow9))
          go_roundw
          case rel => exact .inr ⟨by go_num, HK2, _, _, _, rfl, HO9.out, HR9.out.1, HR9.out.2.1, HR9.out.2.2⟩
          case measure => simp [intOf]
        · have HF := Kept.mk (show y = 1 by rw [HY2.out, decide_eq_false hp]; rfl)
          by_cases h1 : tp < 1
          · have p1 : decide (tp < 1) = true := decide_eq_true h1
            clear hp h1
            go_wp2
            go_ret2
            exact ⟨⟨.pointer none, by rw [HF.out] <;> rfl⟩, by rw [← HWQ.out]; exact HB5.out⟩
          · have p1 : decide (tp < 1) = false := decide_eq_false h1
            have p2 : decide (1099511627776 < tp) = true := decide_eq_true (by omega)
            clear hp h1
            go_wp2
            go_ret2
            exact ⟨⟨.pointer none, by rw [HF.out] <;> rfl⟩, by rw [← HWQ.out]; exact HB5.out⟩
      · have HS := Kept.mk (storm_bad mn wi hs wa)
        have HF := Kept.mk (show y = 1 by rw [HY.out, HB0.out, decide_eq_false hs]; rfl)
        clear hs
        go_wp2_with fail
        refine HS.out.mono ?_
        rintro e w5 ⟨rfl, hb5⟩
        have HB5 := Kept.mk (HBA.out.trans (hb5.mono (by omega)))
        clear hb5
        go_wp2
        go_ret2
        exact ⟨⟨.pointer none, by rw [HF.out] <;> rfl⟩, by rw [← HWQ.out]; exact HB5.out⟩
    · have HY2 := Kept.mk (show y = if (!oddP pr) = true then 0 else 1 by rw [HY.out, HB0.out, hK.out]; rfl)
      have HI := Kept.mk (Ints.of_own (xs := [pr]) hO).2
      have hA5 := own_nil hO
      have HMK := Kept.mk (show (btN 0 0 : Int) = (mk [pr] : Int) by unfold mk; rfl)
      have HBT := Kept.mk (fun W => between_any 0 0 W (by decide))
      have HQC := Kept.mk hqc
      have hqs : q < wr.heap.size := lt_of_block hqc
      have HB2 := Kept.mk hb
      cases ho : oddP pr with
      | true =>
        have HF := Kept.mk (show y = 1 by rw [HY2.out, ho]; rfl)
        have HM := Kept.mk (make_bad A5 [pr] c5 wr HI.out hA5 (by simp) (.inr (.inr (by simp [ho]))))
        clear hK hO hqc HY HB0 HY2 ho hb hA5
        go_wp2_with ((go_at_call 49; refine (HBT.out _).mono ?_; rintro e w' ⟨rfl, rfl⟩))
        rw [HMK.out]
        refine HM.out.mono ?_
        rintro e w5 ⟨rfl, hb5⟩
        have HB5 := Kept.mk (HB2.out.trans (hb5.mono (by omega)))
        have hq5z : q ≤ w5.heap.size := by have := hb5.size; omega
        clear hb5
        go_wp2
        go_ret2
        exact ⟨⟨.pointer none, by rw [HF.out] <;> rfl⟩, by rw [← HWQ.out]; exact HB5.out.trans ((below_box _ _).mono hq5z)⟩
      | false =>
        have HF := Kept.mk (show y = 0 by rw [HY2.out, ho]; rfl)
        have HM := Kept.mk (make_any A5 [pr] c5 wr HI.out hA5 (by simp) (by simp) (by simp [ho]))
        clear hK hO hqc HY HB0 HY2 ho hb hA5
        go_wp2_with ((go_at_call 49; refine (HBT.out _).mono ?_; rintro e w' ⟨rfl, rfl⟩))
        rw [HMK.out]
        refine HM.out.mono ?_
        rintro e w5 ⟨c, rfl, hC, hb5, _⟩
        obtain ⟨Ap, cp, As, cs, rfl, _⟩ := hC.of
        have HB5 := Kept.mk (HB2.out.trans (hb5.mono (by omega)))
        have hq5 : w5.heap[q]? = some (.cells (qC Lq) 111) := (hb5.block q hqs).trans HQC.out
        have hq5s : q < w5.heap.size := lt_of_block hq5
        have m0 : w5.cell? ⟨q, 0, none⟩ = some (.int .u64 0) := cell_of_row _ _ 0 _ _ _ hq5
        have m1 : w5.cell? ⟨q, 1, none⟩ = some (.int .u64 0) := cell_of_row _ _ 1 _ _ _ hq5
        have m2 : w5.cell? ⟨q, 2, none⟩ = some (.int .u64 0) := cell_of_row _ _ 2 _ _ _ hq5
        have m3 : w5.cell? ⟨q, 3, none⟩ = some (.int .u64 0) := cell_of_row _ _ 3 _ _ _ hq5
        have m4 : w5.cell? ⟨q, 4, none⟩ = some (.slice none 0 0) := cell_of_row _ _ 4 _ _ _ hq5
        have m5 : w5.cell? ⟨q, 5, none⟩ = some (.int .i64 0) := cell_of_row _ _ 5 _ _ _ hq5
        have m6 : w5.cell? ⟨q, 6, none⟩ = some (.slice none 0 0) := cell_of_row _ _ 6 _ _ _ hq5
        have mf : ∀ i, w5.frozen? ⟨q, i, none⟩ = false := fun i => frozen_of_row _ _ i _ _ hq5
        have hq6 := hq5
        clear hb5 hC hq5 m0 m1 m2 m3 m4 m5 m6 mf
        unfold iC
        go_upto_region 17 with fail
        have hq7 := ((below_box w5 (.cells #[.int .u64 0, .int .u64 (mk [pr] : Int), .int .u64 0, .int .u64 (mk [pr] : Int), .slice Ap 1 cp, .int .i64 0, .slice As 0 cs] 107)).block q hq5s).trans hq6
        have HB7 := Kept.mk (HB5.out.trans ((below_box w5 (.cells #[.int .u64 0, .int .u64 (mk [pr] : Int), .int .u64 0, .int .u64 (mk [pr] : Int), .slice Ap 1 cp, .int .i64 0, .slice As 0 cs] 107)).mono (by omega)))
        have hz7 := heap_alloc_new w5 (.cells #[.int .u64 0, .int .u64 (mk [pr] : Int), .int .u64 0, .int .u64 (mk [pr] : Int), .slice Ap 1 cp, .int .i64 0, .slice As 0 cs] 107)
        obtain ⟨W7, hW7⟩ : ∃ W7, W7 = w5.alloc (.cells #[.int .u64 0, .int .u64 (mk [pr] : Int), .int .u64 0, .int .u64 (mk [pr] : Int), .slice Ap 1 cp, .int .i64 0, .slice As 0 cs] 107) := ⟨_, rfl⟩
        obtain ⟨z, hz⟩ : ∃ z, z = w5.heap.size := ⟨_, rfl⟩
        obtain ⟨M, hM⟩ : ∃ M : Int, M = (mk [pr] : Int) := ⟨_, rfl⟩
        rw [← hW7] at hq7 HB7
        rw [← hW7, ← hz, ← hM] at hz7
        rw [← hW7, ← hz]
        try rw [← hM]
        have n0 : W7.cell? ⟨z, 0, none⟩ = some (.int .u64 0) := cell_of_row _ _ 0 _ _ _ hz7
        have n1 : W7.cell? ⟨z, 1, none⟩ = some (.int .u64 M) := cell_of_row _ _ 1 _ _ _ hz7
        have n2 : W7.cell? ⟨z, 2, none⟩ = some (.int .u64 0) := cell_of_row _ _ 2 _ _ _ hz7
        have n3 : W7.cell? ⟨z, 3, none⟩ = some (.int .u64 M) := cell_of_row _ _ 3 _ _ _ hz7
        have n4 : W7.cell? ⟨z, 4, none⟩ = some (.slice Ap 1 cp) := cell_of_row _ _ 4 _ _ _ hz7
        have n5 : W7.cell? ⟨z, 5, none⟩ = some (.int .i64 0) := cell_of_row _ _ 5 _ _ _ hz7
        have n6 : W7.cell? ⟨z, 6, none⟩ = some (.slice As 0 cs) := cell_of_row _ _ 6 _ _ _ hz7
        have HQ7 := Kept.mk hq7
        have hinf : (Try.prog.info? 107).map (·.size) = some 7 := by kernel_rfl
        have hsz7 : (#[.int .u64 0, .int .u64 M, .int .u64 0, .int .u64 M, .slice Ap 1 cp, .int .i64 0, .slice As 0 cs] : Array Value).size ≤ (qC Lq).size := by simp
        clear hW7 hz hM hq7 hz7 hq6 hqR hbq hsz2 hq5s hqs HI HM HMK HBT HQC HB2 HB5 hi0 hz0 hz1 hz2 hj0 hj1 hj2 hj3
        go_wp2_with (refine wpList_store_part rfl 107 _ _ rfl q rfl #[.int .u64 0, .int .u64 M, .int .u64 0, .int .u64 M, .slice Ap 1 cp, .int .i64 0, .slice As 0 cs] rfl 111 (qC Lq) HQ7.out hinf hsz7 ?_ ?_; (intro v hv; simp at hv; rcases hv with rfl | rfl | rfl | rfl | rfl | rfl | rfl <;> rfl); intro w9 hb9; have HB9 := Kept.mk (hb9 q (Nat.le_refl _)); clear hb9)
        go_ret2
        refine ⟨⟨.pointer (some ⟨q, 0, none⟩), by rw [HF.out] <;> rfl⟩, ?_⟩
        rw [← HWQ.out]
        exact HB7.out.trans HB9.out
def lnE' (x : Q4) : Int := if irqB x = true then (if 1099511627776 < x.c * x.b then 10 else 0) else 1
set_option maxHeartbeats 2000000 in
theorem vline_any (x : Q4) (w : World) : Calls Try.prog 33 #[.agg #[.int .i64 x.a, .int .i64 x.b, .int .i64 x.c, .int .i64 x.d]] w fun e w' => e = .returned (.int .i64 (lnE' x)) ∧ Below w.heap.size w w' := by
  obtain ⟨pr, tp, mn, wi⟩ := x
  have HC := Kept.mk (fun (W : World) (A : Option Addr) (h : R4 W W.heap.size A [⟨pr, tp, mn, wi⟩]) => irq_any ⟨pr, tp, mn, wi⟩ A 1 W h)
  obtain ⟨o, ho⟩ : ∃ o, o = irqB ⟨pr, tp, mn, wi⟩ := ⟨_, rfl⟩
  have HO := Kept.mk (show o = true → 1 ≤ mn ∧ mn ≤ 64 ∧ 1 ≤ tp ∧ tp ≤ 1099511627776 from fun h => by
    rw [ho] at h; unfold irqB at h; simp at h; omega)
  have HY := Kept.mk (show lnE' ⟨pr, tp, mn, wi⟩ = if o = true then (if 1099511627776 < mn * tp then 10 else 0) else 1 by unfold lnE'; rw [← ho])
  rw [← ho] at HC
  clear ho
  have hR : R4 ((w.alloc (.cells #[.int .i64 pr, .int .i64 tp, .int .i64 mn, .int .i64 wi] 78)).alloc (.cells #[.int .i64 pr, .int .i64 tp, .int .i64 mn, .int .i64 wi] 78)) ((w.alloc (.cells #[.int .i64 pr, .int .i64 tp, .int .i64 mn, .int .i64 wi] 78)).alloc (.cells #[.int .i64 pr, .int .i64 tp, .int .i64 mn, .int .i64 wi] 78)).heap.size (some ⟨w.heap.size + 1, 0, none⟩) [⟨pr, tp, mn, wi⟩] :=
    r4_newn (w.alloc (.cells #[.int .i64 pr, .int .i64 tp, .int .i64 mn, .int .i64 wi] 78)) (w.heap.size + 1) (by simp) [⟨pr, tp, mn, wi⟩] 78 (0, 0)
  have HCC := Kept.mk (HC.out _ _ hR)
  clear hR HC
  go_enter Try.func33, Try.ntmps33
  go_wp2_with fail
  refine HCC.out.mono ?_
  rintro e w5 ⟨⟨v, rfl⟩, hb⟩
  have hbx := (below_box w (.cells #[.int .i64 pr, .int .i64 tp, .int .i64 mn, .int .i64 wi] 78))
  have hb2 := below_box (w.alloc (.cells #[.int .i64 pr, .int .i64 tp, .int .i64 mn, .int .i64 wi] 78)) (.cells #[.int .i64 pr, .int .i64 tp, .int .i64 mn, .int .i64 wi] 78)
  have h5 : w5.heap[w.heap.size]? = some (.cells #[.int .i64 pr, .int .i64 tp, .int .i64 mn, .int .i64 wi] 78) := by
    rw [hb.block _ (by simp; omega), hb2.block _ (by simp)]; exact heap_alloc_new _ _
  have HB := Kept.mk (show Below w.heap.size w w5 from (hbx.trans (hb2.mono (by simp))).trans (hb.mono (by simp; omega)))
  have y1 : w5.cell? ⟨w.heap.size, 1, none⟩ = some (.int .i64 tp) := cell_of_row _ _ 1 _ _ _ h5
  have y2 : w5.cell? ⟨w.heap.size, 2, none⟩ = some (.int .i64 mn) := cell_of_row _ _ 2 _ _ _ h5
  clear hb hbx hb2 h5 HCC
  cases o with
  | false =>
    have HF := Kept.mk (show lnE' ⟨pr, tp, mn, wi⟩ = 1 from HY.out.trans (if_neg (by decide)))
    go_wp2
    go_ret
    exact ⟨congrArg (fun v => Ending.returned (.int .i64 v)) HF.out.symm, HB.out⟩
  | true =>
    obtain ⟨m1, m2, t1, t2⟩ := HO.out rfl
    have hmul : 0 ≤ mn * tp ∧ mn * tp ≤ 70368744177664 := ⟨Int.mul_nonneg (by omega) (by omega), by
      have := Int.mul_le_mul m2 t2 (by omega) (by omega)
      omega⟩
    obtain ⟨z, hz⟩ : ∃ z, z = mn * tp := ⟨_, rfl⟩
    have wr1 : Go.RowKit.wrap64 (mn * tp) = z := by rw [IntWalk.wrap64_in _ (by omega), hz]
    have wr2 : IntKind.i64.wrap (mn * tp) = z := by rw [IntKind.wrap_i64]; omega
    have HZ := Kept.mk (show lnE' ⟨pr, tp, mn, wi⟩ = if 1099511627776 < z then 10 else 0 by rw [HY.out, if_pos rfl, hz])
    clear hmul hz HY
    by_cases hb : 1099511627776 < z
    · have d1 : decide (1099511627776 < z) = true := decide_eq_true hb
      have HF := Kept.mk (HZ.out.trans (if_pos hb))
      clear hb
      go_wp2
      go_ret
      exact ⟨congrArg (fun v => Ending.returned (.int .i64 v)) HF.out.symm, HB.out⟩
    · have d1 : decide (1099511627776 < z) = false := decide_eq_false hb
      have HF := Kept.mk (HZ.out.trans (if_neg hb))
      clear hb
      go_wp2
      go_ret
      exact ⟨congrArg (fun v => Ending.returned (.int .i64 v)) HF.out.symm, HB.out⟩
end Go.Proofs.Ytfneloplbkjbhaa
