/-
  The law TopDrift: a service is made.
-/
import Derived.Test.YtakkfgkogomjbaaDoorGY
namespace Go.Proofs.YtakkfgkogomjbaaDoor
open Go.RowKit Go.Shelf
set_option linter.unusedVariables false
set_option linter.unusedSimpArgs false
/-- A fresh service. -/
def SNewRes (w : World) (n : Nat) (s mn mx : Int) (e : Ending) (w' : World) : Prop :=
  ∃ sb tb pm lo hi wb I M p L K, e = .returned (.tuple #[.pointer (some ⟨sb, 0, none⟩), .int .i64 0]) ∧ w.heap.size ≤ lo ∧ tb < sb ∧ w'.heap[sb]? = some (.cells (svC mn mx (s % 4294967296) 0 false false s tb false 0 false) 68) ∧ TmAt w' lo hi wb I M p L K n tb pm s 0 [] 0 (fun _ => none) ∧ Below w.heap.size w w'
set_option maxRecDepth 100000 in
set_option maxHeartbeats 4000000 in
theorem stnew_any (s mn mx : Int) (n : Nat) (s0 : 0 ≤ s) (s1 : s ≤ 4503599627370496) (hmx : -9223372036854775808 ≤ mx ∧ mx ≤ 9223372036854775807) (h : TimOk mn mx) (n1 : 1 ≤ n) (n2 : n ≤ 4096) (w : World) :
    Calls Tryd.prog 6 #[.int .i64 s, .agg #[.int .i64 mn, .int .i64 mx], .int .i64 n] w (SNewRes w n s mn mx) := by
  have HC := scheck_any mn mx hmx
  have HT := tnew_any s n s0 s1 n1 n2
  have HM := cmake_any s s0 s1
  have HK := Kept.mk h
  clear h hmx s0 s1 n1 n2
  go_enter Tryd.func6, Tryd.ntmps6
  go_wp2_with fail
  refine (HC _).mono ?_
  rintro e w1 ⟨⟨c, rfl, hc⟩, hb1⟩
  obtain rfl : c = 0 := hc.2 HK.out
  clear hc HC
  go_wp2_with fail
  refine (HT _).mono ?_
  rintro e w2 hN
  obtain ⟨tb, pm, hi, wb, I, M, p, L, K, rfl, hTm, hb2⟩ := TmAt.of_new hN
  clear hN HT
  go_wp2_with fail
  refine (HM _).mono ?_
  rintro e w3 ⟨rfl, hb3⟩
  clear HM
  have z1 : w.heap.size + 1 ≤ w1.heap.size := by have := hb1.size; simpa using this
  have z2 := hb2.size
  have z3 := hb3.size
  have hx := ((hb3.block w.heap.size (by omega)).trans (hb2.block w.heap.size (by omega))).trans ((hb1.block w.heap.size (by simp)).trans (heap_alloc_new w (.cells #[.int .i64 mn, .int .i64 mx] 23)))
  have x0 := cell_of_row _ _ 0 _ _ _ hx
  have x1 := cell_of_row _ _ 1 _ _ _ hx
  have HB := Kept.mk (show Below w.heap.size w w3 from (((below_box w _).trans (hb1.mono (by simp))).trans (hb2.mono (by omega))).trans (hb3.mono (by omega)))
  have htl := (Array.getElem?_eq_some_iff.1 hTm.bl).1
  have HT3 := Kept.mk (hTm.below (hb3.mono (by omega)))
  have HZ := Kept.mk (And.intro z1 (And.intro z2 (And.intro z3 htl)))
  have hlt3 : w.heap.size < w3.heap.size := by omega
  clear hb1 hb2 hb3 hx z1 z2 z3 htl hTm
  go_wp2_with fail
  go_ret2
  have hz := HZ.out
  refine ⟨w3.heap.size + 1, tb, pm, w1.heap.size, hi, wb, I, M, p, L, K, rfl, by omega, by omega, heap_alloc2_new _ _ _, HT3.out.below ((two_below w3 _ _).mono (by omega)), HB.out.trans ((two_below w3 _ _).mono HB.out.size)⟩
end Go.Proofs.YtakkfgkogomjbaaDoor
