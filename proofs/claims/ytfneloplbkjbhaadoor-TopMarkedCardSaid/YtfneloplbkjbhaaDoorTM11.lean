/-
  The marks that are struck: the walk.
-/
import Derived.Test.YtfneloplbkjbhaaDoorTM10
namespace Go.Proofs.YtfneloplbkjbhaaDoor
open Go.RowKit Go.Shelf
set_option linter.unusedVariables false
def keptL (kd wh : Int) (ms : List QM) : List QM := ms.filter fun q => !dropB kd wh q
theorem keptL_all {kd wh : Int} {ms : List QM} (h : ∀ q ∈ ms, dropB kd wh q = false) : keptL kd wh ms = ms := by
  unfold keptL
  rw [List.filter_eq_self]
  intro q hq
  rw [h q hq]
  rfl
theorem keptL_snoc (kd wh : Int) {ms : List QM} {k : Nat} {q : QM} (h : ms[k]? = some q) : keptL kd wh (ms.take (k + 1)) = keptL kd wh (ms.take k) ++ (if dropB kd wh q then [] else [q]) := by
  unfold keptL
  rw [List.take_add_one, h, List.filter_append]
  simp only [Option.toList_some]
  cases hd : dropB kd wh q <;> simp [hd]
/-- How far the row is. -/
structure DI (kd wh : Int) (ms L : List QM) (i j : Nat) : Prop where
  len : L.length = ms.length
  low : L.take i = keptL kd wh (ms.take j)
  high : L.drop j = ms.drop j
  lt : i < j
theorem DI.at {kd wh : Int} {ms L : List QM} {i j : Nat} (h : DI kd wh ms L i j) : L[j]? = ms[j]? := by
  have := congrArg (·[0]?) h.high
  simpa [List.getElem?_drop] using this
theorem DI.skip {kd wh : Int} {ms L : List QM} {i j : Nat} {q : QM} (h : DI kd wh ms L i j) (hq : ms[j]? = some q) (hd : dropB kd wh q = true) : DI kd wh ms L i (j + 1) :=
  ⟨h.len, by rw [keptL_snoc kd wh hq, hd, h.low]; simp, by rw [← List.drop_drop, ← List.drop_drop, h.high], by have := h.lt; omega⟩
theorem DI.keep {kd wh : Int} {ms L : List QM} {i j : Nat} {q : QM} (h : DI kd wh ms L i j) (hq : ms[j]? = some q) (hd : dropB kd wh q = false) : DI kd wh ms (L.set i q) (i + 1) (j + 1) := by
  have hj : j < ms.length := (List.getElem?_eq_some_iff.1 hq).1
  have hlt := h.lt
  have hlen := h.len
  refine ⟨by rw [List.length_set]; exact h.len, ?_, ?_, by omega⟩
  · rw [keptL_snoc kd wh hq, hd, ← h.low, List.take_add_one, List.getElem?_set_self (by omega), List.take_set_of_le (Nat.le_refl _)]
    simp
  · rw [List.drop_set_of_lt (by omega), ← List.drop_drop, ← List.drop_drop, h.high]
theorem DI.start {kd wh : Int} {ms : List QM} {k : Nat} {q : QM} (hq : ms[k]? = some q) (hall : ∀ x ∈ ms.take k, dropB kd wh x = false) (hd : dropB kd wh q = true) : DI kd wh ms ms k (k + 1) :=
  ⟨rfl, by rw [keptL_snoc kd wh hq, hd, keptL_all hall]; simp, rfl, by omega⟩
theorem DI.done {kd wh : Int} {ms L : List QM} {i : Nat} (h : DI kd wh ms L i ms.length) : L.take i = keptL kd wh ms ∧ i = (keptL kd wh ms).length := by
  have h1 := h.low
  rw [List.take_length] at h1
  have h2 := h.lt
  have h3 := h.len
  refine ⟨h1, ?_⟩
  rw [← h1, List.length_take]
  omega
def OnlyRes (B : Nat) (kd wh : Int) (ms : List QM) (w : World) (e : Ending) (w' : World) : Prop := ∃ A c, e = .returned (.slice A (keptL kd wh ms).length c) ∧ RM w' w'.heap.size A (keptL kd wh ms) ∧ Below B w w'
theorem delete_none (kb wb : Nat) (kd wh : Int) (w : World) (B : Nat) (hB : B ≤ w.heap.size) (hC : Cp kb wb kd wh w) :
    Calls Tryd.prog 20 #[.slice none 0 0, .func (.func 22) #[] #[.pointer (some ⟨kb, 0, none⟩), .pointer (some ⟨wb, 0, none⟩)]] w (OnlyRes B kd wh [] w) := by
  have HI := Kept.mk (index_any none 0 [] kb wb kd wh w (RM.nil _ _ _) (by simp) hC)
  go_enter Tryd.func20, Tryd.ntmps20
  go_wp2_with (go_at_call 41; refine HI.out.mono ?_; rintro e w1 ⟨r, rfl, hr, hb1⟩; refine Hid.out ?_)
  refine Lib.hid ?_
  rcases hr with ⟨rfl, _⟩ | ⟨k, hk, _⟩
  · go_wp2
    go_ret
    exact ⟨none, 0, rfl, RM.nil _ _ _, hb1.mono hB⟩
  · simp at hk
set_option maxHeartbeats 6400000 in
set_option maxRecDepth 100000 in
theorem delete_some (g cap : Nat) (ms : List QM) (sp : List Value) (kb wb : Nat) (kd wh : Int) (w : World) (B : Nat) (hBw : B ≤ w.heap.size) (hB : B ≤ g) (hD : DR w g ms sp) (hl : ms.length ≤ 65536) (hcap : ms.length ≤ cap) (hC : Cp kb wb kd wh w) (n1 : kb ≠ g) (n2 : wb ≠ g) :
    Calls Tryd.prog 20 #[.slice (some ⟨g, 0, none⟩) ms.length cap, .func (.func 22) #[] #[.pointer (some ⟨kb, 0, none⟩), .pointer (some ⟨wb, 0, none⟩)]] w (OnlyRes B kd wh ms w) := by
  have hR : RM w w.heap.size (some ⟨g, 0, none⟩) ms := fun _ => ⟨g, 0, rfl, hD.lt, fun j x hj => by
    obtain ⟨c1, c2, c3, c4⟩ := hD.at hj
    rw [Nat.zero_add]
    exact ⟨c1, c2, c3, c4⟩⟩
  have HI := Kept.mk (index_any (some ⟨g, 0, none⟩) cap ms kb wb kd wh w hR hl hC)
  have HR := Kept.mk hR
  clear hR
  go_enter Tryd.func20, Tryd.ntmps20
  go_wp2_with (go_at_call 41; refine HI.out.mono ?_; rintro e w1 ⟨r, rfl, hr, hb1⟩; refine Hid.out ?_)
  refine Lib.hid ?_
  rcases hr with ⟨rfl, hall⟩ | ⟨k, hk, rfl, hall, q, hq, hdq⟩
  · have HA := Kept.mk (keptL_all hall)
    clear hall
    go_wp2
    go_ret
    refine ⟨some ⟨g, 0, none⟩, cap, by rw [HA.out]; rfl, ?_, hb1.mono hBw⟩
    rw [HA.out]
    exact (HR.out.below hb1).mono hb1.size
  · have HS := Kept.mk (DI.start hq hall hdq)
    have kz : ((k : Int) == -1) = false := beq_eq_false_iff_ne.2 (by omega)
    have hD1 := hD.on hb1
    have hC1 := hC.on hb1
    have hB1 : Below B w w1 := hb1.mono hBw
    clear hq hall hdq HI HR
    go_wp2
    go_loopw [5, 6] (fun s t wr => ∃ (i j : Nat) (L : List QM), s = .int .i64 i ∧ t = .int .i64 j ∧ j ≤ ms.length ∧ Kept (DI kd wh ms L i j) ∧ DR wr g L sp ∧ Cp kb wb kd wh wr ∧ Below B w wr) (fun _ t _ => ms.length - (intOf t).toNat)
    case atStart => exact ⟨k, k + 1, ms, rfl, by go_num, by omega, HS, hD1, hC1, hB1⟩
    case round =>
      obtain ⟨i, j, L, rfl, rfl, hj, hI, hDr, hCr, hbr⟩ := hrel
      have hsz := hbr.size
      have hlen := hI.out.len
      have hij := hI.out.lt
      by_cases hlt : j < ms.length
      · obtain ⟨m, hm⟩ := some_atM hlt
        have hLm : L[j]? = some m := by rw [hI.out.at]; exact hm
        obtain ⟨e1, e2, e3, e4⟩ := hDr.at hLm
        have HM := Kept.mk hm
        have ij : (j : Int) < (ms.length : Int) := by omega
        have HB := Kept.mk (below_box wr (.cells #[.int .i64 m.a, .int .u8 m.b, .int .i64 m.c, .int .i64 m.d] 34))
        have HP := Kept.mk (pred_any m kb wb kd wh _ (hCr.on HB.out))
        clear hm hLm
        cases hd : dropB kd wh m with
        | true =>
          have HV := Kept.mk hd
          rw [hd] at HP
          clear hd
          obtain ⟨ma, mb, mc, md⟩ := m
          unfold QM.v at HP
          simp only at e1 e2 e3 e4 HP HB
          go_wp2_with (go_at_call 22; refine HP.out.mono ?_; rintro e w2 ⟨rfl, hb2⟩; have hb3 : Below wr.heap.size wr w2 := HB.out.trans (hb2.mono (by simp)))
          go_roundw
          case rel => exact ⟨i, j + 1, L, rfl, by go_num, by omega, ⟨hI.out.skip HM.out HV.out⟩, hDr.on hb3, hCr.on hb3, hbr.trans (hb3.mono (by omega))⟩
          case measure => simp [intOf]; omega
        | false =>
          have HV := Kept.mk hd
          rw [hd] at HP
          clear hd
          obtain ⟨ma, mb, mc, md⟩ := m
          obtain ⟨old, hold⟩ := some_atM (xs := L) (k := i) (by omega)
          have iz : (i : Int) < (ms.length : Int) := by omega
          unfold QM.v at HP
          simp only at e1 e2 e3 e4 HP HB
          go_wp2_with (go_at_call 22; refine HP.out.mono ?_; rintro e w2 ⟨rfl, hb2⟩; refine Hid.out ?_)
          refine Lib.hid ?_
          have hb3 : Below wr.heap.size wr w2 := HB.out.trans (hb2.mono (by simp))
          have hD2 := hDr.on hb3
          have hC2 := hCr.on hb3
          have B2 := hbr.trans (hb3.mono (by omega))
          obtain ⟨o1, o2, o3, o4⟩ := hD2.at hold
          have f1 := hD2.free (i * 4)
          have f2 := hD2.free (i * 4 + 1)
          have f3 := hD2.free (i * 4 + 2)
          have f4 := hD2.free (i * 4 + 3)
          have q0 := box_cell hb2 0 _ rfl
          have q1 := box_cell hb2 1 _ rfl
          have q2 := box_cell hb2 2 _ rfl
          have q3 := box_cell hb2 3 _ rfl
          clear hb2 hb3 e1 e2 e3 e4 HB HP hold
          go_wp2
          go_roundw
          case rel => exact ⟨i + 1, j + 1, _, by go_num, by go_num, by omega, ⟨hI.out.keep HM.out HV.out⟩, hD2.set (by omega) ⟨ma, mb, mc, md⟩, (((hC2.set n1 n2 _ _).set n1 n2 _ _).set n1 n2 _ _).set n1 n2 _ _, (((B2.setCell hB _).setCell hB _).setCell hB _).setCell hB _⟩
          case measure => simp [intOf]; omega
      · have ej : j = ms.length := by omega
        subst ej
        have il : i < L.length := by omega
        obtain ⟨w9, hcl, hcells, hbel, hg9⟩ := clear_run hDr i il (cap - i)
        rw [hlen] at hcl
        have HD := Kept.mk hI.out.done
        have HCE := Kept.mk hcells
        clear hcells
        have iz : (i : Int) < (ms.length : Int) := by omega
        go_wp2
        go_ret
        refine ⟨some ⟨g, 0, none⟩, cap, by rw [← HD.out.2]; rfl, fun _ => ⟨g, 0, rfl, hg9, fun j x hj => ?_⟩, hbel B w hB hbr⟩
        rw [← HD.out.1] at hj
        have hji : j < i := by
          have := (List.getElem?_eq_some_iff.1 hj).1
          rw [List.length_take] at this
          omega
        rw [List.getElem?_take_of_lt hji] at hj
        rw [Nat.zero_add]
        exact HCE.out j x hj hji
theorem OnlyRes.on {B : Nat} {kd wh : Int} {ms : List QM} {w w1 : World} {e : Ending} {w' : World} (h : OnlyRes B kd wh ms w1 e w') (hb : Below B w w1) : OnlyRes B kd wh ms w e w' := by
  obtain ⟨A, c, h1, h2, h3⟩ := h
  exact ⟨A, c, h1, h2, hb.trans h3⟩
set_option maxHeartbeats 1600000 in
set_option maxRecDepth 100000 in
theorem only_any (A : Option Addr) (cap : Nat) (ms : List QM) (kd wh : Int) (w : World) (hR : RM w w.heap.size A ms) (hl : ms.length ≤ 65536) :
    Calls Tryd.prog 8 #[.slice A ms.length cap, .int .u8 kd, .int .i64 wh] w (OnlyRes w.heap.size kd wh ms w) := by
  obtain ⟨W2, hW2⟩ : ∃ W2, W2 = (w.alloc (.cells #[.int .u8 kd] 23)).alloc (.cells #[.int .i64 wh] 3) := ⟨_, rfl⟩
  have hbW : Below w.heap.size w W2 := by rw [hW2]; exact (below_box w _).alloc (by simp) _
  have hs : W2.heap.size = w.heap.size + 2 := by rw [hW2]; simp
  have hC : Cp w.heap.size (w.heap.size + 1) kd wh W2 := by
    rw [hW2]
    refine ⟨?_, ?_⟩
    · exact ((below_box (w.alloc (.cells #[.int .u8 kd] 23)) _).cell (p := ⟨w.heap.size, 0, none⟩) (by simp)).trans (cell_of_row _ _ 0 _ _ _ (heap_alloc_new w _))
    · have := heap_alloc_new (w.alloc (.cells #[.int .u8 kd] 23)) (.cells #[.int .i64 wh] 3)
      rw [show (w.alloc (.cells #[.int .u8 kd] 23)).heap.size = w.heap.size + 1 from by simp] at this
      exact cell_of_row _ _ 0 _ _ _ this
  have HCL := Kept.mk (clone_any A cap ms W2 W2.heap.size (Nat.le_refl _) ((hR.below hbW).mono hbW.size) hl)
  rw [hW2] at HCL
  have HC := Kept.mk hC
  clear hC hR
  go_enter Tryd.func8, Tryd.ntmps8
  go_wp2_with (go_at_call 21; refine HCL.out.mono ?_; rintro e w3 ⟨v, rfl, hO, hb3⟩; refine Hid.out ?_)
  refine Lib.hid ?_
  rw [← hW2] at hO hb3
  have hC3 := HC.out.on hb3
  have hB3 := hbW.trans (hb3.mono hbW.size)
  clear HCL hW2 HC
  rcases hO.2 with ⟨rfl, h0⟩ | ⟨g, cp, cur, rfl, hg1, hg2, hg3, hg4, hg5, hg6⟩
  · have : ms = [] := List.eq_nil_of_length_eq_zero h0
    subst this
    have HDN := Kept.mk (delete_none w.heap.size (w.heap.size + 1) kd wh w3 w.heap.size hB3.size hC3)
    clear hO
    go_wp2_with (go_at_call 20; refine HDN.out.mono ?_; rintro e w4 ⟨A4, c4, rfl, hr4, hb4⟩)
    go_ret
    exact ⟨A4, c4, rfl, hr4, hB3.trans hb4⟩
  · have hDR : DR w3 g ms (cur.toList.drop (ms.length * 4)) := ⟨cur, hg2, by rw [← hg6, List.take_append_drop]⟩
    have HDN := Kept.mk (delete_some g cp ms _ w.heap.size (w.heap.size + 1) kd wh w3 w.heap.size hB3.size (by omega) hDR hl hg3 hC3 (by omega) (by omega))
    clear hO hg6 hg2 hDR
    go_wp2_with (go_at_call 20; refine HDN.out.mono ?_; rintro e w4 ⟨A4, c4, rfl, hr4, hb4⟩)
    go_ret
    exact ⟨A4, c4, rfl, hr4, hB3.trans hb4⟩
end Go.Proofs.YtfneloplbkjbhaaDoor
