/-
  The wheel: how two timers are compared.
-/
import Derived.Test.YtakkfgkogomjbaaDoorW8
import Derived.Sort.Grow
namespace Go.Proofs.YtakkfgkogomjbaaDoor
open Go.RowKit Go.Shelf Go.Sort
set_option linter.unusedVariables false
def cmpI (a b : Int) : Int := if a < b then -1 else if b < a then 1 else 0
theorem cmp64n (a : Int) (w : World) : Calls Tryd.prog 80 #[.int .i64 a] w fun e w' => e = .returned (.bool false) ∧ w = w' := by
  go_enter Tryd.func80, Tryd.ntmps80
  go_wp2
  go_ret
  exact ⟨by simp, rfl⟩
theorem cmp64 (a b : Int) (w : World) : Calls Tryd.prog 69 #[.int .i64 a, .int .i64 b] w fun e w' => e = .returned (.int .i64 (cmpI a b)) ∧ w' = w := by
  by_cases h1 : a < b
  · have e : cmpI a b = -1 := by unfold cmpI; rw [if_pos h1]
    rw [e]
    clear e
    go_enter Tryd.func69, Tryd.ntmps69
    go_wp2_with (first | (go_at_call 80; refine (cmp64n _ _).mono ?_; rintro e w' ⟨rfl, rfl⟩))
    go_ret
    exact ⟨rfl, rfl⟩
  · by_cases h2 : b < a
    · have e : cmpI a b = 1 := by unfold cmpI; rw [if_neg h1, if_pos h2]
      rw [e]
      clear e
      go_enter Tryd.func69, Tryd.ntmps69
      go_wp2_with (first | (go_at_call 80; refine (cmp64n _ _).mono ?_; rintro e w' ⟨rfl, rfl⟩))
      go_ret
      exact ⟨rfl, rfl⟩
    · have e : cmpI a b = 0 := by unfold cmpI; rw [if_neg h1, if_neg h2]
      rw [e]
      clear e
      go_enter Tryd.func69, Tryd.ntmps69
      go_wp2_with (first | (go_at_call 80; refine (cmp64n _ _).mono ?_; rintro e w' ⟨rfl, rfl⟩))
      go_ret
      exact ⟨rfl, rfl⟩
theorem cmpNn (a : Int) (w : World) : Calls Tryd.prog 81 #[.int .i64 a] w fun e w' => e = .returned (.bool false) ∧ w = w' := by
  go_enter Tryd.func81, Tryd.ntmps81
  go_wp2
  go_ret
  exact ⟨by simp, rfl⟩
theorem cmpN (a b : Int) (w : World) : Calls Tryd.prog 70 #[.int .i64 a, .int .i64 b] w fun e w' => e = .returned (.int .i64 (cmpI a b)) ∧ w' = w := by
  by_cases h1 : a < b
  · have e : cmpI a b = -1 := by unfold cmpI; rw [if_pos h1]
    rw [e]
    clear e
    go_enter Tryd.func70, Tryd.ntmps70
    go_wp2_with (first | (go_at_call 81; refine (cmpNn _ _).mono ?_; rintro e w' ⟨rfl, rfl⟩))
    go_ret
    exact ⟨rfl, rfl⟩
  · by_cases h2 : b < a
    · have e : cmpI a b = 1 := by unfold cmpI; rw [if_neg h1, if_pos h2]
      rw [e]
      clear e
      go_enter Tryd.func70, Tryd.ntmps70
      go_wp2_with (first | (go_at_call 81; refine (cmpNn _ _).mono ?_; rintro e w' ⟨rfl, rfl⟩))
      go_ret
      exact ⟨rfl, rfl⟩
    · have e : cmpI a b = 0 := by unfold cmpI; rw [if_neg h1, if_neg h2]
      rw [e]
      clear e
      go_enter Tryd.func70, Tryd.ntmps70
      go_wp2_with (first | (go_at_call 81; refine (cmpNn _ _).mono ?_; rintro e w' ⟨rfl, rfl⟩))
      go_ret
      exact ⟨rfl, rfl⟩
/-- The first of two that is not 0. -/
theorem cmpOr_any (b : Nat) (r s : Int) (w : World) (h0 : w.cell? ⟨b, 0, none⟩ = some (.int .i64 r)) (h1 : w.cell? ⟨b, 1, none⟩ = some (.int .i64 s)) :
    Calls Tryd.prog 68 #[.slice (some ⟨b, 0, none⟩) 2 2] w fun e w' => e = .returned (.int .i64 (if r = 0 then s else r)) ∧ w = w' := by
  by_cases hr : r = 0
  · subst hr
    rw [if_pos rfl]
    go_enter Tryd.func68, Tryd.ntmps68
    go_wp2_with fail
    go_loop [8] (fun i => ∃ k : Nat, k ≤ 2 ∧ i = .int .i64 k ∧ Kept (k = 2 → s = 0)) (fun i => 2 - (intOf i).toNat)
    case atStart => exact ⟨0, by omega, rfl, ⟨fun h => by omega⟩⟩
    case round =>
      obtain ⟨k, hk, rfl, hs⟩ := hrel
      have e : k = 0 ∨ k = 1 ∨ k = 2 := by omega
      clear hk
      rcases e with rfl | rfl | rfl
      · go_wp2
        go_round
        case rel => exact ⟨1, by omega, by first | rfl | go_num, ⟨fun h => by omega⟩⟩
        case measure => simp [intOf]
      · by_cases h : s = 0
        · have d : (s != 0) = false := by simp [h]
          have HS := Kept.mk h
          clear h
          go_wp2
          go_round
          case rel => exact ⟨2, by omega, by first | rfl | go_num, ⟨fun _ => HS.out⟩⟩
          case measure => simp [intOf]
        · have d : (s != 0) = true := by simp [h]
          clear h
          go_wp2
          go_ret
          exact ⟨rfl, rfl⟩
      · have HS := Kept.mk (hs.out rfl)
        go_wp2
        go_ret
        exact ⟨by rw [HS.out]; rfl, rfl⟩
  · rw [if_neg hr]
    have d : (r != 0) = true := by simp [hr]
    clear hr
    go_enter Tryd.func68, Tryd.ntmps68
    go_wp2_with fail
    go_loop [8] (fun i => i = .int .i64 0) (fun i => 2 - (intOf i).toNat)
    case atStart => rfl
    case round =>
      subst hrel
      go_wp2
      go_ret
      exact ⟨rfl, rfl⟩
/-- A timer's three cells. -/
def encT (t : Tm) : List Value := [.int .i64 t.id, .int .i64 t.du, .int .i64 t.tn]
/-- How two timers are compared. -/
def cfT (x y : Tm) : Int := if cmpI x.du y.du = 0 then cmpI x.tn y.tn else cmpI x.du y.du
set_option maxRecDepth 100000 in
set_option maxHeartbeats 4000000 in
theorem before_any (x y : Tm) (W : World) : Calls Tryd.prog 46 #[.agg #[.int .i64 x.id, .int .i64 x.du, .int .i64 x.tn], .agg #[.int .i64 y.id, .int .i64 y.du, .int .i64 y.tn]] W fun e w' => e = .returned (.int .i64 (cfT x y)) ∧ ∃ q os', w' = grow (W.drewN q) os' := by
  obtain ⟨x0, x1, x2⟩ := x
  obtain ⟨y0, y1, y2⟩ := y
  simp only
  have HC := Kept.mk (show cfT ⟨x0, x1, x2⟩ ⟨y0, y1, y2⟩ = if cmpI x1 y1 = 0 then cmpI x2 y2 else cmpI x1 y1 from rfl)
  obtain ⟨cc, hcc⟩ : ∃ cc, cc = cfT ⟨x0, x1, x2⟩ ⟨y0, y1, y2⟩ := ⟨_, rfl⟩
  rw [← hcc] at HC ⊢
  obtain ⟨r, hr⟩ : ∃ r, r = cmpI x1 y1 := ⟨_, rfl⟩
  obtain ⟨s, hs⟩ : ∃ s, s = cmpI x2 y2 := ⟨_, rfl⟩
  have C1 := Kept.mk (fun (V : World) => show Calls Tryd.prog 69 #[.int .i64 x1, .int .i64 y1] V (fun e w' => e = .returned (.int .i64 r) ∧ w' = V) from by rw [hr]; exact cmp64 x1 y1 V)
  have C2 := Kept.mk (fun (V : World) => show Calls Tryd.prog 70 #[.int .i64 x2, .int .i64 y2] V (fun e w' => e = .returned (.int .i64 s) ∧ w' = V) from by rw [hs]; exact cmpN x2 y2 V)
  rw [← hr, ← hs] at HC
  clear hcc hr hs
  go_enter Tryd.func46, Tryd.ntmps46
  go_wp2_with fail
  obtain ⟨W2, hW2⟩ : ∃ W2, W2 = (W.alloc (.cells #[.int .i64 x0, .int .i64 x1, .int .i64 x2] 100)).alloc (.cells #[.int .i64 y0, .int .i64 y1, .int .i64 y2] 100) := ⟨_, rfl⟩
  rw [← hW2]
  have ra : W2.heap[W.heap.size]? = some (.cells #[.int .i64 x0, .int .i64 x1, .int .i64 x2] 100) := by
    rw [hW2]; exact (heap_alloc_old _ _ (by simp)).trans (heap_alloc_new W _)
  have rb : W2.heap[W.heap.size + 1]? = some (.cells #[.int .i64 y0, .int .i64 y1, .int .i64 y2] 100) := by
    rw [hW2]
    have h := heap_alloc_new (W.alloc (.cells #[.int .i64 x0, .int .i64 x1, .int .i64 x2] 100)) (.cells #[.int .i64 y0, .int .i64 y1, .int .i64 y2] 100)
    rw [show (W.alloc (.cells #[.int .i64 x0, .int .i64 x1, .int .i64 x2] 100)).heap.size = W.heap.size + 1 by simp] at h
    exact h
  have HG := Kept.mk (show W2 = grow W #[.cells #[.int .i64 x0, .int .i64 x1, .int .i64 x2] 100, .cells #[.int .i64 y0, .int .i64 y1, .int .i64 y2] 100] by rw [hW2, alloc_eq_grow, alloc_eq_grow, grow_grow]; rfl)
  obtain ⟨ba, hba⟩ : ∃ ba, ba = W.heap.size := ⟨_, rfl⟩
  rw [← hba] at ra rb ⊢
  have a1 : W2.cell? ⟨ba, 1, none⟩ = some (.int .i64 x1) := cell_of_row _ _ 1 _ _ _ ra
  have a2 : W2.cell? ⟨ba, 2, none⟩ = some (.int .i64 x2) := cell_of_row _ _ 2 _ _ _ ra
  have b1 : W2.cell? ⟨ba + 1, 1, none⟩ = some (.int .i64 y1) := cell_of_row _ _ 1 _ _ _ rb
  have b2 : W2.cell? ⟨ba + 1, 2, none⟩ = some (.int .i64 y2) := cell_of_row _ _ 2 _ _ _ rb
  clear hW2 ra rb hba
  go_still_tail 12, (by kernel_rfl)
  still_call (C1.out _)
  repeat still_step
  still_call (C2.out _)
  refine wpStill_nil ?_
  clear a1 a2 b1 b2
  have o0 : (W2.alloc (.cells #[.int .i64 r, .int .i64 s] 3)).cell? ⟨W2.heap.size, 0, none⟩ = some (.int .i64 r) := cell_of_row _ _ 0 _ _ _ (heap_alloc_new W2 _)
  have o1 : (W2.alloc (.cells #[.int .i64 r, .int .i64 s] 3)).cell? ⟨W2.heap.size, 1, none⟩ = some (.int .i64 s) := cell_of_row _ _ 1 _ _ _ (heap_alloc_new W2 _)
  have O0 := Kept.mk (fun (V : World) (h : V.heap = (W2.alloc (.cells #[.int .i64 r, .int .i64 s] 3)).heap) => show Calls Tryd.prog 68 #[.slice (some ⟨W2.heap.size, 0, none⟩) 2 2] V (fun e w' => e = .returned (.int .i64 cc) ∧ V = w') from by
    rw [HC.out]
    exact cmpOr_any W2.heap.size r s V ((World.cell?_of_block (a := ⟨W2.heap.size, 0, none⟩) (by rw [h])).trans o0) ((World.cell?_of_block (a := ⟨W2.heap.size, 1, none⟩) (by rw [h])).trans o1))
  clear o0 o1
  change wpList _ _ _ _ _ W2.drew
  go_wp2_with (go_at_call 68; refine (O0.out _ (by first | rfl | simp)).mono ?_; rintro e w' ⟨rfl, rfl⟩)
  go_ret
  refine ⟨rfl, 1, #[.cells #[.int .i64 x0, .int .i64 x1, .int .i64 x2] 100, .cells #[.int .i64 y0, .int .i64 y1, .int .i64 y2] 100, .cells #[.int .i64 r, .int .i64 s] 3], ?_⟩
  rw [HG.out, alloc_eq_grow, grow_grow]
  rfl
end Go.Proofs.YtakkfgkogomjbaaDoor
