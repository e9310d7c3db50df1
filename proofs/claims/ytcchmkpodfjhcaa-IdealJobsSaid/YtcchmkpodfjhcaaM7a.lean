/-
  The plan's beginning: how pieces are compared; the plan while its pieces are counted.
-/
import Derived.Test.YtcchmkpodfjhcaaM3
import Derived.Test.YtcchmkpodfjhcaaIE
import Derived.Deep.AppendLies
namespace Go.Proofs.Ytcchmkpodfjhcaa
open Go.RowKit
set_option linter.unusedVariables false
theorem cmpf_any {W : World} {bx b off cap : Nat} {xs : List Q3} (hb : W.cell? ⟨bx, 0, none⟩ = some (.slice (some ⟨b, off, none⟩) xs.length cap)) (hp : ∀ i, i < xs.length → W.cell? ⟨b, off + i * 3 + 1, none⟩ = some (.int .i64 ((pcs xs).A i : Int))) {x y : Nat} (hx : x < xs.length) (hy : y < xs.length) :
    Calls Try.prog 107 #[.int .i64 x, .int .i64 y, .pointer (some ⟨bx, 0, none⟩)] W fun e w' => e = .returned (.int .i64 (cmpA (pcs xs).A x y)) ∧ ∃ m, w' = W.drewN m := by
  have c1 := hp x hx
  have c2 := hp y hy
  have hC := fun (W : World) => cmp_any ((pcs xs).A x : Int) ((pcs xs).A y : Int) W
  have e : cmpA (pcs xs).A x y = cmpI ((pcs xs).A x : Int) ((pcs xs).A y : Int) := rfl
  rw [e]
  obtain ⟨u, hu⟩ : ∃ u : Int, u = ((pcs xs).A x : Int) := ⟨_, rfl⟩
  obtain ⟨v, hv⟩ : ∃ v : Int, v = ((pcs xs).A y : Int) := ⟨_, rfl⟩
  rw [← hu] at c1 hC ⊢
  rw [← hv] at c2 hC ⊢
  obtain ⟨r, hr⟩ : ∃ r, r = cmpI u v := ⟨_, rfl⟩
  rw [← hr] at hC ⊢
  have HC := Kept.mk hC
  have ix : (x : Int) < (xs.length : Int) := by omega
  have iy : (y : Int) < (xs.length : Int) := by omega
  clear hp hu hv hr e hx hy hC
  go_enter Try.func107, Try.ntmps107
  go_wp2_with fail
  go_quiet (first | (go_at_call 108; refine Calls.quiet_of_same (HC.out _)))
  go_wp2
  go_ret
  exact ⟨rfl, _, rfl⟩
/-- Nothing is sorted. -/
theorem sort_nil (A0 : Option Addr) (fv : Value) (cap : Nat) (w : World) :
    Calls Try.prog 106 #[.slice A0 0 cap, fv] w fun e w' => e = .returned (.tuple #[]) ∧ w = w' := by
  have H : Calls Try.prog 112 #[.slice A0 0 cap, .int .i64 (0 : Nat), fv] w fun e w' => e = .returned (.tuple #[]) ∧ w = w' := by
    have HI : Calls Try.prog 114 #[.slice A0 0 cap, .int .i64 0, .int .i64 (0 : Nat), fv] w fun e w' => e = .returned (.tuple #[]) ∧ w = w' := by
      go_enter Try.func114, Try.ntmps114
      go_wp2
      go_loopw [8] (fun t wr => t = .int .i64 1 ∧ w = wr) (fun _ _ => 0)
      case atStart => exact ⟨by go_num, rfl⟩
      case round =>
        obtain ⟨rfl, rfl⟩ := hrel
        go_wp2
        go_end0
        exact ⟨rfl, rfl⟩
    have HI := Kept.mk HI
    go_enter Try.func112, Try.ntmps112
    go_wp2
    go_loopw [7, 8] (fun t u wr => t = .int .i64 0 ∧ u = .int .i64 20 ∧ w = wr) (fun _ _ _ => 0)
    case atStart => exact ⟨rfl, rfl, rfl⟩
    case round =>
      obtain ⟨rfl, rfl, rfl⟩ := hrel
      go_wp2_with fail
      refine HI.out.mono ?_
      rintro e w2 ⟨rfl, rfl⟩
      go_wp2_with fail
      go_loopw [6] (fun t wr => t = .int .i64 20 ∧ w = wr) (fun _ _ => 0)
      case atStart => exact ⟨rfl, rfl⟩
      case round =>
        obtain ⟨rfl, rfl⟩ := hrel
        go_wp2
        go_end0
        exact ⟨rfl, rfl⟩
  have HS := Kept.mk H
  clear H
  go_enter Try.func106, Try.ntmps106
  go_wp2_with fail
  refine HS.out.mono ?_
  rintro e w2 ⟨rfl, rfl⟩
  go_wp2
  go_end0
  exact ⟨rfl, rfl⟩
def idC (k : Nat) : List Value := (List.range k).map fun (i : Nat) => .int .i64 (i : Int)
def csC (xs : List Q3) (k : Nat) : List Value := (List.range k).map fun (i : Nat) => .int .i64 ((pcs xs).C i : Int)
theorem idC_succ (k : Nat) : idC (k + 1) = idC k ++ [.int .i64 (k : Int)] := by unfold idC; rw [List.range_succ, List.map_append]; rfl
theorem csC_succ (xs : List Q3) (k : Nat) : csC xs (k + 1) = csC xs k ++ [.int .i64 ((pcs xs).C k : Int)] := by unfold csC; rw [List.range_succ, List.map_append]; rfl
/-- The plan while its pieces are counted: so many have come, of so many it is known what is left. -/
structure BG (w W : World) (B : Nat) (A : Option Addr) (xs : List Q3) (cap k l : Nat) : Prop where
  bx : W.heap[B]? = some (.cells #[.slice A xs.length cap] 84)
  done : ∃ X : Array Value, W.heap[B + 1]? = some (.cells X 2) ∧ ∀ j, j < xs.length → X[j]? = some (.int .i64 0)
  box : ∃ Ac cc Al cl, W.heap[B + 2]? = some (.cells #[.slice A xs.length cap, .slice Ac k cc, .pointer none, .slice Al l cl, .slice (some ⟨B + 1, 0, none⟩) xs.length xs.length, .slice none 0 0, .int .i64 0] 160) ∧
    W.ownsRow (B + 3) 3 1 (.slice Ac k cc) k (idC k) ∧ W.ownsRow (B + 3) 2 1 (.slice Al l cl) l (csC xs l) ∧ (∀ g, (Value.slice Ac k cc).ownBlock = some g → (Value.slice Al l cl).ownBlock = some g → False)
  size : B + 3 ≤ W.heap.size
  bw : Below B w W
section
variable {w W W' : World} {B cap k l : Nat} {A : Option Addr} {xs : List Q3}
theorem BG.alloc (h : BG w W B A xs cap k l) (o : Obj) : BG w (W.alloc o) B A xs cap k l := by
  have hb := below_box W o
  have hs := h.size
  obtain ⟨X, d1, d2⟩ := h.done
  obtain ⟨Ac, cc, Al, cl, h1, h2, h3, h4⟩ := h.box
  exact ⟨(hb.block _ (by omega)).trans h.bx, ⟨X, (hb.block _ (by omega)).trans d1, d2⟩, ⟨Ac, cc, Al, cl, (hb.block _ (by omega)).trans h1, h2.alloc _, h3.alloc _, h4⟩, by simp; omega, h.bw.trans (hb.mono (by omega))⟩
theorem BG.drewN (h : BG w W B A xs cap k l) (m : Nat) : BG w (W.drewN m) B A xs cap k l := by
  obtain ⟨Ac, cc, Al, cl, h1, h2, h3, h4⟩ := h.box
  exact ⟨h.bx, h.done, ⟨Ac, cc, Al, cl, h1, own_below h2 ((Below.refl _ _).drewN m), own_below h3 ((Below.refl _ _).drewN m), h4⟩, h.size, h.bw.drewN m⟩
/-- One more came. -/
theorem BG.come (h : BG w W B A xs cap k l) {Ac Al : Option Addr} {cc cl : Nat} (hb : W.heap[B + 2]? = some (.cells #[.slice A xs.length cap, .slice Ac k cc, .pointer none, .slice Al l cl, .slice (some ⟨B + 1, 0, none⟩) xs.length xs.length, .slice none 0 0, .int .i64 0] 160))
    {g cap' : Nat} {W1 W4 : World} {v : Value} (hv : v = .slice Ac k cc) (hW1 : Below W.heap.size W W1) {H : Nat} (hH : W1.heap.size = H) (ho : W4.ownsRow (B + 3) 3 1 (.slice (some ⟨g, 0, none⟩) (k + 1) cap') (k + 1) (idC k ++ [.int .i64 (k : Int)])) (hg : W1.grownBy W4 v.ownBlock) (hl : v.ownBlock = some g ∨ g = H) :
    BG w (W4.setCell ⟨B + 2, 1, none⟩ (.slice (some ⟨g, 0, none⟩) (k + 1) cap')) B A xs cap (k + 1) l := by
  have hs := h.size
  obtain ⟨X, d1, d2⟩ := h.done
  obtain ⟨Ac', cc', Al', cl', h1, h2, h3, h4⟩ := h.box
  have he := h1.symm.trans hb
  simp only [Option.some.injEq, Obj.cells.injEq, Array.mk.injEq, List.cons.injEq, Value.slice.injEq, and_true, true_and] at he
  obtain ⟨⟨rfl, rfl⟩, rfl, rfl⟩ := he
  subst hv
  have own1 := own_below h2 hW1
  have own2 := own_below h3 hW1
  have hs1 := hW1.size
  have hb4 : Below (B + 3) W W4 := (hW1.mono hs).grown hg (by omega) fun j hj => (own1.lt j hj).1
  have hbs : ∀ b, b < B + 2 → (W4.setCell ⟨B + 2, 1, none⟩ (.slice (some ⟨g, 0, none⟩) (k + 1) cap')).heap[b]? = W.heap[b]? := fun b hb' => (Below.heap_setCell _ _ _ _ (by simp; omega)).trans (hb4.block b (by omega))
  have box4 : W4.heap[B + 2]? = _ := (hb4.block (B + 2) (by omega)).trans hb
  refine ⟨(hbs _ (by omega)).trans h.bx, ⟨X, (hbs _ (by omega)).trans d1, d2⟩, ⟨some ⟨g, 0, none⟩, cap', Al', cl', ?_, ?_, ?_, ?_⟩, ?_, ?_⟩
  · rw [block_setQ box4]; rfl
  · rw [idC_succ]
    exact ho.kept (row := some (B + 2)) ⟨rfl, rfl, rfl, by simp, fun i _ hi => Below.heap_setCell _ _ _ _ (fun e => hi (by rw [e]))⟩ (by
      right; intro e; have := (ho.lt g rfl).1; simp [Value.ownBlock] at e; omega)
  · refine (own2.kept hg ?_).kept (row := some (B + 2)) ⟨rfl, rfl, rfl, by simp, fun i _ hi => Below.heap_setCell _ _ _ _ (fun e => hi (by rw [e]))⟩ ?_
    · cases e : (Value.slice Al' l cl').ownBlock with
      | none => exact .inl rfl
      | some j => right; intro e'; exact h4 j e'.symm e
    · cases e : (Value.slice Al' l cl').ownBlock with
      | none => exact .inl rfl
      | some j => right; intro e'; have := (own2.lt j e).1; simp at e'; omega
  · intro g' e1 e2
    simp [Value.ownBlock] at e1
    subst e1
    rcases hl with hl | hl
    · exact h4 _ hl e2
    · have := (h3.lt _ e2).2; omega
  · simp; have := hb4.size; omega
  · exact h.bw.trans ((hb4.mono (by omega)).setCell (p := ⟨B + 2, 1, none⟩) (by simp) _)
/-- Of one more it is known what is left. -/
theorem BG.left (h : BG w W B A xs cap k l) {Ac Al : Option Addr} {cc cl : Nat} (hb : W.heap[B + 2]? = some (.cells #[.slice A xs.length cap, .slice Ac k cc, .pointer none, .slice Al l cl, .slice (some ⟨B + 1, 0, none⟩) xs.length xs.length, .slice none 0 0, .int .i64 0] 160))
    {g cap' : Nat} {W1 W4 : World} {v : Value} (hv : v = .slice Al l cl) (hW1 : Below W.heap.size W W1) {H : Nat} (hH : W1.heap.size = H) (ho : W4.ownsRow (B + 3) 2 1 (.slice (some ⟨g, 0, none⟩) (l + 1) cap') (l + 1) (csC xs l ++ [.int .i64 ((pcs xs).C l : Int)])) (hg : W1.grownBy W4 v.ownBlock) (hl : v.ownBlock = some g ∨ g = H) :
    BG w (W4.setCell ⟨B + 2, 3, none⟩ (.slice (some ⟨g, 0, none⟩) (l + 1) cap')) B A xs cap k (l + 1) := by
  have hs := h.size
  obtain ⟨X, d1, d2⟩ := h.done
  obtain ⟨Ac', cc', Al', cl', h1, h2, h3, h4⟩ := h.box
  have he := h1.symm.trans hb
  simp only [Option.some.injEq, Obj.cells.injEq, Array.mk.injEq, List.cons.injEq, Value.slice.injEq, and_true, true_and] at he
  obtain ⟨⟨rfl, rfl⟩, rfl, rfl⟩ := he
  subst hv
  have own1 := own_below h2 hW1
  have own2 := own_below h3 hW1
  have hs1 := hW1.size
  have hb4 : Below (B + 3) W W4 := (hW1.mono hs).grown hg (by omega) fun j hj => (own2.lt j hj).1
  have hbs : ∀ b, b < B + 2 → (W4.setCell ⟨B + 2, 3, none⟩ (.slice (some ⟨g, 0, none⟩) (l + 1) cap')).heap[b]? = W.heap[b]? := fun b hb' => (Below.heap_setCell _ _ _ _ (by simp; omega)).trans (hb4.block b (by omega))
  have box4 : W4.heap[B + 2]? = _ := (hb4.block (B + 2) (by omega)).trans hb
  refine ⟨(hbs _ (by omega)).trans h.bx, ⟨X, (hbs _ (by omega)).trans d1, d2⟩, ⟨Ac', cc', some ⟨g, 0, none⟩, cap', ?_, ?_, ?_, ?_⟩, ?_, ?_⟩
  · rw [block_setQ box4]; rfl
  · refine (own1.kept hg ?_).kept (row := some (B + 2)) ⟨rfl, rfl, rfl, by simp, fun i _ hi => Below.heap_setCell _ _ _ _ (fun e => hi (by rw [e]))⟩ ?_
    · cases e : (Value.slice Ac' k cc').ownBlock with
      | none => exact .inl rfl
      | some j => right; intro e'; exact h4 j e e'.symm
    · cases e : (Value.slice Ac' k cc').ownBlock with
      | none => exact .inl rfl
      | some j => right; intro e'; have := (own1.lt j e).1; simp at e'; omega
  · rw [csC_succ]
    exact ho.kept (row := some (B + 2)) ⟨rfl, rfl, rfl, by simp, fun i _ hi => Below.heap_setCell _ _ _ _ (fun e => hi (by rw [e]))⟩ (by
      right; intro e; have := (ho.lt g rfl).1; simp [Value.ownBlock] at e; omega)
  · intro g' e1 e2
    simp [Value.ownBlock] at e2
    subst e2
    rcases hl with hl | hl
    · exact h4 _ e1 hl
    · have := (h2.lt _ e1).2; omega
  · simp; have := hb4.size; omega
  · exact h.bw.trans ((hb4.mono (by omega)).setCell (p := ⟨B + 2, 3, none⟩) (by simp) _)
end
end Go.Proofs.Ytcchmkpodfjhcaa
