/-
  Rows of loads of a function's own, side by side (K6's laws); the loads that stand in a task's way; the plain law of solve with one of them alone.
-/
import Derived.Test.YtfneloplbkjbhaaDoorTP
import Derived.Test.YtfneloplbkjbhaaDoorGS
import Derived.Laws.OwnMore
import Derived.Deep.AppendLies
namespace Go.Proofs.YtfneloplbkjbhaaDoor
open Go.RowKit
set_option linter.unusedVariables false
/-- A row of a function's own. -/
structure Rw where
  e : TypeId
  sz : Nat
  n : Nat
  l : List Value
  v : Value
def Far (r s : Rw) : Prop := ∀ g, r.v.ownBlock = some g → s.v.ownBlock = some g → False
theorem Far.symm {r s : Rw} (h : Far r s) : Far s r := fun g a b => h g b a
structure LRw (w W : World) (rs : List Rw) : Prop where
  own : ∀ r ∈ rs, W.ownsRow w.heap.size r.e r.sz r.v r.n r.l
  dis : rs.Pairwise Far
  bw : Below w.heap.size w W
section
variable {w W W' : World} {r s : Rw} {rs : List Rw}
theorem LRw.first (w : World) : LRw w w [] := ⟨fun r h => (by cases h), List.Pairwise.nil, Below.refl _ _⟩
theorem LRw.below (h : LRw w W rs) (hb : Below W.heap.size W W') : LRw w W' rs :=
  ⟨fun r hr => own_below (h.own r hr) hb, h.dis, h.bw.trans (hb.mono h.bw.size)⟩
theorem LRw.alloc (h : LRw w W rs) (o : Obj) : LRw w (W.alloc o) rs := h.below (below_box W o)
theorem LRw.perm (h : LRw w W rs) {rs' : List Rw} (hp : rs.Perm rs') : LRw w W rs' :=
  ⟨fun r hr => h.own r (hp.mem_iff.2 hr), (hp.pairwise_iff (fun h => Far.symm h)).1 h.dis, h.bw⟩
theorem LRw.push (h : LRw w W rs) (e : TypeId) (sz : Nat) : LRw w W (⟨e, sz, 0, [], .slice none 0 0⟩ :: rs) := by
  refine ⟨fun s hs => ?_, List.pairwise_cons.2 ⟨fun s _ g a _ => by simp [Value.ownBlock] at a, h.dis⟩, h.bw⟩
  rcases List.mem_cons.1 hs with rfl | hs
  · exact ⟨by simp, .inl ⟨rfl, rfl⟩⟩
  · exact h.own s hs
theorem LRw.head (h : LRw w W (r :: rs)) : W.ownsRow w.heap.size r.e r.sz r.v r.n r.l := h.own r (by simp)
theorem LRw.app (h : LRw w W (r :: rs)) {v' : Value} {m : Nat} {l' : List Value} (ho : W'.ownsRow w.heap.size r.e r.sz v' m l') (hg : W.grownBy W' r.v.ownBlock) (hl : v'.ownBlock = r.v.ownBlock ∨ ∃ g, v'.ownBlock = some g ∧ W.heap.size ≤ g) : LRw w W' (⟨r.e, r.sz, m, l', v'⟩ :: rs) := by
  have hd := List.pairwise_cons.1 h.dis
  refine ⟨fun s hs => ?_, List.pairwise_cons.2 ⟨fun s hs g a b => ?_, hd.2⟩, h.bw.grown hg h.bw.size fun j hj => (h.head.lt j hj).1⟩
  · rcases List.mem_cons.1 hs with rfl | hs
    · exact ho
    · refine (h.own s (by simp [hs])).kept hg ?_
      cases hp : s.v.ownBlock with
      | none => exact .inl rfl
      | some j => right; intro e; exact hd.1 s hs j e.symm hp
  · rcases hl with hl | ⟨j, hl, hj⟩
    · rw [hl] at a; exact hd.1 s hs g a b
    · rw [hl] at a; cases a
      have := ((h.own s (by simp [hs])).lt _ b).2; omega
theorem LRw.lies (h : LRw w W (r :: rs)) {g m cap : Nat} {l' : List Value} (ho : W'.ownsRow w.heap.size r.e r.sz (.slice (some ⟨g, 0, none⟩) m cap) m l') (hg : W.grownBy W' r.v.ownBlock) (hl : r.v.ownBlock = some g ∨ g = W.heap.size) : LRw w W' (⟨r.e, r.sz, m, l', .slice (some ⟨g, 0, none⟩) m cap⟩ :: rs) :=
  h.app ho hg (by
    rcases hl with e | e
    · left; rw [e]; rfl
    · right; exact ⟨g, rfl, by omega⟩)
end
/-- A row of loads. -/
def lR (l : List Q4) (A : Option Addr) (n c : Nat) : Rw := ⟨56, 4, n, l.flatMap Q4.cells, .slice A n c⟩
/-! ### What stands in a task's way. -/
def qT (t : Tk) : Q4 := ⟨t.b, 0, t.b, t.e⟩
def heK (ts : List Tk) (i : Int) : Nat → List Q4
  | 0 => []
  | k + 1 => heK ts i k ++ (if (k : Int) = i then [] else (ts[k]?.map qT).toList)
def onK (ts : List Tk) (i o : Int) : Nat → List Q4
  | 0 => []
  | k + 1 => onK ts i o k ++ (if (k : Int) = i then [] else if (k : Int) = o then (ts[k]?.map qT).toList else [])
theorem he_same {ts : List Tk} {i : Int} {k : Nat} (h : (k : Int) = i) : heK ts i (k + 1) = heK ts i k := by
  show heK ts i k ++ _ = _
  rw [if_pos h, List.append_nil]
theorem on_same {ts : List Tk} {i o : Int} {k : Nat} (h : (k : Int) = i ∨ ¬ (k : Int) = o) : onK ts i o (k + 1) = onK ts i o k := by
  show onK ts i o k ++ _ = _
  by_cases hi : (k : Int) = i
  · rw [if_pos hi, List.append_nil]
  · rw [if_neg hi, if_neg (h.resolve_left hi), List.append_nil]
theorem he_next {ts : List Tk} {i : Int} {k : Nat} {t : Tk} (h : ¬ (k : Int) = i) (ht : ts[k]? = some t) : heK ts i (k + 1) = heK ts i k ++ [qT t] := by
  show heK ts i k ++ _ = _
  rw [if_neg h, ht]
  rfl
theorem on_next {ts : List Tk} {i o : Int} {k : Nat} {t : Tk} (h : ¬ (k : Int) = i) (ho : (k : Int) = o) (ht : ts[k]? = some t) : onK ts i o (k + 1) = onK ts i o k ++ [qT t] := by
  show onK ts i o k ++ _ = _
  rw [if_neg h, if_pos ho, ht]
  rfl
theorem on_in (ts : List Tk) (i o : Int) : ∀ k : Nat, ((k : Int) ≤ o → onK ts i o k = []) ∧ (onK ts i o k = [] ∨ ∃ x ∈ heK ts i k, onK ts i o k = [x])
  | 0 => ⟨fun _ => rfl, .inl rfl⟩
  | k + 1 => by
    obtain ⟨h1, h2⟩ := on_in ts i o k
    have sub : ∀ x ∈ heK ts i k, x ∈ heK ts i (k + 1) := fun x hx => List.mem_append_left _ hx
    refine ⟨fun h => ?_, ?_⟩
    · rw [on_same (.inr (by omega))]
      exact h1 (by omega)
    · by_cases hs : (k : Int) = i ∨ ¬ (k : Int) = o
      · rw [on_same hs]
        rcases h2 with h2 | ⟨x, hx, h2⟩
        · exact .inl h2
        · exact .inr ⟨x, sub x hx, h2⟩
      · have hi : ¬ (k : Int) = i := fun h => hs (.inl h)
        have ho : (k : Int) = o := Classical.byContradiction fun h => hs (.inr h)
        cases ht : ts[k]? with
        | none =>
          have e1 : onK ts i o (k + 1) = onK ts i o k := by
            show onK ts i o k ++ _ = _
            rw [if_neg hi, if_pos ho, ht]
            simp
          rw [e1]
          exact .inl (h1 (by omega))
        | some t =>
          rw [on_next hi ho ht, h1 (by omega), he_next hi ht]
          exact .inr ⟨qT t, by simp, rfl⟩
/-! ### One of the loads alone. -/
theorem fold_mem : ∀ (l : List (Int × Int)) (s t : Int), (∀ x ∈ l, 0 ≤ x.1 ∧ 0 ≤ x.2) → 0 ≤ s → l.foldl addP (some s) = some t → s ≤ t ∧ ∀ y ∈ l, y.1 * y.2 ≤ t
  | [], s, t, _, _, h => by
    simp only [List.foldl_nil, Option.some.injEq] at h
    exact ⟨by omega, fun y hy => by cases hy⟩
  | x :: l, s, t, hn, hs, h => by
    rw [List.foldl_cons, addP_some] at h
    split at h
    · rw [foldP_none] at h
      cases h
    · obtain ⟨x1, x2⟩ := hn x (by simp)
      have hp : 0 ≤ x.1 * x.2 := Int.mul_nonneg x1 x2
      obtain ⟨h1, h2⟩ := fold_mem l (s + x.1 * x.2) t (fun y hy => hn y (by simp [hy])) (by omega) h
      refine ⟨by omega, fun y hy => ?_⟩
      rcases List.mem_cons.1 hy with rfl | hy
      · omega
      · exact h2 y hy
theorem al_mem {xs : List Q4} {x : Q4} {w : Int} (hx : x ∈ xs) (h1 : ldsE [x] = 0) (hb : ldsE xs = 0) (w0 : 0 ≤ w) (w1 : w ≤ 4503599627370496) (h : alE xs w = 0) : alV [x] w ≤ alV xs w := by
  cases ht : sumP (xs.map (arrOf w)) with
  | none => have := (al_over hb w0 w1 ht).1; omega
  | some t =>
    have nn := arr_nonneg hb w
    obtain ⟨f1, f2⟩ := fold_mem (xs.map (arrOf w)) 0 t nn (by omega) ht
    have hm := f2 (arrOf w x) (List.mem_map.2 ⟨x, hx, rfl⟩)
    rw [(al_sum hb w0 w1 ht).2]
    cases hs : sumP ([x].map (arrOf w)) with
    | none => rw [(al_over h1 w0 w1 hs).2]; omega
    | some s =>
      rw [(al_sum h1 w0 w1 hs).2]
      have : sumP ([x].map (arrOf w)) = addP (some 0) (arrOf w x) := rfl
      rw [this, addP_some] at hs
      split at hs
      · cases hs
      · simp only [Option.some.injEq] at hs
        omega
theorem so_mem {b : Int} {xs : List Q4} {x : Q4} {lim : Int} (hx : x ∈ xs) (h1 : stE b [x] lim = 0) (h2 : stE b xs lim = 0) : soV b [x] lim ≤ soV b xs lim := by
  obtain ⟨z, e, a1, a2, a3, a4, a5, a6, a7⟩ := so_least h1
  obtain ⟨y, e', c1, c2, c3, c4, c5, c6, c7⟩ := so_least h2
  rw [e, e']
  by_cases hlt : y < z
  · have h3 := (a7 y c4 hlt)
    have p1 := ro_parts c1
    have p2 := ro_parts h3.1
    have := al_mem hx p2.1 p1.1 c5 c6 p1.2.2.2.2.2.1
    omega
  · omega
/-- The law: with one of them alone it takes no more. -/
theorem so_on (ts : List Tk) (i o : Int) (k : Nat) (b lim : Int) (h1 : stE b (heK ts i k) lim = 0) (h2 : stE b (onK ts i o k) lim = 0) : soV b (onK ts i o k) lim ≤ soV b (heK ts i k) lim := by
  rcases (on_in ts i o k).2 with h | ⟨x, hx, h⟩
  · rw [h] at h2 ⊢
    exact so_app (l := []) (m := heK ts i k) h2 h1
  · rw [h] at h2 ⊢
    exact so_mem hx h2 h1
end Go.Proofs.YtfneloplbkjbhaaDoor
