/-
  A task's jobs: the plain law's acts; their places in memory; the walk of pass.
-/
import Derived.Test.YtcchmkpodfjhcaaVm
import Derived.Test.YtcchmkpodfjhcaaP0
import Derived.Deep.AppendLies
import Derived.Maps.AppendAt
import Derived.Laws.OwnMore
import Derived.BigRegion
import Derived.Deep.CutRange
namespace Go.Proofs.Ytcchmkpodfjhcaa
open Go.RowKit
set_option linter.unusedVariables false
structure J4 where
  a : Int
  b : Int
  c : Int
  d : Int
instance : Inhabited J4 := ⟨⟨0, 0, 0, 0⟩⟩
def J4.cells (q : J4) : List Value := [.int .i64 q.a, .int .i64 q.b, .int .i64 q.c, .int .i64 q.d]
def jC (l : List J4) : List Value := l.flatMap J4.cells
theorem jC_len (l : List J4) : (jC l).length = l.length * 4 := by
  unfold jC
  induction l with
  | nil => rfl
  | cons x r ih => rw [List.flatMap_cons, List.length_append, ih]; simp [J4.cells]; omega
theorem jC_snoc (l : List J4) (x : J4) : jC (l ++ [x]) = jC l ++ x.cells := by unfold jC; simp
theorem jC_at : ∀ (l : List J4) (j o : Nat) (x : J4), l[j]? = some x → o < 4 → (jC l)[j * 4 + o]? = x.cells[o]?
  | [], j, o, x, h, _ => by simp at h
  | y :: r, 0, o, x, h, ho => by
    simp only [List.getElem?_cons_zero, Option.some.injEq] at h
    subst h
    unfold jC
    rw [List.flatMap_cons, Nat.zero_mul, Nat.zero_add, List.getElem?_append_left (by simpa [J4.cells] using ho)]
  | y :: r, j + 1, o, x, h, ho => by
    have := jC_at r j o x (by simpa using h) ho
    rw [← this]
    unfold jC
    rw [List.flatMap_cons, List.getElem?_append_right (by simp [J4.cells]; omega)]
    congr 1
    simp [J4.cells]; omega
theorem jC_set : ∀ (l : List J4) (j o : Nat) (x y : J4) (v : Value), l[j]? = some x → o < 4 → x.cells.set o v = y.cells → (jC l).set (j * 4 + o) v = jC (l.set j y)
  | [], j, o, x, _, _, h, _, _ => by simp at h
  | z :: r, 0, o, x, y, v, h, ho, he => by
    simp only [List.getElem?_cons_zero, Option.some.injEq] at h
    subst h
    unfold jC
    rw [List.set_cons_zero, List.flatMap_cons, List.flatMap_cons, Nat.zero_mul, Nat.zero_add, List.set_append_left _ _ (by simpa [J4.cells] using ho), he]
  | z :: r, j + 1, o, x, y, v, h, ho, he => by
    have := jC_set r j o x y v (by simpa using h) ho he
    unfold jC at this ⊢
    rw [List.set_cons_succ, List.flatMap_cons, List.flatMap_cons, ← this, List.set_append_right _ _ (by simp [J4.cells]; omega)]
    congr 2
    simp [J4.cells]; omega
structure JS where
  l : List J4
  at' : Nat
  since : Int
  runs : Bool
/-- One more stretch. -/
def J4.more (x : J4) (δ : Int) : J4 := { x with c := wrap64 (x.c + wrap64 δ) }
def jpass (s : JS) (tm : Int) : JS := { s with l := if s.runs = true ∧ s.at' < s.l.length then s.l.set s.at' ((s.l[s.at']?.getD default).more (tm - s.since)) else s.l, since := tm }
/-- A mark, behind pass. -/
def jmark' (P i : Int) (s : JS) (m : QM) : JS :=
  if m.b = 11 then { s with runs := decide (m.d = 1) && decide (m.c = i) }
  else if m.c ≠ i then s
  else if m.b = 1 then { s with l := s.l ++ [⟨P, m.a, 0, -1⟩] }
  else if m.b = 2 ∧ s.at' < s.l.length then { s with l := s.l.set s.at' { (s.l[s.at']?.getD default) with d := m.a }, at' := s.at' + 1 }
  else s
def jmark (P i : Int) (s : JS) (m : QM) : JS := jmark' P i (jpass s m.a) m
def jrun (P i : Int) (ms : List QM) : JS := ms.foldl (jmark P i) ⟨[], 0, 0, false⟩
def jres (P i : Int) (ms : List QM) (now : Int) : List J4 := (jpass (jrun P i ms) now).l.filter fun x => decide (0 < x.c)
theorem jpass_len (s : JS) (tm : Int) : (jpass s tm).l.length = s.l.length := by unfold jpass; dsimp only; split <;> simp
theorem jmark_len (P i : Int) (s : JS) (m : QM) : (jmark P i s m).l.length ≤ s.l.length + 1 ∧ (jmark P i s m).at' ≤ s.at' + 1 := by
  have h1 := jpass_len s m.a
  have h2 : (jpass s m.a).at' = s.at' := rfl
  unfold jmark jmark'
  split
  · exact ⟨by dsimp only; omega, by dsimp only; omega⟩
  · split
    · exact ⟨by omega, by omega⟩
    · split
      · exact ⟨by dsimp only; simp; omega, by dsimp only; omega⟩
      · split
        · exact ⟨by dsimp only; simp; omega, by dsimp only; omega⟩
        · exact ⟨by omega, by omega⟩
/-- Where a task's jobs lie. -/
structure JPl (N R bl ba bs br : Nat) : Prop where
  l : N ≤ bl ∧ bl < R
  a : N ≤ ba ∧ ba < R
  s : N ≤ bs ∧ bs < R
  r : N ≤ br ∧ br < R
  ne : bl ≠ ba ∧ bl ≠ bs ∧ bl ≠ br ∧ ba ≠ bs ∧ ba ≠ br ∧ bs ≠ br
structure JW (N R bl ba bs br : Nat) (w W : World) (s : JS) : Prop where
  pl : JPl N R bl ba bs br
  l : ∃ Al cl, W.cell? ⟨bl, 0, none⟩ = some (.slice Al s.l.length cl) ∧ W.ownsRow R 171 4 (.slice Al s.l.length cl) s.l.length (jC s.l)
  a : W.cell? ⟨ba, 0, none⟩ = some (.int .i64 (s.at' : Int))
  sn : W.cell? ⟨bs, 0, none⟩ = some (.int .i64 s.since)
  r : W.cell? ⟨br, 0, none⟩ = some (.bool s.runs)
  f : W.frozen? ⟨bl, 0, none⟩ = false ∧ W.frozen? ⟨ba, 0, none⟩ = false ∧ W.frozen? ⟨bs, 0, none⟩ = false ∧ W.frozen? ⟨br, 0, none⟩ = false
  size : R ≤ W.heap.size
  bw : Below N w W
/-- The block that a cell's slice owns. -/
def ob (W : World) (c : Nat) : Option Nat := match W.cell? ⟨c, 0, none⟩ with
  | some v => v.ownBlock
  | none => none
theorem ob_eq {W : World} {c : Nat} {v : Value} (h : W.cell? ⟨c, 0, none⟩ = some v) : ob W c = v.ownBlock := by unfold ob; rw [h]
section
variable {N R bl ba bs br : Nat} {w W W' : World} {s : JS}
theorem JW.kept (h : JW N R bl ba bs br w W s) (hs : W.heap.size ≤ W'.heap.size) (hb : ∀ b, b < W.heap.size → W'.heap[b]? = W.heap[b]?) (hw : Below N w W') : JW N R bl ba bs br w W' s := by
  obtain ⟨Al, cl, h1, h2⟩ := h.l
  have pl := h.pl
  have l1 := pl.l; have l2 := pl.a; have l3 := pl.s; have l4 := pl.r
  have sz := h.size
  have kc : ∀ b, b < R → W'.cell? ⟨b, 0, none⟩ = W.cell? ⟨b, 0, none⟩ := fun b h => World.cell?_of_block (a := ⟨b, 0, none⟩) (hb b (by omega))
  have kf : ∀ b, b < R → W'.frozen? ⟨b, 0, none⟩ = W.frozen? ⟨b, 0, none⟩ := fun b h => World.frozen?_of_block (a := ⟨b, 0, none⟩) (hb b (by omega))
  refine ⟨pl, ⟨Al, cl, (kc bl l1.2).trans h1, h2.1, ?_⟩, (kc ba l2.2).trans h.a, (kc bs l3.2).trans h.sn, (kc br l4.2).trans h.r, ⟨(kf bl l1.2).trans h.f.1, (kf ba l2.2).trans h.f.2.1, (kf bs l3.2).trans h.f.2.2.1, (kf br l4.2).trans h.f.2.2.2⟩, by omega, hw⟩
  rcases h2.2 with e | ⟨g, cap', cur, e1, e2, e3, e4⟩
  · exact .inl e
  · exact .inr ⟨g, cap', cur, e1, e2, (hb g (lt_of_block e3)).trans e3, e4⟩
theorem JW.alloc (h : JW N R bl ba bs br w W s) (hN : N ≤ R) (o : Obj) : JW N R bl ba bs br w (W.alloc o) s := by
  have hb := below_box W o
  exact h.kept hb.size (fun b hb' => hb.block b hb') (h.bw.trans (hb.mono (by have := h.size; omega)))
theorem JW.drewN (h : JW N R bl ba bs br w W s) (m : Nat) : JW N R bl ba bs br w (W.drewN m) s :=
  h.kept (Nat.le_refl _) (fun b _ => rfl) (h.bw.drewN m)
/-- A box is turned. -/
theorem JW.box (h : JW N R bl ba bs br w W s) {c : Nat} (hc : N ≤ c ∧ c < R) (hne : c ≠ bl) {v : Value} {s' : JS} (hl : s'.l = s.l)
    (ha : c = ba ∧ v = .int .i64 (s'.at' : Int) ∨ c ≠ ba ∧ s'.at' = s.at') (hs : c = bs ∧ v = .int .i64 s'.since ∨ c ≠ bs ∧ s'.since = s.since) (hr : c = br ∧ v = .bool s'.runs ∨ c ≠ br ∧ s'.runs = s.runs) :
    JW N R bl ba bs br w (W.setCell ⟨c, 0, none⟩ v) s' := by
  obtain ⟨Al, cl, h1, h2⟩ := h.l
  have same : ∀ {u}, W.cell? ⟨c, 0, none⟩ = some u → (W.setCell ⟨c, 0, none⟩ v).cell? ⟨c, 0, none⟩ = some v := fun hu => World.cell?_setCell_same' _ _ _ (by rw [hu]; rfl)
  have oth : ∀ b, c ≠ b → (W.setCell ⟨c, 0, none⟩ v).cell? ⟨b, 0, none⟩ = W.cell? ⟨b, 0, none⟩ := fun b hb => World.cell?_setCell_other _ _ _ _ (by simp <;> omega)
  refine ⟨h.pl, ⟨Al, cl, ?_, ?_⟩, ?_, ?_, ?_, ⟨?_, ?_, ?_, ?_⟩, by simpa using h.size, h.bw.setCell (p := ⟨c, 0, none⟩) hc.1 v⟩
  · rw [hl, oth _ hne]; exact h1
  · rw [hl]
    refine h2.kept (row := some c) ⟨rfl, rfl, rfl, by simp, fun i _ hi => Below.heap_setCell _ _ _ _ (fun e => hi (by rw [e]))⟩ ?_
    cases e : (Value.slice Al s.l.length cl).ownBlock with
    | none => exact .inl rfl
    | some j => right; intro e'; have := (h2.lt j e).1; simp at e'; omega
  · rcases ha with ⟨rfl, rfl⟩ | ⟨h3, h4⟩
    · exact same h.a
    · rw [oth _ h3, h4]; exact h.a
  · rcases hs with ⟨rfl, rfl⟩ | ⟨h3, h4⟩
    · exact same h.sn
    · rw [oth _ h3, h4]; exact h.sn
  · rcases hr with ⟨rfl, rfl⟩ | ⟨h3, h4⟩
    · exact same h.r
    · rw [oth _ h3, h4]; exact h.r
  all_goals rw [World.frozen?_setCell]
  · exact h.f.1
  · exact h.f.2.1
  · exact h.f.2.2.1
  · exact h.f.2.2.2
/-- A job is turned. -/
theorem JW.job (h : JW N R bl ba bs br w W s) {g n cl : Nat} (hN : N ≤ R) (hg : W.cell? ⟨bl, 0, none⟩ = some (.slice (some ⟨g, 0, none⟩) n cl)) {i o : Nat} {x y : J4} {v : Value} (hi : s.l[i]? = some x) (ho : o < 4) (hv : x.cells.set o v = y.cells) :
    JW N R bl ba bs br w (W.setCell ⟨g, i * 4 + o, none⟩ v) { s with l := s.l.set i y } := by
  obtain ⟨Al, cl', h1, h2⟩ := h.l
  have he := h1.symm.trans hg
  simp only [Option.some.injEq, Value.slice.injEq] at he
  obtain ⟨rfl, rfl, rfl⟩ := he
  have hgR := (h2.lt g rfl).1
  have pl := h.pl
  have oth : ∀ b, b < R → (W.setCell ⟨g, i * 4 + o, none⟩ v).cell? ⟨b, 0, none⟩ = W.cell? ⟨b, 0, none⟩ := fun b hb => World.cell?_setCell_other _ _ _ _ (by simp <;> omega)
  refine ⟨pl, ⟨some ⟨g, 0, none⟩, cl', ?_, ?_⟩, (oth _ pl.a.2).trans h.a, (oth _ pl.s.2).trans h.sn, (oth _ pl.r.2).trans h.r, ⟨?_, ?_, ?_, ?_⟩, by simpa using h.size, h.bw.setCell (p := ⟨g, i * 4 + o, none⟩) (by show N ≤ g; omega) v⟩
  · dsimp only; rw [List.length_set, oth _ pl.l.2]; exact h1
  · have := (h2.stored (i * 4 + o) v).1
    rw [jC_set s.l i o x y v hi ho hv] at this
    dsimp only; rw [List.length_set]; exact this
  all_goals rw [World.frozen?_setCell]
  · exact h.f.1
  · exact h.f.2.1
  · exact h.f.2.2.1
  · exact h.f.2.2.2
end
/-- What pass keeps. -/
structure JF (bl bs : Nat) (W W' : World) : Prop where
  size : W.heap.size = W'.heap.size
  block : ∀ b, b < W.heap.size → b ≠ bs → ob W bl ≠ some b → W'.heap[b]? = W.heap[b]?
set_option maxRecDepth 100000 in
set_option maxHeartbeats 4000000 in
theorem pass_any {N R bl ba bs br : Nat} {w W : World} {s : JS} (h : JW N R bl ba bs br w W s) (hN : N ≤ R) (hl : s.l.length ≤ 4096) (tm : Int) :
    Calls Try.prog 105 #[.int .i64 tm, .pointer (some ⟨br, 0, none⟩), .pointer (some ⟨ba, 0, none⟩), .pointer (some ⟨bl, 0, none⟩), .pointer (some ⟨bs, 0, none⟩)] W fun e w' => e = .returned (.tuple #[]) ∧ JW N R bl ba bs br w w' (jpass s tm) ∧ JF bl bs W w' := by
  obtain ⟨Al, cl, h1, h2⟩ := h.l
  have ca := h.a
  have cs := h.sn
  have cr := h.r
  have fs := h.f.2.2.1
  have pl := h.pl
  have H := Kept.mk h
  have HOB := Kept.mk (ob_eq h1)
  obtain ⟨n, hn⟩ : ∃ n, n = s.l.length := ⟨_, rfl⟩
  obtain ⟨k, hk⟩ : ∃ k, k = s.at' := ⟨_, rfl⟩
  obtain ⟨si, hsi⟩ : ∃ si, si = s.since := ⟨_, rfl⟩
  rw [← hk] at ca
  rw [← hsi] at cs
  rw [← hn] at h1 hl HOB
  cases hr : s.runs with
  | true =>
    rw [hr] at cr
    by_cases hlt : k < n
    · have ik : (k : Int) < (n : Int) := by omega
      obtain ⟨g, cap', e1, hgR, hglt⟩ := h2.form (by omega)
      cases e1
      obtain ⟨x, hx⟩ : ∃ x, s.l[k]? = some x := ⟨s.l[k], List.getElem?_eq_getElem (by omega)⟩
      have hcx : W.cell? ⟨g, k * 4 + 2, none⟩ = some (.int .i64 x.c) := by
        rw [h2.cellAt _ (by omega), jC_at _ _ _ _ hx (by omega)]; rfl
      have hfx : W.frozen? ⟨g, k * 4 + 2, none⟩ = false := h2.frozenAt _
      obtain ⟨v, hv⟩ : ∃ v, v = wrap64 (x.c + wrap64 (tm - si)) := ⟨_, rfl⟩
      have hJ := h.job (i := k) (o := 2) (x := x) (y := x.more (tm - si)) (v := .int .i64 v) hN (by rw [h1, hn]) hx (by omega) (by rw [hv]; rfl)
      have hst : jpass s tm = { s with l := s.l.set k (x.more (tm - si)), since := tm } := by
        unfold jpass
        rw [if_pos ⟨hr, by omega⟩, ← hk, hx, ← hsi]; rfl
      have hJ2 := hJ.box (c := bs) (s' := { s with l := s.l.set k (x.more (tm - si)), since := tm }) (v := .int .i64 tm) pl.s (by have := pl.ne; omega) rfl (.inr ⟨by have := pl.ne; omega, rfl⟩) (.inl ⟨rfl, rfl⟩) (.inr ⟨by have := pl.ne; omega, rfl⟩)
      rw [← hst] at hJ2
      have FIN := Kept.mk (show JW N R bl ba bs br w (((W.drew).setCell ⟨g, k * 4 + 2, none⟩ (.int .i64 v)).setCell ⟨bs, 0, none⟩ (.int .i64 tm)) (jpass s tm) ∧ JF bl bs W (((W.drew).setCell ⟨g, k * 4 + 2, none⟩ (.int .i64 v)).setCell ⟨bs, 0, none⟩ (.int .i64 tm)) from
        ⟨hJ2.drewN 1, by simp <;> rfl, fun b _ h1' h2' => by
          rw [Below.heap_setCell _ _ _ _ h1', Below.heap_setCell _ _ _ _ (fun e => h2' (by rw [HOB.out]; simp [Value.ownBlock, e]))]
          rfl⟩)
      have hbg : bs ≠ g := by have := pl.s; omega
      have HV := Kept.mk hv
      clear h h2 pl hn hk hsi hr hx hJ hJ2 hst
      go_enter Try.func105, Try.ntmps105
      go_upto_region 1 with fail
      go_region
      all_goals go_wp2
      all_goals go_end0
      all_goals rw [← HV.out]
      all_goals exact ⟨rfl, FIN.out⟩
    · have hf : decide ((k : Int) < (n : Int)) = false := decide_eq_false (by omega)
      have hst : jpass s tm = { s with since := tm } := by
        unfold jpass
        rw [if_neg (fun hc => hlt (by omega))]
      have hJ2 := h.box (c := bs) (s' := { s with since := tm }) (v := .int .i64 tm) pl.s (by have := pl.ne; omega) rfl (.inr ⟨by have := pl.ne; omega, rfl⟩) (.inl ⟨rfl, rfl⟩) (.inr ⟨by have := pl.ne; omega, rfl⟩)
      rw [← hst] at hJ2
      have FIN := Kept.mk (show JW N R bl ba bs br w (W.setCell ⟨bs, 0, none⟩ (.int .i64 tm)) (jpass s tm) ∧ JF bl bs W (W.setCell ⟨bs, 0, none⟩ (.int .i64 tm)) from
        ⟨hJ2, by simp, fun b _ h1' h2' => Below.heap_setCell _ _ _ _ h1'⟩)
      clear h h2 pl hn hk hsi hr hJ2 hst
      go_enter Try.func105, Try.ntmps105
      go_wp2
      go_end0
      exact ⟨rfl, FIN.out⟩
  | false =>
    rw [hr] at cr
    have hst : jpass s tm = { s with since := tm } := by
      unfold jpass
      rw [if_neg (fun hc => by rw [hr] at hc; exact absurd hc.1 (by decide))]
    have hJ2 := h.box (c := bs) (s' := { s with since := tm }) (v := .int .i64 tm) pl.s (by have := pl.ne; omega) rfl (.inr ⟨by have := pl.ne; omega, rfl⟩) (.inl ⟨rfl, rfl⟩) (.inr ⟨by have := pl.ne; omega, rfl⟩)
    rw [← hst] at hJ2
    have FIN := Kept.mk (show JW N R bl ba bs br w (W.setCell ⟨bs, 0, none⟩ (.int .i64 tm)) (jpass s tm) ∧ JF bl bs W (W.setCell ⟨bs, 0, none⟩ (.int .i64 tm)) from
      ⟨hJ2, by simp, fun b _ h1' h2' => Below.heap_setCell _ _ _ _ h1'⟩)
    clear h h2 pl hn hk hsi hr hJ2 hst
    go_enter Try.func105, Try.ntmps105
    go_wp2
    go_end0
    exact ⟨rfl, FIN.out⟩
end Go.Proofs.Ytcchmkpodfjhcaa
