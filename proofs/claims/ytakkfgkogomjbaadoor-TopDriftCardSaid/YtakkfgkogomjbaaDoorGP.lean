/-
  A pool in memory: three blocks, told by numbers; what keeps them, and what keeps all others.
-/
import Derived.Test.YtakkfgkogomjbaaDoorVi
import Derived.Test.YtakkfgkogomjbaaDoorQPL
import Derived.Deep.RegionHeld3
import Derived.StillTailTactics
import Derived.Deep.QuietTactic
import Derived.BigQuiet
import Derived.Laws.MakeOwn
namespace Go.Proofs.YtakkfgkogomjbaaDoor
open Go.RowKit
set_option linter.unusedVariables false
/-- A fact put by, which nothing opens. -/
structure Kept (p : Prop) : Prop where
  out : p
theorem cell_lt {w : World} {b o : Nat} {v : Value} (h : w.cell? ⟨b, o, none⟩ = some v) : b < w.heap.size := by
  unfold World.cell? at h
  split at h
  · rename_i hh; exact (Array.getElem?_eq_some_iff.1 hh).1
  · cases h
/-- A block of numbers. -/
structure NB (w : World) (L N : Nat) (F : Nat → Int) : Prop where
  c : ∀ j, j < N → w.cell? ⟨L, j, none⟩ = some (.int .i64 (F j))
  f : ∀ j, w.frozen? ⟨L, j, none⟩ = false
/-- Whatever lies outside of the blocks from lo on, below hi, stays. -/
structure Kp (lo hi : Nat) (w w' : World) : Prop where
  os : w'.os = w.os
  tape : w'.tape = w.tape
  output : w'.output = w.output
  size : w.heap.size ≤ w'.heap.size
  block : ∀ i, i < w.heap.size → (i < lo ∨ hi ≤ i) → w'.heap[i]? = w.heap[i]?
theorem Kp.of_below {lo hi : Nat} {w w' : World} (h : Below w.heap.size w w') : Kp lo hi w w' := ⟨h.os, h.tape, h.output, h.size, fun i hi _ => h.block i hi⟩
theorem Kp.refl (lo hi : Nat) (w : World) : Kp lo hi w w := ⟨rfl, rfl, rfl, Nat.le_refl _, fun _ _ _ => rfl⟩
theorem Kp.trans {lo hi : Nat} {a b c : World} (h : Kp lo hi a b) (k : Kp lo hi b c) : Kp lo hi a c :=
  ⟨k.os.trans h.os, k.tape.trans h.tape, k.output.trans h.output, Nat.le_trans h.size k.size, fun i hi hc => (k.block i (Nat.lt_of_lt_of_le hi h.size) hc).trans (h.block i hi hc)⟩
theorem Kp.below {lo hi B : Nat} {a w w' : World} (h : Below B a w) (k : Kp lo hi w w') (hB : B ≤ lo) (hs : B ≤ w.heap.size) : Below B a w' :=
  h.trans ⟨k.os, k.tape, k.output, k.size, fun i hi => k.block i (by omega) (.inl (by omega))⟩
theorem Kp.drewN {lo hi : Nat} {a w : World} (h : Kp lo hi a w) (n : Nat) : Kp lo hi a (w.drewN n) := ⟨h.os, h.tape, h.output, h.size, h.block⟩
theorem Kp.set {lo hi : Nat} {a w : World} (h : Kp lo hi a w) {p : Addr} (h1 : lo ≤ p.block) (h2 : p.block < hi) (v : Value) : Kp lo hi a (w.setCell p v) := by
  refine ⟨h.os, h.tape, h.output, by simpa using h.size, fun i hi hc => ?_⟩
  rw [Below.heap_setCell _ _ _ _ (by omega)]
  exact h.block i hi hc
theorem Kp.alloc {lo hi : Nat} {a w : World} (h : Kp lo hi a w) (o : Obj) : Kp lo hi a (w.alloc o) := h.trans (Kp.of_below (below_box w o))
theorem Kp.set_new {lo hi : Nat} {a w : World} (h : Kp lo hi a w) {p : Addr} (h1 : a.heap.size ≤ p.block) (v : Value) : Kp lo hi a (w.setCell p v) := by
  refine ⟨h.os, h.tape, h.output, by simpa using h.size, fun i hi hc => ?_⟩
  rw [Below.heap_setCell _ _ _ _ (by omega)]
  exact h.block i hi hc
theorem NB.kept {w w' : World} {L N : Nat} {F : Nat → Int} (h : NB w L N F) (hb : w'.heap[L]? = w.heap[L]?) : NB w' L N F :=
  ⟨fun j hj => (World.cell?_of_block (a := ⟨L, j, none⟩) hb).trans (h.c j hj), fun j => (World.frozen?_of_block (a := ⟨L, j, none⟩) hb).trans (h.f j)⟩
theorem NB.far {w : World} {L N : Nat} {F : Nat → Int} (h : NB w L N F) {p : Addr} (hp : p.block ≠ L) (v : Value) : NB (w.setCell p v) L N F :=
  h.kept (Below.heap_setCell _ _ _ _ (fun e => hp e.symm))
theorem NB.set {w : World} {L N : Nat} {F : Nat → Int} (h : NB w L N F) {o : Nat} (ho : o < N) (v : Int) : NB (w.setCell ⟨L, o, none⟩ (.int .i64 v)) L N (upd F o v) := by
  refine ⟨fun j hj => ?_, fun j => ?_⟩
  · by_cases e : j = o
    · subst e
      rw [upd_same]
      exact World.cell?_setCell_same' _ _ _ (by rw [h.c j ho]; rfl)
    · rw [upd_ne e, World.cell?_setCell_other _ _ _ _ (by simp)]
      exact h.c j hj
  · rw [World.frozen?_setCell]
    exact h.f j
theorem NB.drewN {w : World} {L N : Nat} {F : Nat → Int} (h : NB w L N F) (n : Nat) : NB (w.drewN n) L N F := ⟨h.c, h.f⟩
theorem NB.lt {w : World} {L N : Nat} {F : Nat → Int} (h : NB w L N F) (hN : 0 < N) : L < w.heap.size := (cell_lt (h.c 0 hN))
/-- A pool. -/
structure PB (w : World) (p L K n m : Nat) (F G : Nat → Int) (top free : Int) : Prop where
  c0 : w.cell? ⟨p, 0, none⟩ = some (.slice (some ⟨L, 0, none⟩) n n)
  c1 : w.cell? ⟨p, 1, none⟩ = some (.slice (some ⟨K, 0, none⟩) m m)
  c2 : w.cell? ⟨p, 2, none⟩ = some (.int .i64 top)
  c3 : w.cell? ⟨p, 3, none⟩ = some (.int .i64 free)
  pf : ∀ i, w.frozen? ⟨p, i, none⟩ = false
  l : NB w L (n * 3) F
  k : NB w K (m * 2) G
theorem PB.kept {w w' : World} {p L K n m : Nat} {F G : Nat → Int} {top free : Int} (h : PB w p L K n m F G top free) (h1 : w'.heap[p]? = w.heap[p]?) (h2 : w'.heap[L]? = w.heap[L]?) (h3 : w'.heap[K]? = w.heap[K]?) : PB w' p L K n m F G top free :=
  ⟨(World.cell?_of_block (a := ⟨p, 0, none⟩) h1).trans h.c0, (World.cell?_of_block (a := ⟨p, 1, none⟩) h1).trans h.c1, (World.cell?_of_block (a := ⟨p, 2, none⟩) h1).trans h.c2, (World.cell?_of_block (a := ⟨p, 3, none⟩) h1).trans h.c3, fun i => (World.frozen?_of_block (a := ⟨p, i, none⟩) h1).trans (h.pf i), h.l.kept h2, h.k.kept h3⟩
/-- Where a pool's blocks lie. -/
structure PL (lo hi p L K : Nat) : Prop where
  p1 : lo ≤ p
  p2 : p < hi
  l1 : lo ≤ L
  l2 : L < hi
  k1 : lo ≤ K
  k2 : K < hi
  pl : p ≠ L
  pk : p ≠ K
  lk : L ≠ K
theorem PB.below {w w' : World} {p L K n m : Nat} {F G : Nat → Int} {top free : Int} (h : PB w p L K n m F G top free) (hb : Below w.heap.size w w') {lo hi : Nat} (hl : PL lo hi p L K) (hh : hi ≤ w.heap.size) : PB w' p L K n m F G top free :=
  h.kept (hb.block _ (by have := hl.p2; omega)) (hb.block _ (by have := hl.l2; omega)) (hb.block _ (by have := hl.k2; omega))
theorem PB.drewN {w : World} {p L K n m : Nat} {F G : Nat → Int} {top free : Int} (h : PB w p L K n m F G top free) (j : Nat) : PB (w.drewN j) p L K n m F G top free := ⟨h.c0, h.c1, h.c2, h.c3, h.pf, h.l.drewN j, h.k.drewN j⟩
end Go.Proofs.YtakkfgkogomjbaaDoor
namespace Go.Proofs.YtakkfgkogomjbaaDoor
open Go.RowKit
set_option linter.unusedVariables false
def whV (n : Nat) (F : Nat → Int) (i : Int) : Int × Int := if i < 0 ∨ (n : Int) ≤ i then (0, 1) else if F (i.toNat * 3) = -1 then (0, 3) else (F (i.toNat * 3), 0)
theorem where_any (w : World) (p L K n m : Nat) (F G : Nat → Int) (top free : Int) (h : PB w p L K n m F G top free) (hn : n ≤ 4096) (i : Int) :
    Calls Tryd.prog 71 #[.pointer (some ⟨p, 0, none⟩), .int .i64 i] w fun e w' => e = .returned (.tuple #[.int .i64 (whV n F i).1, .int .i64 (whV n F i).2]) ∧ w = w' := by
  obtain ⟨c0, c1, c2, c3, pf, hl, hk⟩ := h
  by_cases h0 : i < 0
  · have e : whV n F i = (0, 1) := by unfold whV; rw [if_pos (.inl h0)]
    rw [e]
    clear e
    go_enter Tryd.func71, Tryd.ntmps71
    go_wp2
    go_ret2
    exact ⟨rfl, rfl⟩
  · obtain ⟨j, rfl⟩ : ∃ j : Nat, i = j := ⟨i.toNat, by omega⟩
    by_cases h1 : j < n
    · have l0 := hl.c (j * 3) (by omega)
      obtain ⟨x, hx⟩ : ∃ x, x = F (j * 3) := ⟨_, rfl⟩
      by_cases hx1 : x = -1
      · have e : whV n F j = (0, 3) := by unfold whV; rw [if_neg (by omega)]; simp [← hx, hx1]
        rw [e]
        rw [← hx] at l0
        clear e
        have q : (x == -1) = true := by simp [hx1]
        go_enter Tryd.func71, Tryd.ntmps71
        go_wp2
        go_ret2
        exact ⟨rfl, rfl⟩
      · have e : whV n F j = (x, 0) := by unfold whV; rw [if_neg (by omega)]; simp [← hx, hx1]
        rw [e]
        rw [← hx] at l0
        clear e
        have q : (x == -1) = false := by simp [hx1]
        go_enter Tryd.func71, Tryd.ntmps71
        go_wp2
        go_ret2
        exact ⟨rfl, rfl⟩
    · have e : whV n F j = (0, 1) := by unfold whV; rw [if_pos (.inr (by omega))]
      rw [e]
      clear e
      go_enter Tryd.func71, Tryd.ntmps71
      go_wp2
      go_ret2
      exact ⟨rfl, rfl⟩
theorem has_any (w : World) (p L K n m : Nat) (F G : Nat → Int) (top free : Int) (h : PB w p L K n m F G top free) (hm : m ≤ 4096) (k : Int) :
    Calls Tryd.prog 49 #[.pointer (some ⟨p, 0, none⟩), .int .i64 k] w fun e w' => e = .returned (.bool (decide (0 ≤ k ∧ k < m))) ∧ w = w' := by
  obtain ⟨c0, c1, c2, c3, pf, hl, hk⟩ := h
  by_cases h0 : 0 ≤ k
  · by_cases h1 : k < m
    · rw [decide_eq_true (⟨h0, h1⟩ : 0 ≤ k ∧ k < m)]
      go_enter Tryd.func49, Tryd.ntmps49
      go_wp2
      go_ret
      exact ⟨rfl, rfl⟩
    · rw [decide_eq_false (fun h : 0 ≤ k ∧ k < m => h1 h.2)]
      go_enter Tryd.func49, Tryd.ntmps49
      go_wp2
      go_ret
      exact ⟨rfl, rfl⟩
  · rw [decide_eq_false (fun h : 0 ≤ k ∧ k < m => h0 h.1)]
    go_enter Tryd.func49, Tryd.ntmps49
    go_wp2
    go_ret
    exact ⟨rfl, rfl⟩
theorem free_any (w : World) (p L K n m : Nat) (F G : Nat → Int) (top free : Int) (h : PB w p L K n m F G top free) :
    Calls Tryd.prog 15 #[.pointer (some ⟨p, 0, none⟩)] w fun e w' => e = .returned (.int .i64 free) ∧ w = w' := by
  obtain ⟨c0, c1, c2, c3, pf, hl, hk⟩ := h
  go_enter Tryd.func15, Tryd.ntmps15
  go_wp2
  go_ret
  exact ⟨rfl, rfl⟩
theorem first_any (w : World) (p L K n m : Nat) (F G : Nat → Int) (top free : Int) (h : PB w p L K n m F G top free) (hm : m ≤ 4096) (k : Int) :
    Calls Tryd.prog 44 #[.pointer (some ⟨p, 0, none⟩), .int .i64 k] w fun e w' => e = .returned (if 0 ≤ k ∧ k < m ∧ G (k.toNat * 2) ≠ -1 then .tuple #[.int .i64 (G (k.toNat * 2)), .bool true] else .tuple #[.int .i64 0, .bool false]) ∧ w = w' := by
  have hh := fun W h => has_any W p L K n m F G top free h hm k
  obtain ⟨hd, hhd⟩ : ∃ b, b = decide (0 ≤ k ∧ k < m) := ⟨_, rfl⟩
  rw [← hhd] at hh
  have HH := Kept.mk hh
  have HP := h
  obtain ⟨c0, c1, c2, c3, pf, hl, hk⟩ := h
  clear hh
  cases hd with
  | false =>
    have hn := of_decide_eq_false hhd.symm
    rw [if_neg (fun h => hn ⟨h.1, h.2.1⟩)]
    clear hn hhd
    go_enter Tryd.func44, Tryd.ntmps44
    go_wp2_with ((go_at_call 49; refine (HH.out _ HP).mono ?_; rintro e w' ⟨rfl, rfl⟩))
    go_ret2
    exact ⟨rfl, rfl⟩
  | true =>
    obtain ⟨h0, h1⟩ := of_decide_eq_true hhd.symm
    obtain ⟨j, rfl⟩ : ∃ j : Nat, k = j := ⟨k.toNat, by omega⟩
    simp only [Int.toNat_natCast]
    have l0 := hk.c (j * 2) (by omega)
    obtain ⟨x, hx⟩ : ∃ x, x = G (j * 2) := ⟨_, rfl⟩
    rw [← hx] at l0 ⊢
    clear hhd
    by_cases hx1 : x = -1
    · rw [if_neg (fun h => h.2.2 hx1)]
      have q : (x == -1) = true := by simp [hx1]
      go_enter Tryd.func44, Tryd.ntmps44
      go_wp2_with ((go_at_call 49; refine (HH.out _ HP).mono ?_; rintro e w' ⟨rfl, rfl⟩))
      go_ret2
      exact ⟨rfl, rfl⟩
    · rw [if_pos ⟨h0, h1, hx1⟩]
      have q : (x == -1) = false := by simp [hx1]
      clear hx
      go_enter Tryd.func44, Tryd.ntmps44
      go_wp2_with ((go_at_call 49; refine (HH.out _ HP).mono ?_; rintro e w' ⟨rfl, rfl⟩))
      go_ret2
      exact ⟨rfl, rfl⟩
def nxV (n : Nat) (F : Nat → Int) (i : Int) : Value := if 0 ≤ i ∧ i < (n : Int) ∧ F (i.toNat * 3) ≠ -1 ∧ F (i.toNat * 3 + 2) ≠ -1 then .tuple #[.int .i64 (F (i.toNat * 3 + 2)), .bool true] else .tuple #[.int .i64 0, .bool false]
theorem next_any (w : World) (p L K n m : Nat) (F G : Nat → Int) (top free : Int) (h : PB w p L K n m F G top free) (hn : n ≤ 4096) (i : Int) :
    Calls Tryd.prog 67 #[.pointer (some ⟨p, 0, none⟩), .int .i64 i] w fun e w' => e = .returned (nxV n F i) ∧ w = w' := by
  have hh := fun W h => where_any W p L K n m F G top free h hn i
  obtain ⟨x, hx⟩ : ∃ x, x = (whV n F i).1 := ⟨_, rfl⟩
  obtain ⟨y, hy⟩ : ∃ x, x = (whV n F i).2 := ⟨_, rfl⟩
  rw [← hx, ← hy] at hh
  have HH := Kept.mk hh
  have HP := h
  obtain ⟨c0, c1, c2, c3, pf, hl, hk⟩ := h
  clear hh
  by_cases hy0 : y = 0
  · have h0 : 0 ≤ i ∧ i < (n : Int) ∧ F (i.toNat * 3) ≠ -1 := by
      rw [hy] at hy0
      unfold whV at hy0
      split at hy0
      · cases hy0
      · split at hy0
        · cases hy0
        · rename_i h1 h2
          exact ⟨by omega, by omega, h2⟩
    obtain ⟨h0, h1, h2⟩ := h0
    obtain ⟨j, rfl⟩ : ∃ j : Nat, i = j := ⟨i.toNat, by omega⟩
    unfold nxV
    simp only [Int.toNat_natCast] at h2 ⊢
    have l0 := hl.c (j * 3 + 2) (by omega)
    obtain ⟨z, hz⟩ : ∃ x, x = F (j * 3 + 2) := ⟨_, rfl⟩
    rw [← hz] at l0 ⊢
    have q0 : (y != 0) = false := by simp [hy0]
    by_cases hz1 : z = -1
    · rw [if_neg (fun h => h.2.2.2 hz1)]
      have q : (z == -1) = true := by simp [hz1]
      clear hx hy h2 hy0
      go_enter Tryd.func67, Tryd.ntmps67
      go_wp2_with ((go_at_call 71; refine (HH.out _ HP).mono ?_; rintro e w' ⟨rfl, rfl⟩))
      go_ret2
      exact ⟨rfl, rfl⟩
    · rw [if_pos ⟨h0, h1, h2, hz1⟩]
      have q : (z == -1) = false := by simp [hz1]
      clear hx hy h2 hy0 hz
      go_enter Tryd.func67, Tryd.ntmps67
      go_wp2_with ((go_at_call 71; refine (HH.out _ HP).mono ?_; rintro e w' ⟨rfl, rfl⟩))
      go_ret2
      exact ⟨rfl, rfl⟩
  · have q0 : (y != 0) = true := by simp [hy0]
    have e : nxV n F i = .tuple #[.int .i64 0, .bool false] := by
      unfold nxV
      rw [if_neg]
      rintro ⟨h1, h2, h3, _⟩
      rw [hy] at hy0
      apply hy0
      unfold whV
      rw [if_neg (by omega), if_neg h3]
    rw [e]
    clear hx hy e
    go_enter Tryd.func67, Tryd.ntmps67
    go_wp2_with ((go_at_call 71; refine (HH.out _ HP).mono ?_; rintro e w' ⟨rfl, rfl⟩))
    go_ret2
    exact ⟨rfl, rfl⟩
end Go.Proofs.YtakkfgkogomjbaaDoor
namespace Go.Proofs.YtakkfgkogomjbaaDoor
open Go.RowKit
set_option linter.unusedVariables false
/-- What a pool's act leaves. -/
def PAct (w : World) (lo hi p L K n m : Nat) (F G : Nat → Int) (top free : Int) (v : Value) (e : Ending) (w' : World) : Prop :=
  e = .returned v ∧ PB w' p L K n m F G top free ∧ Kp lo hi w w'
theorem NB.drew {w : World} {L N : Nat} {F : Nat → Int} (h : NB w L N F) : NB w.drew L N F := ⟨h.c, h.f⟩
theorem Kp.drew {lo hi : Nat} {a w : World} (h : Kp lo hi a w) : Kp lo hi a w.drew := ⟨h.os, h.tape, h.output, h.size, h.block⟩
/-- A pool's cells, without its blocks' own. -/
structure PC (w : World) (p L K n m : Nat) (top free : Int) : Prop where
  c0 : w.cell? ⟨p, 0, none⟩ = some (.slice (some ⟨L, 0, none⟩) n n)
  c1 : w.cell? ⟨p, 1, none⟩ = some (.slice (some ⟨K, 0, none⟩) m m)
  c2 : w.cell? ⟨p, 2, none⟩ = some (.int .i64 top)
  c3 : w.cell? ⟨p, 3, none⟩ = some (.int .i64 free)
  pf : ∀ i, w.frozen? ⟨p, i, none⟩ = false
theorem PC.kept {w w' : World} {p L K n m : Nat} {top free : Int} (h : PC w p L K n m top free) (h1 : w'.heap[p]? = w.heap[p]?) : PC w' p L K n m top free :=
  ⟨(World.cell?_of_block (a := ⟨p, 0, none⟩) h1).trans h.c0, (World.cell?_of_block (a := ⟨p, 1, none⟩) h1).trans h.c1, (World.cell?_of_block (a := ⟨p, 2, none⟩) h1).trans h.c2, (World.cell?_of_block (a := ⟨p, 3, none⟩) h1).trans h.c3, fun i => (World.frozen?_of_block (a := ⟨p, i, none⟩) h1).trans (h.pf i)⟩
theorem PC.far {w : World} {p L K n m : Nat} {top free : Int} (h : PC w p L K n m top free) {a : Addr} (ha : a.block ≠ p) (v : Value) : PC (w.setCell a v) p L K n m top free := h.kept (Below.heap_setCell _ _ _ _ (fun e => ha e.symm))
theorem PC.drew {w : World} {p L K n m : Nat} {top free : Int} (h : PC w p L K n m top free) : PC w.drew p L K n m top free := ⟨h.c0, h.c1, h.c2, h.c3, h.pf⟩
theorem PB.pc {w : World} {p L K n m : Nat} {F G : Nat → Int} {top free : Int} (h : PB w p L K n m F G top free) : PC w p L K n m top free := ⟨h.c0, h.c1, h.c2, h.c3, h.pf⟩
theorem PC.pb {w : World} {p L K n m : Nat} {F G : Nat → Int} {top free : Int} (h : PC w p L K n m top free) (l : NB w L (n * 3) F) (k : NB w K (m * 2) G) : PB w p L K n m F G top free := ⟨h.c0, h.c1, h.c2, h.c3, h.pf, l, k⟩
/-- A link is stored. -/
def link3 (w : World) (L o : Nat) (a b c : Int) : World := ((w.setCell ⟨L, o, none⟩ (.int .i64 a)).setCell ⟨L, o + 1, none⟩ (.int .i64 b)).setCell ⟨L, o + 2, none⟩ (.int .i64 c)
theorem pb_link {w : World} {lo hi p L K n m : Nat} {F G : Nat → Int} {top free : Int} (h : PB w p L K n m F G top free) (hp : PL lo hi p L K) {o : Nat} (ho : o + 2 < n * 3) (a b c : Int) :
    PB (link3 w L o a b c) p L K n m (upd (upd (upd F o a) (o + 1) b) (o + 2) c) G top free :=
  (((h.pc.far hp.pl.symm _).far hp.pl.symm _).far hp.pl.symm _).pb (((h.l.set (by omega) _).set (by omega) _).set (by omega) _) (((h.k.far hp.lk _).far hp.lk _).far hp.lk _)
theorem kp_link {lo hi p L K : Nat} {a w : World} (h : Kp lo hi a w) (hp : PL lo hi p L K) (o : Nat) (x y z : Int) : Kp lo hi a (link3 w L o x y z) :=
  ((h.set (p := ⟨L, o, none⟩) hp.l1 hp.l2 _).set (p := ⟨L, o + 1, none⟩) hp.l1 hp.l2 _).set (p := ⟨L, o + 2, none⟩) hp.l1 hp.l2 _
theorem pb_setL {w : World} {lo hi p L K n m : Nat} {F G : Nat → Int} {top free : Int} (h : PB w p L K n m F G top free) (hp : PL lo hi p L K) {o : Nat} (ho : o < n * 3) (v : Int) : PB (w.setCell ⟨L, o, none⟩ (.int .i64 v)) p L K n m (upd F o v) G top free :=
  (h.pc.far hp.pl.symm _).pb (h.l.set ho _) (h.k.far hp.lk _)
theorem pb_setK {w : World} {lo hi p L K n m : Nat} {F G : Nat → Int} {top free : Int} (h : PB w p L K n m F G top free) (hp : PL lo hi p L K) {o : Nat} (ho : o < m * 2) (v : Int) : PB (w.setCell ⟨K, o, none⟩ (.int .i64 v)) p L K n m F (upd G o v) top free :=
  (h.pc.far hp.pk.symm _).pb (h.l.far hp.lk.symm _) (h.k.set ho _)
theorem kp_setL {lo hi p L K : Nat} {a w : World} (h : Kp lo hi a w) (hp : PL lo hi p L K) (o : Nat) (v : Value) : Kp lo hi a (w.setCell ⟨L, o, none⟩ v) := h.set (p := ⟨L, o, none⟩) hp.l1 hp.l2 _
theorem kp_setK {lo hi p L K : Nat} {a w : World} (h : Kp lo hi a w) (hp : PL lo hi p L K) (o : Nat) (v : Value) : Kp lo hi a (w.setCell ⟨K, o, none⟩ v) := h.set (p := ⟨K, o, none⟩) hp.k1 hp.k2 _
theorem kp_setP {lo hi p L K : Nat} {a w : World} (h : Kp lo hi a w) (hp : PL lo hi p L K) (o : Nat) (v : Value) : Kp lo hi a (w.setCell ⟨p, o, none⟩ v) := h.set (p := ⟨p, o, none⟩) hp.p1 hp.p2 _
theorem PB.drew {w : World} {p L K n m : Nat} {F G : Nat → Int} {top free : Int} (h : PB w p L K n m F G top free) : PB w.drew p L K n m F G top free := h.pc.drew.pb h.l.drew h.k.drew
set_option maxHeartbeats 1000000 in
theorem put_any (w : World) (lo hi p L K n m : Nat) (F G : Nat → Int) (top free : Int) (hp : PL lo hi p L K) (h : PB w p L K n m F G top free) (hn : n ≤ 4096) (hm : m ≤ 4096) (i k : Nat) (hi' : i < n) (hk' : k < m) (hz : G (k * 2 + 1) = -1 ∨ ∃ z : Nat, z < n ∧ G (k * 2 + 1) = z) :
    Calls Tryd.prog 50 #[.pointer (some ⟨p, 0, none⟩), .int .i64 (i : Int), .int .i64 (k : Int)] w (PAct w lo hi p L K n m (putF F G i k) (putG G i k) top free (.tuple #[])) := by
  have HP := Kept.mk h
  have HQ := Kept.mk hp
  obtain ⟨c0, c1, c2, c3, pf, hl, hk⟩ := h
  obtain ⟨p1, p2, l1, l2, k1, k2, pl, pk, lk⟩ := hp
  have kl : K ≠ L := lk.symm
  have lp : L ≠ p := pl.symm
  have kp : K ≠ p := pk.symm
  have a0 := hl.c (i * 3) (by omega)
  have a1 := hl.c (i * 3 + 1) (by omega)
  have a2 := hl.c (i * 3 + 2) (by omega)
  have b0 := hk.c (k * 2) (by omega)
  have b1 := hk.c (k * 2 + 1) (by omega)
  have lf := hl.f
  have kf := hk.f
  obtain ⟨z, hze⟩ : ∃ z, z = G (k * 2 + 1) := ⟨_, rfl⟩
  rw [← hze] at b1 hz
  have HZ := Kept.mk hze
  clear hze hl hk
  rcases hz with rfl | ⟨z, hz, rfl⟩
  · go_enter Tryd.func50, Tryd.ntmps50
    go_wp2_with fail
    go_region
    go_wp2
    refine bodyPost_ret (results_none rfl _ _ _) rfl ⟨rfl, ?_, ?_⟩
    · have q := (pb_setK (pb_setK (pb_link HP.out HQ.out (o := i * 3) (by omega) k (-1) (-1)) HQ.out (o := k * 2) (by omega) i) HQ.out (o := k * 2 + 1) (by omega) i).drew
      have e1 : putF F G i k = upd (upd (upd F (i * 3) k) (i * 3 + 1) (-1)) (i * 3 + 2) (-1) := by unfold putF; rw [← HZ.out, if_pos rfl]
      have e2 : putG G i k = upd (upd G (k * 2) i) (k * 2 + 1) i := by unfold putG; rw [← HZ.out, if_pos rfl]
      rw [e1, e2]
      unfold link3 at q
      exact q
    · have q := (kp_setK (kp_setK (kp_link (Kp.refl lo hi w) HQ.out (i * 3) k (-1) (-1)) HQ.out (k * 2) (.int .i64 i)) HQ.out (k * 2 + 1) (.int .i64 i)).drew
      unfold link3 at q
      exact q
  · go_enter Tryd.func50, Tryd.ntmps50
    go_wp2_with fail
    go_region
    have q1 := (pb_link HP.out HQ.out (o := i * 3) (by omega) k z (-1)).drew
    have q2 := (kp_link (Kp.refl _ _ _) HQ.out (i * 3) k z (-1) (w := w)).drew
    unfold link3 at q1 q2
    obtain ⟨W1, hW1⟩ : ∃ W1, W1 = (((w.setCell ⟨L, i * 3, none⟩ (.int .i64 k)).setCell ⟨L, i * 3 + 1, none⟩ (.int .i64 z)).setCell ⟨L, i * 3 + 2, none⟩ (.int .i64 (-1))).drew := ⟨_, rfl⟩
    rw [← hW1] at q1 q2 ⊢
    have Q1 := Kept.mk q1
    have Q2 := Kept.mk q2
    obtain ⟨F1, hF1⟩ : ∃ F1, F1 = upd (upd (upd F (i * 3) k) (i * 3 + 1) z) (i * 3 + 2) (-1) := ⟨_, rfl⟩
    rw [← hF1] at Q1 q1
    have HF := Kept.mk hF1
    clear a0 a1 a2 b0 b1 c0 c1 c2 c3 pf lf kf hW1 HP q2 hF1
    obtain ⟨c0, c1, c2, c3, pf, hl, hk⟩ := q1
    have a0 := hl.c (z * 3 + 2) (by omega)
    have b0 := hk.c (k * 2) (by omega)
    have b1 := hk.c (k * 2 + 1) (by omega)
    rw [← HZ.out] at b1
    have lf := hl.f
    have kf := hk.f
    clear hl hk
    go_wp2_with fail
    go_region
    go_wp2
    refine bodyPost_ret (results_none rfl _ _ _) rfl ⟨rfl, ?_, ?_⟩
    · have q := (pb_setK (pb_setL Q1.out HQ.out (o := z * 3 + 2) (by omega) i) HQ.out (o := k * 2 + 1) (by omega) i).drew
      have e1 : putF F G i k = upd F1 (z * 3 + 2) i := by unfold putF; rw [← HZ.out, if_neg (by omega), HF.out, Int.toNat_natCast]
      have e2 : putG G i k = upd G (k * 2 + 1) i := by unfold putG; rw [← HZ.out, if_neg (by omega)]
      rw [e1, e2]
      exact q
    · exact (kp_setK (kp_setL Q2.out HQ.out (z * 3 + 2) (.int .i64 i)) HQ.out (k * 2 + 1) (.int .i64 i)).drew
end Go.Proofs.YtakkfgkogomjbaaDoor
namespace Go.Proofs.YtakkfgkogomjbaaDoor
open Go.RowKit
set_option linter.unusedVariables false
theorem Kp.of_alloc {lo hi : Nat} (w : World) (o : Obj) : Kp lo hi w (w.alloc o) := Kp.of_below (below_box w o)
theorem PB.alloc {w : World} {p L K n m : Nat} {F G : Nat → Int} {top free : Int} (h : PB w p L K n m F G top free) {lo hi : Nat} (hl : PL lo hi p L K) (hh : hi ≤ w.heap.size) (o : Obj) : PB (w.alloc o) p L K n m F G top free := h.below (below_box w o) hl hh
set_option maxHeartbeats 1000000 in
theorem out_nn (w : World) (lo hi p L K n m : Nat) (F G : Nat → Int) (top free : Int) (hp : PL lo hi p L K) (hh : hi ≤ w.heap.size) (h : PB w p L K n m F G top free) (hn : n ≤ 4096) (hm : m ≤ 4096) (i k : Nat) (hi' : i < n) (hk' : k < m) (f0 : F (i * 3) = k) (f1 : F (i * 3 + 1) = -1) (f2 : F (i * 3 + 2) = -1) :
    Calls Tryd.prog 79 #[.pointer (some ⟨p, 0, none⟩), .int .i64 (i : Int)] w (PAct w lo hi p L K n m (outF F i) (outG F G i) top free (.tuple #[])) := by
  have b0 := h.l.c (i * 3) (by omega)
  have b1 := h.l.c (i * 3 + 1) (by omega)
  have b2 := h.l.c (i * 3 + 2) (by omega)
  rw [f0] at b0
  rw [f1] at b1
  rw [f2] at b2
  have F0 := Kept.mk f0
  have F1 := Kept.mk f1
  have F2 := Kept.mk f2
  have c0 := h.c0
  have Q0 := Kp.of_alloc (lo := lo) (hi := hi) w (.cells #[.int .i64 k, .int .i64 (-1), .int .i64 (-1)] 86)
  have P0 := h.alloc hp hh (.cells #[.int .i64 k, .int .i64 (-1), .int .i64 (-1)] 86)
  have x0 := box_cell (Below.refl (w.alloc (.cells #[.int .i64 k, .int .i64 (-1), .int .i64 (-1)] 86)).heap.size _) 0 _ rfl
  have x1 := box_cell (Below.refl (w.alloc (.cells #[.int .i64 k, .int .i64 (-1), .int .i64 (-1)] 86)).heap.size _) 1 _ rfl
  have x2 := box_cell (Below.refl (w.alloc (.cells #[.int .i64 k, .int .i64 (-1), .int .i64 (-1)] 86)).heap.size _) 2 _ rfl
  have hpl := hp.pl
  have hpk := hp.pk
  have hlk := hp.lk
  have nl : w.heap.size ≠ L := by have := hp.l2; omega
  have nk : w.heap.size ≠ K := by have := hp.k2; omega
  have ln := nl.symm
  have kn := nk.symm
  clear f0 f1 f2
  go_enter Tryd.func79, Tryd.ntmps79
  go_wp2_with fail
  obtain ⟨W1, hW1⟩ : ∃ W1, W1 = w.alloc (.cells #[.int .i64 k, .int .i64 (-1), .int .i64 (-1)] 86) := ⟨_, rfl⟩
  rw [← hW1] at Q0 P0 x0 x1 x2 ⊢
  clear hW1 b0 b1 b2 c0 h
  have HP := Kept.mk P0
  obtain ⟨c0, c1, c2, c3, pf, hl, hk⟩ := P0
  have b0 := hk.c (k * 2) (by omega)
  have b1 := hk.c (k * 2 + 1) (by omega)
  have lf := hl.f
  have kf := hk.f
  have HL := Kept.mk hl
  clear hk hl
  go_region
  go_wp2
  refine bodyPost_ret (results_none rfl _ _ _) rfl ⟨rfl, ?_, ?_⟩
  · have e1 : outF F i = F := by unfold outF; rw [F1.out, F2.out, if_pos rfl]; simp
    have e2 : outG F G i = upd (upd G (k * 2) (-1)) (k * 2 + 1) (-1) := by unfold outG; rw [F0.out, F1.out, F2.out, if_pos rfl]; simp
    rw [e1, e2]
    exact (pb_setK (pb_setK HP.out hp (o := k * 2) (by omega) (-1)) hp (o := k * 2 + 1) (by omega) (-1)).drew
  · exact (kp_setK (kp_setK Q0 hp (k * 2) (.int .i64 (-1))) hp (k * 2 + 1) (.int .i64 (-1))).drew
set_option maxHeartbeats 1000000 in
theorem out_sn (w : World) (lo hi p L K n m : Nat) (F G : Nat → Int) (top free : Int) (hp : PL lo hi p L K) (hh : hi ≤ w.heap.size) (h : PB w p L K n m F G top free) (hn : n ≤ 4096) (hm : m ≤ 4096) (i k a : Nat) (hi' : i < n) (hk' : k < m) (ha : a < n) (f0 : F (i * 3) = k) (f1 : F (i * 3 + 1) = a) (f2 : F (i * 3 + 2) = -1) :
    Calls Tryd.prog 79 #[.pointer (some ⟨p, 0, none⟩), .int .i64 (i : Int)] w (PAct w lo hi p L K n m (outF F i) (outG F G i) top free (.tuple #[])) := by
  have b0 := h.l.c (i * 3) (by omega)
  have b1 := h.l.c (i * 3 + 1) (by omega)
  have b2 := h.l.c (i * 3 + 2) (by omega)
  rw [f0] at b0
  rw [f1] at b1
  rw [f2] at b2
  have F0 := Kept.mk f0
  have F1 := Kept.mk f1
  have F2 := Kept.mk f2
  have c0 := h.c0
  have Q0 := Kp.of_alloc (lo := lo) (hi := hi) w (.cells #[.int .i64 k, .int .i64 a, .int .i64 (-1)] 86)
  have P0 := h.alloc hp hh (.cells #[.int .i64 k, .int .i64 a, .int .i64 (-1)] 86)
  have x0 := box_cell (Below.refl (w.alloc (.cells #[.int .i64 k, .int .i64 a, .int .i64 (-1)] 86)).heap.size _) 0 _ rfl
  have x1 := box_cell (Below.refl (w.alloc (.cells #[.int .i64 k, .int .i64 a, .int .i64 (-1)] 86)).heap.size _) 1 _ rfl
  have x2 := box_cell (Below.refl (w.alloc (.cells #[.int .i64 k, .int .i64 a, .int .i64 (-1)] 86)).heap.size _) 2 _ rfl
  have hpl := hp.pl
  have hpk := hp.pk
  have hlk := hp.lk
  have nl : w.heap.size ≠ L := by have := hp.l2; omega
  have nk : w.heap.size ≠ K := by have := hp.k2; omega
  have ln := nl.symm
  have kn := nk.symm
  clear f0 f1 f2
  go_enter Tryd.func79, Tryd.ntmps79
  go_wp2_with fail
  obtain ⟨W1, hW1⟩ : ∃ W1, W1 = w.alloc (.cells #[.int .i64 k, .int .i64 a, .int .i64 (-1)] 86) := ⟨_, rfl⟩
  rw [← hW1] at Q0 P0 x0 x1 x2 ⊢
  clear hW1 b0 b1 b2 c0 h
  have HP := Kept.mk P0
  obtain ⟨c0, c1, c2, c3, pf, hl, hk⟩ := P0
  have b0 := hk.c (k * 2) (by omega)
  have b1 := hk.c (k * 2 + 1) (by omega)
  have lf := hl.f
  have kf := hk.f
  have HL := Kept.mk hl
  clear hk hl
  have a0 := HL.out.c (a * 3 + 2) (by omega)
  go_region
  go_wp2_with fail
  go_region
  go_wp2
  refine bodyPost_ret (results_none rfl _ _ _) rfl ⟨rfl, ?_, ?_⟩
  · have e1 : outF F i = upd F (a * 3 + 2) (-1) := by unfold outF; rw [F1.out, F2.out, if_pos rfl, if_neg (by omega), Int.toNat_natCast]
    have e2 : outG F G i = upd G (k * 2 + 1) a := by unfold outG; rw [F0.out, F1.out, F2.out, if_pos rfl, if_neg (by omega), Int.toNat_natCast]
    rw [e1, e2]
    exact (pb_setK (pb_setL HP.out hp (o := a * 3 + 2) (by omega) (-1)) hp (o := k * 2 + 1) (by omega) a).drew.drew
  · exact (kp_setK (kp_setL Q0 hp (a * 3 + 2) (.int .i64 (-1))) hp (k * 2 + 1) (.int .i64 a)).drew.drew
set_option maxHeartbeats 1000000 in
theorem out_ns (w : World) (lo hi p L K n m : Nat) (F G : Nat → Int) (top free : Int) (hp : PL lo hi p L K) (hh : hi ≤ w.heap.size) (h : PB w p L K n m F G top free) (hn : n ≤ 4096) (hm : m ≤ 4096) (i k b : Nat) (hi' : i < n) (hk' : k < m) (hb : b < n) (f0 : F (i * 3) = k) (f1 : F (i * 3 + 1) = -1) (f2 : F (i * 3 + 2) = b) :
    Calls Tryd.prog 79 #[.pointer (some ⟨p, 0, none⟩), .int .i64 (i : Int)] w (PAct w lo hi p L K n m (outF F i) (outG F G i) top free (.tuple #[])) := by
  have b0 := h.l.c (i * 3) (by omega)
  have b1 := h.l.c (i * 3 + 1) (by omega)
  have b2 := h.l.c (i * 3 + 2) (by omega)
  rw [f0] at b0
  rw [f1] at b1
  rw [f2] at b2
  have F0 := Kept.mk f0
  have F1 := Kept.mk f1
  have F2 := Kept.mk f2
  have c0 := h.c0
  have Q0 := Kp.of_alloc (lo := lo) (hi := hi) w (.cells #[.int .i64 k, .int .i64 (-1), .int .i64 b] 86)
  have P0 := h.alloc hp hh (.cells #[.int .i64 k, .int .i64 (-1), .int .i64 b] 86)
  have x0 := box_cell (Below.refl (w.alloc (.cells #[.int .i64 k, .int .i64 (-1), .int .i64 b] 86)).heap.size _) 0 _ rfl
  have x1 := box_cell (Below.refl (w.alloc (.cells #[.int .i64 k, .int .i64 (-1), .int .i64 b] 86)).heap.size _) 1 _ rfl
  have x2 := box_cell (Below.refl (w.alloc (.cells #[.int .i64 k, .int .i64 (-1), .int .i64 b] 86)).heap.size _) 2 _ rfl
  have hpl := hp.pl
  have hpk := hp.pk
  have hlk := hp.lk
  have nl : w.heap.size ≠ L := by have := hp.l2; omega
  have nk : w.heap.size ≠ K := by have := hp.k2; omega
  have ln := nl.symm
  have kn := nk.symm
  clear f0 f1 f2
  go_enter Tryd.func79, Tryd.ntmps79
  go_wp2_with fail
  obtain ⟨W1, hW1⟩ : ∃ W1, W1 = w.alloc (.cells #[.int .i64 k, .int .i64 (-1), .int .i64 b] 86) := ⟨_, rfl⟩
  rw [← hW1] at Q0 P0 x0 x1 x2 ⊢
  clear hW1 b0 b1 b2 c0 h
  have HP := Kept.mk P0
  obtain ⟨c0, c1, c2, c3, pf, hl, hk⟩ := P0
  have b0 := hk.c (k * 2) (by omega)
  have b1 := hk.c (k * 2 + 1) (by omega)
  have lf := hl.f
  have kf := hk.f
  have HL := Kept.mk hl
  clear hk hl
  have a0 := HL.out.c (b * 3 + 1) (by omega)
  go_region
  go_wp2_with fail
  go_region
  go_wp2
  refine bodyPost_ret (results_none rfl _ _ _) rfl ⟨rfl, ?_, ?_⟩
  · have e1 : outF F i = upd F (b * 3 + 1) (-1) := by unfold outF; rw [F1.out, F2.out, if_pos rfl, if_neg (by omega), Int.toNat_natCast]
    have e2 : outG F G i = upd G (k * 2) b := by unfold outG; rw [F0.out, F1.out, F2.out, if_pos rfl, if_neg (by omega), Int.toNat_natCast]
    rw [e1, e2]
    exact (pb_setL (pb_setK HP.out hp (o := k * 2) (by omega) b) hp (o := b * 3 + 1) (by omega) (-1)).drew.drew
  · exact (kp_setL (kp_setK Q0 hp (k * 2) (.int .i64 b)) hp (b * 3 + 1) (.int .i64 (-1))).drew.drew
set_option maxHeartbeats 1000000 in
theorem out_ss (w : World) (lo hi p L K n m : Nat) (F G : Nat → Int) (top free : Int) (hp : PL lo hi p L K) (hh : hi ≤ w.heap.size) (h : PB w p L K n m F G top free) (hn : n ≤ 4096) (hm : m ≤ 4096) (i k a b : Nat) (hi' : i < n) (hk' : k < m) (ha : a < n) (hb : b < n) (f0 : F (i * 3) = k) (f1 : F (i * 3 + 1) = a) (f2 : F (i * 3 + 2) = b) :
    Calls Tryd.prog 79 #[.pointer (some ⟨p, 0, none⟩), .int .i64 (i : Int)] w (PAct w lo hi p L K n m (outF F i) (outG F G i) top free (.tuple #[])) := by
  have b0 := h.l.c (i * 3) (by omega)
  have b1 := h.l.c (i * 3 + 1) (by omega)
  have b2 := h.l.c (i * 3 + 2) (by omega)
  rw [f0] at b0
  rw [f1] at b1
  rw [f2] at b2
  have F0 := Kept.mk f0
  have F1 := Kept.mk f1
  have F2 := Kept.mk f2
  have c0 := h.c0
  have Q0 := Kp.of_alloc (lo := lo) (hi := hi) w (.cells #[.int .i64 k, .int .i64 a, .int .i64 b] 86)
  have P0 := h.alloc hp hh (.cells #[.int .i64 k, .int .i64 a, .int .i64 b] 86)
  have x0 := box_cell (Below.refl (w.alloc (.cells #[.int .i64 k, .int .i64 a, .int .i64 b] 86)).heap.size _) 0 _ rfl
  have x1 := box_cell (Below.refl (w.alloc (.cells #[.int .i64 k, .int .i64 a, .int .i64 b] 86)).heap.size _) 1 _ rfl
  have x2 := box_cell (Below.refl (w.alloc (.cells #[.int .i64 k, .int .i64 a, .int .i64 b] 86)).heap.size _) 2 _ rfl
  have hpl := hp.pl
  have hpk := hp.pk
  have hlk := hp.lk
  have nl : w.heap.size ≠ L := by have := hp.l2; omega
  have nk : w.heap.size ≠ K := by have := hp.k2; omega
  have ln := nl.symm
  have kn := nk.symm
  clear f0 f1 f2
  go_enter Tryd.func79, Tryd.ntmps79
  go_wp2_with fail
  obtain ⟨W1, hW1⟩ : ∃ W1, W1 = w.alloc (.cells #[.int .i64 k, .int .i64 a, .int .i64 b] 86) := ⟨_, rfl⟩
  rw [← hW1] at Q0 P0 x0 x1 x2 ⊢
  clear hW1 b0 b1 b2 c0 h
  have HP := Kept.mk P0
  obtain ⟨c0, c1, c2, c3, pf, hl, hk⟩ := P0
  have b0 := hk.c (k * 2) (by omega)
  have b1 := hk.c (k * 2 + 1) (by omega)
  have lf := hl.f
  have kf := hk.f
  have HL := Kept.mk hl
  clear hk hl
  have a0 := HL.out.c (a * 3 + 2) (by omega)
  have a1 := HL.out.c (b * 3 + 1) (by omega)
  have n1 : b * 3 + 1 ≠ a * 3 + 2 := by omega
  have n2 : a * 3 + 2 ≠ b * 3 + 1 := by omega
  go_region
  go_wp2_with fail
  go_region
  go_wp2_with fail
  go_region
  go_wp2
  refine bodyPost_ret (results_none rfl _ _ _) rfl ⟨rfl, ?_, ?_⟩
  · have e1 : outF F i = upd (upd F (a * 3 + 2) b) (b * 3 + 1) a := by unfold outF; rw [F1.out, F2.out, if_neg (by omega), if_neg (by omega), Int.toNat_natCast, Int.toNat_natCast]
    have e2 : outG F G i = G := by unfold outG; rw [F0.out, F1.out, F2.out, if_neg (by omega), if_neg (by omega)]
    rw [e1, e2]
    exact (pb_setL (pb_setL HP.out hp (o := a * 3 + 2) (by omega) b) hp (o := b * 3 + 1) (by omega) a).drew.drew.drew
  · exact (kp_setL (kp_setL Q0 hp (a * 3 + 2) (.int .i64 b)) hp (b * 3 + 1) (.int .i64 a)).drew.drew.drew
end Go.Proofs.YtakkfgkogomjbaaDoor
namespace Go.Proofs.YtakkfgkogomjbaaDoor
open Go.RowKit
set_option linter.unusedVariables false
/-- A pool in memory. -/
structure PoolAt (w : World) (lo hi p L K n m : Nat) (S : PS) : Prop where
  pl : PL lo hi p L K
  hh : hi ≤ w.heap.size
  nb : n ≤ 4096
  mb : m ≤ 4096
  of : ∃ F G, PB w p L K n m F G (optI S.pile.getLast?) (S.pile.length : Nat) ∧ Good n m S F G
theorem PoolAt.below {w w' : World} {lo hi p L K n m : Nat} {S : PS} (h : PoolAt w lo hi p L K n m S) (hb : Below w.heap.size w w') : PoolAt w' lo hi p L K n m S := by
  obtain ⟨F, G, h1, h2⟩ := h.of
  exact ⟨h.pl, Nat.le_trans h.hh hb.size, h.nb, h.mb, F, G, h1.below hb h.pl h.hh, h2⟩
theorem PoolAt.below_hi {w w' : World} {lo hi p L K n m : Nat} {S : PS} (h : PoolAt w lo hi p L K n m S) (hb : Below hi w w') : PoolAt w' lo hi p L K n m S := by
  obtain ⟨F, G, h1, h2⟩ := h.of
  exact ⟨h.pl, Nat.le_trans h.hh hb.size, h.nb, h.mb, F, G, h1.kept (hb.block _ h.pl.p2) (hb.block _ h.pl.l2) (hb.block _ h.pl.k2), h2⟩
theorem whV_wh {n m : Nat} {S : PS} {F G : Nat → Int} (h : Good n m S F G) (i : Int) : whV n F i = wh n S i := by
  unfold whV wh
  split
  · rfl
  · rename_i hi
    obtain ⟨j, rfl⟩ : ∃ j : Nat, i = j := ⟨i.toNat, by omega⟩
    simp only [Int.toNat_natCast]
    rcases h.link (show j < n by omega) with ⟨h1, h2, h3⟩ | ⟨k, l, a, b, h1, h2, h3, h4, h5, _⟩
    · rw [h1, h3]; rfl
    · rw [h1, h5, if_neg (by omega)]
theorem pwhere {w : World} {lo hi p L K n m : Nat} {S : PS} (h : PoolAt w lo hi p L K n m S) (i : Int) :
    Calls Tryd.prog 71 #[.pointer (some ⟨p, 0, none⟩), .int .i64 i] w fun e w' => e = .returned (.tuple #[.int .i64 (wh n S i).1, .int .i64 (wh n S i).2]) ∧ w = w' := by
  obtain ⟨F, G, h1, h2⟩ := h.of
  rw [← whV_wh h2]
  exact where_any w p L K n m F G _ _ h1 h.nb i
theorem pfree {w : World} {lo hi p L K n m : Nat} {S : PS} (h : PoolAt w lo hi p L K n m S) :
    Calls Tryd.prog 15 #[.pointer (some ⟨p, 0, none⟩)] w fun e w' => e = .returned (.int .i64 (S.pile.length : Nat)) ∧ w = w' := by
  obtain ⟨F, G, h1, h2⟩ := h.of
  exact free_any w p L K n m F G _ _ h1
def optV : Option Nat → Value
  | some x => .tuple #[.int .i64 (x : Nat), .bool true]
  | none => .tuple #[.int .i64 0, .bool false]
theorem pfirst {w : World} {lo hi p L K n m : Nat} {S : PS} (h : PoolAt w lo hi p L K n m S) (k : Int) :
    Calls Tryd.prog 44 #[.pointer (some ⟨p, 0, none⟩), .int .i64 k] w fun e w' => e = .returned (optV (S.list k).head?) ∧ w = w' := by
  obtain ⟨F, G, h1, h2⟩ := h.of
  refine (first_any w p L K n m F G _ _ h1 h.mb k).mono ?_
  rintro e w' ⟨rfl, rfl⟩
  refine ⟨?_, rfl⟩
  congr 1
  by_cases hk : 0 ≤ k ∧ k < (m : Int)
  · obtain ⟨j, rfl⟩ : ∃ j : Nat, k = j := ⟨k.toNat, by omega⟩
    obtain ⟨_, g1, _⟩ := h2.list (show j < m by omega)
    simp only [Int.toNat_natCast]
    rw [g1]
    cases (S.list j).head? with
    | none => rw [if_neg (fun h => h.2.2 rfl)]; rfl
    | some x => rw [if_pos ⟨hk.1, hk.2, by simp [optI]⟩]; rfl
  · rw [if_neg (fun h => hk ⟨h.1, h.2.1⟩), list_out h2 hk]; rfl
theorem pnext {w : World} {lo hi p L K n m : Nat} {S : PS} (h : PoolAt w lo hi p L K n m S) (i : Int) :
    Calls Tryd.prog 67 #[.pointer (some ⟨p, 0, none⟩), .int .i64 i] w fun e w' => e = .returned (optV (nx n S i)) ∧ w = w' := by
  obtain ⟨F, G, h1, h2⟩ := h.of
  refine (next_any w p L K n m F G _ _ h1 h.nb i).mono ?_
  rintro e w' ⟨rfl, rfl⟩
  refine ⟨?_, rfl⟩
  congr 1
  unfold nxV nx
  by_cases hi' : i < 0 ∨ (n : Int) ≤ i
  · rw [if_neg (by omega), if_pos hi']; rfl
  · obtain ⟨j, rfl⟩ : ∃ j : Nat, i = j := ⟨i.toNat, by omega⟩
    rw [if_neg hi']
    simp only [Int.toNat_natCast]
    rcases h2.link (show j < n by omega) with ⟨q1, q2, q3⟩ | ⟨k, l, a, b, q1, q2, q3, q4, q5, q6, q7, q8, _⟩
    · rw [q1, if_neg (fun h => h.2.2.1 q3)]; rfl
    · rw [q1]
      have hl : S.list k = l := by unfold PS.list; rw [if_pos (by omega), Int.toNat_natCast, q2]; rfl
      show _ = optV (behind (S.list k) j)
      rw [hl, ← q8, q7]
      cases b with
      | none => rw [if_neg (fun h => h.2.2.2 rfl)]; rfl
      | some x => rw [if_pos ⟨by omega, by omega, by rw [q5]; omega, by simp [optI]⟩]; rfl
/-- What an act leaves. -/
def PRes (w : World) (lo hi p L K n m : Nat) (S : PS) (v : Value) (e : Ending) (w' : World) : Prop := e = .returned v ∧ PoolAt w' lo hi p L K n m S ∧ Kp lo hi w w'
theorem PRes.same {w : World} {lo hi p L K n m : Nat} {S : PS} (h : PoolAt w lo hi p L K n m S) (v : Value) : PRes w lo hi p L K n m S v (.returned v) w := ⟨rfl, h, Kp.refl _ _ _⟩
theorem out_good (w : World) (lo hi p L K n m : Nat) (S : PS) (F G : Nat → Int) (top free : Int) (hp : PL lo hi p L K) (hh : hi ≤ w.heap.size) (h : PB w p L K n m F G top free) (hn : n ≤ 4096) (hm : m ≤ 4096) (hg : Good n m S F G) (i k : Nat) (hi' : i < n) (hk : S.loc i = some k) :
    Calls Tryd.prog 79 #[.pointer (some ⟨p, 0, none⟩), .int .i64 (i : Int)] w (PAct w lo hi p L K n m (outF F i) (outG F G i) top free (.tuple #[])) := by
  rcases hg.link hi' with ⟨q1, _⟩ | ⟨k', l, a, b, q1, q2, q3, q4, q5, q6, q7, q8, q9, q10⟩
  · rw [q1] at hk; cases hk
  · cases a with
    | none => cases b with
      | none => exact out_nn w lo hi p L K n m F G top free hp hh h hn hm i k' hi' q4 q5 q6 q7
      | some y => exact out_ns w lo hi p L K n m F G top free hp hh h hn hm i k' y hi' q4 (q10 y rfl) q5 q6 q7
    | some x => cases b with
      | none => exact out_sn w lo hi p L K n m F G top free hp hh h hn hm i k' x hi' q4 (q9 x rfl) q5 q6 q7
      | some y => exact out_ss w lo hi p L K n m F G top free hp hh h hn hm i k' x y hi' q4 (q9 x rfl) (q10 y rfl) q5 q6 q7
theorem rep_end {n m : Nat} {S : PS} {F G : Nat → Int} (h : Rep n m S F G) {k : Nat} (hk : k < m) : G (k * 2 + 1) = -1 ∨ ∃ z : Nat, z < n ∧ G (k * 2 + 1) = z := by
  have hl : S.lists[k]? = some (S.lists[k]'(by rw [h.len]; exact hk)) := List.getElem?_eq_getElem _
  have := (h.ends k _ hl).2
  rw [this]
  cases e : (S.lists[k]'(by rw [h.len]; exact hk)).getLast? with
  | none => exact .inl rfl
  | some x => exact .inr ⟨x, h.llt k _ hl x (List.mem_of_getLast? e), rfl⟩
theorem nodup_len : ∀ {n : Nat} {l : List Nat}, l.Nodup → (∀ x ∈ l, x < n) → l.length ≤ n
  | 0, l, _, hb => by
    cases l with
    | nil => simp
    | cons x r => exact absurd (hb x (by simp)) (by omega)
  | n + 1, l, h, hb => by
    by_cases hm : n ∈ l
    · have := nodup_len (n := n) (l := l.erase n) (h.sublist List.erase_sublist) (fun x hx => by
        have h1 := (h.mem_erase_iff).1 hx
        have := hb x h1.2
        have := h1.1
        omega)
      rw [List.length_erase_of_mem hm] at this
      omega
    · have := nodup_len (n := n) (l := l) h (fun x hx => by
        have := hb x hx
        have : x ≠ n := by rintro rfl; exact hm hx
        omega)
      omega
theorem pb_top {w : World} {lo hi p L K n m : Nat} {F G : Nat → Int} {top free : Int} (h : PB w p L K n m F G top free) (hp : PL lo hi p L K) (v : Int) : PB (w.setCell ⟨p, 2, none⟩ (.int .i64 v)) p L K n m F G v free := by
  refine ⟨?_, ?_, ?_, ?_, ?_, h.l.far hp.pl _, h.k.far hp.pk _⟩
  · rw [World.cell?_setCell_other _ _ _ _ (by simp)]; exact h.c0
  · rw [World.cell?_setCell_other _ _ _ _ (by simp)]; exact h.c1
  · exact World.cell?_setCell_same' _ _ _ (by rw [h.c2]; rfl)
  · rw [World.cell?_setCell_other _ _ _ _ (by simp)]; exact h.c3
  · intro i; rw [World.frozen?_setCell]; exact h.pf i
theorem pb_free {w : World} {lo hi p L K n m : Nat} {F G : Nat → Int} {top free : Int} (h : PB w p L K n m F G top free) (hp : PL lo hi p L K) (v : Int) : PB (w.setCell ⟨p, 3, none⟩ (.int .i64 v)) p L K n m F G top v := by
  refine ⟨?_, ?_, ?_, ?_, ?_, h.l.far hp.pl _, h.k.far hp.pk _⟩
  · rw [World.cell?_setCell_other _ _ _ _ (by simp)]; exact h.c0
  · rw [World.cell?_setCell_other _ _ _ _ (by simp)]; exact h.c1
  · rw [World.cell?_setCell_other _ _ _ _ (by simp)]; exact h.c2
  · exact World.cell?_setCell_same' _ _ _ (by rw [h.c3]; rfl)
  · intro i; rw [World.frozen?_setCell]; exact h.pf i
set_option maxHeartbeats 2000000 in
theorem take_any {w : World} {lo hi p L K n m : Nat} {S : PS} (h : PoolAt w lo hi p L K n m S) (k : Int) :
    Calls Tryd.prog 31 #[.pointer (some ⟨p, 0, none⟩), .int .i64 k] w (PRes w lo hi p L K n m (tk m S k).2.2 (.tuple #[.int .i64 (tk m S k).1, .int .i64 (tk m S k).2.1])) := by
  have HA := Kept.mk h
  obtain ⟨hpl, hh, hn, hm, F, G, hB, hG⟩ := h
  by_cases hk : 0 ≤ k ∧ k < (m : Int)
  · obtain ⟨j, rfl⟩ : ∃ j : Nat, k = j := ⟨k.toNat, by omega⟩
    cases e : S.pile.getLast? with
    | none =>
      have et : tk m S j = ((0 : Int), (5 : Int), S) := by unfold tk; rw [if_neg (by simpa using hk.2), e]
      rw [et]
      rw [e] at hB
      have HH := Kept.mk (has_any w p L K n m F G _ _ hB hm j)
      have hd : decide (0 ≤ (j : Int) ∧ (j : Int) < (m : Int)) = true := decide_eq_true hk
      rw [hd] at HH
      obtain ⟨c0, c1, c2, c3, pf, hl, hk'⟩ := hB
      simp only [optI] at c2
      clear hd e et
      go_enter Tryd.func31, Tryd.ntmps31
      go_wp2_with ((go_at_call 49; refine (HH.out).mono ?_; rintro e w' ⟨rfl, rfl⟩))
      go_ret2
      exact PRes.same HA.out _
    | some i =>
      obtain ⟨P, hP⟩ := List.getLast?_eq_some_iff.1 e
      have et : tk m S j = ((i : Int), (0 : Int), S.take i j) := by unfold tk; rw [if_neg (by simpa using hk.2), e]; rfl
      rw [et]
      rw [e] at hB
      have HH := Kept.mk (has_any w p L K n m F G _ _ hB hm j)
      have hd : decide (0 ≤ (j : Int) ∧ (j : Int) < (m : Int)) = true := decide_eq_true hk
      rw [hd] at HH
      obtain ⟨PP, LL⟩ := S
      simp only at hP
      subst hP
      obtain ⟨r1, r2, r3, r4⟩ := rep_pop hG.rep
      have hg := good_take hG (show j < m by omega)
      have hz := rep_end r1 (show j < m by omega)
      obtain ⟨f, hf⟩ : ∃ f, f = F (i * 3 + 2) := ⟨_, rfl⟩
      have b0 := hB.l.c (i * 3 + 2) (by omega)
      rw [← hf] at b0 r4
      have R4 := Kept.mk r4
      have HB := Kept.mk hB
      have l1 : (P.length : Int) ≤ 4096 := by
        have := nodup_len hG.rep.pnd hG.rep.plt
        simp at this
        omega
      have e0 : ((P ++ [i]).length : Int) = (P.length : Int) + 1 := by simp
      rw [e0] at HB hB
      obtain ⟨c0, c1, c2, c3, pf, hl, hk'⟩ := hB
      simp only [optI] at c2
      have HP := Kept.mk (fun W h => put_any W lo hi p L K n m F G f (P.length : Int) hpl h hn hm i j r3 (by omega) hz)
      have HG := Kept.mk hg
      clear hd e et hf hl hk' r4 hz hg e0
      go_enter Tryd.func31, Tryd.ntmps31
      go_wp2_with fail
      refine HH.out.mono ?_
      rintro e w' ⟨rfl, rfl⟩
      go_wp2_with fail
      refine (HP.out _ (pb_free (pb_top HB.out hpl f) hpl (P.length : Int))).mono ?_
      rintro e w' ⟨rfl, hB', hK'⟩
      go_wp2_with fail
      go_ret2
      refine ⟨rfl, ⟨hpl, ?_, hn, hm, _, _, ?_, HG.out⟩, (kp_setP (kp_setP (Kp.refl lo hi w) hpl 2 _) hpl 3 _).trans hK'⟩
      · have := hK'.size
        simp at this
        omega
      · have e1 : (PS.take ⟨P ++ [i], LL⟩ i j).pile = P := by simp [PS.take, PS.put]
        rw [e1, ← R4.out]
        exact hB'
  · have et : tk m S k = ((0 : Int), (1 : Int), S) := by unfold tk; rw [if_pos hk]
    rw [et]
    have HH := Kept.mk (has_any w p L K n m F G _ _ hB hm k)
    have hd : decide (0 ≤ k ∧ k < (m : Int)) = false := decide_eq_false hk
    rw [hd] at HH
    clear hd et
    go_enter Tryd.func31, Tryd.ntmps31
    go_wp2_with ((go_at_call 49; refine (HH.out).mono ?_; rintro e w' ⟨rfl, rfl⟩))
    go_ret2
    exact PRes.same HA.out _
theorem wh_ok {n m : Nat} {S : PS} {F G : Nat → Int} (h : Good n m S F G) {i : Int} (hw : (wh n S i).2 = 0) : ∃ (j k : Nat) (l : List Nat), i = j ∧ j < n ∧ k < m ∧ S.loc j = some k ∧ S.lists[k]? = some l ∧ j ∈ l ∧ wh n S i = ((k : Int), (0 : Int)) := by
  unfold wh at hw
  split at hw
  · cases hw
  · rename_i hi
    obtain ⟨j, rfl⟩ : ∃ j : Nat, i = j := ⟨i.toNat, by omega⟩
    simp only [Int.toNat_natCast] at hw
    rcases h.link (show j < n by omega) with ⟨q1, _⟩ | ⟨k', l, a, b, q1, q2, q3, q4, _⟩
    · rw [q1] at hw; cases hw
    · refine ⟨j, k', l, rfl, by omega, q4, q1, q2, q3, ?_⟩
      unfold wh
      rw [if_neg hi, Int.toNat_natCast, q1]
set_option maxHeartbeats 2000000 in
theorem give_any {w : World} {lo hi p L K n m : Nat} {S : PS} (h : PoolAt w lo hi p L K n m S) (i : Int) :
    Calls Tryd.prog 72 #[.pointer (some ⟨p, 0, none⟩), .int .i64 i] w (PRes w lo hi p L K n m (gv n S i).2 (.int .i64 (gv n S i).1)) := by
  have HA := Kept.mk h
  have HW := pwhere h i
  obtain ⟨hpl, hh, hn, hm, F, G, hB, hG⟩ := h
  by_cases hw : (wh n S i).2 = 0
  · obtain ⟨j, k, l, rfl, hj, hk, q1, q2, q3, e⟩ := wh_ok hG hw
    have eg : gv n S j = ((0 : Int), S.give j) := by unfold gv; rw [if_pos hw, Int.toNat_natCast]
    rw [eg]
    rw [e] at HW
    have hW := Kept.mk HW
    have HO := Kept.mk (out_good w lo hi p L K n m S F G _ _ hpl hh hB hn hm hG j k hj q1)
    have HG := Kept.mk (good_give hG q2 q3)
    have hr := rep_out hG.rep q2 q3
    obtain ⟨t, ht⟩ : ∃ t, t = optI S.pile.getLast? := ⟨_, rfl⟩
    obtain ⟨f, hf⟩ : ∃ f, f = (S.pile.length : Int) := ⟨_, rfl⟩
    have l1 : 0 ≤ f ∧ f ≤ 4096 := by
      have := nodup_len hG.rep.pnd hG.rep.plt
      omega
    rw [← ht] at HO HG
    rw [← hf] at HO
    have HF := Kept.mk hf
    clear hw e eg HW q1 q2 q3 hr ht hf hG hB
    go_enter Tryd.func72, Tryd.ntmps72
    go_wp2_with fail
    refine hW.out.mono ?_
    rintro e w' ⟨rfl, rfl⟩
    go_wp2_with fail
    refine HO.out.mono ?_
    rintro e W1 ⟨rfl, hB1, hK1⟩
    have hz : hi ≤ W1.heap.size := Nat.le_trans hh hK1.size
    have HB := Kept.mk hB1
    have HK := Kept.mk hK1
    obtain ⟨c0, c1, c2, c3, pf, hl, hk'⟩ := hB1
    have a0 := hl.c (j * 3) (by omega)
    have a1 := hl.c (j * 3 + 1) (by omega)
    have a2 := hl.c (j * 3 + 2) (by omega)
    have lf := hl.f
    have hpl1 := hpl.pl
    have hpl2 := hpl.pl.symm
    clear hl hk' hK1
    go_wp2_with fail
    go_region
    go_wp2
    go_ret
    have q1 := (pb_free (pb_top (pb_link HB.out hpl (o := j * 3) (by omega) (-1) (-1) t) hpl j) hpl (f + 1)).drew
    have q2 := (kp_setP (kp_setP (kp_link HK.out hpl (j * 3) (-1) (-1) t) hpl 2 (.int .i64 j)) hpl 3 (.int .i64 (f + 1))).drew
    unfold link3 at q1 q2
    refine ⟨rfl, ⟨hpl, ?_, hn, hm, pushF (outF F j) j t, outG F G j, ?_, HG.out⟩, q2⟩
    · simpa using hz
    · have e1 : (PS.give S j).pile.getLast? = some j := by simp [PS.give]
      have e2 : ((PS.give S j).pile.length : Int) = f + 1 := by simp [PS.give, HF.out]
      rw [e1, e2]
      exact q1
  · have eg : gv n S i = ((wh n S i).2, S) := by unfold gv; rw [if_neg hw]
    rw [eg]
    obtain ⟨x, hx⟩ : ∃ x, x = (wh n S i).1 := ⟨_, rfl⟩
    obtain ⟨y, hy⟩ : ∃ x, x = (wh n S i).2 := ⟨_, rfl⟩
    rw [← hx, ← hy] at HW
    rw [← hy] at hw ⊢
    have hW := Kept.mk HW
    have hne : (y != 0) = true := by simp [hw]
    clear hx hy eg HW hw
    go_enter Tryd.func72, Tryd.ntmps72
    go_wp2_with fail
    refine hW.out.mono ?_
    rintro e w' ⟨rfl, rfl⟩
    go_wp2
    go_ret
    exact PRes.same HA.out _
set_option maxHeartbeats 2000000 in
theorem move_any {w : World} {lo hi p L K n m : Nat} {S : PS} (h : PoolAt w lo hi p L K n m S) (i k' : Int) :
    Calls Tryd.prog 65 #[.pointer (some ⟨p, 0, none⟩), .int .i64 i, .int .i64 k'] w (PRes w lo hi p L K n m (mv n m S i k').2 (.int .i64 (mv n m S i k').1)) := by
  have HA := Kept.mk h
  have HW := pwhere h i
  obtain ⟨hpl, hh, hn, hm, F, G, hB, hG⟩ := h
  have hH := has_any w p L K n m F G _ _ hB hm k'
  by_cases hk' : 0 ≤ k' ∧ k' < (m : Int)
  · rw [decide_eq_true hk'] at hH
    have HH := Kept.mk hH
    by_cases hw : (wh n S i).2 = 0
    · obtain ⟨j, k, l, rfl, hj, hk, q1, q2, q3, e⟩ := wh_ok hG hw
      obtain ⟨j', rfl⟩ : ∃ j' : Nat, k' = j' := ⟨k'.toNat, by omega⟩
      have eg : mv n m S j j' = ((0 : Int), S.move j j') := by unfold mv; rw [if_neg (by omega), if_pos hw, Int.toNat_natCast, Int.toNat_natCast]
      rw [eg]
      rw [e] at HW
      have hW := Kept.mk HW
      have HO := Kept.mk (out_good w lo hi p L K n m S F G _ _ hpl hh hB hn hm hG j k hj q1)
      have HG := Kept.mk (good_move hG q2 q3 (show j' < m by omega))
      have hr := rep_out hG.rep q2 q3
      have HP := Kept.mk (fun W h => put_any W lo hi p L K n m (outF F j) (outG F G j) (optI S.pile.getLast?) (S.pile.length : Int) hpl h hn hm j j' hj (by omega) (rep_end hr.1 (by omega)))
      obtain ⟨t, ht⟩ : ∃ t, t = optI S.pile.getLast? := ⟨_, rfl⟩
      obtain ⟨f, hf⟩ : ∃ f, f = (S.pile.length : Int) := ⟨_, rfl⟩
      rw [← ht, ← hf] at HO HP
      have HF := Kept.mk hf
      have HT := Kept.mk ht
      clear hw e eg HW q1 q2 q3 hr ht hf hG hB hH
      go_enter Tryd.func65, Tryd.ntmps65
      go_wp2_with fail
      refine hW.out.mono ?_
      rintro e w' ⟨rfl, rfl⟩
      go_wp2_with ((go_at_call 49; refine (HH.out).mono ?_; rintro e w' ⟨rfl, rfl⟩) )
      refine HO.out.mono ?_
      rintro e W1 ⟨rfl, hB1, hK1⟩
      have HK := Kept.mk hK1
      clear hK1
      go_wp2_with fail
      refine (HP.out _ hB1).mono ?_
      rintro e W2 ⟨rfl, hB2, hK2⟩
      go_wp2
      go_ret
      refine ⟨rfl, ⟨hpl, ?_, hn, hm, _, _, ?_, HG.out⟩, HK.out.trans hK2⟩
      · exact Nat.le_trans hh (Nat.le_trans HK.out.size hK2.size)
      · show PB W2 p L K n m _ _ (optI S.pile.getLast?) (S.pile.length : Int)
        rw [← HT.out, ← HF.out]
        exact hB2
    · obtain ⟨x, hx⟩ : ∃ x, x = (wh n S i).1 := ⟨_, rfl⟩
      obtain ⟨y, hy⟩ : ∃ x, x = (wh n S i).2 := ⟨_, rfl⟩
      by_cases hy1 : y = 1
      · have eg : mv n m S i k' = ((1 : Int), S) := by unfold mv; rw [if_pos (.inl (by rw [← hy]; exact hy1))]
        rw [eg]
        rw [← hx, ← hy, hy1] at HW
        have hW := Kept.mk HW
        clear hx hy eg HW hw hH hy1
        go_enter Tryd.func65, Tryd.ntmps65
        go_wp2_with fail
        refine hW.out.mono ?_
        rintro e w' ⟨rfl, rfl⟩
        go_wp2
        go_ret
        exact PRes.same HA.out _
      · have eg : mv n m S i k' = (y, S) := by unfold mv; rw [if_neg (by rw [← hy]; omega), if_neg hw, hy]
        rw [eg]
        rw [← hx, ← hy] at HW
        rw [← hy] at hw
        have hW := Kept.mk HW
        have hne : (y != 0) = true := by simp [hw]
        have hne1 : (y == 1) = false := by simp [hy1]
        clear hx hy eg HW hw hH hy1
        go_enter Tryd.func65, Tryd.ntmps65
        go_wp2_with fail
        refine hW.out.mono ?_
        rintro e w' ⟨rfl, rfl⟩
        go_wp2_with ((go_at_call 49; refine (HH.out).mono ?_; rintro e w' ⟨rfl, rfl⟩))
        go_ret
        exact PRes.same HA.out _
  · rw [decide_eq_false hk'] at hH
    have HH := Kept.mk hH
    obtain ⟨x, hx⟩ : ∃ x, x = (wh n S i).1 := ⟨_, rfl⟩
    obtain ⟨y, hy⟩ : ∃ x, x = (wh n S i).2 := ⟨_, rfl⟩
    have eg : mv n m S i k' = ((1 : Int), S) := by unfold mv; rw [if_pos (.inr hk')]
    rw [eg]
    rw [← hx, ← hy] at HW
    have hW := Kept.mk HW
    clear hx hy eg HW hH
    by_cases hy1 : y = 1
    · subst hy1
      go_enter Tryd.func65, Tryd.ntmps65
      go_wp2_with fail
      refine hW.out.mono ?_
      rintro e w' ⟨rfl, rfl⟩
      go_wp2
      go_ret
      exact PRes.same HA.out _
    · have hne1 : (y == 1) = false := by simp [hy1]
      clear hy1
      go_enter Tryd.func65, Tryd.ntmps65
      go_wp2_with fail
      refine hW.out.mono ?_
      rintro e w' ⟨rfl, rfl⟩
      go_wp2_with ((go_at_call 49; refine (HH.out).mono ?_; rintro e w' ⟨rfl, rfl⟩))
      go_ret
      exact PRes.same HA.out _
end Go.Proofs.YtakkfgkogomjbaaDoor
namespace Go.Proofs.YtakkfgkogomjbaaDoor
open Go.RowKit
set_option linter.unusedVariables false
theorem info_link : (Tryd.prog.info? 86).map (fun i => (i.zero, i.size, i.bytes)) = some (some (.agg #[.int .i64 0, .int .i64 0, .int .i64 0]), 3, 24) := by kernel_rfl
theorem info_ends : (Tryd.prog.info? 88).map (fun i => (i.zero, i.size, i.bytes)) = some (some (.agg #[.int .i64 0, .int .i64 0]), 2, 16) := by kernel_rfl
theorem make_link (n : Nat) (hn : n ≤ 4096) : ∃ X : Array Value, (∀ j, j < n * 3 → X[j]? = some (.int .i64 0)) ∧ ∀ W, (Instr.makeSlice 81 (.int .i64 n) (.int .i64 n)).run Tryd.prog W = .ok (.slice (some ⟨W.heap.size, 0, none⟩) n n) (W.alloc (.cells X 86)) := by
  obtain ⟨i0, hi, hz0, hz1, hz2⟩ := info_parts info_link
  refine ⟨madeCells (Value.agg #[.int .i64 0, .int .i64 0, .int .i64 0]).cells (n * 3), fun j hj => ?_, fun W => ?_⟩
  · unfold madeCells
    rw [Array.getElem?_map, Array.getElem?_range, if_pos hj]
    simp only [Option.map_some, Value.cells]
    have : j % 3 = 0 ∨ j % 3 = 1 ∨ j % 3 = 2 := by omega
    rcases this with h | h | h <;> simp [h]
  · have := run_make (P := Tryd.prog) W 81 86 i0 _ Tryd.underlying81 hi hz0 .i64 .i64 n n (by omega) (by omega) (by rw [hz2]; omega) (by omega)
    rw [hz1] at this
    simpa using this
theorem make_ends (n : Nat) (hn : n ≤ 4096) : ∃ X : Array Value, (∀ j, j < n * 2 → X[j]? = some (.int .i64 0)) ∧ ∀ W, (Instr.makeSlice 82 (.int .i64 n) (.int .i64 n)).run Tryd.prog W = .ok (.slice (some ⟨W.heap.size, 0, none⟩) n n) (W.alloc (.cells X 88)) := by
  obtain ⟨i0, hi, hz0, hz1, hz2⟩ := info_parts info_ends
  refine ⟨madeCells (Value.agg #[.int .i64 0, .int .i64 0]).cells (n * 2), fun j hj => ?_, fun W => ?_⟩
  · unfold madeCells
    rw [Array.getElem?_map, Array.getElem?_range, if_pos hj]
    simp only [Option.map_some, Value.cells]
    have : j % 2 = 0 ∨ j % 2 = 1 := by omega
    rcases this with h | h <;> simp [h]
  · have := run_make (P := Tryd.prog) W 82 88 i0 _ Tryd.underlying82 hi hz0 .i64 .i64 n n (by omega) (by omega) (by rw [hz2]; omega) (by omega)
    rw [hz1] at this
    simpa using this
theorem new_bad (n m : Int) (h : ¬ (1 ≤ n ∧ n ≤ 4096 ∧ 1 ≤ m ∧ m ≤ 512)) (w : World) :
    Calls Tryd.prog 13 #[.int .i64 n, .int .i64 m] w fun e w' => e = .returned (.tuple #[.pointer none, .int .i64 1]) ∧ w = w' := by
  by_cases h1 : n < 1
  · go_enter Tryd.func13, Tryd.ntmps13
    go_wp2
    go_ret2
    exact ⟨rfl, rfl⟩
  · by_cases h2 : 4096 < n
    · go_enter Tryd.func13, Tryd.ntmps13
      go_wp2
      go_ret2
      exact ⟨rfl, rfl⟩
    · by_cases h3 : m < 1
      · go_enter Tryd.func13, Tryd.ntmps13
        go_wp2
        go_ret2
        exact ⟨rfl, rfl⟩
      · have h4 : 512 < m := by omega
        go_enter Tryd.func13, Tryd.ntmps13
        go_wp2
        go_ret2
        exact ⟨rfl, rfl⟩
theorem NB.congr {w : World} {L N : Nat} {F F' : Nat → Int} (h : NB w L N F) (he : ∀ j, j < N → F j = F' j) : NB w L N F' := ⟨fun j hj => by rw [← he j hj]; exact h.c j hj, h.f⟩
theorem PB.congr {w : World} {p L K n m : Nat} {F G F' G' : Nat → Int} {top free : Int} (h : PB w p L K n m F G top free) (h1 : ∀ j, j < n * 3 → F j = F' j) (h2 : ∀ j, j < m * 2 → G j = G' j) : PB w p L K n m F' G' top free := h.pc.pb (h.l.congr h1) (h.k.congr h2)
theorem NB.new {w w' : World} {N : Nat} {X : Array Value} {T : TypeId} (hX : ∀ j, j < N → X[j]? = some (.int .i64 0)) (hb : Below (w.alloc (.cells X T)).heap.size (w.alloc (.cells X T)) w') : NB w' w.heap.size N (fun _ => 0) :=
  ⟨fun j hj => box_cell hb j _ (hX j hj), fun j => box_free hb j⟩
/-- What New has made ahead of its loops. -/
structure Made (w W : World) (p L K n m : Nat) : Prop where
  pb : PB W p L K n m (fun _ => 0) (fun _ => 0) 0 n
  pl : PL w.heap.size (w.heap.size + 3) p L K
  size : W.heap.size = w.heap.size + 3
  below : Below w.heap.size w W
theorem made1 (w : World) (n m : Nat) (X Y : Array Value) (hX : ∀ j, j < n * 3 → X[j]? = some (.int .i64 0)) (hY : ∀ j, j < m * 2 → Y[j]? = some (.int .i64 0)) (v : Array Value) (hv : v = #[.slice (some ⟨w.heap.size, 0, none⟩) n n, .slice (some ⟨w.heap.size + 1, 0, none⟩) m m, .int .i64 0, .int .i64 n]) (T1 T2 T3 : TypeId) :
    Made w (((w.alloc (.cells X T1)).alloc (.cells Y T2)).alloc (.cells v T3)).drew (w.heap.size + 1 + 1) w.heap.size (w.heap.size + 1) n m := by
  subst hv
  have b3 := below_box ((w.alloc (.cells X T1)).alloc (.cells Y T2)) (.cells #[.slice (some ⟨w.heap.size, 0, none⟩) n n, .slice (some ⟨w.heap.size + 1, 0, none⟩) m m, .int .i64 0, .int .i64 n] T3)
  have b2 := (below_box (w.alloc (.cells X T1)) (.cells Y T2)).trans (b3.mono (by simp))
  have q1 := NB.new hX b2
  have q2 := NB.new hY b3
  have q3 := Below.refl (((w.alloc (.cells X T1)).alloc (.cells Y T2)).alloc (.cells #[.slice (some ⟨w.heap.size, 0, none⟩) n n, .slice (some ⟨w.heap.size + 1, 0, none⟩) m m, .int .i64 0, .int .i64 n] T3)).heap.size (((w.alloc (.cells X T1)).alloc (.cells Y T2)).alloc (.cells #[.slice (some ⟨w.heap.size, 0, none⟩) n n, .slice (some ⟨w.heap.size + 1, 0, none⟩) m m, .int .i64 0, .int .i64 n] T3))
  have e1 : (w.alloc (.cells X T1)).heap.size = w.heap.size + 1 := by simp
  have e2 : ((w.alloc (.cells X T1)).alloc (.cells Y T2)).heap.size = w.heap.size + 1 + 1 := by simp
  rw [e1] at q2
  have k0 := box_cell q3 0 _ rfl
  have k1 := box_cell q3 1 _ rfl
  have k2 := box_cell q3 2 _ rfl
  have k3 := box_cell q3 3 _ rfl
  have kf := box_free q3
  rw [e2] at k0 k1 k2 k3 kf
  refine ⟨PB.drew ⟨k0, k1, k2, k3, kf, q1, q2⟩, ⟨?_, ?_, ?_, ?_, ?_, ?_, ?_, ?_, ?_⟩, ?_, ?_⟩
  any_goals omega
  · simp
  · have := (below_box w (.cells X T1)).trans (b2.mono (by simp))
    exact ⟨this.os, this.tape, this.output, this.size, this.block⟩
theorem made2 (w : World) (n m : Nat) (X Y : Array Value) (hX : ∀ j, j < n * 3 → X[j]? = some (.int .i64 0)) (hY : ∀ j, j < m * 2 → Y[j]? = some (.int .i64 0)) (v : Array Value) (hv : v = #[.slice (some ⟨w.heap.size + 1, 0, none⟩) n n, .slice (some ⟨w.heap.size, 0, none⟩) m m, .int .i64 0, .int .i64 n]) (T1 T2 T3 : TypeId) :
    Made w (((w.alloc (.cells Y T2)).alloc (.cells X T1)).alloc (.cells v T3)).drew (w.heap.size + 1 + 1) (w.heap.size + 1) w.heap.size n m := by
  subst hv
  have b3 := below_box ((w.alloc (.cells Y T2)).alloc (.cells X T1)) (.cells #[.slice (some ⟨w.heap.size + 1, 0, none⟩) n n, .slice (some ⟨w.heap.size, 0, none⟩) m m, .int .i64 0, .int .i64 n] T3)
  have b2 := (below_box (w.alloc (.cells Y T2)) (.cells X T1)).trans (b3.mono (by simp))
  have q1 := NB.new hY b2
  have q2 := NB.new hX b3
  have q3 := Below.refl (((w.alloc (.cells Y T2)).alloc (.cells X T1)).alloc (.cells #[.slice (some ⟨w.heap.size + 1, 0, none⟩) n n, .slice (some ⟨w.heap.size, 0, none⟩) m m, .int .i64 0, .int .i64 n] T3)).heap.size (((w.alloc (.cells Y T2)).alloc (.cells X T1)).alloc (.cells #[.slice (some ⟨w.heap.size + 1, 0, none⟩) n n, .slice (some ⟨w.heap.size, 0, none⟩) m m, .int .i64 0, .int .i64 n] T3))
  have e1 : (w.alloc (.cells Y T2)).heap.size = w.heap.size + 1 := by simp
  have e2 : ((w.alloc (.cells Y T2)).alloc (.cells X T1)).heap.size = w.heap.size + 1 + 1 := by simp
  rw [e1] at q2
  have k0 := box_cell q3 0 _ rfl
  have k1 := box_cell q3 1 _ rfl
  have k2 := box_cell q3 2 _ rfl
  have k3 := box_cell q3 3 _ rfl
  have kf := box_free q3
  rw [e2] at k0 k1 k2 k3 kf
  refine ⟨PB.drew ⟨k0, k1, k2, k3, kf, q2, q1⟩, ⟨?_, ?_, ?_, ?_, ?_, ?_, ?_, ?_, ?_⟩, ?_, ?_⟩
  any_goals omega
  · simp
  · have := (below_box w (.cells Y T2)).trans (b2.mono (by simp))
    exact ⟨this.os, this.tape, this.output, this.size, this.block⟩
def nF (k : Nat) (j : Nat) : Int := if j < k * 3 then (if j % 3 = 2 then ((j / 3 + 1 : Nat) : Int) else -1) else 0
theorem nF_step (k : Nat) : upd (upd (upd (nF k) (k * 3) (-1)) (k * 3 + 1) (-1)) (k * 3 + 2) ((k : Int) + 1) = nF (k + 1) := by
  funext j
  unfold upd nF
  by_cases h2 : j = k * 3 + 2
  · rw [if_pos h2, if_pos (by omega), if_pos (by omega)]
    omega
  · rw [if_neg h2]
    by_cases h1 : j = k * 3 + 1
    · rw [if_pos h1, if_pos (by omega), if_neg (by omega)]
    · rw [if_neg h1]
      by_cases h0 : j = k * 3
      · rw [if_pos h0, if_pos (by omega), if_neg (by omega)]
      · rw [if_neg h0]
        by_cases hl : j < k * 3
        · have : j < (k + 1) * 3 := by omega
          simp only [hl, this, if_true]
        · rw [if_neg hl, if_neg (by omega)]
theorem nF_last (q j : Nat) (hj : j < (q + 1) * 3) : upd (nF (q + 1)) (q * 3 + 2) (-1) j = newF (q + 1) j := by
  unfold upd nF newF
  by_cases h2 : j = q * 3 + 2
  · rw [if_pos h2, if_pos (by omega), if_pos (by omega)]
  · rw [if_neg h2, if_pos hj]
    split
    · rw [if_neg (by omega)]
    · rfl
def nG (k : Nat) (j : Nat) : Int := if j < k * 2 then -1 else 0
theorem nG_step (k : Nat) : upd (upd (nG k) (k * 2) (-1)) (k * 2 + 1) (-1) = nG (k + 1) := by
  funext j
  unfold upd nG
  by_cases h1 : j = k * 2 + 1
  · rw [if_pos h1, if_pos (by omega)]
  · rw [if_neg h1]
    by_cases h0 : j = k * 2
    · rw [if_pos h0, if_pos (by omega)]
    · rw [if_neg h0]
      by_cases hl : j < k * 2
      · rw [if_pos hl, if_pos (by omega)]
      · rw [if_neg hl, if_neg (by omega)]
theorem pb_ends {w : World} {lo hi p L K n m : Nat} {F G : Nat → Int} {top free : Int} (h : PB w p L K n m F G top free) (hp : PL lo hi p L K) {o : Nat} (ho : o + 1 < m * 2) (a b : Int) :
    PB ((w.setCell ⟨K, o, none⟩ (.int .i64 a)).setCell ⟨K, o + 1, none⟩ (.int .i64 b)) p L K n m F (upd (upd G o a) (o + 1) b) top free :=
  pb_setK (pb_setK h hp (by omega) a) hp ho b
set_option maxHeartbeats 4000000 in
theorem new_walk (n m : Nat) (h1 : 1 ≤ n) (h2 : n ≤ 4096) (h3 : 1 ≤ m) (h4 : m ≤ 512) (w : World) :
    Calls Tryd.prog 13 #[.int .i64 n, .int .i64 m] w fun e w' => ∃ p L K, e = .returned (.tuple #[.pointer (some ⟨p, 0, none⟩), .int .i64 0]) ∧ PoolAt w' w.heap.size (w.heap.size + 3) p L K n m (newS n m) ∧ Below w.heap.size w w' := by
  obtain ⟨X, hX, mk1⟩ := make_link n h2
  obtain ⟨Y, hY, mk2⟩ := make_ends m (by omega)
  have M1 := Kept.mk (made1 w n m X Y hX hY _ rfl 86 88 84)
  have M2 := Kept.mk (made2 w n m X Y hX hY _ rfl 86 88 84)
  clear hX hY
  obtain ⟨q, hq⟩ : ∃ q, n = q + 1 := ⟨n - 1, by omega⟩
  have hq' : (n : Int) - 1 = q := by omega
  have HQ := Kept.mk hq
  clear hq
  go_enter Tryd.func13, Tryd.ntmps13
  go_wp2_with fail
  go_region
  · obtain ⟨W1, hW1⟩ : ∃ W1, W1 = (((w.alloc (.cells X 86)).alloc (.cells Y 88)).alloc (.cells #[.slice (some ⟨w.heap.size, 0, none⟩) n n, .slice (some ⟨w.heap.size + 1, 0, none⟩) m m, .int .i64 0, .int .i64 n] 84)).drew := ⟨_, rfl⟩
    have HM := M1.out
    rw [← hW1] at HM ⊢
    clear M1 M2 hW1 mk1 mk2
    obtain ⟨hpb, hpl, hsz, hbl⟩ := HM
    have HB := Kept.mk hpb
    have HP := Kept.mk hpl
    have HS := Kept.mk hsz
    obtain ⟨c0, c1, c2, c3, pf, hl, hk⟩ := hpb
    clear hsz hl hk hpl
    go_wp2_with fail
    go_loopw [35] (fun i wr => ∃ (k : Nat), k ≤ n ∧ i = .int .i64 k ∧ PB wr (w.heap.size + 1 + 1) w.heap.size (w.heap.size + 1) n m (nF k) (nG 0) 0 n ∧ Below w.heap.size w wr ∧ w.heap.size + 3 ≤ wr.heap.size) (fun i _ => n - (intOf i).toNat)
    case atStart => exact ⟨0, by omega, rfl, HB.out.congr (fun j _ => by simp [nF]) (fun j _ => by simp [nG]), hbl, by rw [HS.out]; omega⟩
    case round =>
      clear hbl c0 c1 c2 c3 pf
      obtain ⟨k, hk, rfl, hpb, hbw, hzw⟩ := hrel
      have HB := Kept.mk hpb
      have hbk : ∀ (o : Nat) (v : Value), True := fun _ _ => trivial
      by_cases hlt : k < n
      · have ik : (k : Int) < (n : Int) := by omega
        obtain ⟨c0, c1, c2, c3, pf, hl, hkk⟩ := hpb
        have a0 := hl.c (k * 3) (by omega)
        have a1 := hl.c (k * 3 + 1) (by omega)
        have a2 := hl.c (k * 3 + 2) (by omega)
        have lf := hl.f
        clear hl hkk
        go_wp2
        go_roundw
        case rel =>
          refine ⟨k + 1, by omega, by go_num, ?_, ?_, ?_⟩
          · have q := pb_link HB.out HP.out (o := k * 3) (by omega) (-1) (-1) ((k : Int) + 1)
            rw [nF_step] at q
            unfold link3 at q
            exact q
          · exact ((hbw.setCell (p := ⟨w.heap.size, k * 3, none⟩) (show w.heap.size ≤ w.heap.size by omega) _).setCell (p := ⟨w.heap.size, k * 3 + 1, none⟩) (show w.heap.size ≤ w.heap.size by omega) _).setCell (p := ⟨w.heap.size, k * 3 + 2, none⟩) (show w.heap.size ≤ w.heap.size by omega) _
          · simpa using hzw
        case measure => simp [intOf]; omega
      · have e : k = n := by omega
        subst e
        obtain ⟨c0, c1, c2, c3, pf, hl, hkk⟩ := hpb
        have a2 := hl.c (q * 3 + 2) (by have := HQ.out; omega)
        have lf := hl.f
        have qk : (q : Int) < (k : Int) := by have := HQ.out; omega
        have qn : q < k := by have := HQ.out; omega
        clear hl hkk hlt
        go_wp2_with fail
        go_loopw [61] (fun i wr => ∃ (j : Nat), j ≤ m ∧ i = .int .i64 j ∧ PB wr (w.heap.size + 1 + 1) w.heap.size (w.heap.size + 1) k m (newF k) (nG j) 0 k ∧ Below w.heap.size w wr ∧ w.heap.size + 3 ≤ wr.heap.size) (fun i _ => m - (intOf i).toNat)
        case atStart =>
          refine ⟨0, by omega, rfl, ?_, hbw.setCell (p := ⟨w.heap.size, q * 3 + 2, none⟩) (show w.heap.size ≤ w.heap.size by omega) _, by simpa using hzw⟩
          have := pb_setL HB.out HP.out (o := q * 3 + 2) (by omega) (-1)
          have e := HQ.out
          subst e
          exact this.congr (fun j hj => nF_last q j hj) (fun _ _ => rfl)
        case round =>
          clear c0 c1 c2 c3 pf a2 lf HB hbw hzw
          obtain ⟨j, hj, rfl, hpb, hbw, hzw⟩ := hrel
          have HB := Kept.mk hpb
          by_cases hlt : j < m
          · have ik : (j : Int) < (m : Int) := by omega
            obtain ⟨c0, c1, c2, c3, pf, hl, hkk⟩ := hpb
            have a0 := hkk.c (j * 2) (by omega)
            have a1 := hkk.c (j * 2 + 1) (by omega)
            have lf := hkk.f
            clear hl hkk
            go_wp2
            go_roundw
            case rel =>
              refine ⟨j + 1, by omega, by go_num, ?_, ?_, ?_⟩
              · have q := pb_ends HB.out HP.out (o := j * 2) (by omega) (-1) (-1)
                rw [nG_step] at q
                exact q
              · exact (hbw.setCell (p := ⟨(w.heap.size + 1), j * 2, none⟩) (show w.heap.size ≤ (w.heap.size + 1) by omega) _).setCell (p := ⟨(w.heap.size + 1), j * 2 + 1, none⟩) (show w.heap.size ≤ (w.heap.size + 1) by omega) _
              · simpa using hzw
            case measure => simp [intOf]; omega
          · have e : j = m := by omega
            subst e
            go_wp2
            go_ret2
            refine ⟨_, _, _, rfl, ⟨HP.out, hzw, h2, by omega, newF k, fun _ => -1, ?_, good_new k j⟩, hbw⟩
            have e1 : (newS k j).pile.getLast? = some 0 := by
              have := HQ.out
              unfold newS
              rw [List.getLast?_reverse, this, List.range_succ_eq_map]
              rfl
            have e2 : ((newS k j).pile.length : Int) = k := by simp [newS]
            rw [e1, e2]
            exact HB.out.congr (fun _ _ => rfl) (fun i hi => by unfold nG; rw [if_pos hi])
  · obtain ⟨W1, hW1⟩ : ∃ W1, W1 = (((w.alloc (.cells Y 88)).alloc (.cells X 86)).alloc (.cells #[.slice (some ⟨w.heap.size + 1, 0, none⟩) n n, .slice (some ⟨w.heap.size, 0, none⟩) m m, .int .i64 0, .int .i64 n] 84)).drew := ⟨_, rfl⟩
    have HM := M2.out
    rw [← hW1] at HM ⊢
    clear M1 M2 hW1 mk1 mk2
    obtain ⟨hpb, hpl, hsz, hbl⟩ := HM
    have HB := Kept.mk hpb
    have HP := Kept.mk hpl
    have HS := Kept.mk hsz
    obtain ⟨c0, c1, c2, c3, pf, hl, hk⟩ := hpb
    clear hsz hl hk hpl
    go_wp2_with fail
    go_loopw [35] (fun i wr => ∃ (k : Nat), k ≤ n ∧ i = .int .i64 k ∧ PB wr (w.heap.size + 1 + 1) (w.heap.size + 1) w.heap.size n m (nF k) (nG 0) 0 n ∧ Below w.heap.size w wr ∧ w.heap.size + 3 ≤ wr.heap.size) (fun i _ => n - (intOf i).toNat)
    case atStart => exact ⟨0, by omega, rfl, HB.out.congr (fun j _ => by simp [nF]) (fun j _ => by simp [nG]), hbl, by rw [HS.out]; omega⟩
    case round =>
      clear hbl c0 c1 c2 c3 pf
      obtain ⟨k, hk, rfl, hpb, hbw, hzw⟩ := hrel
      have HB := Kept.mk hpb
      have hbk : ∀ (o : Nat) (v : Value), True := fun _ _ => trivial
      by_cases hlt : k < n
      · have ik : (k : Int) < (n : Int) := by omega
        obtain ⟨c0, c1, c2, c3, pf, hl, hkk⟩ := hpb
        have a0 := hl.c (k * 3) (by omega)
        have a1 := hl.c (k * 3 + 1) (by omega)
        have a2 := hl.c (k * 3 + 2) (by omega)
        have lf := hl.f
        clear hl hkk
        go_wp2
        go_roundw
        case rel =>
          refine ⟨k + 1, by omega, by go_num, ?_, ?_, ?_⟩
          · have q := pb_link HB.out HP.out (o := k * 3) (by omega) (-1) (-1) ((k : Int) + 1)
            rw [nF_step] at q
            unfold link3 at q
            exact q
          · exact ((hbw.setCell (p := ⟨(w.heap.size + 1), k * 3, none⟩) (show w.heap.size ≤ (w.heap.size + 1) by omega) _).setCell (p := ⟨(w.heap.size + 1), k * 3 + 1, none⟩) (show w.heap.size ≤ (w.heap.size + 1) by omega) _).setCell (p := ⟨(w.heap.size + 1), k * 3 + 2, none⟩) (show w.heap.size ≤ (w.heap.size + 1) by omega) _
          · simpa using hzw
        case measure => simp [intOf]; omega
      · have e : k = n := by omega
        subst e
        obtain ⟨c0, c1, c2, c3, pf, hl, hkk⟩ := hpb
        have a2 := hl.c (q * 3 + 2) (by have := HQ.out; omega)
        have lf := hl.f
        have qk : (q : Int) < (k : Int) := by have := HQ.out; omega
        have qn : q < k := by have := HQ.out; omega
        clear hl hkk hlt
        go_wp2_with fail
        go_loopw [61] (fun i wr => ∃ (j : Nat), j ≤ m ∧ i = .int .i64 j ∧ PB wr (w.heap.size + 1 + 1) (w.heap.size + 1) w.heap.size k m (newF k) (nG j) 0 k ∧ Below w.heap.size w wr ∧ w.heap.size + 3 ≤ wr.heap.size) (fun i _ => m - (intOf i).toNat)
        case atStart =>
          refine ⟨0, by omega, rfl, ?_, hbw.setCell (p := ⟨(w.heap.size + 1), q * 3 + 2, none⟩) (show w.heap.size ≤ (w.heap.size + 1) by omega) _, by simpa using hzw⟩
          have := pb_setL HB.out HP.out (o := q * 3 + 2) (by omega) (-1)
          have e := HQ.out
          subst e
          exact this.congr (fun j hj => nF_last q j hj) (fun _ _ => rfl)
        case round =>
          clear c0 c1 c2 c3 pf a2 lf HB hbw hzw
          obtain ⟨j, hj, rfl, hpb, hbw, hzw⟩ := hrel
          have HB := Kept.mk hpb
          by_cases hlt : j < m
          · have ik : (j : Int) < (m : Int) := by omega
            obtain ⟨c0, c1, c2, c3, pf, hl, hkk⟩ := hpb
            have a0 := hkk.c (j * 2) (by omega)
            have a1 := hkk.c (j * 2 + 1) (by omega)
            have lf := hkk.f
            clear hl hkk
            go_wp2
            go_roundw
            case rel =>
              refine ⟨j + 1, by omega, by go_num, ?_, ?_, ?_⟩
              · have q := pb_ends HB.out HP.out (o := j * 2) (by omega) (-1) (-1)
                rw [nG_step] at q
                exact q
              · exact (hbw.setCell (p := ⟨w.heap.size, j * 2, none⟩) (show w.heap.size ≤ w.heap.size by omega) _).setCell (p := ⟨w.heap.size, j * 2 + 1, none⟩) (show w.heap.size ≤ w.heap.size by omega) _
              · simpa using hzw
            case measure => simp [intOf]; omega
          · have e : j = m := by omega
            subst e
            go_wp2
            go_ret2
            refine ⟨_, _, _, rfl, ⟨HP.out, hzw, h2, by omega, newF k, fun _ => -1, ?_, good_new k j⟩, hbw⟩
            have e1 : (newS k j).pile.getLast? = some 0 := by
              have := HQ.out
              unfold newS
              rw [List.getLast?_reverse, this, List.range_succ_eq_map]
              rfl
            have e2 : ((newS k j).pile.length : Int) = k := by simp [newS]
            rw [e1, e2]
            exact HB.out.congr (fun _ _ => rfl) (fun i hi => by unfold nG; rw [if_pos hi])
end Go.Proofs.YtakkfgkogomjbaaDoor
