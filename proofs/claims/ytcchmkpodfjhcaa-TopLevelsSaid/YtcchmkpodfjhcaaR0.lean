/-
  The reference pool as a value: a pile, and lists of lists, that lie from a block on; appending inside a region that draws.
-/
import Derived.Test.YtcchmkpodfjhcaaP7
import Derived.Test.YtcchmkpodfjhcaaApp1
import Derived.Deep.DeepCutAuto
namespace Go.Proofs.Ytcchmkpodfjhcaa
open Go.RowKit
set_option linter.unusedVariables false

/-- The slice at A reads as xs, in a block from hi on. -/
def RI (w : World) (hi : Nat) (A : Option Addr) (xs : List Int) : Prop :=
  0 < xs.length → ∃ b off, A = some ⟨b, off, none⟩ ∧ (hi ≤ b ∧ ∃ cs fr, w.heap[b]? = some (.cells cs 3 fr)) ∧ b < w.heap.size ∧ ∀ j, j < xs.length → w.cell? ⟨b, off + j, none⟩ = some (.int .i64 (xs[j]?.getD 0))
theorem RI.ints {w : World} {hi : Nat} {A : Option Addr} {xs : List Int} (h : RI w hi A xs) : Ints w w.heap.size A xs := fun h0 => by
  obtain ⟨b, off, e, _, hb, hc⟩ := h h0
  exact ⟨b, off, e, hb, hc⟩
theorem RI.blocks {w w' : World} {hi : Nat} {A : Option Addr} {xs : List Int} (h : RI w hi A xs) (hs : w.heap.size ≤ w'.heap.size) (hb : ∀ i, hi ≤ i → i < w.heap.size → w'.heap[i]? = w.heap[i]?) : RI w' hi A xs := fun h0 => by
  obtain ⟨b, off, e, ⟨h1, cs, fr, ht⟩, h2, hc⟩ := h h0
  exact ⟨b, off, e, ⟨h1, cs, fr, (hb b h1 h2).trans ht⟩, Nat.lt_of_lt_of_le h2 hs, fun j hj => (World.cell?_of_block (a := ⟨b, off + j, none⟩) (hb b h1 h2)).trans (hc j hj)⟩
theorem RI.below {w w' : World} {hi : Nat} {A : Option Addr} {xs : List Int} (h : RI w hi A xs) (hb : Below w.heap.size w w') : RI w' hi A xs := h.blocks hb.size fun i _ hi => hb.block i hi
theorem RI.kp {w w' : World} {lo hi : Nat} {A : Option Addr} {xs : List Int} (h : RI w hi A xs) (hk : Kp lo hi w w') : RI w' hi A xs := h.blocks hk.size fun i h1 h2 => hk.block i h2 (.inr h1)
theorem RI.of_own {w : World} {hi base : Nat} {A : Option Addr} {n c : Nat} {xs : List Int} (h : w.ownsRow base 3 1 (.slice A n c) n (xs.map (Value.int .i64))) (hh : hi ≤ base) : RI w hi A xs := fun h0 => by
  obtain ⟨b, off, e1, hb, hc⟩ := (Ints.of_own h).2 h0
  subst e1
  refine ⟨b, off, rfl, ⟨Nat.le_trans hh (h.lt b rfl).1, ?_⟩, hb, hc⟩
  rcases h.2 with ⟨h1, _⟩ | ⟨g, cap, cur, h1, _, hg, _⟩
  · simp at h1
  · simp only [Value.slice.injEq, Option.some.injEq, Addr.mk.injEq] at h1
    rw [h1.1.1]
    exact ⟨_, _, hg⟩
/-- A slice of slices. -/
def RL (w : World) (hi : Nat) (A : Option Addr) (ls : List (List Int)) : Prop :=
  0 < ls.length → ∃ b off, A = some ⟨b, off, none⟩ ∧ (hi ≤ b ∧ ∃ cs fr, w.heap[b]? = some (.cells cs 28 fr)) ∧ b < w.heap.size ∧ ∀ j l, ls[j]? = some l → ∃ B c, w.cell? ⟨b, off + j, none⟩ = some (.slice B l.length c) ∧ RI w hi B l
theorem RL.blocks {w w' : World} {hi : Nat} {A : Option Addr} {ls : List (List Int)} (h : RL w hi A ls) (hs : w.heap.size ≤ w'.heap.size) (hb : ∀ i, hi ≤ i → i < w.heap.size → w'.heap[i]? = w.heap[i]?) : RL w' hi A ls := fun h0 => by
  obtain ⟨b, off, e, ⟨h1, cs, fr, ht⟩, h2, hc⟩ := h h0
  refine ⟨b, off, e, ⟨h1, cs, fr, (hb b h1 h2).trans ht⟩, Nat.lt_of_lt_of_le h2 hs, fun j l hj => ?_⟩
  obtain ⟨B, c, h3, h4⟩ := hc j l hj
  exact ⟨B, c, (World.cell?_of_block (a := ⟨b, off + j, none⟩) (hb b h1 h2)).trans h3, h4.blocks hs hb⟩
theorem RL.below {w w' : World} {hi : Nat} {A : Option Addr} {xs : List (List Int)} (h : RL w hi A xs) (hb : Below w.heap.size w w') : RL w' hi A xs := h.blocks hb.size fun i _ hi => hb.block i hi
theorem RL.kp {w w' : World} {lo hi : Nat} {A : Option Addr} {xs : List (List Int)} (h : RL w hi A xs) (hk : Kp lo hi w w') : RL w' hi A xs := h.blocks hk.size fun i h1 h2 => hk.block i h2 (.inr h1)
/-- A reference pool's cells. -/
def rC (A : Option Addr) (a c : Nat) (A2 : Option Addr) (b c2 n : Nat) : Array Value := #[.slice A a c, .slice A2 b c2, .int .i64 (n : Int)]
/-- A reference pool. -/
structure RP (w : World) (hi n : Nat) (S : PS) (v : Value) : Prop where
  of : ∃ A c A2 c2, v = .agg (rC A S.pile.length c A2 S.lists.length c2 n) ∧ RI w hi A (natI S.pile) ∧ (A = none → c = 0) ∧ RL w hi A2 (S.lists.map natI)
theorem RP.blocks {w w' : World} {hi n : Nat} {S : PS} {v : Value} (h : RP w hi n S v) (hs : w.heap.size ≤ w'.heap.size) (hb : ∀ i, hi ≤ i → i < w.heap.size → w'.heap[i]? = w.heap[i]?) : RP w' hi n S v := by
  obtain ⟨A, c, A2, c2, h1, h2, h3, h4⟩ := h.of
  exact ⟨A, c, A2, c2, h1, h2.blocks hs hb, h3, h4.blocks hs hb⟩
theorem RP.below {w w' : World} {hi n : Nat} {S : PS} {v : Value} (h : RP w hi n S v) (hb : Below w.heap.size w w') : RP w' hi n S v := h.blocks hb.size fun i _ hi => hb.block i hi
theorem RP.kp {w w' : World} {lo hi n : Nat} {S : PS} {v : Value} (h : RP w hi n S v) (hk : Kp lo hi w w') : RP w' hi n S v := h.blocks hk.size fun i h1 h2 => hk.block i h2 (.inr h1)
end Go.Proofs.Ytcchmkpodfjhcaa
