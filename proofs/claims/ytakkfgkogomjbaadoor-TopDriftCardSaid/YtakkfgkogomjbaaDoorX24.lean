/-
  The law TopDrift: timers beside a service; the law's own numbers.
-/
import Derived.Test.YtakkfgkogomjbaaDoorX23
namespace Go.Proofs.YtakkfgkogomjbaaDoor
open Go.RowKit Go.Shelf
set_option linter.unusedVariables false
set_option linter.unusedSimpArgs false
theorem PoolAt.keptR {w w' : World} {lo hi p L K n m : Nat} {S : PS} (h : PoolAt w lo hi p L K n m S) (hs : w.heap.size ≤ w'.heap.size) (hk : ∀ i, lo ≤ i → i < hi → w'.heap[i]? = w.heap[i]?) : PoolAt w' lo hi p L K n m S := by
  obtain ⟨F, G, h1, h2⟩ := h.of
  exact ⟨h.pl, Nat.le_trans h.hh hs, h.nb, h.mb, F, G, h1.kept (hk _ h.pl.p1 h.pl.p2) (hk _ h.pl.l1 h.pl.l2) (hk _ h.pl.k1 h.pl.k2), h2⟩
theorem WAt.keptR {w w' : World} {lo hi wb I M p L K n : Nat} {now tu : Int} {A : List Tm} (h : WAt w lo hi wb I M p L K n now tu A) (hs : w.heap.size ≤ w'.heap.size) (hk : ∀ i, lo ≤ i → i < hi → w'.heap[i]? = w.heap[i]?) : WAt w' lo hi wb I M p L K n now tu A := by
  obtain ⟨S, T, f, F, h, h2⟩ := h.of
  have l := h.ly
  have l0 := l.lh
  refine ⟨S, T, f, F, ⟨h.ly, Nat.le_trans h.hh hs, h.pa.keptR hs (fun i h1 h2 => hk i h1 (by omega)), h.wc.kept (hk _ (by have := l.q1; omega) l.q2), h.nb.kept (hk _ (by have := l.i1; omega) l.i2), h.mp.kept (hk _ (by have := l.m1; omega) l.m2), h.co, h.fi, h.fl, h.bi, h.n0, h.n1, h.t0, h.t1⟩, h2⟩
theorem TmAt.lohi {w : World} {lo hi wb I M p L K n tb pm : Nat} {now tu : Int} {A : List Tm} {N : Nat} {f : Int → Option Nat} (h : TmAt w lo hi wb I M p L K n tb pm now tu A N f) : lo + 3 ≤ hi := by
  obtain ⟨S, T, f, F, h, h2⟩ := h.wh.of
  exact h.ly.lh
theorem TmAt.keptR {w w' : World} {lo hi wb I M p L K n tb pm : Nat} {now tu : Int} {A : List Tm} {N : Nat} {f : Int → Option Nat} (h : TmAt w lo hi wb I M p L K n tb pm now tu A N f) (hs : w.heap.size ≤ w'.heap.size) (hk : ∀ i, lo ≤ i → i < tb + 1 → w'.heap[i]? = w.heap[i]?) : TmAt w' lo hi wb I M p L K n tb pm now tu A N f :=
  have q1 := h.h1
  have q2 := h.h2
  have q0 := h.lohi
  ⟨h.wh.keptR hs (fun i h1 h2 => hk i h1 (by omega)), q1, q2, (hk tb (by omega) (by omega)).trans h.bl, h.mp.kept (hk pm (by omega) (by omega))⟩
theorem TState.kp {w w' : World} {G : TG} {now tu d : Int} {per lo hi : Nat} (h : TState w G now tu d per) (hk : Kp lo hi w w') (h1 : hi ≤ G.lo) : TState w' G now tu d per := by
  have hl := h.lt
  have key : ∀ i, G.lo ≤ i → i < G.tb + 1 → w'.heap[i]? = w.heap[i]? := fun i h2 h3 => hk.block i (by omega) (.inr (by omega))
  rcases h with ⟨q1, tn, q2⟩ | ⟨q1, N, f, q2⟩
  · exact .inl ⟨q1, tn, q2.keptR hk.size key⟩
  · exact .inr ⟨q1, N, f, q2.keptR hk.size key⟩
/-- The law's numbers behind some steps. -/
structure DNum (start base t d nu mn : Int) (per : Nat) (tu utu : Int) (k : Nat) : Prop where
  t0 : 0 ≤ t
  t1 : t ≤ 4503599627370496
  ts : start ≤ t
  ab : ∃ a b : Nat, d = base + (a : Int) * (per : Int) ∧ nu = base + (b : Int) * (per : Int) ∧ a ≤ b ∧ (a = 0 ∨ d - (per : Int) ≤ t)
  nt : t ≤ nu
  u1 : tu ≤ 1 + 2048 * (k : Int)
  u2 : utu ≤ 1 + 1024 * (k : Int)
theorem mul_le_mono {a b : Nat} {p : Int} (hp : 1 ≤ p) (h : (a : Int) * p < ((b : Int) + 1) * p) : a ≤ b := by
  rcases Nat.lt_or_ge b a with hlt | hge
  · exfalso
    have : ((b : Int) + 1) * p ≤ (a : Int) * p := Int.mul_le_mul_of_nonneg_right (by omega) (by omega)
    omega
  · exact hge
/-- One step of the law: the service fired xs, and its time is T; the plain timers fired c. -/
theorem DNum.step {start base t d nu mn T n : Int} {per k : Nat} {tu utu tu' utu' : Int} {xs : List Q3} {c : Nat} (h : DNum start base t d nu mn per tu utu k) (hb0 : 0 ≤ base) (hp : 1 ≤ per)
    (hT : t ≤ T ∧ T ≤ t + n ∧ FL d per mn T xs ∧ tu ≤ tu' ∧ tu' ≤ tu + xs.length ∧ xs.length ≤ 2048) (hT1 : T ≤ 4503599627370496) (hn : n ≤ 0 ∨ n ≤ 301 * (per : Int))
    (hc : c ≤ 1024 ∧ (∀ i : Nat, i < c → nu + (i : Int) * (per : Int) ≤ T) ∧ (c = 1024 ∨ T < nu + (c : Int) * (per : Int)) ∧ utu ≤ utu' ∧ utu' ≤ utu + c) :
    DNum start base T (d + (xs.length : Int) * (per : Int)) (nu + (c : Int) * (per : Int)) mn per tu' utu' (k + 1) ∧ T < nu + (c : Int) * (per : Int) ∧ (1 ≤ c → d + (xs.length : Int) * (per : Int) - (per : Int) ≤ nu + ((c : Int) - 1) * (per : Int)) := by
  obtain ⟨h1, h2, h3, h4, h5, h6⟩ := hT
  obtain ⟨c1, c2, c3, c4, c5⟩ := hc
  have hlt : T < nu + (c : Int) * (per : Int) := by
    rcases c3 with rfl | h
    · exfalso
      have q := c2 1023 (by omega)
      have := h.nt
      have e : ((1023 : Nat) : Int) * (per : Int) = 1023 * (per : Int) := rfl
      rw [e] at q
      omega
    · exact h
  obtain ⟨a, b, e1, e2, hab, hda⟩ := h.ab
  have p0 : (1 : Int) ≤ (per : Int) := by omega
  have E1 : d + (xs.length : Int) * (per : Int) = base + ((a + xs.length : Nat) : Int) * (per : Int) := by rw [e1, Int.natCast_add, Int.add_mul, Int.add_assoc]
  have E2 : nu + (c : Int) * (per : Int) = base + ((b + c : Nat) : Int) * (per : Int) := by rw [e2, Int.natCast_add, Int.add_mul, Int.add_assoc]
  have hlast : a + xs.length = 0 ∨ d + (xs.length : Int) * (per : Int) - (per : Int) ≤ T := by
    cases hx : xs.length with
    | zero =>
      rcases hda with h | h
      · exact .inl (by omega)
      · exact .inr (by simp; omega)
    | succ j =>
      right
      obtain ⟨x, hxj⟩ : ∃ x, xs[j]? = some x := ⟨_, List.getElem?_eq_getElem (by omega)⟩
      obtain ⟨g1, g2, g3, g4, g5⟩ := h3 j x hxj
      have : ((j + 1 : Nat) : Int) * (per : Int) = (j : Int) * (per : Int) + (per : Int) := by rw [Int.natCast_add, Int.add_mul]; simp
      omega
  have hle : a + xs.length ≤ b + c := by
    rcases hlast with h | h
    · omega
    · refine mul_le_mono p0 ?_
      rw [E1] at h
      rw [E2] at hlt
      have : (((b + c : Nat) : Int) + 1) * (per : Int) = ((b + c : Nat) : Int) * (per : Int) + (per : Int) := by rw [Int.add_mul]; simp
      omega
  have hmono : ((a + xs.length : Nat) : Int) * (per : Int) ≤ ((b + c : Nat) : Int) * (per : Int) := Int.mul_le_mul_of_nonneg_right (by omega) (by omega)
  refine ⟨⟨by have := h.t0; omega, hT1, by have := h.ts; omega, ⟨a + xs.length, b + c, E1, E2, hle, hlast⟩, by omega, by have := h.u1; omega, by have := h.u2; omega⟩, hlt, fun hc1 => ?_⟩
  have : ((c : Int) - 1) * (per : Int) = (c : Int) * (per : Int) - (per : Int) := by rw [Int.sub_mul]; simp
  omega
end Go.Proofs.YtakkfgkogomjbaaDoor
