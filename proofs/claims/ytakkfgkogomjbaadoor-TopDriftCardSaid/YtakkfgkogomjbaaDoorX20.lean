/-
  The law TopDrift: the service as a whole: when it wakes, what it looks for.
-/
import Derived.Test.YtakkfgkogomjbaaDoorX13
import Derived.Test.YtakkfgkogomjbaaDoorX17
import Derived.Test.YtakkfgkogomjbaaDoorX19
namespace Go.Proofs.YtakkfgkogomjbaaDoor
open Go.RowKit Go.Shelf
set_option linter.unusedVariables false
set_option linter.unusedSimpArgs false
theorem Kp.toBelow {lo hi B : Nat} {w w' : World} (h : Kp lo hi w w') (h1 : B ≤ lo) (h2 : B ≤ w.heap.size) : Below B w w' :=
  ⟨h.os, h.tape, h.output, h.size, fun i hi => h.block i (by omega) (.inl (by omega))⟩
theorem slook_g {w : World} {G : TG} {sb : Nat} {mn mx m : Int} {a l : Bool} {t g : Int} {nf : Bool} {now tu d : Int} {per : Nat}
    (h : w.heap[sb]? = some (.cells (svC mn mx (t % 4294967296) m a l t G.tb false g nf) 68)) (hs : TState w G now tu d per) (hT : Tab w) (hsb : G.tb < sb)
    (hmx : -9223372036854775808 ≤ mx ∧ mx ≤ 9223372036854775807) (hti : TimOk mn mx) (n0 : 0 ≤ t) (n1 : t ≤ 4503599627370496) :
    Calls Tryd.prog 34 #[.pointer (some ⟨sb, 0, none⟩)] w fun e w' => e = .returned (.tuple #[]) ∧ ∃ m' a' ar' g' nf', w'.heap[sb]? = some (.cells (svC mn mx (t % 4294967296) m' a' l t G.tb ar' g' nf') 68) ∧ TState w' G now tu d per ∧ Kp sb (sb + 1) w w' ∧
      Kept ((4503599627370496 < d ∧ ar' = false) ∨ (d ≤ 4503599627370496 ∧ ar' = true ∧ LkP mn mx t d m' a' nf')) := by
  have hl := hs.lt
  rcases hs with ⟨h1, tn, h2⟩ | ⟨h1, N, f, h2⟩
  · refine (slook_one h h2 hT hsb hmx hti n0 n1).mono ?_
    rintro e w' ⟨rfl, m', a', nf', hc, hk, hp⟩
    exact ⟨rfl, m', a', true, d, nf', hc, .inl ⟨h1, tn, h2.below (hk.toBelow (by omega) hl)⟩, hk, ⟨.inr ⟨h1, rfl, hp⟩⟩⟩
  · refine (slook_none h h2 hT hsb).mono ?_
    rintro e w' ⟨rfl, hc, hk⟩
    exact ⟨rfl, m, false, false, g, false, hc, .inr ⟨h1, N, f, h2.below (hk.toBelow (by omega) hl)⟩, hk, ⟨.inl ⟨h1, rfl⟩⟩⟩
/-- What is known of the service's own words: t its time, d when its timer is due (none, if that is beyond the end), W when it wakes. -/
def SNum (mn : Int) (t m : Int) (a ar nf : Bool) (d W : Int) : Prop :=
  (4503599627370496 < d ∧ ar = false) ∨ (d ≤ 4503599627370496 ∧ ar = true ∧ t ≤ W ∧ W < d + mn ∧ W ≤ 4503599627370496 ∧ ((nf = true ∧ W = t) ∨ (nf = false ∧ a = true ∧ t < W ∧ W - t < 2147483648 ∧ m = W % 4294967296)))
/-- The service. -/
def SState (w : World) (G : TG) (sb : Nat) (mn mx t wn tu d : Int) (per : Nat) (W : Int) : Prop :=
  ∃ m a l ar g nf, w.heap[sb]? = some (.cells (svC mn mx (t % 4294967296) m a l t G.tb ar g nf) 68) ∧ TState w G wn tu d per ∧ Kept (SNum mn t m a ar nf d W)
theorem SState.ts {w : World} {G : TG} {sb : Nat} {mn mx t wn tu d : Int} {per : Nat} {W : Int} (h : SState w G sb mn mx t wn tu d per W) : TState w G wn tu d per := by
  obtain ⟨m, a, l, ar, g, nf, h1, h2, h3⟩ := h
  exact h2
theorem SState.lt {w : World} {G : TG} {sb : Nat} {mn mx t wn tu d : Int} {per : Nat} {W : Int} (h : SState w G sb mn mx t wn tu d per W) : sb < w.heap.size := by
  obtain ⟨m, a, l, ar, g, nf, h1, h2, h3⟩ := h
  exact (Array.getElem?_eq_some_iff.1 h1).1
theorem SState.below {w w' : World} {G : TG} {sb : Nat} {mn mx t wn tu d : Int} {per : Nat} {W : Int} (h : SState w G sb mn mx t wn tu d per W) (hsb : G.tb < sb) (hb : Below (sb + 1) w w') : SState w' G sb mn mx t wn tu d per W := by
  obtain ⟨m, a, l, ar, g, nf, h1, h2, h3⟩ := h
  exact ⟨m, a, l, ar, g, nf, (hb.block sb (by omega)).trans h1, h2.below (hb.mono (by omega)), h3⟩
/-- What looking makes of the service. -/
theorem lk_num {mn mx t d m : Int} {a ar nf : Bool} (hti : TimOk mn mx) (n1 : t ≤ 4503599627370496) (hlate : d ≤ 4503599627370496 → t < d + mn) (h : (4503599627370496 < d ∧ ar = false) ∨ (d ≤ 4503599627370496 ∧ ar = true ∧ LkP mn mx t d m a nf)) :
    SNum mn t m a ar nf d (lkW mn mx t d) := by
  rcases h with h | ⟨h1, h2, h3⟩
  · exact .inl h
  · refine .inr ⟨h1, h2, ?_⟩
    rcases h3 with ⟨g1, g2⟩ | ⟨g1, g2, g3, g4⟩
    · have e : lkW mn mx t d = t := by unfold lkW; rw [if_pos g1]
      rw [e]
      have := hlate h1
      exact ⟨Int.le_refl _, by omega, n1, .inl ⟨g2, rfl⟩⟩
    · obtain ⟨q1, q2, q3, q4⟩ := lkW_in hti n1 h1 g1
      exact ⟨by omega, q4, q2, .inr ⟨g2, g3, q1, q3, g4⟩⟩
def wkV (d W : Int) : Value := if d ≤ 4503599627370496 then .tuple #[.int .i64 W, .bool true] else .tuple #[.int .i64 0, .bool false]
theorem swk_any {w : World} {G : TG} {sb : Nat} {mn mx t wn tu d : Int} {per : Nat} {W : Int} (h : SState w G sb mn mx t wn tu d per W) (n0 : 0 ≤ t) (n1 : t ≤ 4503599627370496) :
    Calls Tryd.prog 24 #[.pointer (some ⟨sb, 0, none⟩)] w fun e w' => e = .returned (wkV d W) ∧ Below w.heap.size w w' := by
  obtain ⟨m, a, l, ar, g, nf, h1, h2, h3⟩ := h
  have := swake_any h1 n0 n1
  have e : wakeV (t % 4294967296) m a t ar nf = wkV d W := by
    unfold wakeV wkV
    rcases h3.out with ⟨q1, rfl⟩ | ⟨q1, rfl, q2, q3, q4, ⟨rfl, rfl⟩ | ⟨rfl, rfl, q5, q6, rfl⟩⟩
    · rw [if_pos rfl, if_neg (by omega)]
    · rw [if_neg (by simp), if_pos rfl, if_pos q1]
    · rw [if_neg (by simp), if_neg (by simp), if_pos rfl, if_pos q1]
      congr 3
      congr 1
      have : ahd (t % 4294967296) (W % 4294967296) = W - t - 1 := by unfold ahd; omega
      rw [this]
      congr 1
      omega
  rw [e] at this
  exact this
end Go.Proofs.YtakkfgkogomjbaaDoor
