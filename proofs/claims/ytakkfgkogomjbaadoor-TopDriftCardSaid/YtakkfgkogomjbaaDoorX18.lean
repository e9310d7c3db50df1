/-
  The law TopDrift: the timers at a time: what fires.
-/
import Derived.Test.YtakkfgkogomjbaaDoorGY
import Derived.Test.YtakkfgkogomjbaaDoorX15b
import Derived.Test.YtakkfgkogomjbaaDoorQF
namespace Go.Proofs.YtakkfgkogomjbaaDoor
open Go.RowKit Go.Shelf
set_option linter.unusedVariables false
set_option linter.unusedSimpArgs false
/-- Where timers lie. -/
structure TG where
  lo : Nat
  hi : Nat
  wb : Nat
  I : Nat
  M : Nat
  p : Nat
  L : Nat
  K : Nat
  n : Nat
  tb : Nat
  pm : Nat
/-- Timers with the one timer, due at d, or with none any more: d is beyond the end of time. -/
def TState (w : World) (G : TG) (now tu d : Int) (per : Nat) : Prop :=
  (d ≤ 4503599627370496 ∧ ∃ tn, TmAt w G.lo G.hi G.wb G.I G.M G.p G.L G.K G.n G.tb G.pm now tu [⟨1, d, tn⟩] 1 (fun x => if x = 1 then some per else none)) ∨
  (4503599627370496 < d ∧ ∃ N f, TmAt w G.lo G.hi G.wb G.I G.M G.p G.L G.K G.n G.tb G.pm now tu [] N f)
theorem TState.below {w w' : World} {G : TG} {now tu d : Int} {per : Nat} (h : TState w G now tu d per) (hb : Below (G.tb + 1) w w') : TState w' G now tu d per := by
  rcases h with ⟨h1, tn, h2⟩ | ⟨h1, N, f, h2⟩
  · exact .inl ⟨h1, tn, h2.below hb⟩
  · exact .inr ⟨h1, N, f, h2.below hb⟩
theorem TState.lt {w : World} {G : TG} {now tu d : Int} {per : Nat} (h : TState w G now tu d per) : G.tb < w.heap.size := by
  rcases h with ⟨_, tn, h2⟩ | ⟨_, N, f, h2⟩
  · exact (Array.getElem?_eq_some_iff.1 h2.bl).1
  · exact (Array.getElem?_eq_some_iff.1 h2.bl).1
theorem TState.ord {w : World} {G : TG} {now tu d : Int} {per : Nat} (h : TState w G now tu d per) : G.lo ≤ G.hi ∧ G.hi ≤ G.pm ∧ G.pm < G.tb ∧ 0 ≤ now ∧ now ≤ 4503599627370496 ∧ 0 ≤ tu := by
  have key : ∀ {A N f}, TmAt w G.lo G.hi G.wb G.I G.M G.p G.L G.K G.n G.tb G.pm now tu A N f → G.lo ≤ G.hi ∧ G.hi ≤ G.pm ∧ G.pm < G.tb ∧ 0 ≤ now ∧ now ≤ 4503599627370496 ∧ 0 ≤ tu := fun h2 => by
    obtain ⟨S, T, f, F, hq, _⟩ := h2.wh.of
    have := hq.ly.lh
    exact ⟨by omega, h2.h1, h2.h2, hq.n0, hq.n1, hq.t0⟩
  rcases h with ⟨_, tn, h2⟩ | ⟨_, N, f, h2⟩
  · exact key h2
  · exact key h2
theorem TState.d0 {w : World} {G : TG} {now tu d : Int} {per : Nat} (h : TState w G now tu d per) : 0 ≤ d := by
  rcases h with ⟨_, tn, h2⟩ | ⟨h1, N, f, h2⟩
  · exact (h2.wh.dus ⟨1, d, tn⟩ (by simp)).1
  · omega
theorem TState.cells {w : World} {G : TG} {now tu d : Int} {per : Nat} (h : TState w G now tu d per) : w.heap[G.tb]? = some (.cells #[.pointer (some ⟨G.wb, 0, none⟩), .map (some G.pm)] 71) := by
  rcases h with ⟨_, tn, h2⟩ | ⟨h1, N, f, h2⟩
  · exact h2.bl
  · exact h2.bl
/-- The wheel's part is another. -/
theorem TmAt.wheel {w w' : World} {lo hi wb I M p L K n tb pm : Nat} {now tu now' tu' : Int} {A A' : List Tm} {N : Nat} {f : Int → Option Nat} (h : TmAt w lo hi wb I M p L K n tb pm now tu A N f) (hw : WAt w' lo hi wb I M p L K n now' tu' A') (hk : Kp lo hi w w') : TmAt w' lo hi wb I M p L K n tb pm now' tu' A' N f :=
  have q1 := h.h1
  have q2 := h.h2
  have htl := (Array.getElem?_eq_some_iff.1 h.bl).1
  ⟨hw, q1, q2, (hk.block tb htl (.inr (by omega))).trans h.bl, h.mp.kept (hk.block pm (by omega) (.inr q1))⟩
/-- The time goes on. -/
theorem tset_any {w : World} {G : TG} {now tu d : Int} {per : Nat} (h : TState w G now tu d per) (hT : Tab w) (hlo : 0 < G.lo) (t : Int) (ht : now ≤ t ∧ t ≤ 4503599627370496) :
    Calls Tryd.prog 27 #[.pointer (some ⟨G.wb, 0, none⟩), .int .i64 t] w fun e w' => e = .returned (.int .i64 0) ∧ TState w' G t tu d per ∧ Kp G.lo G.hi w w' := by
  rcases h with ⟨h1, tn, h2⟩ | ⟨h1, N, f, h2⟩
  · have := wset_any h2.wh hT hlo t
    rw [if_pos ht, if_pos ht] at this
    refine this.mono ?_
    rintro e w' ⟨rfl, hw, hk⟩
    exact ⟨rfl, .inl ⟨h1, tn, h2.wheel hw hk⟩, hk⟩
  · have := wset_any h2.wh hT hlo t
    rw [if_pos ht, if_pos ht] at this
    refine this.mono ?_
    rintro e w' ⟨rfl, hw, hk⟩
    exact ⟨rfl, .inr ⟨h1, N, f, h2.wheel hw hk⟩, hk⟩
/-- Timers behind one that was popped. -/
def TPop (w : World) (G : TG) (now tu : Int) (per : Nat) : Prop := TmAt w G.lo G.hi G.wb G.I G.M G.p G.L G.K G.n G.tb G.pm now tu [] 1 (fun x => if x = 1 then some per else none)
theorem tpop_due {w : World} {G : TG} {now tu d : Int} {per : Nat} (h : TState w G now tu d per) (hd : d ≤ now) :
    Calls Tryd.prog 28 #[.pointer (some ⟨G.wb, 0, none⟩)] w fun e w' => e = .returned (.tuple #[.agg #[.int .i64 1, .int .i64 d], .bool true]) ∧ TPop w' G now tu per ∧ Kp G.lo G.hi w w' := by
  have ho := h.ord
  rcases h with ⟨h1, tn, h2⟩ | ⟨h1, N, f, h2⟩
  · refine (wpop_one h2.wh hd (by show (Lit.int .i64 1).wf = true; decide)).mono ?_
    rintro e w' ⟨rfl, hw, hk⟩
    exact ⟨rfl, h2.wheel hw hk, hk⟩
  · omega
theorem tpop_no {w : World} {G : TG} {now tu d : Int} {per : Nat} (h : TState w G now tu d per) (hd : now < d) :
    Calls Tryd.prog 28 #[.pointer (some ⟨G.wb, 0, none⟩)] w fun e w' => e = .returned (.tuple #[.agg #[.int .i64 0, .int .i64 0], .bool false]) ∧ Below w.heap.size w w' := by
  rcases h with ⟨h1, tn, h2⟩ | ⟨h1, N, f, h2⟩
  · exact wpop_none h2.wh (.inr ⟨_, rfl, hd⟩)
  · exact wpop_none h2.wh (.inl rfl)
theorem tagain_g {w : World} {G : TG} {now tu : Int} {per : Nat} (h : TPop w G now tu per) (hn : 1 ≤ G.n) (htu : tu < 1000000000000) (a : Int) (a0 : 0 ≤ a) (a1 : a ≤ 4503599627370496) (p0 : 1 ≤ per) (p1 : per ≤ 4503599627370496) :
    Calls Tryd.prog 29 #[.pointer (some ⟨G.tb, 0, none⟩), .agg #[.int .i64 1, .int .i64 a]] w fun e w' => e = .returned (.tuple #[]) ∧ (∃ tu', Kept (tu ≤ tu' ∧ tu' ≤ tu + 1) ∧ TState w' G now tu' (a + per) per) ∧ Kp G.lo G.tb w w' := by
  refine (tagain_any h hn htu a a0 a1 p0 p1).mono ?_
  rintro e w' ⟨rfl, hg, hk⟩
  refine ⟨rfl, ?_, hk⟩
  unfold TAg at hg
  by_cases hle : a + per ≤ 4503599627370496
  · rw [if_pos hle] at hg
    exact ⟨tu + 1, ⟨by omega, by omega⟩, .inl ⟨hle, _, hg⟩⟩
  · rw [if_neg hle] at hg
    exact ⟨tu, ⟨by omega, by omega⟩, .inr ⟨by omega, _, _, hg⟩⟩
end Go.Proofs.YtakkfgkogomjbaaDoor
