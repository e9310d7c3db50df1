/-
  The law TopDrift: what is refused; the service's timer is started.
-/
import Derived.Test.YtakkfgkogomjbaaDoorX22
import Derived.Test.YtakkfgkogomjbaaDoorX12
namespace Go.Proofs.YtakkfgkogomjbaaDoor
open Go.RowKit Go.Shelf
set_option linter.unusedVariables false
set_option linter.unusedSimpArgs false
theorem tnew_bad (now : Int) (n : Nat) (h : ¬ (0 ≤ now ∧ now ≤ 4503599627370496)) (w : World) : Calls Tryd.prog 7 #[.int .i64 now, .int .i64 n] w fun e w' => e = .returned (.tuple #[.pointer none, .int .i64 1]) ∧ w = w' := by
  have HN := wnew_bad now n (fun hh => h ⟨hh.1, hh.2.1⟩) w
  clear h
  go_enter Tryd.func7, Tryd.ntmps7
  go_wp2_with fail
  refine HN.mono ?_
  rintro e w1 ⟨rfl, rfl⟩
  go_wp2_with fail
  go_ret2
  exact ⟨rfl, rfl⟩
theorem stnew_bad (s mn mx : Int) (n : Nat) (hmx : -9223372036854775808 ≤ mx ∧ mx ≤ 9223372036854775807) (h : ¬ (TimOk mn mx ∧ 0 ≤ s ∧ s ≤ 4503599627370496)) (w : World) :
    Calls Tryd.prog 6 #[.int .i64 s, .agg #[.int .i64 mn, .int .i64 mx], .int .i64 n] w fun e w' => (∃ er : Int, Kept (er ≠ 0) ∧ e = .returned (.tuple #[.pointer none, .int .i64 er])) ∧ Below w.heap.size w w' := by
  have HC := scheck_any mn mx hmx
  by_cases hti : TimOk mn mx
  · have HT := tnew_bad s n (fun hh => h ⟨hti, hh⟩)
    have HK := Kept.mk hti
    clear h hti hmx
    go_enter Tryd.func6, Tryd.ntmps6
    go_wp2_with fail
    refine (HC _).mono ?_
    rintro e w1 ⟨⟨c, rfl, hc⟩, hb1⟩
    obtain rfl : c = 0 := hc.2 HK.out
    have HB := Kept.mk ((below_box w _).trans (hb1.mono (by simp)))
    clear hc HC hb1
    go_wp2_with fail
    refine (HT _).mono ?_
    rintro e w2 ⟨rfl, rfl⟩
    go_wp2_with fail
    go_ret2
    exact ⟨⟨1, ⟨by decide⟩, rfl⟩, HB.out⟩
  · have HK := Kept.mk hti
    clear h hti hmx
    go_enter Tryd.func6, Tryd.ntmps6
    go_wp2_with fail
    refine (HC _).mono ?_
    rintro e w1 ⟨⟨c, rfl, hc⟩, hb1⟩
    have hc0 : c ≠ 0 := fun e => HK.out (hc.1 e)
    have HC0 := Kept.mk hc0
    have hcc : (c != 0) = true := by simp [hc0]
    have HB := Kept.mk ((below_box w _).trans (hb1.mono (by simp)))
    clear hc HC hb1 hc0
    go_wp2_with fail
    go_ret2
    exact ⟨⟨c, HC0, rfl⟩, HB.out⟩
theorem slooked {w : World} {G : TG} {sb : Nat} {mn mx m : Int} {a l : Bool} {t g : Int} {nf : Bool} {now tu d : Int} {per : Nat}
    (h : w.heap[sb]? = some (.cells (svC mn mx (t % 4294967296) m a l t G.tb false g nf) 68)) (hs : TState w G now tu d per) (hT : Tab w) (hsb : G.tb < sb)
    (hmx : -9223372036854775808 ≤ mx ∧ mx ≤ 9223372036854775807) (hti : TimOk mn mx) (n0 : 0 ≤ t) (n1 : t ≤ 4503599627370496) (hlate : d ≤ 4503599627370496 → t < d + mn) :
    Calls Tryd.prog 23 #[.pointer (some ⟨sb, 0, none⟩), .int .i64 0] w fun e w' => e = .returned (.int .i64 0) ∧ (∃ W', SState w' G sb mn mx t now tu d per W') ∧ Kp sb (sb + 1) w w' := by
  have HLK := slook_g h hs hT hsb hmx hti n0 n1
  have HQ := Kept.mk (And.intro hti (And.intro n1 hlate))
  clear h hs hT hsb hmx hti n0 n1 hlate
  go_enter Tryd.func23, Tryd.ntmps23
  go_wp2_with fail
  refine HLK.mono ?_
  rintro e w5 ⟨rfl, m', a', ar', g', nf', hc5, hs5, hk5, hn5⟩
  have HSS := Kept.mk (show SState w5 G sb mn mx t now tu d per (lkW mn mx t d) from ⟨m', a', l, ar', g', nf', hc5, hs5, ⟨lk_num HQ.out.1 HQ.out.2.1 HQ.out.2.2 hn5.out⟩⟩)
  have HKK := Kept.mk hk5
  clear HLK hc5 hs5 hk5 hn5
  go_wp2_with fail
  go_ret
  exact ⟨rfl, ⟨_, HSS.out⟩, HKK.out⟩
theorem severy_any {w : World} {G : TG} {sb : Nat} {mn mx : Int} {t : Int}
    (h : w.heap[sb]? = some (.cells (svC mn mx (t % 4294967296) 0 false false t G.tb false 0 false) 68)) (hs : TmAt w G.lo G.hi G.wb G.I G.M G.p G.L G.K G.n G.tb G.pm t 0 [] 0 (fun _ => none)) (hT : Tab w) (hsb : G.tb < sb) (hlo : 0 < G.lo) (hn : 1 ≤ G.n)
    (hmx : -9223372036854775808 ≤ mx ∧ mx ≤ 9223372036854775807) (hti : TimOk mn mx) (n0 : 0 ≤ t) (n1 : t ≤ 4503599627370496) (a : Int) (a0 : t ≤ a) (a1 : a ≤ 4503599627370496) (per : Nat) (p0 : 1 ≤ per) (p1 : per ≤ 4503599627370496) :
    Calls Tryd.prog 9 #[.pointer (some ⟨sb, 0, none⟩), .int .i64 1, .int .i64 a, .int .i64 (per : Int)] w fun e w' => e = .returned (.int .i64 0) ∧ (∃ W', SState w' G sb mn mx t t 1 a per W') ∧ Kp G.lo (sb + 1) w w' := by
  have c7 : w.cell? ⟨sb, 7, none⟩ = some (.pointer (some ⟨G.tb, 0, none⟩)) := cell_of_row _ _ 7 _ _ _ h
  have HE := tevery_any hs hn a (by omega) a1 per p0 p1
  have hsl := (Array.getElem?_eq_some_iff.1 h).1
  have HH := Kept.mk h
  have HT := Kept.mk hT
  have hh : G.lo ≤ G.tb := by
    obtain ⟨S, T, f, F, hq, _⟩ := hs.wh.of
    have := hq.ly.lh
    have := hs.h1
    have := hs.h2
    omega
  have HQ := Kept.mk (And.intro hsb (And.intro hlo (And.intro hmx (And.intro hti (And.intro n0 (And.intro n1 (And.intro a0 (And.intro a1 (And.intro hsl hh)))))))))
  clear h hs hT hsb hlo hn hmx hti n0 n1 a0 a1 p0 p1 hsl hh
  go_enter Tryd.func9, Tryd.ntmps9
  go_wp2_with fail
  refine HE.mono ?_
  rintro e w1 ⟨rfl, h1, k1⟩
  have q := HQ.out
  have hs1 : TState w1 G t 1 a per := .inl ⟨q.2.2.2.2.2.2.2.1, 1, h1⟩
  have HLK := slooked ((k1.block sb q.2.2.2.2.2.2.2.2.1 (.inr (by omega))).trans HH.out) hs1 (HT.out.kp k1 q.2.1 (by omega)) q.1 q.2.2.1 q.2.2.2.1 q.2.2.2.2.1 q.2.2.2.2.2.1 (fun _ => by have := q.2.2.2.1.1; omega)
  have K1 := Kept.mk (k1.wide (hi' := sb + 1) (by omega))
  clear q hs1 h1 k1 c7 HE
  go_wp2_with fail
  refine HLK.mono ?_
  rintro e w2 ⟨rfl, hs2, hk2⟩
  have HS2 := Kept.mk hs2
  have K2 := Kept.mk (K1.out.trans (hk2.wide2 (lo' := G.lo) (by have := HQ.out; omega)))
  clear hs2 hk2 HLK
  go_wp2_with fail
  go_ret
  exact ⟨rfl, HS2.out, K2.out⟩
end Go.Proofs.YtakkfgkogomjbaaDoor
