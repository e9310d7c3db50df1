/-
  The walk of the plan's step.
-/
import Derived.Test.YtcchmkpodfjhcaaM5
import Derived.StillTailTactics
namespace Go.Proofs.Ytcchmkpodfjhcaa
open Go.RowKit
set_option linter.unusedVariables false
/-- All that is known of a plan between two steps. -/
structure PA (w W : World) (y : PLy) (A : Option Addr) (xs : List Q3) (cap : Nat) (D : Nat → Nat) (k : Nat) (st : Sch) : Prop where
  wk : Wk y xs D
  pm : PM w W y A xs cap D k st
  q : PQ40 W y xs.length (Qs (pcs xs) D st.left k)
  si : SI (pcs xs) 4503599627370496 st
  fr : Fr (pcs xs) st
  cm : Cm (pcs xs) D k st.now
theorem SI.left_early {xs : List Q3} {M : Nat} {st : Sch} (hs : SI (pcs xs) M st) {i : Nat} (h : st.now ≤ (pcs xs).A i) : st.left i = (pcs xs).C i := by
  rw [hs.U]; exact U_early _ _ h
theorem Fr.len40 {y : PLy} {xs : List Q3} {D : Nat → Nat} {st : Sch} {M : Nat} (hw : Wk y xs D) (hf : Fr (pcs xs) st) (hs : SI (pcs xs) M st) : st.busy.length ≤ 4096 := Nat.le_trans (hf.len hs) hw.len
/-- What a step leaves. -/
def Stp (w : World) (y : PLy) (A : Option Addr) (xs : List Q3) (cap : Nat) (D : Nat → Nat) (st : Sch) (e : Ending) (w' : World) : Prop :=
  (∃ st' k', rstep (pcs xs) st = some st' ∧ e = .returned (.bool true) ∧ PA w w' y A xs cap D k' st') ∨
  (∃ k', rstep (pcs xs) st = none ∧ e = .returned (.bool false) ∧ PA w w' y A xs cap D k' st)
theorem rstep_go {s : Pcs} {st : Sch} {i : Nat} (h : pk s st.left st.now s.n = some i) : rstep s st = some (go st i (goN st i (nxt s st.now s.n))) := by
  unfold rstep
  rw [h]
/-- Behind a stretch of a piece. -/
theorem PA.gone {w W W' : World} {y : PLy} {A : Option Addr} {xs : List Q3} {cap k : Nat} {D : Nat → Nat} {st : Sch} (h : PA w W y A xs cap D k st) (hc : Cm' (pcs xs) D k st.now) {i n : Nat} (hp : pk (pcs xs) st.left st.now (pcs xs).n = some i) (hn : n = goN st i (nxt (pcs xs) st.now (pcs xs).n))
    (hm : PM w W' y A xs cap D k (go st i n)) (hq : PQ40 W' y xs.length (Qs (pcs xs) D (go st i n).left k)) : rstep (pcs xs) st = some (go st i n) ∧ PA w W' y A xs cap D k (go st i n) := by
  have e := rstep_go hp
  rw [← hn] at e
  have h1 := h.si.step h.wk.A e
  have hl := goN_le (s := pcs xs) (st := st) (i := i) _ rfl (pk_some hp).2.2.1
  rw [← hn] at hl
  refine ⟨e, h.wk, hm, hq, h1.1, h.fr.step e, ⟨hc.kn, fun j hj => ?_, fun j j1 j2 => ?_⟩⟩
  · have := hc.a j hj
    show _ ≤ st.now + n
    omega
  · exact hl.2.2 (D j) (h.wk.ord.lt j2) (hc.b j j1 j2)
set_option maxRecDepth 100000 in
set_option maxHeartbeats 16000000 in
theorem step_any {w W : World} {y : PLy} {A : Option Addr} {xs : List Q3} {cap k : Nat} {D : Nat → Nat} {st : Sch} (h : PA w W y A xs cap D k st) :
    Calls Try.prog 100 #[.pointer (some ⟨y.pb, 0, none⟩)] W (Stp w y A xs cap D st) := by
  have HARR := Kept.mk (arrive_any h.wk h.pm h.q h.cm fun j h1 h2 => by
    rw [h.si.left_early (h.cm.b j h1 h2)]; exact h.wk.C0 _ (h.wk.ord.lt h2))
  have H := Kept.mk h
  clear h
  go_enter Try.func100, Try.ntmps100
  go_wp2_with fail
  refine HARR.out.mono ?_
  rintro e w1 ⟨rfl, k', hkk, hP1, hQ1, hC1⟩
  have HC1 := Kept.mk hC1
  have hkn : k' ≤ xs.length := hC1.kn
  have HN := Kept.mk (pnext_any H.out.wk hP1 hkn)
  have HP1 := Kept.mk hP1
  have HQ1 := Kept.mk hQ1
  -- whom the queue has first
  have htop := Qs_top (l := st.left) H.out.wk.ord H.out.wk.P hC1.kn hC1.a hC1.b
  have hnx := Qs_next H.out.wk.ord hC1.a hC1.b
  clear hP1 hQ1 hC1 HARR
  have HPA := Kept.mk (show PA w w1 y A xs cap D k' st from ⟨H.out.wk, HP1.out, HQ1.out, H.out.si, H.out.fr, ⟨HC1.out.kn, HC1.out.a, fun j j1 j2 => Nat.le_of_lt (HC1.out.b j j1 j2)⟩⟩)
  have QT := Kept.mk (fun m => qtop_at (HQ1.out.drewN m))
  obtain ⟨o, ho⟩ : ∃ o, o = qTop (Qs (pcs xs) D st.left k') := ⟨_, rfl⟩
  rw [← ho] at htop QT
  have HO := Kept.mk ho
  have HNX := Kept.mk hnx
  have q2 : w1.cell? ⟨y.pb, 2, none⟩ = some (.pointer (some ⟨y.qb, 0, none⟩)) := by
    obtain ⟨_, _, _, _, _, _, hb, _⟩ := HP1.out.box
    exact cell_of_row _ _ 2 _ _ _ hb
  clear ho hnx
  go_wp2_with fail
  refine HN.out.mono ?_
  rintro e w2 ⟨rfl, m, hw2⟩
  have hq2 : w2.cell? ⟨y.pb, 2, none⟩ = some (.pointer (some ⟨y.qb, 0, none⟩)) := by rw [hw2]; exact q2
  have HT2 := Kept.mk (show Calls Try.prog 40 #[.pointer (some ⟨y.qb, 0, none⟩)] w2 fun e w' => e = .returned (topV o) ∧ w2 = w' by rw [hw2]; exact QT.out m)
  have HPA2 := Kept.mk (show PA w w2 y A xs cap D k' st by rw [hw2]; exact ⟨HPA.out.wk, HPA.out.pm.drewN m, HPA.out.q.drewN m, HPA.out.si, HPA.out.fr, HPA.out.cm⟩)
  clear hw2 q2 QT HPA HP1 HQ1 H HN
  cases o with
  | none =>
    have hpk := Kept.mk (show pk (pcs xs) st.left st.now (pcs xs).n = none from htop)
    clear htop
    by_cases hk : k' < xs.length
    · rw [if_pos hk]
      have hnx : nxt (pcs xs) st.now (pcs xs).n = some ((pcs xs).A (D k')) := HNX.out.trans (if_pos hk)
      obtain ⟨a, ha⟩ : ∃ a, a = (pcs xs).A (D k') := ⟨_, rfl⟩
      rw [← ha] at hnx ⊢
      have hst : rstep (pcs xs) st = some { st with now := a } := by
        unfold rstep
        rw [hpk.out, hnx]
      have hsi := HPA2.out.si.step HPA2.out.wk.A hst
      have HF := Kept.mk (show PA w (w2.setCell ⟨y.pb, 6, none⟩ (.int .i64 (a : Int))) y A xs cap D k' { st with now := a } from by
        obtain ⟨Ac, cc, Al, cl, Ab, cb, hb, g1, g2, g3⟩ := HPA2.out.pm.box
        refine ⟨HPA2.out.wk, HPA2.out.pm.boxed HPA2.out.wk.lo rfl rfl ⟨Ac, cc, Al, cl, Ab, cb, by rw [block_setQ hb]; rfl, g1, g2, g3⟩, HPA2.out.q.far (p := ⟨y.pb, 6, none⟩) (.inl HPA2.out.wk.lo.b3) _, hsi.1, HPA2.out.fr.step hst, ⟨HC1.out.kn, fun j hj => ?_, fun j j1 j2 => ?_⟩⟩
        · have := HC1.out.a j hj
          have := hsi.2
          dsimp only at this ⊢
          omega
        · dsimp only
          rw [ha]
          by_cases e : j = k'
          · subst e; exact Nat.le_refl _
          · have := HPA2.out.wk.ord.srt k' j (Nat.zero_le _) (by omega) j2
            unfold ltA at this; omega)
      have HST := Kept.mk hst
      have c6 : ∃ v, w2.cell? ⟨y.pb, 6, none⟩ = some v := by
        obtain ⟨_, _, _, _, _, _, hb, _⟩ := HPA2.out.pm.box
        exact ⟨_, cell_of_row _ _ 6 _ _ _ hb⟩
      have f6 : w2.frozen? ⟨y.pb, 6, none⟩ = false := by
        obtain ⟨_, _, _, _, _, _, hb, _⟩ := HPA2.out.pm.box
        exact frozen_of_row _ _ 6 _ _ hb
      obtain ⟨v6, c6⟩ := c6
      clear hnx ha hst hsi
      go_wp2_with fail
      refine HT2.out.mono ?_
      rintro e w3 ⟨rfl, rfl⟩
      dsimp only [topV]
      go_wp2
      go_ret
      exact .inl ⟨_, _, HST.out, rfl, HF.out⟩
    · rw [if_neg hk]
      have hst : rstep (pcs xs) st = none := by
        unfold rstep
        rw [hpk.out, HNX.out, if_neg (show ¬ k' < (pcs xs).n from hk)]
      have HST := Kept.mk hst
      clear hst
      go_wp2_with fail
      refine HT2.out.mono ?_
      rintro e w3 ⟨rfl, rfl⟩
      dsimp only [topV]
      go_wp2
      go_ret
      exact .inr ⟨_, HST.out, rfl, HPA2.out⟩
  | some a =>
    obtain ⟨id, p⟩ := a
    obtain ⟨i, rfl, hi, hl, ha, hp⟩ := htop
    have hi' : i < xs.length := hi
    have HPK := Kept.mk hp
    have hin : ∃ j, j < k' ∧ D j = i := by
      obtain ⟨j, j1, j2⟩ := HPA2.out.wk.ord.on hi
      refine ⟨j, ?_, j2⟩
      rcases Nat.lt_or_ge j k' with g | g
      · exact g
      · have := HC1.out.b j g j1
        rw [j2] at this; omega
    have hlb : st.left i ≤ 1099511627776 := Nat.le_trans (HPA2.out.si.le i) (HPA2.out.wk.C1 i hi)
    have HIN := Kept.mk hin
    obtain ⟨n, hn⟩ : ∃ n, n = goN st i (nxt (pcs xs) st.now (pcs xs).n) := ⟨_, rfl⟩
    have hgn := goN_le (s := pcs xs) (st := st) (i := i) _ rfl hl
    rw [← hn] at hgn
    have hnow2 : st.now + n ≤ 9007199254740992 := by
      have e := rstep_go hp
      rw [← hn] at e
      have := HPA2.out.wk.now (HPA2.out.si.step HPA2.out.wk.A e).1
      exact this
    have HG := Kept.mk (fun (W : World) (hm : PM w W y A xs cap D k' st) (hq : PQ40 W y xs.length (Qs (pcs xs) D st.left k')) => goes_any HPA2.out.wk hm hq hkn (HPA2.out.fr.len40 HPA2.out.wk HPA2.out.si) hi' HIN.out hgn.1 hgn.2.1 hlb hnow2)
    have HFIN := Kept.mk (fun (W' : World) (hm : PM w W' y A xs cap D k' (go st i n)) (hq : PQ40 W' y xs.length (Qs (pcs xs) D (go st i n).left k')) => HPA2.out.gone HC1.out hp hn hm hq)
    have hxs0 : 0 < xs.length := by omega
    have HS := Kept.mk (fun (W : World) (hm : PM w W y A xs cap D k' st) => show ∃ cl, W.cell? ⟨y.pb, 3, none⟩ = some (.slice (some ⟨y.gl, 0, none⟩) xs.length cl) ∧ W.cell? ⟨y.pb, 6, none⟩ = some (.int .i64 (st.now : Int)) ∧ W.cell? ⟨y.gl, i, none⟩ = some (.int .i64 (st.left i : Int)) from by
      obtain ⟨Ac, cc, Al, cl, Ab, cb, hb, g1, g2, g3⟩ := hm.box
      have hAl := g2 hxs0
      subst hAl
      exact ⟨cl, cell_of_row _ _ 3 _ _ _ hb, cell_of_row _ _ 6 _ _ _ hb, (hm.left hxs0).c i hi'⟩)
    obtain ⟨l0, hl0⟩ : ∃ l0, l0 = st.left i := ⟨_, rfl⟩
    obtain ⟨t0, ht0⟩ : ∃ t0, t0 = st.now := ⟨_, rfl⟩
    have ii : (i : Int) < (xs.length : Int) := by omega
    have lb0 : (l0 : Int) ≤ 1099511627776 := by omega
    have tb0 : (t0 : Int) ≤ 9007199254740992 := by omega
    rw [← hl0, ← ht0] at HS
    obtain ⟨cl, s3, s6, sl⟩ := HS.out w2 HPA2.out.pm
    by_cases hk : k' < xs.length
    · rw [if_pos hk]
      have hnx : nxt (pcs xs) st.now (pcs xs).n = some ((pcs xs).A (D k')) := HNX.out.trans (if_pos hk)
      have hab : (pcs xs).A (D k') ≤ 4503599627370496 := HPA2.out.wk.A _ (HPA2.out.wk.ord.lt hk)
      have hcb := HC1.out.b k' (Nat.le_refl _) hk
      obtain ⟨a, ha2⟩ : ∃ a, a = (pcs xs).A (D k') := ⟨_, rfl⟩
      rw [← ha2] at hnx hab hcb ⊢
      have hnv : (n : Int) = min (l0 : Int) ((a : Int) - (t0 : Int)) := by
        rw [hn, hnx]
        show ((min (st.left i) (a - st.now) : Nat) : Int) = _
        rw [← hl0, ← ht0] at *
        omega
      have ab : (a : Int) ≤ 4503599627370496 := by omega
      have tb : (t0 : Int) < (a : Int) := by omega
      have HNV := Kept.mk hnv
      clear hnx hab hcb ha2 hnv hn hgn hnow2 hl0 ht0 hlb hp hl ha hin
      go_wp2_with fail
      refine HT2.out.mono ?_
      rintro e w3 ⟨rfl, rfl⟩
      dsimp only [topV]
      go_upto_region 5 with fail
      have hmn : min (l0 : Int) ((a : Int) - (t0 : Int)) = (n : Int) := HNV.out.symm
      have hPd : PM w w2.drew y A xs cap D k' st := HPA2.out.pm.drewN 1
      have hQd : PQ40 w2.drew y xs.length (Qs (pcs xs) D st.left k') := HPA2.out.q.drewN 1
      have HCALL := Kept.mk (HG.out w2.drew hPd hQd)
      go_still_tail 16, (by kernel_rfl)
      change wpList _ _ _ _ _ w2.drew
      go_wp2_with fail
      rw [hmn]
      refine HCALL.out.mono ?_
      rintro e w4 ⟨rfl, hm4, hq4⟩
      have HF := Kept.mk (HFIN.out w4 hm4 hq4)
      clear hm4 hq4
      go_wp2
      go_ret
      all_goals exact .inl ⟨_, _, HF.out.1, rfl, HF.out.2⟩
    · rw [if_neg hk]
      have hnx : nxt (pcs xs) st.now (pcs xs).n = none := HNX.out.trans (if_neg hk)
      have hnl : n = l0 := by rw [hn, hnx, hl0]; rfl
      subst hnl
      clear hnx hn hgn hnow2 hl0 ht0 hlb hp hl ha hin
      go_wp2_with fail
      refine HT2.out.mono ?_
      rintro e w3 ⟨rfl, rfl⟩
      dsimp only [topV]
      go_wp2_with fail
      refine (HG.out w2 HPA2.out.pm HPA2.out.q).mono ?_
      rintro e w4 ⟨rfl, hm4, hq4⟩
      have HF := Kept.mk (HFIN.out w4 hm4 hq4)
      clear hm4 hq4
      go_wp2
      go_ret
      exact .inl ⟨_, _, HF.out.1, rfl, HF.out.2⟩
end Go.Proofs.Ytcchmkpodfjhcaa
