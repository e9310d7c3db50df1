/-
  The walks of the document's schedule, over, Finish, Waits, Busy.
-/
import Derived.Test.YtcchmkpodfjhcaaK1
namespace Go.Proofs.Ytcchmkpodfjhcaa
open Go.RowKit
set_option linter.unusedVariables false
/-- When each is done, and the stretches, are told. -/
def ScRes (w : World) (xs : List Q3) (e : Ending) (w' : World) : Prop :=
  ∃ Ad cd Ab cb, e = .returned (.tuple #[.slice Ad xs.length cd, .slice Ab (sE xs).busy.length cb]) ∧ Ints w' w'.heap.size Ad (dE xs) ∧ RI w' w'.heap.size Ab (sE xs).busy ∧ Below w.heap.size w w'
theorem SS.res {w W : World} {hi gl gd cb : Nat} {Al Ad Ab : Option Addr} {xs : List Q3} (h : SS w W hi Al Ad gl gd xs (sE xs) Ab cb) : Ints W W.heap.size Ad (dE xs) ∧ RI W W.heap.size Ab (sE xs).busy := by
  refine ⟨fun h0 => ?_, (RI.of_own h.own).2⟩
  rw [dE_len] at h0
  refine ⟨gd, 0, (h.done h0).1, by have := h.pl h0; have := h.sz; omega, fun i hi => ?_⟩
  rw [dE_len] at hi
  rw [dE_at xs hi, Nat.zero_add]
  exact (h.done h0).2.c i hi
theorem nat_wrap {x : Int} (h0 : 0 ≤ x) (h1 : x ≤ 9007199254740992) : IntKind.i64.wrap x = x := by simp [IntKind.wrap, IntKind.bits, IntKind.signed]; omega
theorem goN_pos {s : Pcs} {st : Sch} {i : Nat} (h : pk s st.left st.now s.n = some i) : 0 < goN st i (nxt s st.now s.n) ∧ goN st i (nxt s st.now s.n) ≤ st.left i := by
  have h1 := (pk_some h).2.2.1
  cases e : nxt s st.now s.n with
  | none => exact ⟨h1, Nat.le_refl _⟩
  | some t =>
    have h2 := (nxt_some e).1
    unfold goN
    dsimp only
    omega
set_option maxRecDepth 100000 in
set_option maxHeartbeats 20000000 in
theorem schedule_any {w : World} {A : Option Addr} {xs : List Q3} {cap : Nat} (hR : Rt xs) (hx : R3 w w.heap.size A xs) :
    Calls Try.prog 88 #[.slice A xs.length cap] w (ScRes w xs) := by
  have HI := Kept.mk hx
  have HR := Kept.mk hR
  have hlen := hR.len
  obtain ⟨i0, hi0, hz0, hz1, hz2⟩ := info_parts info_ivl
  obtain ⟨j0, hj0, hj1, hj2, hj3⟩ := info_parts info_i64W
  clear hx hR
  go_enter Try.func88, Try.ntmps88
  go_wp2_with fail
  go_loopw [4, 5, 17] (fun u v t wr => ∃ (k : Nat) (Al : Option Addr) (cl : Nat) (Ad : Option Addr) (cd : Nat), k ≤ xs.length ∧ t = .int .i64 k ∧ u = .slice Al k cl ∧ v = .slice Ad k cd ∧ LD w wr k (csC xs k) (.slice Al k cl) k (zrC k) (.slice Ad k cd)) (fun _ _ t _ => xs.length - (intOf t).toNat)
  case atStart => exact ⟨0, none, 0, none, 0, by omega, rfl, rfl, rfl, LD.start w⟩
  case round =>
    obtain ⟨k, Al, cl, Ad, cd, hk, rfl, rfl, rfl, hL⟩ := hrel
    by_cases hlt : k < xs.length
    · obtain ⟨b, off, rfl, hbB, hc⟩ := (HI.out.below hL.bw) (by omega)
      obtain ⟨q, hq, hqo, hqa, hqb, hqc⟩ := HR.out.at hlt
      obtain ⟨e1, e2, e3⟩ := hc k q hq
      have ik : (k : Int) < (xs.length : Int) := by omega
      obtain ⟨qa, qb, qc⟩ := q
      simp only at e1 e2 e3 hqa hqb hqc
      have HST := Kept.mk (show csC xs k ++ [.int .i64 qc] = csC xs (k + 1) by rw [csC_succ, ← hqc])
      have HL := Kept.mk (hL.alloc (.cells #[.int .i64 qa, .int .i64 qb, .int .i64 qc] 108))
      have HXC := Kept.mk (show (wr.alloc (.cells #[.int .i64 qa, .int .i64 qb, .int .i64 qc] 108)).cell? ⟨wr.heap.size, 2, none⟩ = some (.int .i64 qc) from cell_of_row _ _ 2 _ _ _ (heap_alloc_new _ _))
      clear hL hq hqo hqa hqb hqc hc
      go_upto_region 5 with fail
      obtain ⟨wa, hwa⟩ : ∃ wa, wa = wr.alloc (.cells #[.int .i64 qa, .int .i64 qb, .int .i64 qc] 108) := ⟨_, rfl⟩
      obtain ⟨xb, hxb⟩ : ∃ xb, xb = wr.heap.size := ⟨_, rfl⟩
      rw [← hwa] at HL
      rw [← hwa, ← hxb] at HXC
      rw [← hwa, ← hxb]
      have x2 := HXC.out
      have HA5 := Kept.mk (HL.out.alloc (.cells #[.int .i64 qc] 2))
      have HN5 := Kept.mk (show ∀ j u, [Value.int .i64 qc][j]? = some u → (wa.alloc (.cells #[.int .i64 qc] 2)).cell? ((⟨wa.heap.size, 0, none⟩ : Addr).add j) = some u from World.news_of_block (cs := #[.int .i64 qc]) (heap_alloc_new wa _))
      have HS5 := Kept.mk (show w.heap.size ≤ (wa.alloc (.cells #[.int .i64 qc] 2)).heap.size from HA5.out.bw.size)
      clear hwa hxb HXC e1 e2 e3
      go_upto_region 6 with (at_builtin; refine wpList_append_lies _ rfl _ _ 85 rfl w.heap.size 2 j0 (.int .i64 0) 1 8 Try.underlying85 hj0 hj1 hj2 hj3 rfl (by decide) (.slice Al k cl) k (csC xs k) rfl HA5.out.a ⟨wa.heap.size, 0, none⟩ 1 1 [.int .i64 qc] rfl rfl HN5.out (by simp [Value.oneCell']) (by decide) (by simp only [maxLen]; omega) (by omega) HS5.out _ rfl ?_; intro g4 cap4 w4 own4 grow4 lies4 hlt4; have HL4 := Kept.mk (HA5.out.app own4 grow4 lies4); clear own4 grow4 lies4 hlt4)
      have HA6 := Kept.mk (HL4.out.alloc (.cells #[.int .i64 0] 2))
      have HN6 := Kept.mk (show ∀ j u, [Value.int .i64 0][j]? = some u → (w4.alloc (.cells #[.int .i64 0] 2)).cell? ((⟨w4.heap.size, 0, none⟩ : Addr).add j) = some u from World.news_of_block (cs := #[.int .i64 0]) (heap_alloc_new w4 _))
      have HS6 := Kept.mk (show w.heap.size ≤ (w4.alloc (.cells #[.int .i64 0] 2)).heap.size from HA6.out.bw.size)
      go_upto_region 7 with (at_builtin; refine wpList_append_lies _ rfl _ _ 85 rfl w.heap.size 2 j0 (.int .i64 0) 1 8 Try.underlying85 hj0 hj1 hj2 hj3 rfl (by decide) (.slice Ad k cd) k (zrC k) rfl HA6.out.b ⟨w4.heap.size, 0, none⟩ 1 1 [.int .i64 0] rfl rfl HN6.out (by simp [Value.oneCell']) (by decide) (by simp only [maxLen]; omega) (by omega) HS6.out _ rfl ?_; intro g5 cap5 w5 own5 grow5 lies5 hlt5; have HL5 := Kept.mk (HA6.out.swap.app own5 grow5 lies5).swap; clear own5 grow5 lies5 hlt5)
      have HF := Kept.mk (show LD w w5 (k + 1) (csC xs (k + 1)) (.slice (some ⟨g4, 0, none⟩) (k + 1) cap4) (k + 1) (zrC (k + 1)) (.slice (some ⟨g5, 0, none⟩) (k + 1) cap5) by rw [← HST.out, zrC_succ]; exact HL5.out)
      clear HST HL HA5 HN5 HS5 HA6 HN6 HS6 HL4 HL5
      go_wp2_with fail
      go_roundw
      case rel => exact ⟨k + 1, _, _, _, _, by omega, by go_num, rfl, rfl, HF.out⟩
      case measure => simp [intOf]; omega
    · have hke : k = xs.length := by omega
      subst hke
      obtain ⟨gl, gd, hS⟩ := hL.counted HR.out
      have HS := Kept.mk hS
      clear hL hS
      obtain ⟨hi, hhi⟩ : ∃ hi, hi = wr.heap.size := ⟨_, rfl⟩
      rw [← hhi] at HS
      obtain ⟨w1, hw1⟩ : ∃ w1, w1 = wr := ⟨_, rfl⟩
      rw [← hw1] at HS ⊢
      have ik : decide ((xs.length : Int) < (xs.length : Int)) = false := decide_eq_false (by omega)
      clear hhi hw1 wr
      go_wp2_with fail
      go_loopw [8, 9] (fun u v wr => ∃ (st : Sch) (Ab : Option Addr) (cb : Nat), u = .slice Ab st.busy.length cb ∧ v = .int .i64 (st.now : Int) ∧ Goes (pcs xs) (sch0 (pcs xs)) st ∧ SS w wr hi Al Ad gl gd xs st Ab cb) (fun _ v _ => 9007199254740993 - (intOf v).toNat)
      case atStart => exact ⟨sch0 (pcs xs), none, 0, rfl, rfl, .refl _, HS.out⟩
      case round =>
        obtain ⟨st, Ab, cb, rfl, rfl, hG, hSS⟩ := hrel
        have hsi := hG.si HR.out.A (SI.first HR.out.C0 _)
        have hfr := hG.fr (Fr.first _)
        have hbl : st.busy.length ≤ 4096 := by
          have := hfr.len hsi
          have : (pcs xs).n = xs.length := rfl
          omega
        have hnw := HR.out.now hsi
        have HSS := Kept.mk hSS
        have HG := Kept.mk hG
        have HSI := Kept.mk hsi
        have HPK := Kept.mk (pick_any (cap := cap) (cl := cl) HR.out (HI.out.below hSS.bw |>.mono hSS.bw.size) hSS.left st.now)
        obtain ⟨nb, hnb⟩ : ∃ nb, nb = st.busy.length := ⟨_, rfl⟩
        obtain ⟨t0, ht0⟩ : ∃ t0, t0 = st.now := ⟨_, rfl⟩
        obtain ⟨o, ho⟩ : ∃ o, o = pk (pcs xs) st.left st.now xs.length := ⟨_, rfl⟩
        obtain ⟨y, hy⟩ : ∃ y, y = nxt (pcs xs) st.now xs.length := ⟨_, rfl⟩
        have HNB := Kept.mk hnb
        have HT0 := Kept.mk ht0
        have HO := Kept.mk ho
        have HY := Kept.mk hy
        rw [← ho, ← ht0] at HPK
        rw [← hnb] at hbl ⊢
        rw [← ht0] at hnw ⊢
        clear hG hsi hfr hSS hnb ht0 ho hy
        go_wp2_with fail
        refine HPK.out.mono ?_
        rintro e w2 ⟨rfl, hb2⟩
        have HS2 := Kept.mk (HSS.out.below hb2)
        have HNX := Kept.mk (rnext_any (cap := cap) HR.out (HI.out.below HS2.out.bw |>.mono HS2.out.bw.size) st.now)
        rw [← HY.out, ← HT0.out] at HNX
        clear hb2
        go_wp2_with fail
        refine HNX.out.mono ?_
        rintro e w3 ⟨rfl, hb3⟩
        have HS3 := Kept.mk (HS2.out.below hb3)
        clear hb3 HS2 HNX HPK HSS
        cases o with
        | none =>
          dsimp only [pkV]
          cases y with
          | none =>
            have HE := Kept.mk (show st = sE xs from sE_eq HR.out HG.out (by
              unfold rstep
              rw [show (pcs xs).n = xs.length from rfl, ← HO.out, ← HY.out]))
            dsimp only [nxW, Option.isSome]
            go_wp2
            go_ret2
            have hS := HS3.out
            rw [HE.out] at hS
            refine ⟨Ad, cd, Ab, cb, by rw [HNB.out, HE.out]; rfl, hS.res.1, hS.res.2, hS.bw⟩
          | some t =>
            have HN := Kept.mk (show rstep (pcs xs) st = some { st with now := t } by
              unfold rstep
              rw [show (pcs xs).n = xs.length from rfl, ← HO.out, ← HY.out])
            have hlt2 : t0 < t := by rw [HT0.out]; exact (nxt_some HY.out.symm).1
            have hst := (HSI.out.step HR.out.A HN.out).1
            have hbt := HR.out.now hst
            have hbt' : t ≤ 9007199254740992 := hbt
            clear hst hbt
            dsimp only [nxW, Option.isSome]
            go_wp2
            go_roundw
            case rel => exact ⟨{ st with now := t }, Ab, cb, by rw [HNB.out], rfl, HG.out.step HN.out, HS3.out.timed t⟩
            case measure => simp [intOf]; omega
        | some i =>
          have hp := pk_some HO.out.symm
          have hi' : i < xs.length := hp.1
          have hgp : 0 < goN st i y ∧ goN st i y ≤ st.left i := by rw [HY.out]; exact goN_pos HO.out.symm
          have HN := Kept.mk (show rstep (pcs xs) st = some (go st i (goN st i y)) by
            unfold rstep
            rw [show (pcs xs).n = xs.length from rfl, ← HO.out, ← HY.out])
          have hst := (HSI.out.step HR.out.A HN.out).1
          have hbt : st.now + goN st i y ≤ 9007199254740992 := HR.out.now hst
          have hlv2 : st.left i ≤ 1099511627776 := Nat.le_trans (HSI.out.le i) (HR.out.C1 i hi')
          have hyt : ∀ t, y = some t → t0 < t ∧ t ≤ 4503599627370496 := fun t ht => by
            have h := nxt_some (HY.out.symm.trans ht)
            obtain ⟨j, j1, j2⟩ := h.2.1
            have := HR.out.A j j1
            rw [HT0.out]
            exact ⟨h.1, by omega⟩
          obtain ⟨m, hm⟩ : ∃ m, m = goN st i y := ⟨_, rfl⟩
          obtain ⟨lv, hlv⟩ : ∃ lv, lv = st.left i := ⟨_, rfl⟩
          obtain ⟨t1, ht1⟩ : ∃ t1, t1 = st.now + m := ⟨_, rfl⟩
          obtain ⟨l1, hl1⟩ : ∃ l1, l1 = lv - m := ⟨_, rfl⟩
          rw [← hm, ← hlv] at hgp
          rw [← hm] at hbt
          rw [← hlv] at hlv2
          have hst1 : t0 + m = t1 := by rw [HT0.out, ht1]
          have e1 : (t0 : Int) + (m : Int) = (t1 : Int) := by omega
          have e2 : (lv : Int) - (m : Int) = (l1 : Int) := by omega
          have b1 : (t1 : Int) ≤ 9007199254740992 := by omega
          have b2 : (lv : Int) ≤ 1099511627776 := by omega
          have b3 : (l1 : Int) ≤ 1099511627776 := by omega
          have b4 : (t0 : Int) ≤ 9007199254740992 := by omega
          have b5 : (m : Int) ≤ 1099511627776 := by omega
          have hm0 : 0 < m := hgp.1
          have ht01 : t0 < t1 := by omega
          obtain ⟨rfl, hleft⟩ := HS3.out.left (by omega)
          obtain ⟨rfl, hdone⟩ := HS3.out.done (by omega)
          have hpl := HS3.out.pl (by omega)
          have l0 : w3.cell? ⟨gl, i, none⟩ = some (.int .i64 (lv : Int)) := by rw [hlv]; exact hleft.c i hi'
          have ii : (i : Int) < (xs.length : Int) := by omega
          have d0 : decide ((i : Int) < 0) = false := decide_eq_false (by omega)
          have HM := Kept.mk hm
          have HLV := Kept.mk hlv
          have HT1 := Kept.mk ht1
          have HL1 := Kept.mk hl1
          have HYT := Kept.mk hyt
          have HPL := Kept.mk hpl
          clear hp hst hbt hm hlv ht1 hl1 hst1 hyt hleft hdone hpl hgp hlv2 ik
          obtain ⟨z, hz⟩ : ∃ z : Int, z = (nb : Int) - 1 := ⟨_, rfl⟩
          have e6 : (nb : Int) - 1 = z := hz.symm
          have HZ := Kept.mk hz
          clear hz
          dsimp only [pkV]
          go_upto_if 51 with fail
          go_cut [13] from 52 to 56 (fun s wx => s = .int .i64 (m : Int) ∧ wx = w3)
          case first =>
            cases y with
            | none =>
              have HMV := Kept.mk (show (lv : Int) = (m : Int) by rw [HM.out, HLV.out]; rfl)
              dsimp only [nxW, Option.isSome]
              go_wp2
              go_meet
              exact ⟨by rw [HMV.out], rfl⟩
            | some t =>
              have hyt := HYT.out t rfl
              obtain ⟨d, hd⟩ : ∃ d, d = t - t0 := ⟨_, rfl⟩
              have ed : (t : Int) - (t0 : Int) = (d : Int) := by omega
              have bd : (d : Int) ≤ 4503599627370496 := by omega
              have HMV := Kept.mk (show (m : Int) = min (lv : Int) (d : Int) by
                have : m = min lv d := by rw [HM.out, HLV.out, hd, HT0.out]; rfl
                omega)
              clear hd
              dsimp only [nxW, Option.isSome]
              go_wp2
              go_meet
              exact ⟨by rw [HMV.out], rfl⟩
          case rest =>
            obtain ⟨rfl, rfl⟩ := hcut
            obtain ⟨bb, hbb⟩ : ∃ bb : Bool, bb = true ↔ ∃ b f, st.busy = b ++ [(f, st.now)] := by
              by_cases hc : ∃ b f, st.busy = b ++ [(f, st.now)]
              · exact ⟨true, fun _ => hc, fun _ => rfl⟩
              · exact ⟨false, fun h => (by cases h), fun h => absurd h hc⟩
            have HBB := Kept.mk hbb
            have HC1 := Kept.mk (show st.busy = [] ∨ ∃ b f t, st.busy = b ++ [(f, t)] by
              rcases List.eq_nil_or_concat st.busy with e | ⟨b, x, e⟩
              · exact .inl e
              · exact .inr ⟨b, x.1, x.2, by rw [e, List.concat_eq_append]⟩)
            have LAST := Kept.mk (fun (b : List (Nat × Nat)) (f t : Nat) (e : st.busy = b ++ [(f, t)]) => show ∃ g, Ab = some ⟨g, 0, none⟩ ∧ hi ≤ g ∧ nb = b.length + 1 ∧ wc.cell? ⟨g, b.length * 2 + 1, none⟩ = some (.int .i64 (t : Int)) ∧ (∀ j, wc.frozen? ⟨g, j, none⟩ = false) from by
              have hl : st.busy.length = b.length + 1 := by rw [e, List.length_append]; rfl
              obtain ⟨g, cap', e1, e2, e3⟩ := HS3.out.own.form (by omega)
              have e4 : Ab = some ⟨g, 0, none⟩ := by injection e1
              have h3' := HS3.out.own
              rw [e4] at h3'
              refine ⟨g, e4, e2, by have := HNB.out; omega, ?_, fun j => h3'.frozenAt j⟩
              rw [h3'.cellAt (b.length * 2 + 1) (by omega), e, ivC_snoc, List.getElem?_append_right (by rw [ivC_len]; omega), ivC_len]
              simp)
            clear hbb
            go_upto_region 20 with fail
            go_cut [70] from 59 to 70 (fun s wx => s = .bool bb ∧ wx = wc)
            case first =>
              rcases HC1.out with hnil | ⟨b, f, t, hbt⟩
              · have hz1 : decide ((0 : Int) < (nb : Int)) = false := decide_eq_false (by have := HNB.out; rw [hnil] at this; simp at this; omega)
                have hz2 : decide (0 < nb) = false := decide_eq_false (by have := HNB.out; rw [hnil] at this; simp at this; omega)
                have HF := Kept.mk (show bb = false by
                  cases hb : bb with
                  | false => rfl
                  | true => obtain ⟨b, f, e⟩ := HBB.out.1 hb; rw [hnil] at e; simp at e)
                clear hnil
                go_wp2_with fail
                go_meet
                exact ⟨by rw [HF.out], rfl⟩
              · obtain ⟨g, rfl, hg, hnb1, hcell, hfz⟩ := LAST.out b f t hbt
                obtain ⟨p, hp⟩ : ∃ p, p = b.length := ⟨_, rfl⟩
                rw [← hp] at hcell hnb1
                have hzp : z = (p : Int) := by have := HZ.out; omega
                have hpn : (p : Int) < (nb : Int) := by omega
                have hz1 : decide ((0 : Int) < (nb : Int)) = true := decide_eq_true (by omega)
                have hz2 : decide (0 < nb) = true := decide_eq_true (by omega)
                subst hzp
                have HP1 := Kept.mk hp
                by_cases htn : t = t0
                · have HF := Kept.mk (show bb = true from HBB.out.2 ⟨b, f, by rw [hbt, htn, HT0.out]⟩)
                  have htn' : ((t : Int) == (t0 : Int)) = true := by simp; omega
                  have htn2 : (t == t0) = true := by simp [htn]
                  clear hp hnb1 hbt htn
                  go_wp2_with fail
                  go_meet
                  exact ⟨by rw [HF.out], rfl⟩
                · have HF := Kept.mk (show bb = false by
                    cases hb : bb with
                    | false => rfl
                    | true =>
                      obtain ⟨b', f', e⟩ := HBB.out.1 hb
                      rw [hbt] at e
                      have := (List.append_inj' e rfl).2
                      simp at this
                      have := HT0.out
                      omega)
                  have htn' : ((t : Int) == (t0 : Int)) = false := by simp; omega
                  have htn2 : (t == t0) = false := by simp [htn]
                  clear hp hnb1 hbt htn
                  go_wp2_with fail
                  go_meet
                  exact ⟨by rw [HF.out], rfl⟩
            case rest =>
              obtain ⟨rfl, rfl⟩ := hcut
              go_upto_if 70 with fail
              go_cut [8] from 71 to 88 (fun s wx => ∃ (Ab' : Option Addr) (cb' : Nat), s = .slice Ab' (ext st.busy st.now m).length cb' ∧ SS w wx hi (some ⟨gl, 0, none⟩) (some ⟨gd, 0, none⟩) gl gd xs { st with busy := ext st.busy st.now m } Ab' cb')
              case first =>
                cases hb : bb with
                | true =>
                  obtain ⟨b, f, hbt⟩ := HBB.out.1 hb
                  have HBT := Kept.mk hbt
                  obtain ⟨g, rfl, hg, hnb1, hcell, hfz⟩ := LAST.out b f st.now hbt
                  rw [← HT0.out] at hcell
                  obtain ⟨p, hp⟩ : ∃ p, p = b.length := ⟨_, rfl⟩
                  rw [← hp] at hcell hnb1
                  have hzp : z = (p : Int) := by have := HZ.out; omega
                  have hpn : (p : Int) < (nb : Int) := by omega
                  subst hzp
                  have hf := hfz (p * 2 + 1)
                  have HP2 := Kept.mk hp
                  have HNB1 := Kept.mk hnb1
                  have HG := Kept.mk hg
                  subst hb
                  clear hp hnb1 hbt hfz hg
                  go_wp2_with fail
                  go_meet
                  have hlen2 : (ext st.busy st.now m).length = st.busy.length := by rw [HBT.out, ext_same]; simp
                  have hown := (HS3.out.own.stored (p * 2 + 1) (.int .i64 (t1 : Int))).1
                  have hset : (ivC st.busy).set (p * 2 + 1) (.int .i64 (t1 : Int)) = ivC (ext st.busy st.now m) := by
                    rw [HBT.out, ext_same, ivC_snoc, ivC_snoc, List.set_append_right _ _ (by rw [ivC_len, HP2.out]; omega), ivC_len, HP2.out]
                    simp [HT1.out]
                  rw [hset] at hown
                  have hgb : Below hi wc (wc.setCell ⟨g, p * 2 + 1, none⟩ (.int .i64 (t1 : Int))) := (Below.refl _ _).setCell (p := ⟨g, p * 2 + 1, none⟩) HG.out _
                  refine ⟨some ⟨g, 0, none⟩, cb, by rw [hlen2, HNB.out], HS3.out.turned hgb ?_⟩
                  rw [hlen2]
                  exact hown
                | false =>
                  subst hb
                  have hno : ext st.busy st.now m = st.busy ++ [(t0, t1)] := by
                    rw [HT0.out, HT1.out]
                    rcases HC1.out with e | ⟨b, f, t, e⟩
                    · rw [e]; rfl
                    · rw [e]
                      refine ext_new b f t st.now m fun e' => ?_
                      have := HBB.out.2 ⟨b, f, by rw [e, e']⟩
                      cases this
                  have HNO := Kept.mk hno
                  have HO2 := Kept.mk (show (wc.alloc (.cells #[.int .i64 (t0 : Int), .int .i64 (t1 : Int)] 110)).ownsRow hi 110 2 (.slice Ab nb cb) nb (ivC st.busy) by rw [HNB.out]; exact HS3.out.own.alloc _)
                  have HH := Kept.mk (show hi ≤ (wc.alloc (.cells #[.int .i64 (t0 : Int), .int .i64 (t1 : Int)] 110)).heap.size by have := HS3.out.sz; simp; omega)
                  have HN2 := Kept.mk (show ∀ j u, [Value.int .i64 (t0 : Int), .int .i64 (t1 : Int)][j]? = some u → (wc.alloc (.cells #[.int .i64 (t0 : Int), .int .i64 (t1 : Int)] 110)).cell? ((⟨wc.heap.size, 0, none⟩ : Addr).add j) = some u from World.news_of_block (cs := #[.int .i64 (t0 : Int), .int .i64 (t1 : Int)]) (heap_alloc_new wc _))
                  have wr1 : IntKind.i64.wrap (t1 : Int) = (t1 : Int) := by simp [IntKind.wrap, IntKind.bits, IntKind.signed]; omega
                  have wr2 : IntKind.i64.wrap ((t0 : Int) + (m : Int)) = (t1 : Int) := by rw [e1]; exact wr1
                  have FIN := Kept.mk (fun (g5 cap5 : Nat) (w5 : World) (ho : w5.ownsRow hi 110 2 (.slice (some ⟨g5, 0, none⟩) (nb + 1) cap5) (nb + 1) (ivC st.busy ++ [.int .i64 (t0 : Int), .int .i64 (t1 : Int)])) (hg : (wc.alloc (.cells #[.int .i64 (t0 : Int), .int .i64 (t1 : Int)] 110)).grownBy w5 (Value.slice Ab nb cb).ownBlock) => show ∃ (Ab' : Option Addr) (cb' : Nat), Value.slice (some ⟨g5, 0, none⟩) (nb + 1) cap5 = .slice Ab' (ext st.busy st.now m).length cb' ∧ SS w w5 hi (some ⟨gl, 0, none⟩) (some ⟨gd, 0, none⟩) gl gd xs { st with busy := ext st.busy st.now m } Ab' cb' from by
                    have hb5 : Below hi wc w5 := ((Below.refl hi wc).alloc HS3.out.sz _).grown hg HH.out fun j hj => (HO2.out.lt j hj).1
                    have hl5 : (ext st.busy st.now m).length = nb + 1 := by rw [hno, HNB.out]; simp
                    have e5 : ivC st.busy ++ [.int .i64 (t0 : Int), .int .i64 (t1 : Int)] = ivC (ext st.busy st.now m) := by rw [hno, ivC_snoc]
                    rw [e5] at ho
                    refine ⟨some ⟨g5, 0, none⟩, cap5, by rw [hl5], HS3.out.turned hb5 ?_⟩
                    rw [hl5]
                    exact ho)
                  clear hno
                  go_wp2_with (at_builtin; refine wpList_append_lies _ rfl _ _ 88 rfl hi 110 i0 (.agg #[.int .i64 0, .int .i64 0]) 2 16 Try.underlying88 hi0 hz0 hz1 hz2 rfl (by decide) (.slice Ab nb cb) nb (ivC st.busy) rfl HO2.out ⟨wc.heap.size, 0, none⟩ 1 1 [.int .i64 (t0 : Int), .int .i64 (t1 : Int)] rfl rfl HN2.out (by simp [Value.oneCell']) (by decide) (by simp only [maxLen]; omega) (by omega) HH.out _ rfl ?_; intro g5 cap5 w5 own5 grow5 lies5 hlt5; have HFI := Kept.mk (FIN.out _ _ _ own5 grow5); clear own5 grow5 lies5 hlt5)
                  go_meet
                  exact HFI.out
              case rest =>
                obtain ⟨Ab2, cb2, rfl, hS4⟩ := hcut
                obtain ⟨_, hleft⟩ := hS4.left (by omega)
                obtain ⟨_, hdone⟩ := hS4.done (by omega)
                have l0 : wc.cell? ⟨gl, i, none⟩ = some (.int .i64 (lv : Int)) := by rw [HLV.out]; exact hleft.c i hi'
                have lf := hleft.f i
                have HD0 := Kept.mk (hdone.c i hi')
                have df := hdone.f i
                obtain ⟨dv, hdv⟩ : ∃ dv : Int, dv = (st.done i : Int) := ⟨_, rfl⟩
                have dc : wc.cell? ⟨gd, i, none⟩ = some (.int .i64 dv) := by rw [hdv]; exact HD0.out
                have ne := HPL.out.2.2.2.2
                have ne' : gd ≠ gl := fun e => ne e.symm
                have hS5 := (hS4.lefted hi' l1).doned hi' t1
                have HS6 := Kept.mk (hS5.timed t1)
                have HEQ := Kept.mk (show go st i (goN st i y) = { left := upf st.left i l1, done := upf st.done i t1, busy := ext st.busy st.now m, now := t1 } by
                  rw [← HM.out]
                  unfold go
                  rw [HL1.out, HLV.out, HT1.out])
                have HN2 := HN
                clear hleft hdone hS4 hS5 hdv HD0 HS3 LAST HC1 HBB
                obtain ⟨nb2, hnb2⟩ : ∃ nb2, nb2 = (ext st.busy st.now m).length := ⟨_, rfl⟩
                rw [← hnb2]
                have HNB2 := Kept.mk hnb2
                clear hnb2
                go_wp2_with fail
                go_roundw
                case rel =>
                  refine ⟨go st i (goN st i y), Ab2, cb2, ?_, ?_, HG.out.step HN.out, ?_⟩
                  · rw [HEQ.out, HNB2.out]
                  · rw [HEQ.out]
                  · rw [HEQ.out]; exact HS6.out
                case measure => simp [intOf]; omega
set_option maxHeartbeats 4000000 in
theorem over_any (A : Option Addr) (L : List Int) (n cap : Nat) (hn : n = L.length) (w : World) (hL : Ints w w.heap.size A L) (hl : L.length ≤ 4096) :
    Calls Try.prog 89 #[.slice A n cap] w fun e w' => e = .returned (.bool (!L.all timeP)) ∧ Below w.heap.size w w' := by
  subst hn
  have HI := Kept.mk hL
  clear hL
  go_enter Try.func89, Try.ntmps89
  go_wp2
  go_loopw [7] (fun t wr => ∃ k : Nat, k ≤ L.length ∧ t = .int .i64 k ∧ Kept ((L.take k).all timeP = true) ∧ Below w.heap.size w wr) (fun t _ => L.length - (intOf t).toNat)
  case atStart => exact ⟨0, by omega, rfl, ⟨rfl⟩, Below.refl _ _⟩
  case round =>
    obtain ⟨k, hk, rfl, hA, hb⟩ := hrel
    by_cases hlt : k < L.length
    · obtain ⟨b, off, rfl, hbB, hc⟩ := (HI.out.below hb) (by omega)
      obtain ⟨t, ht⟩ : ∃ t, L[k]? = some t := ⟨L[k], List.getElem?_eq_getElem hlt⟩
      have e1 := hc k hlt
      rw [ht, Option.getD_some] at e1
      have ik : (k : Int) < (L.length : Int) := by omega
      have HST := Kept.mk (show (L.take (k + 1)).all timeP = timeP t by rw [List.take_add_one, ht, List.all_append, hA.out]; simp)
      have HM := Kept.mk (show timeP t = false → L.all timeP = false from fun h => by
        rw [List.all_eq_false]
        exact ⟨t, List.mem_of_getElem? ht, by rw [h]; decide⟩)
      have HT := Kept.mk (fun W => rtime_any t W)
      obtain ⟨tb, htb⟩ : ∃ tb, tb = timeP t := ⟨_, rfl⟩
      rw [← htb] at HT HST HM
      clear hc ht htb
      cases tb with
      | false =>
        have HC := Kept.mk (HM.out rfl)
        go_wp2_with ((go_at_call 91; refine (HT.out _).mono ?_; rintro e w' ⟨rfl, rfl⟩))
        go_ret
        exact ⟨by rw [HC.out]; rfl, hb⟩
      | true =>
        go_wp2_with ((go_at_call 91; refine (HT.out _).mono ?_; rintro e w' ⟨rfl, rfl⟩))
        go_roundw
        case rel => exact ⟨k + 1, by omega, by go_num, ⟨HST.out⟩, hb⟩
        case measure => simp [intOf]; omega
    · have hke : k = L.length := by omega
      subst hke
      have hA' := hA.out
      rw [List.take_length] at hA'
      have HC := Kept.mk hA'
      clear hA hA'
      go_wp2
      go_ret
      exact ⟨by rw [HC.out]; rfl, hb⟩
/-- What Finish of the document leaves. -/
def FRes (w : World) (xs : List Q3) (e : Ending) (w' : World) : Prop :=
  (whyE xs ≠ 0 ∧ e = .returned (.tuple #[.slice none 0 0, .int .i64 (whyE xs)]) ∧ Below w.heap.size w w') ∨
  (whyE xs = 0 ∧ Rt xs ∧ ∃ A c, e = .returned (.tuple #[.slice A xs.length c, .int .i64 0]) ∧ Ints w' w'.heap.size A (dE xs) ∧ Below w.heap.size w w')
theorem FRes.ires {w : World} {xs : List Q3} {e : Ending} {w' : World} (h : FRes w xs e w') : IRes w (finE xs) (whyE xs) e w' := by
  rcases h with ⟨h1, rfl, h2⟩ | ⟨h1, _, A, c, rfl, h2, h3⟩
  · rw [finE_bad h1]
    exact ⟨none, 0, rfl, Ints.nil _ _ _, h2⟩
  · rw [finE_ok h1, h1]
    exact ⟨A, c, by rw [dE_len], h2, h3⟩
set_option maxHeartbeats 4000000 in
theorem rfinish_any {w : World} {A : Option Addr} {xs : List Q3} {cap : Nat} (hx : R3 w w.heap.size A xs) :
    Calls Try.prog 57 #[.slice A xs.length cap] w (FRes w xs) := by
  have HI := Kept.mk hx
  have HCH := Kept.mk (rcheck_any A xs cap w hx)
  clear hx
  obtain ⟨y, hy⟩ : ∃ y, y = chk xs := ⟨_, rfl⟩
  rw [← hy] at HCH
  have HY := Kept.mk hy
  clear hy
  go_enter Try.func57, Try.ntmps57
  go_wp2_with fail
  refine HCH.out.mono ?_
  rintro e w1 ⟨rfl, hb⟩
  by_cases hz : y = 0
  · have HR := Kept.mk (Rt.of (HY.out.symm.trans hz))
    have HCK := Kept.mk (HY.out.symm.trans hz)
    have hlen := HR.out.len
    have HB := Kept.mk hb
    have HS := Kept.mk (schedule_any (w := w1) (cap := cap) HR.out ((HI.out.below hb).mono hb.size))
    subst hz
    clear hb HCH
    go_wp2_with fail
    refine HS.out.mono ?_
    rintro e w2 ⟨Ad, cd, Ab, cb, rfl, h1, h2, h3⟩
    have HO := Kept.mk (over_any Ad (dE xs) xs.length cd (dE_len xs).symm w2 h1 (by rw [dE_len]; omega))
    have HD := Kept.mk h1
    have HB2 := Kept.mk (HB.out.trans (h3.mono HB.out.size))
    obtain ⟨ob, hob⟩ : ∃ ob, ob = (dE xs).all timeP := ⟨_, rfl⟩
    rw [← hob] at HO
    have HOB := Kept.mk hob
    clear hob h1 h2 h3 HS
    go_wp2_with fail
    refine HO.out.mono ?_
    rintro e w3 ⟨rfl, hb3⟩
    have HB3 := Kept.mk (HB2.out.trans (hb3.mono HB2.out.size))
    have HD3 := Kept.mk ((HD.out.below hb3).mono hb3.size)
    clear hb3 HO
    cases ob with
    | false =>
      have HW := Kept.mk (whyE_over HCK.out HOB.out.symm)
      go_wp2
      go_ret2
      exact .inl ⟨by rw [HW.out]; decide, by rw [HW.out] <;> rfl, HB3.out⟩
    | true =>
      have HW := Kept.mk (whyE_fine HCK.out HOB.out.symm)
      go_wp2
      go_ret2
      exact .inr ⟨HW.out, HR.out, Ad, cd, rfl, HD3.out, HB3.out⟩
  · have HW := Kept.mk (whyE_chk (by rw [← HY.out]; exact hz))
    have hz' : (y != 0) = true := by simp [hz]
    have hz2 : (y == 0) = false := by simp [hz]
    clear hz HCH
    go_wp2
    go_ret2
    exact .inl ⟨by rw [HW.out]; decide, by rw [HW.out] <;> rfl, hb⟩
set_option maxHeartbeats 4000000 in
theorem rbusy_any {w : World} {A : Option Addr} {xs : List Q3} {cap : Nat} (hx : R3 w w.heap.size A xs) :
    Calls Try.prog 61 #[.slice A xs.length cap] w (BRes w (busyE xs) (whyE xs)) := by
  have HI := Kept.mk hx
  have HF := Kept.mk (rfinish_any (cap := cap) hx)
  clear hx
  go_enter Try.func61, Try.ntmps61
  go_wp2_with fail
  refine HF.out.mono ?_
  rintro e w1 (⟨h1, rfl, hb⟩ | ⟨h1, hR, A1, c1, rfl, _, hb⟩)
  · obtain ⟨y, hy⟩ : ∃ y, y = whyE xs := ⟨_, rfl⟩
    have hz' : (y != 0) = true := by rw [hy]; simp [h1]
    have hz2 : (y == 0) = false := by rw [hy]; simp [h1]
    have HL := Kept.mk (show busyE xs = [] by unfold busyE; rw [if_neg h1])
    rw [← hy]
    have HY := Kept.mk hy
    clear hy h1 HF
    go_wp2
    go_ret2
    rw [HL.out, ← HY.out]
    exact ⟨none, 0, rfl, fun h => absurd h (by simp), hb⟩
  · have HL := Kept.mk (show busyE xs = (sE xs).busy ∧ whyE xs = 0 by unfold busyE; rw [if_pos h1]; exact ⟨rfl, h1⟩)
    have HS := Kept.mk (schedule_any (w := w1) (cap := cap) hR ((HI.out.below hb).mono hb.size))
    have HB := Kept.mk hb
    clear h1 hb HF hR
    go_wp2_with fail
    refine HS.out.mono ?_
    rintro e w2 ⟨Ad, cd, Ab, cb, rfl, _, h2, h3⟩
    have HB2 := Kept.mk (HB.out.trans (h3.mono HB.out.size))
    have HR2 := Kept.mk h2
    clear h2 h3 HS
    obtain ⟨nb, hnb⟩ : ∃ nb, nb = (sE xs).busy.length := ⟨_, rfl⟩
    rw [← hnb]
    have HNB := Kept.mk hnb
    clear hnb
    go_wp2
    go_ret2
    rw [HL.out.1, HL.out.2]
    exact ⟨Ab, cb, by rw [HNB.out] <;> rfl, HR2.out, HB2.out⟩
set_option maxRecDepth 100000 in
set_option maxHeartbeats 8000000 in
theorem rwaits_any {w : World} {A : Option Addr} {xs : List Q3} {cap : Nat} (hx : R3 w w.heap.size A xs) :
    Calls Try.prog 59 #[.slice A xs.length cap] w (IRes w (wtE xs) (whyE xs)) := by
  have HI := Kept.mk hx
  have HF := Kept.mk (rfinish_any (cap := cap) hx)
  obtain ⟨j0, hj0, hj1, hj2, hj3⟩ := info_parts info_i64W
  clear hx
  obtain ⟨L, hL⟩ : ∃ L, L = wtE xs := ⟨_, rfl⟩
  rw [← hL]
  have HL := Kept.mk hL
  clear hL
  go_enter Try.func59, Try.ntmps59
  go_wp2_with fail
  refine HF.out.mono ?_
  rintro e w1 (⟨h1, rfl, hb⟩ | ⟨h1, hR, Ad, cd, rfl, hD, hb⟩)
  · obtain ⟨y, hy⟩ : ∃ y, y = whyE xs := ⟨_, rfl⟩
    have hz' : (y != 0) = true := by rw [hy]; simp [h1]
    have hz2 : (y == 0) = false := by rw [hy]; simp [h1]
    have HZ := Kept.mk (show L = [] from HL.out.trans (show wtE xs = [] by unfold wtE; rw [if_neg h1]))
    rw [← hy]
    have HY := Kept.mk hy
    clear hy h1 HF
    go_wp2
    go_ret2
    rw [HZ.out, ← HY.out]
    exact ⟨none, 0, rfl, Ints.nil _ _ _, hb⟩
  · have HZ := Kept.mk (show L = waitE (dE xs) xs ∧ whyE xs = 0 from ⟨HL.out.trans (by unfold wtE; rw [if_pos h1]), h1⟩)
    have HRT := Kept.mk hR
    have hlen := hR.len
    have HD := Kept.mk hD
    have HB := Kept.mk hb
    clear h1 hD hb hR HF
    go_wp2_with fail
    go_loopw [6, 19] (fun v t wr => ∃ (k : Nat) (Ao : Option Addr) (co : Nat), k ≤ xs.length ∧ t = .int .i64 k ∧ v = .slice Ao k co ∧ wr.ownsRow w1.heap.size 2 1 (.slice Ao k co) k (((waitE (dE xs) xs).take k).map (Value.int .i64)) ∧ Below w1.heap.size w1 wr) (fun _ t _ => xs.length - (intOf t).toNat)
    case atStart => exact ⟨0, none, 0, by omega, rfl, rfl, ⟨rfl, .inl ⟨rfl, rfl⟩⟩, Below.refl _ _⟩
    case round =>
      obtain ⟨k, Ao, co, hk, rfl, rfl, hO, hB⟩ := hrel
      by_cases hlt : k < xs.length
      · have ik : (k : Int) < (xs.length : Int) := by omega
        have hBw : Below w.heap.size w wr := HB.out.trans (hB.mono HB.out.size)
        obtain ⟨b, off, rfl, hbB, hc⟩ := (HI.out.below hBw) (by omega)
        obtain ⟨q, hq, hqo, hqa, hqb, hqc⟩ := HRT.out.at hlt
        obtain ⟨e1, e2, e3⟩ := hc k q hq
        have hdk : (dE xs)[k]? = some ((sE xs).done k : Int) := dE_at xs hlt
        obtain ⟨gd, od, rfl, hgd, hdc⟩ := (HD.out.below hB) (by rw [dE_len]; omega)
        have hdc := hdc k (by rw [dE_len]; exact hlt)
        rw [hdk, Option.getD_some] at hdc
        have HT := Kept.mk (waitE_take hdk hq)
        have hdn := HRT.out.done hlt
        obtain ⟨qa, qb, qc⟩ := q
        simp only at e1 e2 e3 hqc hqa hqb HT
        obtain ⟨t, ht⟩ : ∃ t : Int, t = ((sE xs).done k : Int) := ⟨_, rfl⟩
        rw [← ht] at hdc HT
        have b1 : 0 ≤ qb := by omega
        have b2 : qb ≤ 4503599627370496 := hqo.b1
        have b3 : 1 ≤ qc := hqo.c0
        have b4 : qc ≤ 1099511627776 := hqo.c1
        have b5 : 0 ≤ t := by omega
        have b6 : t ≤ 9007199254740992 := by omega
        have HOK := Kept.mk hO
        have HBK := Kept.mk hB
        have hxl : wr.heap.size < (wr.alloc (.cells #[.int .i64 qa, .int .i64 qb, .int .i64 qc] 108)).heap.size := by simp
        have HXC := Kept.mk (show (wr.alloc (.cells #[.int .i64 qa, .int .i64 qb, .int .i64 qc] 108)).cell? ⟨wr.heap.size, 1, none⟩ = some (.int .i64 qb) ∧ (wr.alloc (.cells #[.int .i64 qa, .int .i64 qb, .int .i64 qc] 108)).cell? ⟨wr.heap.size, 2, none⟩ = some (.int .i64 qc) from ⟨cell_of_row _ _ 1 _ _ _ (heap_alloc_new _ _), cell_of_row _ _ 2 _ _ _ (heap_alloc_new _ _)⟩)
        clear hc hq hqo hqa hqb hqc hdk hdn ht hO hB hBw
        go_upto_region 8 with fail
        obtain ⟨wa, hwa⟩ : ∃ wa, wa = wr.alloc (.cells #[.int .i64 qa, .int .i64 qb, .int .i64 qc] 108) := ⟨_, rfl⟩
        obtain ⟨xb, hxb⟩ : ∃ xb, xb = wr.heap.size := ⟨_, rfl⟩
        rw [← hwa, ← hxb]
        have x1 : wa.cell? ⟨xb, 1, none⟩ = some (.int .i64 qb) := by rw [hwa, hxb]; exact HXC.out.1
        have x2 : wa.cell? ⟨xb, 2, none⟩ = some (.int .i64 qc) := by rw [hwa, hxb]; exact HXC.out.2
        have dk : wa.cell? ⟨gd, od + k, none⟩ = some (.int .i64 t) := by rw [hwa]; exact ((below_box wr _).cell (p := ⟨gd, od + k, none⟩) (cell_lt hdc)).trans hdc
        have HWA := Kept.mk (show Below w1.heap.size w1 wa by rw [hwa]; exact HBK.out.trans ((below_box wr _).mono HBK.out.size))
        have HOA := Kept.mk (show wa.ownsRow w1.heap.size 2 1 (.slice Ao k co) k (((waitE (dE xs) xs).take k).map (Value.int .i64)) by rw [hwa]; exact HOK.out.alloc _)
        obtain ⟨u, hu⟩ : ∃ u, u = t - qb := ⟨_, rfl⟩
        obtain ⟨v, hv⟩ : ∃ v, v = u - qc := ⟨_, rfl⟩
        have wr1 : IntKind.i64.wrap (t - qb) = u := by simp [IntKind.wrap, IntKind.bits, IntKind.signed]; omega
        have wr2 : IntKind.i64.wrap (u - qc) = v := by simp [IntKind.wrap, IntKind.bits, IntKind.signed]; omega
        have HO5 := Kept.mk (show ((wa.alloc (.cells #[.int .i64 v] 2)).drew).ownsRow w1.heap.size 2 1 (.slice Ao k co) k (((waitE (dE xs) xs).take k).map (Value.int .i64)) from HOA.out.alloc _)
        have HS5 := Kept.mk (show w1.heap.size ≤ ((wa.alloc (.cells #[.int .i64 v] 2)).drew).heap.size by show _ ≤ (wa.alloc _).heap.size; have := HWA.out.size; simp; omega)
        have HN5 := Kept.mk (show ∀ j u, [Value.int .i64 v][j]? = some u → ((wa.alloc (.cells #[.int .i64 v] 2)).drew).cell? ((⟨wa.heap.size, 0, none⟩ : Addr).add j) = some u from World.news_of_block (cs := #[.int .i64 v]) (heap_alloc_new wa _))
        rw [← hu, ← hv] at HT
        have FIN := Kept.mk (fun (g6 cap6 : Nat) (w6 : World) (ho : w6.ownsRow w1.heap.size 2 1 (.slice (some ⟨g6, 0, none⟩) (k + 1) cap6) (k + 1) (((waitE (dE xs) xs).take k).map (Value.int .i64) ++ [.int .i64 v])) (hg : ((wa.alloc (.cells #[.int .i64 v] 2)).drew).grownBy w6 (Value.slice Ao k co).ownBlock) => show w6.ownsRow w1.heap.size 2 1 (.slice (some ⟨g6, 0, none⟩) (k + 1) cap6) (k + 1) (((waitE (dE xs) xs).take (k + 1)).map (Value.int .i64)) ∧ Below w1.heap.size w1 w6 from
          ⟨by rw [HT.out, List.map_append]; exact ho, (HWA.out.trans (((below_box wa _).drewN 1).mono HWA.out.size)).grown hg HS5.out fun j hj => (HO5.out.lt j hj).1⟩)
        clear hv hu hwa hxb hdc hxl HXC HOK HT e1 e2 e3
        go_region_law (first
          | (refine step_append_lies _ rfl (.tmp 24) (.tmp 35) 85 rfl w1.heap.size 2 j0 (.int .i64 0) 1 8 Try.underlying85 hj0 hj1 hj2 hj3 rfl (by decide) (.slice Ao k co) k (((waitE (dE xs) xs).take k).map (Value.int .i64)) rfl HO5.out ⟨wa.heap.size, 0, none⟩ 1 1 [.int .i64 v] rfl rfl HN5.out (by simp [Value.oneCell']) (by decide) (by simp only [maxLen]; omega) (by omega) HS5.out _ rfl ?_; intro g6 cap6 w6 own6 grow6 _ _; have HOW6 := Kept.mk own6; have HG6 := Kept.mk grow6; clear own6 grow6))
        all_goals go_wp2_with fail
        all_goals go_roundw
        all_goals first
          | exact ⟨k + 1, _, _, by omega, by go_num, rfl, (FIN.out _ _ _ HOW6.out HG6.out).1, (FIN.out _ _ _ HOW6.out HG6.out).2⟩
          | (simp [intOf]; omega)
      · have hke : k = xs.length := by omega
        have hl : (waitE (dE xs) xs).length = k := by rw [waitE_len, dE_len]; omega
        rw [List.take_of_length_le (by omega)] at hO
        have HO := Kept.mk hO
        have HLK := Kept.mk hl
        have HK := Kept.mk hke
        have ik : decide ((k : Int) < (xs.length : Int)) = false := decide_eq_false (by omega)
        clear hO hl hke
        go_wp2
        go_ret2
        rw [HZ.out.1, HZ.out.2]
        exact ⟨Ao, co, by rw [HLK.out] <;> rfl, (Ints.of_own HO.out).2, HB.out.trans (hB.mono HB.out.size)⟩
end Go.Proofs.Ytcchmkpodfjhcaa
