/-
  The walk of ideal.run.
-/
import Derived.Test.YtcchmkpodfjhcaaM6
import Derived.Test.YtcchmkpodfjhcaaM7
namespace Go.Proofs.Ytcchmkpodfjhcaa
open Go.RowKit
set_option linter.unusedVariables false
def nowOf (pb : Nat) (W : World) : Nat := match W.cell? ⟨pb, 6, none⟩ with
  | some (.int _ v) => v.toNat
  | _ => 0
theorem PA.nowOf {w W : World} {y : PLy} {A : Option Addr} {xs : List Q3} {cap k : Nat} {D : Nat → Nat} {st : Sch} (h : PA w W y A xs cap D k st) : nowOf y.pb W = st.now := by
  obtain ⟨_, _, _, _, _, _, hb, _⟩ := h.pm.box
  have c6 := cell_of_row _ _ 6 _ _ _ hb
  simp only [List.getElem?_toArray, List.getElem?_cons_zero, List.getElem?_cons_succ] at c6
  unfold Proofs.Ytcchmkpodfjhcaa.nowOf
  rw [c6]
  simp
/-- A plan at its end. -/
structure PE (w W : World) (B pb gd : Nat) (xs : List Q3) : Prop where
  bw : Below B w W
  pl : B ≤ pb ∧ pb < W.heap.size
  gl : B ≤ gd
  c4 : W.cell? ⟨pb, 4, none⟩ = some (.slice (some ⟨gd, 0, none⟩) xs.length xs.length)
  done : ∀ i, i < xs.length → W.cell? ⟨gd, i, none⟩ = some (.int .i64 ((sE xs).done i : Int))
  glt : 0 < xs.length → gd < W.heap.size
  busy : ∃ Ab cb, W.cell? ⟨pb, 5, none⟩ = some (.slice Ab (sE xs).busy.length cb) ∧ W.ownsRow B 110 2 (.slice Ab (sE xs).busy.length cb) (sE xs).busy.length (ivC (sE xs).busy)
theorem PA.ended {w W : World} {y : PLy} {A : Option Addr} {xs : List Q3} {cap k : Nat} {D : Nat → Nat} (hR : Rt xs) (h : PA w W y A xs cap D k (sE xs)) : PE w W y.B y.pb y.gd xs := by
  obtain ⟨_, _, _, _, Ab, cb, hb, _, _, hO⟩ := h.pm.box
  have hl := hR.ended.left
  refine ⟨h.pm.bw, ⟨h.wk.lo.b1, h.pm.lt⟩, h.wk.lo.b2, cell_of_row _ _ 4 _ _ _ hb, fun i hi => ?_, fun h0 => cell_lt ((h.pm.done h0).c 0 h0), Ab, cb, cell_of_row _ _ 5 _ _ _ hb, ?_⟩
  · have := (h.pm.done (by omega)).c i hi
    rw [if_pos (hl i hi)] at this
    exact this
  · refine ⟨hO.1, ?_⟩
    have b1 := h.wk.lo.b2
    have b4 := h.wk.lo.b4
    have b6 := h.wk.lo.b6
    rcases hO.2 with e | ⟨g, cap', cur, e1, e2, e3⟩
    · exact .inl e
    · exact .inr ⟨g, cap', cur, e1, by omega, e3⟩
/-- What run leaves. -/
def Rn (w : World) (xs : List Q3) (e : Ending) (w' : World) : Prop :=
  (whyE xs ≠ 0 ∧ e = .returned (.tuple #[.pointer none, .int .i64 (whyE xs)]) ∧ Below w.heap.size w w') ∨
  (whyE xs = 0 ∧ Rt xs ∧ ∃ pb gd, e = .returned (.tuple #[.pointer (some ⟨pb, 0, none⟩), .int .i64 0]) ∧ PE w w' w.heap.size pb gd xs)
theorem PE.mono {w w1 W : World} {B pb gd : Nat} {xs : List Q3} (h : PE w1 W B pb gd xs) (hb : Below w.heap.size w w1) (hB : B = w1.heap.size) : PE w W w.heap.size pb gd xs := by
  have hs := hb.size
  obtain ⟨Ab, cb, h1, h2⟩ := h.busy
  refine ⟨hb.trans (h.bw.mono (by omega)), ⟨by have := h.pl.1; omega, h.pl.2⟩, by have := h.gl; omega, h.c4, h.done, h.glt, Ab, cb, h1, h2.1, ?_⟩
  rcases h2.2 with e | ⟨g, cap', cur, e1, e2, e3⟩
  · exact .inl e
  · exact .inr ⟨g, cap', cur, e1, by omega, e3⟩
set_option maxRecDepth 100000 in
set_option maxHeartbeats 8000000 in
theorem run_any {w : World} {A : Option Addr} {xs : List Q3} {cap : Nat} (hx : R3 w w.heap.size A xs) :
    Calls Try.prog 87 #[.slice A xs.length cap] w (Rn w xs) := by
  have HC := check_any A xs cap w hx
  by_cases hch : chk xs = 0
  · have hR := Rt.of hch
    rw [hch] at HC
    have HBEG := Kept.mk (fun w1 (hb : Below w.heap.size w w1) => begin_any (cap := cap) hR ((hx.below hb).mono hb.size))
    have HC := Kept.mk HC
    have HR := Kept.mk hR
    have HCH := Kept.mk hch
    have hlen := hR.len
    clear hx hch hR
    go_enter Try.func87, Try.ntmps87
    go_wp2_with fail
    refine HC.out.mono ?_
    rintro e w1 ⟨rfl, hb1⟩
    have HB1 := Kept.mk hb1
    go_wp2_with fail
    refine (HBEG.out _ hb1).mono ?_
    rintro e w2 ⟨y, D, rfl, hyB, hW, hP, hQ⟩
    have HY := Kept.mk hyB
    have H0 := Kept.mk (show PA w1 w2 y A xs cap D 0 (sch0 (pcs xs)) from ⟨hW, hP, hQ, SI.first HR.out.C0 _, Fr.first _, ⟨Nat.zero_le _, fun j h => absurd h (by omega), fun j _ _ => Nat.zero_le _⟩⟩)
    clear hyB hW hP hQ hb1 HBEG HC
    go_wp2_with fail
    go_loopw [16] (fun t wr => ∃ k st, PA w1 wr y A xs cap D k st ∧ Kept (Goes (pcs xs) (sch0 (pcs xs)) st)) (fun _ wr => 9007199254740993 - nowOf y.pb wr)
    case atStart => exact ⟨0, _, H0.out, ⟨.refl _⟩⟩
    case round =>
      clear H0
      obtain ⟨k, st, hA, hG⟩ := hrel
      have HS := Kept.mk (step_any hA)
      have HA := Kept.mk hA
      clear hA
      go_wp2_with fail
      refine HS.out.mono ?_
      rintro e w3 (⟨st', k', hst, rfl, hA'⟩ | ⟨k', hst, rfl, hA'⟩)
      · have HST := Kept.mk hst
        have HA' := Kept.mk hA'
        clear hst hA' HS
        go_wp2
        go_roundw
        case rel => exact ⟨k', st', HA'.out, ⟨.step hG.out HST.out⟩⟩
        case measure =>
          rw [HA'.out.nowOf, HA.out.nowOf]
          have h1 := (HA.out.si.step HA.out.wk.A HST.out).2
          have h2 := HA'.out.wk.now HA'.out.si
          omega
      · have he := sE_eq HR.out hG.out hst
        rw [he] at hA'
        have hE := (hA'.ended HR.out).mono HB1.out HY.out
        obtain ⟨pb, hpb⟩ : ∃ pb, pb = y.pb := ⟨_, rfl⟩
        obtain ⟨gd, hgd⟩ : ∃ gd, gd = y.gd := ⟨_, rfl⟩
        rw [← hpb, ← hgd] at hE
        rw [← hpb]
        have HE := Kept.mk hE
        have c4 := hE.c4
        have hd := hE.done
        clear hst he hA' hE HS HA hG hpb hgd
        go_wp2_with fail
        go_loop [22] (fun i => ∃ k : Nat, k ≤ xs.length ∧ i = .int .i64 k ∧ Kept (((dE xs).take k).all timeP = true)) (fun i => xs.length - (intOf i).toNat)
        case atStart => exact ⟨0, by omega, rfl, ⟨rfl⟩⟩
        case round =>
          obtain ⟨j, hj, rfl, hT⟩ := hrel
          by_cases hlt : j < xs.length
          · have ij : (j : Int) < (xs.length : Int) := by omega
            have dj := hd j hlt
            have e1 := dE_at xs hlt
            have HTT := Kept.mk (fun (W : World) => time_any ((sE xs).done j : Int) W)
            obtain ⟨t, ht⟩ : ∃ t : Int, t = ((sE xs).done j : Int) := ⟨_, rfl⟩
            rw [← ht] at dj e1 HTT
            have HE1 := Kept.mk e1
            clear e1 ht hd
            cases hok : timeP t with
            | true =>
              rw [hok] at HTT
              have HST := Kept.mk (show ((dE xs).take (j + 1)).all timeP = true by
                rw [List.take_add_one, HE1.out, List.all_append, hT.out]
                simp [hok])
              clear hok
              go_wp2_with fail
              refine (HTT.out _).mono ?_
              rintro e w4 ⟨rfl, rfl⟩
              go_wp2
              go_round
              case rel => exact ⟨j + 1, by omega, by go_num, HST⟩
              case measure => simp [intOf]; omega
            | false =>
              rw [hok] at HTT
              have HF := Kept.mk (show whyE xs = 10 from whyE_over HCH.out (by
                rw [List.all_eq_false]
                exact ⟨t, List.mem_of_getElem? HE1.out, by simp [hok]⟩))
              clear hok
              go_wp2_with fail
              refine (HTT.out _).mono ?_
              rintro e w4 ⟨rfl, rfl⟩
              go_wp2
              go_ret2
              exact .inl ⟨by rw [HF.out]; decide, by rw [HF.out]; rfl, HE.out.bw⟩
          · have hje : j = xs.length := by omega
            subst hje
            have hT' := hT.out
            rw [List.take_of_length_le (by rw [dE_len]; exact Nat.le_refl _)] at hT'
            have HF := Kept.mk (whyE_fine HCH.out hT')
            clear hT' hT
            go_wp2
            go_ret2
            exact .inr ⟨HF.out, HR.out, pb, gd, rfl, HE.out⟩
  · have hb := chk_bad hch
    rw [hb] at HC
    have hw := whyE_chk hch
    have HW := Kept.mk hw
    have HC := Kept.mk HC
    clear hx hch hb hw
    go_enter Try.func87, Try.ntmps87
    go_wp2_with fail
    refine HC.out.mono ?_
    rintro e w1 ⟨rfl, hb1⟩
    go_wp2
    go_ret2
    exact .inl ⟨by rw [HW.out]; decide, by rw [HW.out]; rfl, hb1⟩
end Go.Proofs.Ytcchmkpodfjhcaa
