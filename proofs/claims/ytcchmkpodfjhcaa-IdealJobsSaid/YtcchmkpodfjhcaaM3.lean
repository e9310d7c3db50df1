/-
  The walks of the plan's arrive and next.
-/
import Derived.Test.YtcchmkpodfjhcaaM2
import Derived.Deep.RegionHeld3
import Derived.BigRegion
namespace Go.Proofs.Ytcchmkpodfjhcaa
open Go.RowKit
set_option linter.unusedVariables false
theorem block_setQ {w : World} {b o : Nat} {cs : Array Value} {t : TypeId} {fr : Nat × Nat} (h : w.heap[b]? = some (.cells cs t fr)) (u : Value) : (w.setCell ⟨b, o, none⟩ u).heap[b]? = some (.cells (cs.setIfInBounds o u) t fr) := by
  have hlt := lt_of_block h
  have h' : w.heap[b] = .cells cs t fr := by simpa [Array.getElem?_eq_getElem hlt] using h
  show (w.heap.modify b _)[b]? = _
  rw [Array.getElem?_eq_getElem (by simpa using hlt), Array.getElem_modify_self, h']
  rfl
theorem own_setQ {W : World} {base b o : Nat} {e : TypeId} {sz k : Nat} {v : Value} {xs : List Value} (h : W.ownsRow base e sz v k xs) (hb : b < base) (u : Value) : (W.setCell ⟨b, o, none⟩ u).ownsRow base e sz v k xs :=
  h.kept (row := some b) ⟨rfl, rfl, rfl, by simp, fun i _ hi => Below.heap_setCell _ _ _ _ (fun e => hi (by rw [e]))⟩ (by
    cases hv : v.ownBlock with
    | none => simp
    | some g => have := (h.lt g hv).1; simp; omega)
section
variable {w W W' : World} {y : PLy} {A : Option Addr} {xs : List Q3} {cap k : Nat} {D : Nat → Nat} {st : Sch}
/-- A cell of the plan's box is turned. -/
theorem PM.boxed (hw : PLo y xs.length) (h : PM w W y A xs cap D k st) {o : Nat} {v : Value} {k' : Nat} {st' : Sch} (hl : st'.left = st.left) (hd : st'.done = st.done)
    (hb : ∃ Ac cc Al cl Ab cb, (W.setCell ⟨y.pb, o, none⟩ v).heap[y.pb]? = some (.cells #[.slice A xs.length cap, .slice Ac (xs.length - k') cc, .pointer (some ⟨y.qb, 0, none⟩), .slice Al xs.length cl, .slice (some ⟨y.gd, 0, none⟩) xs.length xs.length, .slice Ab st'.busy.length cb, .int .i64 (st'.now : Int)] 160) ∧
      (k' < xs.length → Ac = some ⟨y.gc, k', none⟩ ∧ xs.length - k' ≤ cc) ∧ (0 < xs.length → Al = some ⟨y.gl, 0, none⟩) ∧ W.ownsRow y.hi 110 2 (.slice Ab st'.busy.length cb) st'.busy.length (ivC st'.busy)) :
    PM w (W.setCell ⟨y.pb, o, none⟩ v) y A xs cap D k' st' := by
  have b1 := hw.b1
  have b3 := hw.b3
  have b5 := hw.b5
  have b6 := hw.b6
  obtain ⟨Ac, cc, Al, cl, Ab, cb, e1, e2, e3, e4⟩ := hb
  have hbs : Below y.B W (W.setCell ⟨y.pb, o, none⟩ v) := (Below.refl _ _).setCell (p := ⟨y.pb, o, none⟩) b1 v
  refine ⟨⟨Ac, cc, Al, cl, Ab, cb, e1, e2, e3, own_setQ e4 (by omega) v⟩, h.pc.below hbs, fun h0 => ?_, fun h0 => ?_, fun h0 => ?_, h.bw.trans hbs⟩
  · exact (h.come h0).far (p := ⟨y.pb, o, none⟩) (fun e => (hw.c1 h0).2.2.1 e.symm) v
  · rw [hl]; exact (h.left h0).far (p := ⟨y.pb, o, none⟩) (fun e => (hw.c2 h0).2.2.1 e.symm) v
  · rw [hl, hd]; exact (h.done h0).far (p := ⟨y.pb, o, none⟩) b5 v
theorem PQ40.far {n : Nat} {Q : QL} (h : PQ40 W y n Q) {p : Addr} (hp : p.block < y.lo ∨ y.hi ≤ p.block) (v : Value) : PQ40 (W.setCell p v) y n Q :=
  QAt.blocks h (by simp) fun i h1 h2 => Below.heap_setCell _ _ _ _ (by omega)
theorem PQ40.kp {n : Nat} {Q : QL} (h : PQ40 W y n Q) (hs : W.heap.size ≤ W'.heap.size) (hb : ∀ i, y.lo ≤ i → i < y.hi → W'.heap[i]? = W.heap[i]?) : PQ40 W' y n Q := QAt.blocks h hs hb
end
def comeLen (pb : Nat) (W : World) : Nat := match W.cell? ⟨pb, 1, none⟩ with
  | some (.slice _ n _) => n
  | _ => 0
theorem comeLen_eq {pb : Nat} {W : World} {B : Option Addr} {n c : Nat} (h : W.cell? ⟨pb, 1, none⟩ = some (.slice B n c)) : comeLen pb W = n := by unfold comeLen; rw [h]
theorem wf_nat' {k : Nat} (h : k ≤ 4096) : (Lit.int .i64 (k : Int)).wf = true := by
  simp [Lit.wf, IntKind.min, IntKind.max, IntKind.signed, IntKind.bits]
  omega
/-- What arrive leaves. -/
def Arr (w : World) (y : PLy) (A : Option Addr) (xs : List Q3) (cap : Nat) (D : Nat → Nat) (k : Nat) (st : Sch) (e : Ending) (w' : World) : Prop :=
  e = .returned (.tuple #[]) ∧ ∃ k', k ≤ k' ∧ PM w w' y A xs cap D k' st ∧ PQ40 w' y xs.length (Qs (pcs xs) D st.left k') ∧ Cm' (pcs xs) D k' st.now
set_option maxRecDepth 100000 in
set_option maxHeartbeats 16000000 in
theorem arrive_any {w W : World} {y : PLy} {A : Option Addr} {xs : List Q3} {cap k : Nat} {D : Nat → Nat} {st : Sch} (hw : Wk y xs D) (h : PM w W y A xs cap D k st) (hq : PQ40 W y xs.length (Qs (pcs xs) D st.left k)) (hc : Cm (pcs xs) D k st.now) (hl : ∀ j, k ≤ j → j < xs.length → 0 < st.left (D j)) :
    Calls Try.prog 109 #[.pointer (some ⟨y.pb, 0, none⟩)] W (Arr w y A xs cap D k st) := by
  have HW := Kept.mk hw
  have HP := Kept.mk h
  have HQ := Kept.mk hq
  have HC := Kept.mk hc
  have HL := Kept.mk hl
  have hlen := hw.len
  clear hw h hq hc hl
  go_enter Try.func109, Try.ntmps109
  go_wp2_with fail
  go_loopw [2] (fun t wr => ∃ k', k ≤ k' ∧ PM w wr y A xs cap D k' st ∧ PQ40 wr y xs.length (Qs (pcs xs) D st.left k') ∧ Kept (Cm (pcs xs) D k' st.now)) (fun _ wr => comeLen y.pb wr)
  case atStart => exact ⟨k, Nat.le_refl _, HP.out, HQ.out, HC⟩
  case round =>
    clear HP HQ
    obtain ⟨k', hkk, hP, hQ, hC⟩ := hrel
    obtain ⟨Ac, cc, Al, cl, Ab, cb, hb, h1, h2, h3⟩ := hP.box
    have hkn : k' ≤ xs.length := hC.out.kn
    have c0 := cell_of_row _ _ 0 _ _ _ hb
    have c1 := cell_of_row _ _ 1 _ _ _ hb
    have c2 := cell_of_row _ _ 2 _ _ _ hb
    have c6 := cell_of_row _ _ 6 _ _ _ hb
    have fz : ∀ i, wr.frozen? ⟨y.pb, i, none⟩ = false := fun i => frozen_of_row _ _ i _ _ hb
    simp only [List.getElem?_toArray, List.getElem?_cons_zero, List.getElem?_cons_succ] at c0 c1 c2 c6
    have HML := Kept.mk (comeLen_eq c1)
    have HP := Kept.mk hP
    have HQ := Kept.mk hQ
    have HB := Kept.mk hb
    by_cases hk : k' < xs.length
    · obtain ⟨rfl, hcc⟩ := h1 hk
      obtain ⟨r, hr⟩ : ∃ r, r = xs.length - k' := ⟨_, rfl⟩
      rw [← hr] at c1 hcc HML HB
      have hr0 : 0 < r := by omega
      have hr0' : (0 : Int) < (r : Int) := by omega
      have d0 := (hP.come (by omega)).c k' hk
      have dl := HW.out.ord.lt (k := k') hk
      obtain ⟨b, off, rfl, hbB, hpc⟩ := pc_at HW.out.ok hP.pc (by omega)
      obtain ⟨p0, p1, _⟩ := hpc (D k') dl
      have HKB := Kept.mk (show (D k') < xs.length from dl)
      obtain ⟨d, hd⟩ : ∃ d, d = D k' := ⟨_, rfl⟩
      obtain ⟨a, ha⟩ : ∃ a, a = (pcs xs).A d := ⟨_, rfl⟩
      obtain ⟨pr, hpr⟩ : ∃ pr, pr = (pcs xs).P d := ⟨_, rfl⟩
      rw [← hd] at d0 p0 p1 dl
      rw [← hpr] at p0
      rw [← ha] at p1
      have dl' : (d : Int) < (xs.length : Int) := by have : d < xs.length := dl; omega
      have HD := Kept.mk hd
      have HA := Kept.mk ha
      have HPR := Kept.mk hpr
      by_cases hnow : a ≤ st.now
      · have hg : decide ((a : Int) ≤ (st.now : Int)) = true := decide_eq_true (by omega)
        have hg' : decide (a ≤ st.now) = true := decide_eq_true hnow
        have fz1 := fz 1
        have HF := Kept.mk fz
        have HR := Kept.mk hr
        have H2 := Kept.mk h2
        have H3 := Kept.mk h3
        clear hr h1 h2 h3 hb hP hQ hpc hd ha hpr fz
        go_wp2_with fail
        go_quiet (fail)
        go_upto_region 3 with fail
        obtain ⟨V, hV⟩ : ∃ V, V = (if cc = 1 then some (⟨y.gc, k', none⟩ : Addr) else some ⟨y.gc, k' + 1, none⟩) := ⟨_, rfl⟩
        rw [← hV]
        have hP3 : PM w (wr.setCell ⟨y.pb, 1, none⟩ (.slice V (r - 1) (cc - 1))) y (some ⟨b, off, none⟩) xs cap D (k' + 1) st := by
          refine HP.out.boxed HW.out.lo rfl rfl ?_
          have e := block_setQ HB.out (o := 1) (.slice V (r - 1) (cc - 1))
          have hR := HR.out
          refine ⟨V, cc - 1, Al, cl, Ab, cb, ?_, fun hk2 => ?_, H2.out, H3.out⟩
          · rw [e]
            simp only [List.setIfInBounds_toArray, List.set_cons_succ, List.set_cons_zero]
            rw [show xs.length - (k' + 1) = r - 1 by omega]
          · have : ¬ cc = 1 := by omega
            rw [hV, if_neg this]
            exact ⟨rfl, by omega⟩
        have HP3 := Kept.mk (hP3.drewN (nq + 1))
        have HQ3 := Kept.mk ((HQ.out.far (p := ⟨y.pb, 1, none⟩) (.inl HW.out.lo.b3) (.slice V (r - 1) (cc - 1))).drewN (nq + 1))
        have HPU := Kept.mk (Qs_push (N := max xs.length 1) (l := st.left) HW.out.ord hk (show xs.length ≤ max xs.length 1 by omega) HW.out.P (HL.out k' hkk hk))
        rw [← HD.out, ← HPR.out] at HPU
        have hwf : (Lit.int .i64 (d : Int)).wf = true := wf_nat' (show d ≤ 4096 by have : d < xs.length := HD.out ▸ HKB.out; omega)
        have hpush := Kept.mk (push_at HQ3.out hwf HPU.out)
        have HS := Kept.mk (fun (W' : World) (hp : PM w W' y (some ⟨b, off, none⟩) xs cap D (k' + 1) st) => show W'.cell? ⟨y.pb, 2, none⟩ = some (.pointer (some ⟨y.qb, 0, none⟩)) ∧ W'.cell? ⟨y.pb, 0, none⟩ = some (.slice (some ⟨b, off, none⟩) xs.length cap) ∧ W'.cell? ⟨b, off + d * 3, none⟩ = some (.int .i64 (pr : Int)) from by
          obtain ⟨_, _, _, _, _, _, hb', _, _, _⟩ := hp.box
          obtain ⟨b', off', e', _, hpc⟩ := pc_at HW.out.ok hp.pc (by omega)
          cases e'
          have := (hpc d (by have : d < xs.length := HD.out ▸ HKB.out; exact this)).1
          rw [← HPR.out] at this
          exact ⟨cell_of_row _ _ 2 _ _ _ hb', cell_of_row _ _ 0 _ _ _ hb', this⟩)
        obtain ⟨W3, hW3⟩ : ∃ W3, W3 = (wr.drewN nq).setCell ⟨y.pb, 1, none⟩ (.slice V (r - 1) (cc - 1)) := ⟨_, rfl⟩
        have HPd := Kept.mk (show PM w W3.drew y (some ⟨b, off, none⟩) xs cap D (k' + 1) st by rw [hW3]; exact HP3.out)
        have hpush' := Kept.mk (show Calls Try.prog 35 #[.pointer (some ⟨y.qb, 0, none⟩), .int .i64 d, .int .i64 pr] W3.drew (QRes W3.drew y.lo y.hi y.qb y.I y.M y.p y.L y.K (max xs.length 1) (Qs (pcs xs) D st.left (k' + 1)) (.int .i64 0)) by rw [hW3]; exact hpush.out)
        rw [← hW3]
        have hPd := HPd.out
        have hMl : comeLen y.pb W3.drew = r - 1 := by
          obtain ⟨_, _, _, _, _, _, hb', _, _, _⟩ := HPd.out.box
          rw [comeLen_eq (cell_of_row _ _ 1 _ _ _ hb')]
          have := HR.out; omega
        clear hP3 HP3 HQ3 hpush hW3 hV c0 c1 c2 c6 d0 p0 p1 fz1 HB HP HQ hMl
        go_region_held3 (fun W => W.cell? ⟨y.pb, 2, none⟩ = some (.pointer (some ⟨y.qb, 0, none⟩)) ∧ W.cell? ⟨y.pb, 0, none⟩ = some (.slice (some ⟨b, off, none⟩) xs.length cap) ∧ W.cell? ⟨b, off + d * 3, none⟩ = some (.int .i64 (pr : Int))) ((first | exact HS.out _ hPd | go_keep)) (first
          | (go_at_call 35; refine hpush'.out.mono ?_; rintro e w4 ⟨rfl, hQ4, hK4⟩; replace hPd := hPd.queued HW.out.lo hK4; have HQ4 := Kept.mk hQ4; clear hQ4 hK4))
        have HP4 := Kept.mk hPd
        have hm4 : comeLen y.pb w4 = r - 1 := by
          obtain ⟨_, _, _, _, _, _, hb', _, _, _⟩ := hPd.box
          rw [comeLen_eq (cell_of_row _ _ 1 _ _ _ hb')]
          have := HR.out; omega
        have HM4 := Kept.mk hm4
        have HC4 := Kept.mk (show Cm (pcs xs) D (k' + 1) st.now from ⟨hk, fun j hj => by
            by_cases e : j = k'
            · subst e; rw [← HD.out, ← HA.out]; exact hnow
            · exact hC.out.a j (by omega), fun j h1 h2 => hC.out.b j (by omega) h2⟩)
        clear hPd hm4
        go_wp2
        go_roundw
        case rel => exact ⟨k' + 1, by omega, HP4.out, HQ4.out, HC4⟩
        case measure => rw [HM4.out, HML.out]; omega
      · have hg : decide ((a : Int) ≤ (st.now : Int)) = false := decide_eq_false (by omega)
        have hg' : decide (a ≤ st.now) = false := decide_eq_false hnow
        have HC4 := Kept.mk (show Cm' (pcs xs) D k' st.now from ⟨hkn, hC.out.a, fun j h1 h2 => by
            have h5 : st.now < (pcs xs).A (D k') := by rw [← HD.out, ← HA.out]; omega
            by_cases e : j = k'
            · subst e; exact h5
            · have := HW.out.ord.srt k' j (Nat.zero_le _) (by omega) h2
              unfold ltA at this
              omega⟩)
        clear hr h1 h2 h3 hb hP hQ hpc hd ha hpr fz
        go_wp2_with fail
        go_quiet (fail)
        go_wp2
        go_end0
        exact ⟨rfl, k', hkk, HP.out.drewN _, HQ.out.drewN _, HC4.out⟩
    · have hke : xs.length - k' = 0 := by omega
      rw [hke] at c1
      have HC4 := Kept.mk (show Cm' (pcs xs) D k' st.now from ⟨hkn, hC.out.a, fun j h1 h2 => absurd h2 (by show ¬ j < xs.length; omega)⟩)
      have hg : decide ((0 : Int) < ((0 : Nat) : Int)) = false := by decide
      clear h1 h2 h3 hb hP hQ fz hke
      go_wp2_with fail
      go_quiet (fail)
      go_wp2
      go_end0
      exact ⟨rfl, k', hkk, HP.out.drewN _, HQ.out.drewN _, HC4.out⟩
/-- When the next one comes. -/
theorem pnext_any {w W : World} {y : PLy} {A : Option Addr} {xs : List Q3} {cap k : Nat} {D : Nat → Nat} {st : Sch} (hw : Wk y xs D) (h : PM w W y A xs cap D k st) (hk : k ≤ xs.length) :
    Calls Try.prog 110 #[.pointer (some ⟨y.pb, 0, none⟩)] W fun e w' => e = .returned (.tuple (if k < xs.length then #[.int .i64 ((pcs xs).A (D k) : Int), .bool true] else #[.int .i64 0, .bool false])) ∧ ∃ m, w' = W.drewN m := by
  obtain ⟨Ac, cc, Al, cl, Ab, cb, hb, h1, h2, h3⟩ := h.box
  have c0 := cell_of_row _ _ 0 _ _ _ hb
  have c1 := cell_of_row _ _ 1 _ _ _ hb
  simp only [List.getElem?_toArray, List.getElem?_cons_zero, List.getElem?_cons_succ] at c0 c1
  by_cases hlt : k < xs.length
  · obtain ⟨rfl, hcc⟩ := h1 hlt
    obtain ⟨r, hr⟩ : ∃ r, r = xs.length - k := ⟨_, rfl⟩
    rw [← hr] at c1 hcc
    have hr0 : 0 < r := by omega
    have hr0' : ((r : Int) == 0) = false := by simp; omega
    have d0 := (h.come (by omega)).c k hlt
    have dl := hw.ord.lt (k := k) hlt
    obtain ⟨b, off, rfl, hbB, hpc⟩ := pc_at hw.ok h.pc (by omega)
    obtain ⟨_, p1, _⟩ := hpc (D k) dl
    rw [if_pos hlt]
    obtain ⟨d, hd⟩ : ∃ d, d = D k := ⟨_, rfl⟩
    obtain ⟨a, ha⟩ : ∃ a, a = (pcs xs).A d := ⟨_, rfl⟩
    rw [← hd] at d0 p1 dl ⊢
    rw [← ha] at p1 ⊢
    have dl' : (d : Int) < (xs.length : Int) := by have : d < xs.length := dl; omega
    have hr1 : (0 : Int) < (r : Int) := by omega
    have hr2 : ((r : Nat) == 0) = false := by simp; omega
    have hr3 : ¬ r = 0 := by omega
    clear h1 h2 h3 hb h hpc hd ha hr hw dl
    go_enter Try.func110, Try.ntmps110
    go_wp2_with fail
    go_quiet (fail)
    go_wp2
    go_ret2
    exact ⟨rfl, _, rfl⟩
  · have hke : xs.length - k = 0 := by omega
    rw [hke] at c1
    rw [if_neg hlt]
    clear h1 h2 h3 hb h hke
    go_enter Try.func110, Try.ntmps110
    go_wp2
    go_ret2
    exact ⟨rfl, 0, rfl⟩
end Go.Proofs.Ytcchmkpodfjhcaa
