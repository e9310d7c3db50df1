/-
  The law TopDrift: the walk of Step.
-/
import Derived.Test.YtakkfgkogomjbaaDoorX16
import Derived.Test.YtakkfgkogomjbaaDoorX15b
namespace Go.Proofs.YtakkfgkogomjbaaDoor
open Go.RowKit Go.Shelf
set_option linter.unusedVariables false
set_option linter.unusedSimpArgs false
attribute [local go_sem] Oper.semAt_some
def zck : Array Value := #[.int .u32 0, .int .u32 0, .bool false, .bool false, .int .i64 0]
def ck5 (t m : Int) (a l : Bool) : Array Value := #[.int .u32 (t % 4294967296), .int .u32 m, .bool a, .bool l, .int .i64 t]
/-- A block of a clock, whatever else is kept. -/
theorem row_kept {W W' : World} {g : Nat} {cs : Array Value} {ty : TypeId} {row : Option Nat} (h : W.heap[g]? = some (.cells cs ty)) (hg : W.grownBy W' row) (hr : ∀ r, row = some r → ∃ o : Obj, W.heap[r]? = some o ∧ o.isCells = false) : W'.heap[g]? = some (.cells cs ty) := by
  refine (hg.block g (Array.getElem?_eq_some_iff.1 h).1 fun e => ?_).trans h
  obtain ⟨o, ho, hc⟩ := hr g e.symm
  rw [h] at ho
  injection ho with ho
  subst ho
  cases hc
/-- What is known behind some parts. -/
def CkI (g : Nat) (t n m : Int) (a : Bool) (s : Int) (W : World) : Prop := ∃ t' m' a' l', W.heap[g]? = some (.cells (ck5 t' m' a' l') 64) ∧ Kept (0 ≤ t' ∧ t' ≤ 4503599627370496 ∧ (s ≤ n → t' = t + s ∧ m' = m ∧ a' = (a && !decide (ahd (t % 4294967296) m < s))))
theorem keeps_putAt {g : Nat} {cs0 cs : Array Value} {t t0 : TypeId} {w w' : World} (h : PutAt g cs t w w') (h0 : w.heap[g]? = some (.cells cs0 t0)) : KeepsOthers w w' :=
  ⟨Nat.le_of_eq h.size.symm, fun k o hk ho => by
    by_cases e : k = g
    · subst e
      rw [h0] at hk
      injection hk with hk
      subst hk
      cases ho
    · exact (h.far k e).trans hk⟩
theorem CkI.kept {W W' : World} {g : Nat} {t n m s : Int} {a : Bool} {row : Option Nat} (h : CkI g t n m a s W) (hg : W.grownBy W' row) (hr : ∀ r, row = some r → ∃ o : Obj, W.heap[r]? = some o ∧ o.isCells = false) : CkI g t n m a s W' := by
  obtain ⟨t', m', a', l', h1, h2⟩ := h
  exact ⟨t', m', a', l', row_kept h1 hg hr, h2⟩
/-- The clock, n cycles on. -/
def CStep (w : World) (t n m : Int) (a : Bool) (e : Ending) (w' : World) : Prop := ∃ l', e = .returned (.tuple #[.agg #[.int .u32 ((t + n) % 4294967296), .int .u32 m, .bool (a && !decide (ahd (t % 4294967296) m < n)), .bool l', .int .i64 (t + n)], .int .i64 0]) ∧ Below w.heap.size w w'
set_option maxRecDepth 100000 in
set_option maxHeartbeats 8000000 in
theorem cstep_any (t n m : Int) (a l : Bool) (t0 : 0 ≤ t) (n0 : 0 ≤ n) (h : t + n ≤ 4503599627370496) (w : World) :
    Calls Tryd.prog 25 #[.agg #[.int .u32 (t % 4294967296), .int .u32 m, .bool a, .bool l, .int .i64 t], .int .i64 n] w (CStep w t n m a) := by
  have HN := Kept.mk (fun W => show _ from cnow_any t 0 m a l t0 (by omega) (by omega) (by omega) W)
  simp only [Int.add_zero] at HN
  have d0 : decide (n < 0) = false := decide_eq_false (by omega)
  have d1 : decide (4503599627370496 - t < n) = false := decide_eq_false (by omega)
  have HB := Kept.mk (And.intro t0 (And.intro n0 h))
  have ht64 : t ≤ 4503599627370496 := by omega
  clear h
  refine (callsIn_wide (n := 4)).1 ?_
  refine callsIn_of_wp_marks Tryd.func25 rfl trivial ?_ rfl
  simp only [Tryd.ntmps25, List.size_toArray, List.length_cons, List.length_nil, Nat.reduceAdd, Nat.reduceSub, Array.replicate_succ, Array.replicate_zero, List.push_toArray, List.append_toArray, List.nil_append, List.cons_append]
  gi_wp2_with fail
  refine ⟨trivial, ?_⟩
  refine (callsIn_wide.2 (HN.out _)).mono ?_
  rintro e w1 ⟨rfl, hb⟩
  have hs1 : w.heap.size + 2 ≤ w1.heap.size := by have := hb.size; simpa using this
  have h0 := (hb.block w.heap.size (by simp; omega)).trans ((heap_alloc_old _ _ (by simp)).trans (heap_alloc_new w (.cells #[.int .u32 (t % 4294967296), .int .u32 m, .bool a, .bool l, .int .i64 t] 64)))
  have h1 := (hb.block (w.heap.size + 1) (by simp)).trans (heap_alloc2_new _ _ _)
  have hb1 : Below w.heap.size w w1 := (two_below w _ _).trans (hb.mono (by simp; omega))
  have x4 : w1.cell? ⟨w.heap.size, 4, none⟩ = some (.int .i64 t) := cell_of_row _ _ 4 _ _ _ h0
  have f4 := frozen_of_row _ _ 4 _ _ h0
  have H0 := Kept.mk (show (w1.setCell ⟨w.heap.size, 4, none⟩ (.int .i64 t)).heap[w.heap.size]? = some (.cells (ck5 t m a l) 64) from heap_setCell_same w1 w.heap.size 4 _ _ _ h0)
  have H1 := Kept.mk (show (w1.setCell ⟨w.heap.size, 4, none⟩ (.int .i64 t)).heap[w.heap.size + 1]? = some (.cells zck 64) from (Below.heap_setCell w1 _ _ _ (by simp)).trans h1)
  have B1 := Kept.mk (hb1.setCell (p := ⟨w.heap.size, 4, none⟩) (Nat.le_refl _) (.int .i64 t))
  have S1 := Kept.mk hs1
  clear hb h0 h1 hb1 hs1
  gi_wp2_with fail
  refine ⟨trivial, ?_⟩
  refine (callsIn_wide.2 (parts_any n _)).mono ?_
  rintro e w2 ⟨rfl, rfl⟩
  gi_wp2_with fail
  obtain ⟨W2, hW2⟩ : ∃ W2, W2 = (w1.setCell ⟨w.heap.size, 4, none⟩ (.int .i64 t)).alloc (.cells #[.int .i64 n] 2) := ⟨_, rfl⟩
  have hbb : Below w1.heap.size (w1.setCell ⟨w.heap.size, 4, none⟩ (.int .i64 t)) W2 := by
    rw [hW2]
    have := below_box (w1.setCell ⟨w.heap.size, 4, none⟩ (.int .i64 t)) (.cells #[.int .i64 n] 2)
    simpa using this
  have xb : W2.heap[w1.heap.size]? = some (.cells #[.int .i64 n] 2) := by
    rw [hW2]
    have := heap_alloc_new (w1.setCell ⟨w.heap.size, 4, none⟩ (.int .i64 t)) (.cells #[.int .i64 n] 2)
    simpa using this
  rw [← hW2]
  obtain ⟨g, hg⟩ : ∃ g, g = w.heap.size := ⟨_, rfl⟩
  obtain ⟨b, hb⟩ : ∃ b, b = w1.heap.size := ⟨_, rfl⟩
  rw [← hg] at S1 H0 H1 B1 hbb ⊢
  rw [← hb] at S1 hbb xb ⊢
  have E0 := Kept.mk ((hbb.block g (by have := S1.out; omega)).trans H0.out)
  have E1 := Kept.mk ((hbb.block (g + 1) (by have := S1.out; omega)).trans H1.out)
  have B2 := Kept.mk (show Below g w W2 from B1.out.trans (hbb.mono (by have := S1.out; omega)))
  have Z2 := Kept.mk (show g + 3 ≤ W2.heap.size by have := (Array.getElem?_eq_some_iff.1 xb).1; have := S1.out; omega)
  have HG := Kept.mk hg
  clear hW2 hbb hg hb x4 f4 H0 H1 B1
  refine wpIn_rangeFunc_ownF rfl (by omega) (gf := 59) (lb := #[.pointer (some ⟨b, 0, none⟩)]) rfl trivial (enters_of Tryd.func59 (by kernel_rfl) rfl)
    (parts_stops (4 - 1) (by omega) b g n n0 (by have := HB.out; omega) W2 (cell_of_row _ _ 0 _ _ _ xb))
    KpB.trans (KpB.book (by have := Z2.out; omega)) (Below.refl _ _) (fun _ => rfl)
    (fun pre W => (CkI g t n m a (sumP pre) W ∧ W.heap[g + 1]? = some (.cells zck 64)) ∧ Below g W2 W)
    (fun c pre W => False ∧ Below g W2 W)
    (OwnFrom.and (Own.from (fun s A B row hs hg hr => ⟨hs.1.kept hg hr, row_kept hs.2 hg hr⟩) _) (ownFrom_below (by have := Z2.out; omega) (by have := Z2.out; omega)))
    (fun c => OwnFrom.and (Own.from (fun s A B row hs hg hr => hs) _) (ownFrom_below (by have := Z2.out; omega) (by have := Z2.out; omega)))
    ⟨⟨⟨t, m, a, l, E0.out, ⟨t0, ht64, fun _ => ⟨by rw [sumP_nil]; omega, rfl, by
      rw [sumP_nil]
      have : ¬ ahd (t % 4294967296) m < 0 := by unfold ahd; omega
      simp [this]⟩⟩⟩, E1.out⟩, Below.refl _ _⟩
    (fun y => { tmps := #[.agg #[.int .u32 (t % 4294967296), .int .u32 m, .bool a, .bool l, .int .i64 t], .int .i64 n, .pointer (some ⟨g, 0, none⟩), undef, .pointer (some ⟨g + 1, 0, none⟩), .int .i64 0, .int .i64 t, .int .i64 0, .int .u32 y.1,
      .tuple #[.int .i64 t, .int .i64 0], .agg #[.int .u32 (t % 4294967296), .int .u32 m, .bool a, .bool l, .int .i64 t], .tuple #[.int .i64 t, .int .i64 0], .int .i64 t, .int .i64 0, .bool false, .int .i64 0, .bool false, undef, undef, .bool false, .int .i64 n, .bool false, undef, .bool false, .int .i64 n, .int .i64 t, .int .i64 (4503599627370496 - t), .bool false, undef, .int .i64 t, .pointer (some ⟨g, 4, none⟩), .int .i64 n,
      .func (.func 59) #[] #[.pointer (some ⟨b, 0, none⟩)], .int .u32 y.1, undef, undef, undef, undef, undef, undef, undef, undef, undef, undef, undef, undef, undef, undef, undef], defers := [] }) ?assign ?body ?done ?stop
  case assign =>
    intro l x W K hK
    gi_wp2
    exact hK
  case body =>
    rintro l pre ⟨k, hk0, hk1⟩ W ⟨⟨⟨t', m', a', l', hrow, hinv⟩, hz⟩, hbW⟩ hpl
    obtain ⟨a2, ha2⟩ : ∃ a2, a2 = (a' && !(decide (0 < k) && decide (ahd (t' % 4294967296) m' < k))) := ⟨_, rfl⟩
    obtain ⟨l2, hl2⟩ : ∃ l2, l2 = (l' || (a' && (decide (0 < k) && decide (ahd (t' % 4294967296) m' < k)))) := ⟨_, rfl⟩
    have HA := Kept.mk (fun V : World => show Calls Tryd.prog 38 #[.agg #[.int .u32 (t' % 4294967296), .int .u32 m', .bool a', .bool l'], .int .u32 k] V (fun e w' => e = .returned (.tuple #[.agg #[.int .u32 ((t' + k) % 4294967296), .int .u32 m', .bool a2, .bool l2], .int .i64 0]) ∧ Below V.heap.size V w') from by
      have := hadv_any (t' % 4294967296) m' k a' l' (by omega) V
      rw [← ha2, ← hl2, show (t' % 4294967296 + k) % 4294967296 = (t' + k) % 4294967296 by omega] at this
      exact this)
    have HR := Kept.mk (fun V : World => cread_tot t' k m' a2 l2 hinv.out.1 hinv.out.2.1 (by omega) (by omega) V)
    obtain ⟨r0, r1, r2, r3, r4⟩ := (box5 hrow).1
    have HROW := Kept.mk hrow
    have HZ := Kept.mk hz
    have HBW := Kept.mk hbW
    have HA2 := Kept.mk ha2
    have HK := Kept.mk (And.intro hk0 hk1)
    have hlW := (Array.getElem?_eq_some_iff.1 hrow).1
    have hlW1 := (Array.getElem?_eq_some_iff.1 hz).1
    clear hrow hz hbW ha2 hl2
    gi_wp2_with fail
    refine ⟨trivial, ?_⟩
    refine (CallsIn.inRound l (callsIn_wide.2 (HA.out W))).mono ?_
    rintro e w3 ⟨rfl, hb3⟩
    have H3 := Kept.mk ((hb3.block g hlW).trans HROW.out)
    have Z3 := Kept.mk ((hb3.block (g + 1) hlW1).trans HZ.out)
    have B3 := Kept.mk hb3
    clear r0 r1 r2 r3 r4 hb3
    gi_wp2_with (refine wpListIn_store_at rfl 62 _ _ rfl g 0 rfl #[.int .u32 ((t' + k) % 4294967296), .int .u32 m', .bool a2, .bool l2] rfl 64 (ck5 t' m' a' l') #[.int .u32 ((t' + k) % 4294967296), .int .u32 m', .bool a2, .bool l2, .int .i64 t'] H3.out size_hw (by simp [ck5]) hw_one rfl ?_; intro w4 hp; have P4 := Kept.mk hp; obtain ⟨r0, r1, r2, r3, r4⟩ := (box5 hp.here).1; clear hp)
    refine ⟨trivial, ?_⟩
    refine (CallsIn.inRound l (callsIn_wide.2 (HR.out w4))).mono ?_
    rintro e w5 ⟨t3, m3, a3, l3, tt, er, rfl, hi3, hb5⟩
    have hl4 : g < w4.heap.size := (Array.getElem?_eq_some_iff.1 P4.out.here).1
    have hl41 : g + 1 < w4.heap.size := by rw [P4.out.size]; exact (Array.getElem?_eq_some_iff.1 Z3.out).1
    have H5 := Kept.mk ((hb5.block g hl4).trans P4.out.here)
    have Z5 := Kept.mk ((hb5.block (g + 1) hl41).trans ((P4.out.far (g + 1) (by omega)).trans Z3.out))
    have B5 := Kept.mk hb5
    clear r0 r1 r2 r3 r4 hb5
    gi_wp2_with (refine wpListIn_store_at rfl 64 _ _ rfl g 0 rfl #[.int .u32 (t3 % 4294967296), .int .u32 m3, .bool a3, .bool l3, .int .i64 t3] rfl 64 #[.int .u32 ((t' + k) % 4294967296), .int .u32 m', .bool a2, .bool l2, .int .i64 t'] #[.int .u32 (t3 % 4294967296), .int .u32 m3, .bool a3, .bool l3, .int .i64 t3] H5.out size_ck (by simp) ck_one rfl ?_; intro w6 hp; have P6 := Kept.mk hp; clear hp)
    have hbb : Below g W w6 := (((B3.out.mono (by omega)).trans (P4.out.below g (Nat.le_refl _))).trans (B5.out.mono (by omega))).trans (P6.out.below g (Nat.le_refl _))
    refine ⟨(((keeps_below B3.out).trans (keeps_putAt P4.out H3.out)).trans (keeps_below B5.out)).trans (keeps_putAt P6.out H5.out), hbb, ⟨⟨t3, m3, a3, l3, P6.out.here, ⟨hi3.out.1, hi3.out.2.1, fun hs => ?_⟩⟩, (P6.out.far (g + 1) (by omega)).trans Z5.out⟩, HBW.out.trans hbb⟩
    rw [sumP_snoc] at hs ⊢
    simp only at hs ⊢
    have hk := HK.out
    have hB := HB.out
    obtain ⟨i0, i1, i2⟩ := hinv.out
    obtain ⟨j1, j2, j3⟩ := i2 (by omega)
    obtain ⟨k1, k2, k3⟩ := hi3.out.2.2 (by omega)
    refine ⟨by omega, by rw [k2, j2], ?_⟩
    rw [k3, HA2.out, j3, j1, j2]
    exact ahd_step (sumP_pos pre) hk.1
  case done =>
    rintro D xs W hD hl ⟨⟨⟨t', m', a', l', hrow, hinv⟩, hz⟩, hbW⟩ hK
    obtain ⟨j1, j2, j3⟩ := hinv.out.2.2 (by rw [hl]; exact Int.le_refl _)
    rw [hl] at j1 j3
    subst j1 j2 j3
    have hlW := (Array.getElem?_eq_some_iff.1 hrow).1
    obtain ⟨r0, r1, r2, r3, r4⟩ := (box5 hrow).1
    have HZ := Kept.mk hz
    have HKD := Kept.mk hK
    have HBW := Kept.mk hbW
    clear hrow hz hK hbW
    gi_wp2_with (refine wpListIn_store_at rfl 64 _ _ rfl (g + 1) 0 rfl #[.int .u32 ((t + n) % 4294967296), .int .u32 m', .bool (a && !decide (ahd (t % 4294967296) m' < n)), .bool l', .int .i64 (t + n)] rfl 64 zck #[.int .u32 ((t + n) % 4294967296), .int .u32 m', .bool (a && !decide (ahd (t % 4294967296) m' < n)), .bool l', .int .i64 (t + n)] HZ.out size_ck (by simp [zck]) ck_one rfl ?_; intro w6 hp; have P6 := Kept.mk hp; clear hp)
    have hD6 := (keeps_putAt P6.out HZ.out).same D _ HKD.out rfl
    have hDg : g + 1 ≠ D := by have := Z2.out; omega
    refine ⟨by simp, .inl ⟨_, _, rfl, run_takeDeferred hD6, ?_⟩⟩
    refine ⟨_, results_row2 (p := 4) (u := 5) rfl _ _ (g + 1) 64 #[.int .u32 ((t + n) % 4294967296), .int .u32 m', .bool (a && !decide (ahd (t % 4294967296) m' < n)), .bool l', .int .i64 (t + n)] (0, 0) _ rfl ((World.putObj_heap_other hDg).trans P6.out.here) Tryd.underlying64 rfl (by kernel_rfl), l', rfl, ?_⟩
    rw [← HG.out]
    refine B2.out.trans (HBW.out.trans ((P6.out.below g (by omega)).trans ?_))
    exact belowK_b (w := W2) (n₀ := g) (by have := Z2.out; omega) _ D _ _ hD hD6 rfl rfl
  case stop =>
    rintro D c pre W hD hpre ⟨hf, hbW⟩ hK
    exact hf.elim
end Go.Proofs.YtakkfgkogomjbaaDoor
