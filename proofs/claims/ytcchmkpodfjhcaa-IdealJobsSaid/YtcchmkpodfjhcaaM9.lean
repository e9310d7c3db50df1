/-
  The walks of Finish, Waits, Busy.
-/
import Derived.Test.YtcchmkpodfjhcaaM8
import Derived.Test.YtcchmkpodfjhcaaVi
import Derived.Deep.AppendLies
import Derived.BigRegion
namespace Go.Proofs.Ytcchmkpodfjhcaa
open Go.RowKit
set_option linter.unusedVariables false
/-- A list and an error are told. -/
def IRes (w : World) (L : List Int) (why : Int) (e : Ending) (w' : World) : Prop :=
  ∃ B c, e = .returned (.tuple #[.slice B L.length c, .int .i64 why]) ∧ Ints w' w'.heap.size B L ∧ Below w.heap.size w w'
theorem finE_bad {xs : List Q3} (h : whyE xs ≠ 0) : finE xs = [] := by unfold finE; rw [if_neg h]
theorem finE_ok {xs : List Q3} (h : whyE xs = 0) : finE xs = dE xs := by unfold finE; rw [if_pos h]
set_option maxHeartbeats 4000000 in
theorem finish_any {w : World} {A : Option Addr} {xs : List Q3} {cap : Nat} (hx : R3 w w.heap.size A xs) :
    Calls Try.prog 56 #[.slice A xs.length cap] w (IRes w (finE xs) (whyE xs)) := by
  have HR := Kept.mk (run_any (cap := cap) hx)
  clear hx
  obtain ⟨L, hL⟩ : ∃ L, L = finE xs := ⟨_, rfl⟩
  obtain ⟨y, hy⟩ : ∃ y, y = whyE xs := ⟨_, rfl⟩
  rw [← hL, ← hy]
  have HL := Kept.mk hL
  have HY := Kept.mk hy
  clear hL hy
  go_enter Try.func56, Try.ntmps56
  go_wp2_with fail
  refine HR.out.mono ?_
  rintro e w1 (⟨hw, rfl, hb⟩ | ⟨hw, hR, pb, gd, rfl, hE⟩)
  · have hne : (y != 0) = true := by rw [HY.out]; simp [hw]
    have HZ := Kept.mk (show L = [] from HL.out.trans (finE_bad hw))
    rw [← HY.out]
    clear hw
    go_wp2
    go_ret2
    exact ⟨none, 0, by rw [HZ.out]; rfl, by rw [HZ.out]; exact Ints.nil _ _ _, hb⟩
  · have HE := Kept.mk hE
    have c4 := hE.c4
    have HZ := Kept.mk (show L = dE xs ∧ y = 0 from ⟨HL.out.trans (finE_ok hw), HY.out.trans hw⟩)
    clear hw hE
    go_wp2
    go_ret2
    rw [HZ.out.1, HZ.out.2]
    refine ⟨some ⟨gd, 0, none⟩, xs.length, by rw [dE_len]; rfl, ?_, HE.out.bw⟩
    intro h0
    rw [dE_len] at h0
    refine ⟨gd, 0, rfl, HE.out.glt h0, fun i hi => ?_⟩
    rw [dE_len] at hi
    rw [dE_at xs hi, Nat.zero_add]
    exact HE.out.done i hi
/-- Stretches in memory. -/
def RI (w : World) (B : Nat) (A : Option Addr) (l : List (Nat × Nat)) : Prop :=
  0 < l.length → ∃ b off, A = some ⟨b, off, none⟩ ∧ b < B ∧ ∀ i x, l[i]? = some x → w.cell? ⟨b, off + i * 2, none⟩ = some (.int .i64 (x.1 : Int)) ∧ w.cell? ⟨b, off + i * 2 + 1, none⟩ = some (.int .i64 (x.2 : Int))
theorem RI.below {w w' : World} {B : Nat} {A : Option Addr} {l : List (Nat × Nat)} (h : RI w B A l) (hb : Below B w w') : RI w' B A l := fun h0 => by
  obtain ⟨b, off, e, h1, h2⟩ := h h0
  refine ⟨b, off, e, h1, fun i x hi => ?_⟩
  rw [hb.cell (p := ⟨b, off + i * 2, none⟩) h1, hb.cell (p := ⟨b, off + i * 2 + 1, none⟩) h1]
  exact h2 i x hi
theorem RI.mono {w : World} {B B' : Nat} {A : Option Addr} {l : List (Nat × Nat)} (h : RI w B A l) (hB : B ≤ B') : RI w B' A l := fun h0 => by
  obtain ⟨b, off, e, h1, h2⟩ := h h0
  exact ⟨b, off, e, by omega, h2⟩
theorem ivC_at : ∀ (l : List (Nat × Nat)) (j o : Nat) (x : Nat × Nat), l[j]? = some x → o < 2 → (ivC l)[j * 2 + o]? = some (.int .i64 ((if o = 0 then x.1 else x.2 : Nat) : Int))
  | [], _, _, _, h, _ => by simp at h
  | y :: r, 0, o, x, h, ho => by
    simp only [List.getElem?_cons_zero, Option.some.injEq] at h
    subst h
    rcases (show o = 0 ∨ o = 1 by omega) with rfl | rfl <;> rfl
  | y :: r, j + 1, o, x, h, ho => by
    simp only [List.getElem?_cons_succ] at h
    have e : (j + 1) * 2 + o = j * 2 + o + 2 := by omega
    rw [e]
    show (ivC r)[j * 2 + o]? = _
    exact ivC_at r j o x h ho
theorem RI.of_own {w : World} {base n c : Nat} {A : Option Addr} {l : List (Nat × Nat)} (h : w.ownsRow base 110 2 (.slice A n c) n (ivC l)) : n = l.length ∧ RI w w.heap.size A l := by
  have hl : n = l.length := by have := h.1; rw [ivC_len] at this; omega
  refine ⟨hl, fun h0 => ?_⟩
  obtain ⟨g, cap, e, _, hg⟩ := h.form (by omega)
  cases e
  refine ⟨g, 0, rfl, hg, fun i x hi => ?_⟩
  have hi' : i < l.length := by
    rcases Nat.lt_or_ge i l.length with h | h
    · exact h
    · rw [List.getElem?_eq_none h] at hi; cases hi
  have a := h.cellAt (i * 2) (by omega)
  have b := h.cellAt (i * 2 + 1) (by omega)
  rw [Nat.zero_add]
  have c0 := ivC_at l i 0 x hi (by omega)
  have c1 := ivC_at l i 1 x hi (by omega)
  rw [Nat.add_zero] at c0
  exact ⟨a.trans c0, b.trans c1⟩
noncomputable def busyE (xs : List Q3) : List (Nat × Nat) := if whyE xs = 0 then (sE xs).busy else []
def BRes (w : World) (L : List (Nat × Nat)) (why : Int) (e : Ending) (w' : World) : Prop :=
  ∃ B c, e = .returned (.tuple #[.slice B L.length c, .int .i64 why]) ∧ RI w' w'.heap.size B L ∧ Below w.heap.size w w'
set_option maxHeartbeats 4000000 in
theorem busy_any {w : World} {A : Option Addr} {xs : List Q3} {cap : Nat} (hx : R3 w w.heap.size A xs) :
    Calls Try.prog 60 #[.slice A xs.length cap] w (BRes w (busyE xs) (whyE xs)) := by
  have HR := Kept.mk (run_any (cap := cap) hx)
  clear hx
  obtain ⟨L, hL⟩ : ∃ L, L = busyE xs := ⟨_, rfl⟩
  obtain ⟨y, hy⟩ : ∃ y, y = whyE xs := ⟨_, rfl⟩
  rw [← hL, ← hy]
  have HL := Kept.mk hL
  have HY := Kept.mk hy
  clear hL hy
  go_enter Try.func60, Try.ntmps60
  go_wp2_with fail
  refine HR.out.mono ?_
  rintro e w1 (⟨hw, rfl, hb⟩ | ⟨hw, hR, pb, gd, rfl, hE⟩)
  · have hne : (y != 0) = true := by rw [HY.out]; simp [hw]
    have HZ := Kept.mk (show L = [] from HL.out.trans (show busyE xs = [] by unfold busyE; rw [if_neg hw]))
    rw [← HY.out]
    clear hw
    go_wp2
    go_ret2
    exact ⟨none, 0, by rw [HZ.out]; rfl, by rw [HZ.out]; exact fun h => absurd h (by simp), hb⟩
  · have HE := Kept.mk hE
    have HZ := Kept.mk (show L = (sE xs).busy ∧ y = 0 from ⟨HL.out.trans (by unfold busyE; rw [if_pos hw]), HY.out.trans hw⟩)
    obtain ⟨Ab, cb, c5, ho⟩ := hE.busy
    have HO := Kept.mk ho
    clear hw hE ho
    obtain ⟨nb, hnb⟩ : ∃ nb, nb = (sE xs).busy.length := ⟨_, rfl⟩
    rw [← hnb] at c5
    have HNB := Kept.mk hnb
    clear hnb
    go_wp2
    go_ret2
    rw [HZ.out.1, HZ.out.2]
    exact ⟨Ab, cb, by rw [← HNB.out]; rfl, (RI.of_own HO.out).2, HE.out.bw⟩
noncomputable def wtE (xs : List Q3) : List Int := if whyE xs = 0 then waitE (dE xs) xs else []
theorem info_i64W : (Try.prog.info? 2).map (fun i => (i.zero, i.size, i.bytes)) = some (some (.int .i64 0), 1, 8) := by kernel_rfl
theorem waitE_take {f : List Int} {xs : List Q3} {k : Nat} {t : Int} {q : Q3} (h1 : f[k]? = some t) (h2 : xs[k]? = some q) : (waitE f xs).take (k + 1) = (waitE f xs).take k ++ [t - q.b - q.c] := by
  rw [List.take_add_one, waitE_at h1 h2]; rfl
set_option maxRecDepth 100000 in
set_option maxHeartbeats 8000000 in
theorem waits_any {w : World} {A : Option Addr} {xs : List Q3} {cap : Nat} (hx : R3 w w.heap.size A xs) :
    Calls Try.prog 58 #[.slice A xs.length cap] w (IRes w (wtE xs) (whyE xs)) := by
  have HR := Kept.mk (run_any (cap := cap) hx)
  have HI := Kept.mk hx
  obtain ⟨j0, hj0, hj1, hj2, hj3⟩ := info_parts info_i64W
  clear hx
  obtain ⟨L, hL⟩ : ∃ L, L = wtE xs := ⟨_, rfl⟩
  obtain ⟨y, hy⟩ : ∃ y, y = whyE xs := ⟨_, rfl⟩
  rw [← hL, ← hy]
  have HL := Kept.mk hL
  have HY := Kept.mk hy
  clear hL hy
  go_enter Try.func58, Try.ntmps58
  go_wp2_with fail
  refine HR.out.mono ?_
  rintro e w1 (⟨hw, rfl, hb⟩ | ⟨hw, hR, pb, gd, rfl, hE⟩)
  · have hne : (y != 0) = true := by rw [HY.out]; simp [hw]
    have HZ := Kept.mk (show L = [] from HL.out.trans (show wtE xs = [] by unfold wtE; rw [if_neg hw]))
    rw [← HY.out]
    clear hw
    go_wp2
    go_ret2
    exact ⟨none, 0, by rw [HZ.out]; rfl, by rw [HZ.out]; exact Ints.nil _ _ _, hb⟩
  · have HE := Kept.mk hE
    have HZ := Kept.mk (show L = waitE (dE xs) xs ∧ y = 0 from ⟨HL.out.trans (by unfold wtE; rw [if_pos hw]), HY.out.trans hw⟩)
    have HRT := Kept.mk hR
    have HTM := Kept.mk (whyE_ok.1 hw).2
    have hlen := hR.len
    clear hw hE hR HR
    go_wp2_with fail
    go_loopw [6, 19] (fun v t wr => ∃ (k : Nat) (Ao : Option Addr) (co : Nat), k ≤ xs.length ∧ t = .int .i64 k ∧ v = .slice Ao k co ∧ wr.ownsRow w1.heap.size 2 1 (.slice Ao k co) k (((waitE (dE xs) xs).take k).map (Value.int .i64)) ∧ Below w1.heap.size w1 wr) (fun _ t _ => xs.length - (intOf t).toNat)
    case atStart => exact ⟨0, none, 0, by omega, rfl, rfl, ⟨rfl, .inl ⟨rfl, rfl⟩⟩, Below.refl _ _⟩
    case round =>
      obtain ⟨k, Ao, co, hk, rfl, rfl, hO, hB⟩ := hrel
      by_cases hlt : k < xs.length
      · have ik : (k : Int) < (xs.length : Int) := by omega
        have hBw : Below w.heap.size w wr := HE.out.bw.trans (hB.mono HE.out.bw.size)
        obtain ⟨b, off, rfl, hbB, hc⟩ := (HI.out.below hBw) (by omega)
        obtain ⟨q, hq, hqo, hqa, hqb, hqc⟩ := HRT.out.at hlt
        obtain ⟨e1, e2, e3⟩ := hc k q hq
        have hdk : (dE xs)[k]? = some ((sE xs).done k : Int) := dE_at xs hlt
        have HT := Kept.mk (waitE_take hdk hq)
        have hdn := HRT.out.done hlt
        have hp4 : wr.cell? ⟨pb, 4, none⟩ = some (.slice (some ⟨gd, 0, none⟩) xs.length xs.length) := (hB.cell (p := ⟨pb, 4, none⟩) HE.out.pl.2).trans HE.out.c4
        have hdc : wr.cell? ⟨gd, k, none⟩ = some (.int .i64 ((sE xs).done k : Int)) := (hB.cell (p := ⟨gd, k, none⟩) (HE.out.glt (by omega))).trans (HE.out.done k hlt)
        obtain ⟨qa, qb, qc⟩ := q
        simp only at e1 e2 e3 hqc hqa hqb HT
        obtain ⟨t, ht⟩ : ∃ t : Int, t = ((sE xs).done k : Int) := ⟨_, rfl⟩
        rw [← ht] at hdc HT
        have b1 : 0 ≤ qb := by omega
        have b2 : qb ≤ 4503599627370496 := hqo.b1
        have b3 : 1 ≤ qc := hqo.c0
        have b4 : qc ≤ 1099511627776 := hqo.c1
        have b5 : 0 ≤ t := by omega
        have b6 : t ≤ 9007199254740992 := by omega
        have HOK := Kept.mk hO
        have HBK := Kept.mk hB
        have HBW := Kept.mk hBw
        have hxl : wr.heap.size < (wr.alloc (.cells #[.int .i64 qa, .int .i64 qb, .int .i64 qc] 108)).heap.size := by simp
        have HXC := Kept.mk (show (wr.alloc (.cells #[.int .i64 qa, .int .i64 qb, .int .i64 qc] 108)).cell? ⟨wr.heap.size, 1, none⟩ = some (.int .i64 qb) ∧ (wr.alloc (.cells #[.int .i64 qa, .int .i64 qb, .int .i64 qc] 108)).cell? ⟨wr.heap.size, 2, none⟩ = some (.int .i64 qc) from ⟨cell_of_row _ _ 1 _ _ _ (heap_alloc_new _ _), cell_of_row _ _ 2 _ _ _ (heap_alloc_new _ _)⟩)
        clear hc hq hqo hqa hqb hqc hdk hdn ht hO hB hBw
        go_upto_region 8 with fail
        obtain ⟨wa, hwa⟩ : ∃ wa, wa = wr.alloc (.cells #[.int .i64 qa, .int .i64 qb, .int .i64 qc] 108) := ⟨_, rfl⟩
        obtain ⟨xb, hxb⟩ : ∃ xb, xb = wr.heap.size := ⟨_, rfl⟩
        rw [← hwa, ← hxb]
        have x1 : wa.cell? ⟨xb, 1, none⟩ = some (.int .i64 qb) := by rw [hwa, hxb]; exact HXC.out.1
        have x2 : wa.cell? ⟨xb, 2, none⟩ = some (.int .i64 qc) := by rw [hwa, hxb]; exact HXC.out.2
        have p4 : wa.cell? ⟨pb, 4, none⟩ = some (.slice (some ⟨gd, 0, none⟩) xs.length xs.length) := by rw [hwa]; exact ((below_box wr _).cell (p := ⟨pb, 4, none⟩) (cell_lt hp4)).trans hp4
        have dk : wa.cell? ⟨gd, k, none⟩ = some (.int .i64 t) := by rw [hwa]; exact ((below_box wr _).cell (p := ⟨gd, k, none⟩) (cell_lt hdc)).trans hdc
        have HWA := Kept.mk (show Below w1.heap.size w1 wa by rw [hwa]; exact HBK.out.trans ((below_box wr _).mono HBK.out.size))
        have HOA := Kept.mk (show wa.ownsRow w1.heap.size 2 1 (.slice Ao k co) k (((waitE (dE xs) xs).take k).map (Value.int .i64)) by rw [hwa]; exact HOK.out.alloc _)
        obtain ⟨u, hu⟩ : ∃ u, u = t - qb := ⟨_, rfl⟩
        obtain ⟨v, hv⟩ : ∃ v, v = u - qc := ⟨_, rfl⟩
        have wr1 : IntKind.i64.wrap (t - qb) = u := by simp [IntKind.wrap, IntKind.bits, IntKind.signed]; omega
        have wr2 : IntKind.i64.wrap (u - qc) = v := by simp [IntKind.wrap, IntKind.bits, IntKind.signed]; omega
        have HO5 := Kept.mk (show ((wa.alloc (.cells #[.int .i64 v] 2)).drew).ownsRow w1.heap.size 2 1 (.slice Ao k co) k (((waitE (dE xs) xs).take k).map (Value.int .i64)) from HOA.out.alloc _)
        have HS5 := Kept.mk (show w1.heap.size ≤ ((wa.alloc (.cells #[.int .i64 v] 2)).drew).heap.size by show _ ≤ (wa.alloc _).heap.size; have := HWA.out.size; simp; omega)
        have HN5 := Kept.mk (show ∀ j u, [Value.int .i64 v][j]? = some u → ((wa.alloc (.cells #[.int .i64 v] 2)).drew).cell? ((⟨wa.heap.size, 0, none⟩ : Addr).add j) = some u from World.news_of_block (cs := #[.int .i64 v]) (heap_alloc_new wa _))
        rw [← hu, ← hv] at HT
        have FIN := Kept.mk (fun (g6 cap6 : Nat) (w6 : World) (ho : w6.ownsRow w1.heap.size 2 1 (.slice (some ⟨g6, 0, none⟩) (k + 1) cap6) (k + 1) (((waitE (dE xs) xs).take k).map (Value.int .i64) ++ [.int .i64 v])) (hg : ((wa.alloc (.cells #[.int .i64 v] 2)).drew).grownBy w6 (Value.slice Ao k co).ownBlock) => show w6.ownsRow w1.heap.size 2 1 (.slice (some ⟨g6, 0, none⟩) (k + 1) cap6) (k + 1) (((waitE (dE xs) xs).take (k + 1)).map (Value.int .i64)) ∧ Below w1.heap.size w1 w6 from
          ⟨by rw [HT.out, List.map_append]; exact ho, (HWA.out.trans (((below_box wa _).drewN 1).mono HWA.out.size)).grown hg HS5.out fun j hj => (HO5.out.lt j hj).1⟩)
        clear hv hu hwa hxb hp4 hdc hxl HXC HOK HT e1 e2 e3
        go_region_law (first
          | (refine step_append_lies _ rfl (.tmp 24) (.tmp 38) 85 rfl w1.heap.size 2 j0 (.int .i64 0) 1 8 Try.underlying85 hj0 hj1 hj2 hj3 rfl (by decide) (.slice Ao k co) k (((waitE (dE xs) xs).take k).map (Value.int .i64)) rfl HO5.out ⟨wa.heap.size, 0, none⟩ 1 1 [.int .i64 v] rfl rfl HN5.out (by simp [Value.oneCell']) (by decide) (by simp only [maxLen]; omega) (by omega) HS5.out _ rfl ?_; intro g6 cap6 w6 own6 grow6 _ _; have HOW6 := Kept.mk own6; have HG6 := Kept.mk grow6; clear own6 grow6))
        all_goals go_wp2_with fail
        all_goals go_roundw
        all_goals first
          | exact ⟨k + 1, _, _, by omega, by go_num, rfl, (FIN.out _ _ _ HOW6.out HG6.out).1, (FIN.out _ _ _ HOW6.out HG6.out).2⟩
          | (simp [intOf]; omega)
      · have hke : k = xs.length := by omega
        have hl : (waitE (dE xs) xs).length = k := by rw [waitE_len, dE_len]; omega
        rw [List.take_of_length_le (by omega)] at hO
        have HO := Kept.mk hO
        have HLK := Kept.mk hl
        have HK := Kept.mk hke
        have ik : decide ((k : Int) < (xs.length : Int)) = false := decide_eq_false (by omega)
        clear hO hl hke
        go_wp2
        go_ret2
        rw [HZ.out.1, HZ.out.2]
        exact ⟨Ao, co, by rw [HLK.out]; rfl, (Ints.of_own HO.out).2, HE.out.bw.trans (hB.mono HE.out.bw.size)⟩
end Go.Proofs.Ytcchmkpodfjhcaa
