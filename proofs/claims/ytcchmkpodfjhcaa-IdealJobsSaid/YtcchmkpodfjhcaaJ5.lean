/-
  The walk of ideal.Jobs.
-/
import Derived.Test.YtcchmkpodfjhcaaJ4
import Derived.Test.YtcchmkpodfjhcaaCalm2
namespace Go.Proofs.Ytcchmkpodfjhcaa
open Go.RowKit Go.Shelf
set_option linter.unusedVariables false
set_option linter.unusedSimpArgs false
attribute [local go_sem] Oper.semAt_some
theorem info_pc : (Try.prog.info? 108).map (fun i => (i.zero, i.size, i.bytes)) = some (some (.agg #[.int .i64 0, .int .i64 0, .int .i64 0]), 3, 24) := by kernel_rfl
theorem info_i64J : (Try.prog.info? 2).map (fun i => (i.zero, i.size, i.bytes)) = some (some (.int .i64 0), 1, 8) := by kernel_rfl
/-- Tasks in memory. -/
def RT (w : World) (B : Nat) (A : Option Addr) (ts : List Tk) : Prop :=
  0 < ts.length → ∃ b off, A = some ⟨b, off, none⟩ ∧ b < B ∧ ∀ j x o u, ts[j]? = some x → x.arr[o]? = some u → w.cell? ⟨b, off + j * 10 + o, none⟩ = some u
theorem RT.below {w w' : World} {B : Nat} {A : Option Addr} {ts : List Tk} (h : RT w B A ts) (hb : Below B w w') : RT w' B A ts := fun h0 => by
  obtain ⟨b, off, e, h1, h2⟩ := h h0
  exact ⟨b, off, e, h1, fun j x o u hj ho => (hb.cell (p := ⟨b, off + j * 10 + o, none⟩) h1).trans (h2 j x o u hj ho)⟩
def jallK (ts : List Tk) (ms : List QM) (now : Int) (k : Nat) : List J4 := (List.range k).flatMap fun (i : Nat) => jres (ts[i]?.getD default).p (i : Int) ms now
theorem jallK_succ (ts : List Tk) (ms : List QM) (now : Int) {k : Nat} {t : Tk} (h : ts[k]? = some t) : jallK ts ms now (k + 1) = jallK ts ms now k ++ jres t.p k ms now := by
  unfold jallK
  rw [List.range_succ, List.flatMap_append, List.flatMap_singleton, h]; rfl
theorem jres_len (P i : Int) (ms : List QM) (now : Int) : (jres P i ms now).length ≤ ms.length := by
  have h1 := (jrunK_len P i ms ms.length (Nat.le_refl _)).1
  rw [jrunK_all] at h1
  have h2 : (jres P i ms now).length ≤ (jpass (jrun P i ms) now).l.length := List.length_filter_le _ _
  rw [jpass_len] at h2
  omega
theorem jallK_len (ts : List Tk) (ms : List QM) (now : Int) : ∀ k, (jallK ts ms now k).length ≤ k * ms.length
  | 0 => Nat.zero_le _
  | k + 1 => by
    have h1 := jallK_len ts ms now k
    have h2 := jres_len (ts[k]?.getD default).p k ms now
    unfold jallK at h1 ⊢
    rw [List.range_succ, List.flatMap_append, List.flatMap_singleton, List.length_append, Nat.succ_mul]
    omega
def jallL (ts : List Tk) (ms : List QM) (now : Int) : List J4 := if ordB ms now = true then jallK ts ms now ts.length else []
def jallW (ms : List QM) (now : Int) : Int := if ordB ms now = true then 0 else 2
/-- What Jobs leaves. -/
def JRes (w : World) (L : List J4) (why : Int) (e : Ending) (w' : World) : Prop :=
  ∃ A1 n1 A2 n2, e = .returned (.tuple #[.slice A1 L.length n1, .slice A2 L.length n2, .int .i64 why]) ∧ R3 w' w'.heap.size A1 (L.map fun x => ⟨x.a, x.b, x.c⟩) ∧ Ints w' w'.heap.size A2 (L.map fun x => x.d) ∧ Below w.heap.size w w'
theorem jobs_any2 (t : Tk) (i now : Int) (Am : Option Addr) {ms : List QM} (cm : Nat) (w : World) (hm : RM w w.heap.size Am ms) :
    Calls Try.prog 93 #[.agg t.arr, .int .i64 i, .slice Am ms.length cm, .int .i64 now] w fun e w' => ∃ bm bt bk bn, e = .returned (.func (.func 104) #[] #[.pointer (some ⟨bm, 0, none⟩), .pointer (some ⟨bt, 0, none⟩), .pointer (some ⟨bk, 0, none⟩), .pointer (some ⟨bn, 0, none⟩)]) ∧ JIn w' bm bt bk bn t.p i now ms ∧ Below w.heap.size w w' := by
  refine (jobs_any t i now Am ms.length cm w).mono ?_
  rintro e w2 ⟨rfl, hw2⟩
  have h := jobs_in_of hm hw2
  exact ⟨_, _, _, _, rfl, h.1, h.2.1⟩
theorem KpJ.alloc {c1 c2 : Nat} {W : World} (h1 : c1 < W.heap.size) (h2 : c2 < W.heap.size) (o : Obj) : KpJ c1 c2 W (W.alloc o) := by
  have hb := below_box W o
  exact ⟨hb.size, fun i p hi _ _ _ _ _ => (hb.block i (lt_of_block hi)).trans hi, .inl (ob_block (hb.block c1 h1)), .inl (ob_block (hb.block c2 h2))⟩
theorem jobs_stops (n : Nat) (hn : 1 ≤ n) (bm bt bk bn c1 c2 : Nat) (P i now : Int) (ms : List QM) (hms : ms.length ≤ 400) (w : World) (hIn : JIn w bm bt bk bn P i now ms) (hc1 : c1 < w.heap.size) (hc2 : c2 < w.heap.size) (ho1 : ∀ g, ob w c1 = some g → g < w.heap.size) (ho2 : ∀ g, ob w c2 = some g → g < w.heap.size) :
    SeqStopsK Fence.wide n Try.prog 104 #[.pointer (some ⟨bm, 0, none⟩), .pointer (some ⟨bt, 0, none⟩), .pointer (some ⟨bk, 0, none⟩), .pointer (some ⟨bn, 0, none⟩)] encJ (KpJ c1 c2) (fun l => l = jres P i ms now) (fun _ => True) 4096 w := fun l J Jx W hW hJ hJx hY h0 => by
  have hs := hW.size
  have e1 := ob_block (hW.block c1 hc1)
  have e2 := ob_block (hW.block c2 hc2)
  exact jobs_in n hn l bm bt bk bn c1 c2 P i now ms hms J Jx W hJ (hIn.below hW) (by omega) (by omega) (fun g e => by rw [e1] at e; have := ho1 g e; omega) (fun g e => by rw [e2] at e; have := ho2 g e; omega) hY h0
/-- Calls that a function has put off: all of them done with. -/
structure DS (N : Nat) (Ds : List Nat) (w : World) : Prop where
  nd : Ds.Nodup
  at' : ∀ D ∈ Ds, N ≤ D ∧ w.heap[D]? = some (.deferred (some []))
def dsOf (Ds : List Nat) : List Deferred := Ds.map fun D => { target := .collected D, args := #[] }
theorem DS.leaves {F : Fence} {n : Nat} {P : Program} {fn : Func} {tmps : Array Value} {R : Ending → World → Prop} {N : Nat} {Z : World → Prop} (hZ : ∀ W D, Z W → N ≤ D → W.heap[D]? = some (.deferred (some [])) → Z (W.putObj D (.deferred none))) (hR : ∀ W, Z W → LeavesIn F n P fn tmps R [] .returning W) :
    ∀ (Ds : List Nat) (w : World), DS N Ds w → Z w → LeavesInM F n P fn tmps R (dsOf Ds) .returning w
  | [], w, _, hz => hR w hz
  | D :: r, w, h, hz => by
    obtain ⟨h1, h2⟩ := h.at' D (by simp)
    have hnd := List.nodup_cons.1 h.nd
    refine ⟨by simp, .inl ⟨D, _, rfl, run_takeDeferred h2, DS.leaves hZ hR r _ ⟨hnd.2, fun D' hD' => ?_⟩ (hZ w D hz h1 h2)⟩⟩
    obtain ⟨h3, h4⟩ := h.at' D' (by simp [hD'])
    refine ⟨h3, ?_⟩
    have hne : D' ≠ D := fun e => hnd.1 (e ▸ hD')
    rw [(grownBy_putObj' w D (.deferred none)).block D' (lt_of_block h4) (by simp; omega)]
    exact h4
theorem DS.kept {N : Nat} {Ds : List Nat} {W W' : World} (h : DS N Ds W) (hk : KeepsOthers W W') : DS N Ds W' := ⟨h.nd, fun D hD => ⟨(h.at' D hD).1, hk.same D _ (h.at' D hD).2 rfl⟩⟩
set_option maxRecDepth 100000 in
set_option maxHeartbeats 16000000 in
theorem jobsall_any {w : World} (a1 a2 a3 : Int) (v4 v5 : Value) (At Am : Option Addr) (ts : List Tk) (ms : List QM) (ct cm : Nat) (now : Int) (hts : RT w w.heap.size At ts) (hms : RM w w.heap.size Am ms) (hl : ms.length ≤ 400) (hlt : ts.length ≤ 40) :
    Calls Try.prog 66 #[.agg #[.int .i64 a1, .int .i64 a2, .int .i64 a3, .slice At ts.length ct, v4, v5], .slice Am ms.length cm, .int .i64 now] w (JRes w (jallL ts ms now) (jallW ms now)) := by
  obtain ⟨i0, hi0, hz0, hz1, hz2⟩ := info_parts info_pc
  obtain ⟨j0, hj0, hj1, hj2, hj3⟩ := info_parts info_i64J
  have HO := Kept.mk (fun (W : World) (hb : Below w.heap.size w W) => ordered_any Am ms cm now W ((hms.below hb).mono hb.size) (by omega))
  have HTS := Kept.mk hts
  have HMS := Kept.mk hms
  obtain ⟨L, hL⟩ : ∃ L, L = jallL ts ms now := ⟨_, rfl⟩
  obtain ⟨y, hy⟩ : ∃ y, y = jallW ms now := ⟨_, rfl⟩
  rw [← hL, ← hy]
  have HL := Kept.mk hL
  have HY := Kept.mk hy
  clear hts hms hL hy
  refine (callsIn_wide (n := 4)).1 ?_
  refine callsIn_of_wp_marks Try.func66 rfl trivial ?_ rfl
  simp only [Try.ntmps66, List.size_toArray, List.length_cons, List.length_nil, Nat.reduceAdd, Nat.reduceSub, Array.replicate_succ, Array.replicate_zero, List.push_toArray, List.append_toArray, List.nil_append, List.cons_append]
  refine wpIn_wide.2 ?_
  go_wp2_with fail
  refine (HO.out _ (below_box w _)).mono ?_
  rintro e w1 ⟨rfl, hb1⟩
  have hcfg : (w.alloc (.cells #[.int .i64 a1, .int .i64 a2, .int .i64 a3, .slice At ts.length ct, v4, v5] 101)).heap[w.heap.size]? = _ := heap_alloc_new w _
  have hcf1 := (hb1.block w.heap.size (by simp)).trans hcfg
  have c3 : w1.cell? ⟨w.heap.size, 3, none⟩ = some (.slice At ts.length ct) := cell_of_row _ _ 3 _ _ _ hcf1
  have hw1 : Below w.heap.size w w1 := (below_box w _).trans (hb1.mono (by simp))
  have hsz1 : w.heap.size + 1 ≤ w1.heap.size := by have := hb1.size; simp at this; omega
  clear hcfg hcf1 hb1 HO
  cases ho : ordB ms now with
  | false =>
    have HZ := Kept.mk (show L = [] ∧ y = 2 from ⟨by rw [HL.out]; unfold jallL; rw [ho]; rfl, by rw [HY.out]; unfold jallW; rw [ho]; rfl⟩)
    clear ho
    go_wp2
    refine ⟨.tuple #[.slice none 0 0, .slice none 0 0, .int .i64 2], by simp [results, Try.f66, go_sem], ?_⟩
    rw [HZ.out.1, HZ.out.2]
    exact ⟨none, 0, none, 0, rfl, R3.nil _ _ _, Ints.nil _ _ _, hw1⟩
  | true =>
    have HZ := Kept.mk (show L = jallK ts ms now ts.length ∧ y = 0 from ⟨by rw [HL.out]; unfold jallL; rw [if_pos ho], by rw [HY.out]; unfold jallW; rw [if_pos ho]⟩)
    clear ho
    go_upto_region 5 with fail
    obtain ⟨W5, hW5⟩ : ∃ W5, W5 = ((w1.alloc (.cells #[.slice none 0 0] 84)).alloc (.cells #[.slice none 0 0] 85)) := ⟨_, rfl⟩
    obtain ⟨c1, hc1⟩ : ∃ c1, c1 = w1.heap.size := ⟨_, rfl⟩
    obtain ⟨c2, hc2⟩ : ∃ c2, c2 = w1.heap.size + 1 := ⟨_, rfl⟩
    obtain ⟨bc, hbc⟩ : ∃ bc, bc = w.heap.size := ⟨_, rfl⟩
    obtain ⟨N, hN⟩ : ∃ N, N = w1.heap.size := ⟨_, rfl⟩
    obtain ⟨R, hR⟩ : ∃ R, R = w1.heap.size + 2 := ⟨_, rfl⟩
    have hJ0 : JB N R c1 c2 w1 W5 [] := by
      have z1 : (w1.alloc (.cells #[.slice none 0 0] 84)).heap.size = w1.heap.size + 1 := by simp
      have b1 := below_box w1 (.cells #[.slice none 0 0] 84)
      have b2 := below_box (w1.alloc (.cells #[.slice none 0 0] 84)) (.cells #[.slice none 0 0] 85)
      rw [← hW5] at b2
      have k1 := (b2.mono (by rw [z1]; exact Nat.le_refl _) : Below (w1.heap.size + 1) _ _)
      have h1 : W5.heap[c1]? = some (.cells #[.slice none 0 0] 84) := by
        rw [hc1, k1.block _ (by omega)]; exact heap_alloc_new _ _
      have h2 : W5.heap[c2]? = some (.cells #[.slice none 0 0] 85) := by
        rw [hc2, hW5, ← z1]; exact heap_alloc_new _ _
      refine ⟨by omega, ⟨none, 0, none, 0, cell_of_row _ _ 0 _ _ _ h1, cell_of_row _ _ 0 _ _ _ h2, ⟨rfl, .inl ⟨rfl, rfl⟩⟩, ⟨rfl, .inl ⟨rfl, rfl⟩⟩, fun g e => by simp [Value.ownBlock] at e⟩, ⟨frozen_of_row _ _ 0 _ _ h1, frozen_of_row _ _ 0 _ _ h2⟩, by rw [hW5, hR]; simp, ?_⟩
      rw [hN]; exact b1.trans (k1.mono (by omega))
    have hc35 : W5.cell? ⟨w.heap.size, 3, none⟩ = some (.slice At ts.length ct) := (hJ0.bw.cell (p := ⟨w.heap.size, 3, none⟩) (by show w.heap.size < N; omega)).trans c3
    rw [← hW5, ← hc2, ← hc1, ← hbc]
    rw [← hbc] at hc35
    have HJ0 := Kept.mk hJ0
    have HW1 := Kept.mk (fun (W : World) (hb : Below N w1 W) => show Below w.heap.size w W from hw1.trans (hb.mono (by omega)))
    have hNR : N ≤ R := by omega
    clear hW5 hJ0 c3 hsz1 hw1 hbc hc1 hc2 hN hR
    go_wp2_with fail
    refine wp_loop (fun a W => ∃ (k : Nat) (Ds : List Nat) (u11 u12 u13 u21 u22 u23 u24 u25 u26 u27 u28 u29 u30 u31 u32 u33 u34 u35 u36 u37 u38 u39 u40 u41 u42 u43 u44 : Value), k ≤ ts.length ∧ a = { tmps := #[.agg #[.int .i64 a1, .int .i64 a2, .int .i64 a3, .slice At ts.length ct, v4, v5], .slice Am ms.length cm, .int .i64 now, .pointer (some ⟨bc, 0, none⟩), undef, undef, .slice none 0 0, .slice none 0 0, .int .i64 0, .pointer (some ⟨c1, 0, none⟩), .pointer (some ⟨c2, 0, none⟩), u11, u12, u13, .slice Am ms.length cm, .int .i64 now, .bool true, .bool false, .pointer (some ⟨bc, 3, none⟩), .slice At ts.length ct, .int .i64 (ts.length : Int), u21, u22, u23, u24, u25, u26, u27, u28, u29, u30, u31, u32, u33, u34, u35, u36, u37, u38, u39, u40, u41, u42, u43, u44], defers := dsOf Ds } ∧ u21 = .int .i64 (k : Int) ∧ JB N R c1 c2 w1 W (jallK ts ms now k) ∧ DS N Ds W) (fun a _ => ts.length - (intOf (a.tmps.getD 21 undef)).toNat) ?_ ?_
    · exact ⟨0, [], _, _, _, _, _, _, _, _, _, _, _, _, _, _, _, _, _, _, _, _, _, _, _, _, _, _, _, Nat.zero_le _, rfl, rfl, HJ0.out, ⟨List.nodup_nil, fun D h => by cases h⟩⟩
    rintro a W ⟨k, Ds, u11, u12, u13, u21, u22, u23, u24, u25, u26, u27, u28, u29, u30, u31, u32, u33, u34, u35, u36, u37, u38, u39, u40, u41, u42, u43, u44, hk, rfl, rfl, hJB, hDS⟩
    clear HJ0 hc35
    by_cases hlt' : k < ts.length
    · have ik : (k : Int) < (ts.length : Int) := by omega
      obtain ⟨b, off, rfl, hbB, hc⟩ := HTS.out.below (HW1.out W hJB.bw) (by omega)
      obtain ⟨t, ht⟩ : ∃ t, ts[k]? = some t := ⟨ts[k], List.getElem?_eq_getElem hlt'⟩
      have HSUC := Kept.mk (jallK_succ ts ms now ht)
      have hlen := jallK_len ts ms now k
      have hlen2 : (jallK ts ms now k).length ≤ 16000 := by
        have : k * ms.length ≤ 40 * 400 := Nat.mul_le_mul (by omega) hl
        omega
      obtain ⟨ps, hps⟩ : ∃ ps, ps = jallK ts ms now k := ⟨_, rfl⟩
      rw [← hps] at hJB hlen2 HSUC
      obtain ⟨tk, tp, t2, t3, t4, t5, t6, t7, t8, t9⟩ := t
      have e0 := hc k _ 0 _ ht rfl
      have e1 := hc k _ 1 _ ht rfl
      have e2 := hc k _ 2 _ ht rfl
      have e3 := hc k _ 3 _ ht rfl
      have e4 := hc k _ 4 _ ht rfl
      have e5 := hc k _ 5 _ ht rfl
      have e6 := hc k _ 6 _ ht rfl
      have e7 := hc k _ 7 _ ht rfl
      have e8 := hc k _ 8 _ ht rfl
      have e9 := hc k _ 9 _ ht rfl
      rw [Nat.add_zero] at e0
      have HJB := Kept.mk hJB
      have HDS := Kept.mk hDS
      clear hc ht hlen hps hJB hDS
      go_upto_region 8 with fail
      obtain ⟨Wa, hWa⟩ : ∃ Wa, Wa = W.alloc (.cells #[.int .u8 tk, .int .i64 tp, .int .i64 t2, .int .i64 t3, .int .i64 t4, .int .i64 t5, .int .i64 t6, .int .i64 t7, .int .i64 t8, .int .i64 t9] 152) := ⟨_, rfl⟩
      obtain ⟨bx12, hbx⟩ : ∃ bx12, bx12 = W.heap.size := ⟨_, rfl⟩
      rw [← hWa, ← hbx]
      have hXB : Wa.heap[bx12]? = some (.cells #[.int .u8 tk, .int .i64 tp, .int .i64 t2, .int .i64 t3, .int .i64 t4, .int .i64 t5, .int .i64 t6, .int .i64 t7, .int .i64 t8, .int .i64 t9] 152) := by rw [hWa, hbx]; exact heap_alloc_new _ _
      have y0 : Wa.cell? ⟨bx12, 0, none⟩ = some (.int .u8 tk) := cell_of_row _ _ 0 _ _ _ hXB
      have y1 : Wa.cell? ⟨bx12, 1, none⟩ = some (.int .i64 tp) := cell_of_row _ _ 1 _ _ _ hXB
      have y2 : Wa.cell? ⟨bx12, 2, none⟩ = some (.int .i64 t2) := cell_of_row _ _ 2 _ _ _ hXB
      have y3 : Wa.cell? ⟨bx12, 3, none⟩ = some (.int .i64 t3) := cell_of_row _ _ 3 _ _ _ hXB
      have y4 : Wa.cell? ⟨bx12, 4, none⟩ = some (.int .i64 t4) := cell_of_row _ _ 4 _ _ _ hXB
      have y5 : Wa.cell? ⟨bx12, 5, none⟩ = some (.int .i64 t5) := cell_of_row _ _ 5 _ _ _ hXB
      have y6 : Wa.cell? ⟨bx12, 6, none⟩ = some (.int .i64 t6) := cell_of_row _ _ 6 _ _ _ hXB
      have y7 : Wa.cell? ⟨bx12, 7, none⟩ = some (.int .i64 t7) := cell_of_row _ _ 7 _ _ _ hXB
      have y8 : Wa.cell? ⟨bx12, 8, none⟩ = some (.int .i64 t8) := cell_of_row _ _ 8 _ _ _ hXB
      have y9 : Wa.cell? ⟨bx12, 9, none⟩ = some (.int .i64 t9) := cell_of_row _ _ 9 _ _ _ hXB
      have HBa := Kept.mk (show Below W.heap.size W Wa by rw [hWa]; exact below_box W _)
      have HCALL := Kept.mk (jobs_any2 ⟨tk, tp, t2, t3, t4, t5, t6, t7, t8, t9⟩ k now Am cm Wa (((HMS.out.below (HW1.out W HJB.out.bw)).below (HBa.out.mono (HW1.out W HJB.out.bw).size)).mono (Nat.le_trans (HW1.out W HJB.out.bw).size HBa.out.size)))
      clear hXB hWa hbx e0 e1 e2 e3 e4 e5 e6 e7 e8 e9
      go_wp2_with fail
      refine HCALL.out.mono ?_
      rintro e w2 ⟨bm, bt, bk, bn, rfl, hIn, hb2⟩
      have hB2 : Below W.heap.size W w2 := HBa.out.trans (hb2.mono HBa.out.size)
      have hJ2 : JB N R c1 c2 w1 w2 ps := HJB.out.kept (row := none) ⟨hB2.os, hB2.tape, hB2.output, hB2.size, fun i hi _ => hB2.block i hi⟩ (fun r e => by cases e) (HJB.out.bw.trans (hB2.mono (Nat.le_trans hNR HJB.out.size)))
      have hD2 : DS N Ds w2 := HDS.out.kept ⟨hB2.size, fun k o hk _ => (hB2.block k (lt_of_block hk)).trans hk⟩
      clear hb2 hB2 HCALL y0 y1 y2 y3 y4 y5 y6 y7 y8 y9 HBa HJB HDS
      go_wp2_with fail
      refine (wpIn_wide (n := 4)).1 ?_
      have hcl := hJ2.c
      have hsz2 := hJ2.size
      obtain ⟨A1, n1, A2, n2, r1, r2, o1, o2, _⟩ := hJ2.rows
      have q1 : ∀ g, ob w2 c1 = some g → g < w2.heap.size := fun g e => by rw [ob_eq r1] at e; exact (o1.lt g e).2
      have q2 : ∀ g, ob w2 c2 = some g → g < w2.heap.size := fun g e => by rw [ob_eq r2] at e; exact (o2.lt g e).2
      clear r1 r2 o1 o2
      refine wpIn_rangeFunc_ownH rfl (by omega) (gf := 104) (lb := #[.pointer (some ⟨bm, 0, none⟩), .pointer (some ⟨bt, 0, none⟩), .pointer (some ⟨bk, 0, none⟩), .pointer (some ⟨bn, 0, none⟩)]) rfl trivial (enters_of Try.func104 (by kernel_rfl) rfl)
        (jobs_stops (4 - 1) (by omega) bm bt bk bn c1 c2 tp k now ms hl w2 hIn (by omega) (by omega) q1 q2)
        KpJ.trans (KpJ.book (by omega) (by omega)) (Below.refl _ _) (fun _ => rfl)
        (fun pre W' => JB N R c1 c2 w1 W' (ps ++ pre) ∧ DS N Ds W')
        (fun c pre W' => False)
        ?hI (fun c _ _ _ _ hs _ _ => hs) ⟨by rw [List.append_nil]; exact hJ2, hD2⟩
        (fun x a' W' => ∃ Bx, R ≤ Bx ∧ W'.heap[Bx]? = some (.cells #[.int .i64 x.a, .int .i64 x.b, .int .i64 x.c, .int .i64 x.d] 171) ∧ (∃ v, W'.cell? ⟨c1, 0, none⟩ = some v ∧ v.ownBlock ≠ some Bx) ∧ (∃ v, W'.cell? ⟨c2, 0, none⟩ = some v ∧ v.ownBlock ≠ some Bx) ∧ a' = { tmps := #[.agg #[.int .i64 a1, .int .i64 a2, .int .i64 a3, .slice (some ⟨b, off, none⟩) ts.length ct, v4, v5], .slice Am ms.length cm, .int .i64 now, .pointer (some ⟨bc, 0, none⟩), undef, undef, .slice none 0 0, .slice none 0 0, .int .i64 0, .pointer (some ⟨c1, 0, none⟩), .pointer (some ⟨c2, 0, none⟩), .int .i64 (k : Int), .pointer (some ⟨bx12, 0, none⟩), .pointer (some ⟨Bx, 0, none⟩), .slice Am ms.length cm, .int .i64 now, .bool true, .bool false, .pointer (some ⟨bc, 3, none⟩), .slice (some ⟨b, off, none⟩) ts.length ct, .int .i64 (ts.length : Int), .int .i64 (k : Int), .bool true, .int .i64 (k : Int), .pointer (some ⟨b, off + k * 10, none⟩), .agg #[.int .u8 tk, .int .i64 tp, .int .i64 t2, .int .i64 t3, .int .i64 t4, .int .i64 t5, .int .i64 t6, .int .i64 t7, .int .i64 t8, .int .i64 t9], .agg #[.int .u8 tk, .int .i64 tp, .int .i64 t2, .int .i64 t3, .int .i64 t4, .int .i64 t5, .int .i64 t6, .int .i64 t7, .int .i64 t8, .int .i64 t9], .int .i64 (k : Int), .slice Am ms.length cm, .int .i64 now, .func (.func 104) #[] #[.pointer (some ⟨bm, 0, none⟩), .pointer (some ⟨bt, 0, none⟩), .pointer (some ⟨bk, 0, none⟩), .pointer (some ⟨bn, 0, none⟩)], .agg #[.int .i64 x.a, .int .i64 x.b, .int .i64 x.c, .int .i64 x.d], u32, u33, u34, u35, u36, u37, u38, u39, u40, u41, u42, u43, u44], defers := [] })
        ?hAx ?assign ?body ?done ?stop
      case hI =>
        intro pre X Y row hs hg hr
        refine ⟨hs.1.kept hg (fun r e => (hr r e).2) (hs.1.bw.trans ⟨hg.os, hg.tape, hg.output, hg.size, fun i hi => hg.block i (by have := hs.1.size; omega) (fun e => ?_)⟩), hs.2.nd, fun D hD => ⟨(hs.2.at' D hD).1, ?_⟩⟩
        · have := (hr i e.symm).1; omega
        · have h1 := hs.2.at' D hD
          have h2 := (hD2.at' D hD).2
          rw [hg.block D (lt_of_block h1.2) (fun e => by have := (hr D e.symm).1; have := lt_of_block h2; omega)]
          exact h1.2
      case hAx =>
        rintro x a' _ X Y row ⟨Bx, g1, g2, ⟨v1, g3, g4⟩, ⟨v2, g5, g6⟩, g7⟩ hg hr
        exact ⟨Bx, g1, (grownBy_keeps_cells hg (fun r e => (hr r e).2) g2 rfl).trans g2, ⟨v1, cell_kept g3 hg (fun r e => (hr r e).2), g4⟩, ⟨v2, cell_kept g5 hg (fun r e => (hr r e).2), g6⟩, g7⟩
      case assign =>
        rintro l pre x X K ⟨hJ, hD⟩ hK
        have hcl3 := hJ.c
        have hsz3 := hJ.size
        have hbx := below_box X (.cells #[.int .i64 x.a, .int .i64 x.b, .int .i64 x.c, .int .i64 x.d] 171)
        obtain ⟨A1, n1, A2, n2, r1, r2, o1, o2, _⟩ := hJ.rows
        gi_wp2
        exact hK _ _ ((KeepsOthers.alloc _ _).from _) (KpJ.alloc (by omega) (by omega) _) ⟨hJ.kept (World.grownBy_alloc X _ none) (fun r e => by cases e) (hJ.bw.trans (hbx.mono (by omega))), hD.kept (KeepsOthers.alloc _ _)⟩
          ⟨X.heap.size, by omega, heap_alloc_new _ _, ⟨_, (hbx.cell (p := ⟨c1, 0, none⟩) (by show c1 < X.heap.size; omega)).trans r1, fun e => by have := (o1.lt _ e).2; omega⟩, ⟨_, (hbx.cell (p := ⟨c2, 0, none⟩) (by show c2 < X.heap.size; omega)).trans r2, fun e => by have := (o2.lt _ e).2; omega⟩, rfl⟩
      case body =>
        rintro l pre x a' X hl' ⟨r, hr⟩ ⟨hJ, hD⟩ ⟨Bx, hBx, hX, ⟨v1, g3, g4⟩, ⟨v2, g5, g6⟩, rfl⟩ hpl
        obtain ⟨xa, xb, xc, xd⟩ := x
        obtain ⟨A1, n1, A2, n2, r1, r2, o1, o2, od⟩ := hJ.rows
        obtain rfl : v1 = _ := Option.some.inj (g3.symm.trans r1)
        obtain rfl : v2 = _ := Option.some.inj (g5.symm.trans r2)
        have hsz3 := hJ.size
        have hcl3 := hJ.c
        have hBxl := lt_of_block hX
        obtain ⟨pp, hpp⟩ : ∃ pp, pp = ps ++ pre := ⟨_, rfl⟩
        have hlp : pp.length ≤ 20096 := by rw [hpp, List.length_append]; omega
        rw [← hpp] at hJ r1 r2 o1 o2 od g4 g6
        obtain ⟨np, hnp⟩ : ∃ np, np = pp.length := ⟨_, rfl⟩
        have HF0 := Kept.mk hJ
        have hfc := hJ.f
        rw [← hnp] at r1 r2 o1 o2 od g4 g6 hlp
        have x0 : X.cell? ⟨Bx, 0, none⟩ = some (.int .i64 xa) := cell_of_row _ _ 0 _ _ _ hX
        have x1 : X.cell? ⟨Bx, 1, none⟩ = some (.int .i64 xb) := cell_of_row _ _ 1 _ _ _ hX
        have x2 : X.cell? ⟨Bx, 2, none⟩ = some (.int .i64 xc) := cell_of_row _ _ 2 _ _ _ hX
        have x3 : X.cell? ⟨Bx, 3, none⟩ = some (.int .i64 xd) := cell_of_row _ _ 3 _ _ _ hX
        obtain ⟨W1, hW1⟩ : ∃ W1, W1 = X.drew := ⟨_, rfl⟩
        have HDK := Kept.mk (fun (V : World) (hk : KeepsOthers X V) => hD.kept hk)
        have hb0 : AB W1 W1 R 108 2 3 1 (.slice A1 np n1) (.slice A2 np n2) (.slice A1 np n1) (.slice A2 np n2) np np (pC pp) (dC pp) [.int .i64 xa, .int .i64 xb, .int .i64 xc] [.int .i64 xd] false false 0 0 := by
          rw [hW1]; exact AB.start o1 o2 od
        have HBF := Kept.mk (fun (w4 : World) (g1 cap1 g2 cap2 ga gb : Nat) (hab : AB W1 w4 R 108 2 3 1 (.slice A1 np n1) (.slice A2 np n2) (.slice (some ⟨g1, 0, none⟩) (np + 1) cap1) (.slice (some ⟨g2, 0, none⟩) (np + 1) cap2) (np + 1) (np + 1) (pC pp ++ [.int .i64 xa, .int .i64 xb, .int .i64 xc]) (dC pp ++ [.int .i64 xd]) [.int .i64 xa, .int .i64 xb, .int .i64 xc] [.int .i64 xd] false false ga gb) =>
          show KeepsOthers X ((w4.setCell ⟨c1, 0, none⟩ (.slice (some ⟨g1, 0, none⟩) (np + 1) cap1)).setCell ⟨c2, 0, none⟩ (.slice (some ⟨g2, 0, none⟩) (np + 1) cap2)) ∧ KpJ c1 c2 X ((w4.setCell ⟨c1, 0, none⟩ (.slice (some ⟨g1, 0, none⟩) (np + 1) cap1)).setCell ⟨c2, 0, none⟩ (.slice (some ⟨g2, 0, none⟩) (np + 1) cap2)) ∧ JB N R c1 c2 w1 ((w4.setCell ⟨c1, 0, none⟩ (.slice (some ⟨g1, 0, none⟩) (np + 1) cap1)).setCell ⟨c2, 0, none⟩ (.slice (some ⟨g2, 0, none⟩) (np + 1) cap2)) (ps ++ (pre ++ [⟨xa, xb, xc, xd⟩])) from by
            rw [hW1] at hab
            rw [hnp] at hab r1 r2 o1 o2 ⊢
            have := JB.final (x := ⟨xa, xb, xc, xd⟩) HF0.out hNR r1 r2 o1 o2 hab
            rw [← List.append_assoc, ← hpp]
            exact this)
        have hz1 : W1.heap.size = X.heap.size := by rw [hW1]; rfl
        have HRS := Kept.mk (show R ≤ W1.heap.size by omega)
        have HC12 := Kept.mk (show c1 ≠ c2 from hcl3.2.2.2.2)
        have FK := fun (V : World) (hk : ∀ i, i < W1.heap.size → (Value.slice A1 np n1).ownBlock ≠ some i → (Value.slice A2 np n2).ownBlock ≠ some i → V.heap[i]? = W1.heap[i]?) => show V.heap[c1]? = X.heap[c1]? ∧ V.heap[c2]? = X.heap[c2]? ∧ V.heap[Bx]? = X.heap[Bx]? from by
          have m1 : ∀ {i}, i < R → (Value.slice A1 np n1).ownBlock ≠ some i := fun hi e => by have := (o1.lt _ e).1; omega
          have m2 : ∀ {i}, i < R → (Value.slice A2 np n2).ownBlock ≠ some i := fun hi e => by have := (o2.lt _ e).1; omega
          refine ⟨(hk c1 (by omega) (m1 (by omega)) (m2 (by omega))).trans (by rw [hW1]; rfl), (hk c2 (by omega) (m1 (by omega)) (m2 (by omega))).trans (by rw [hW1]; rfl), (hk Bx (by omega) g4 g6).trans (by rw [hW1]; rfl)⟩
        have HSK := Kept.mk (fun (V : World) (hk : ∀ i, i < W1.heap.size → (Value.slice A1 np n1).ownBlock ≠ some i → (Value.slice A2 np n2).ownBlock ≠ some i → V.heap[i]? = W1.heap[i]?) => show (fun V : World => V.cell? ⟨c1, 0, none⟩ = some (.slice A1 np n1) ∧ V.cell? ⟨c2, 0, none⟩ = some (.slice A2 np n2) ∧ V.cell? ⟨Bx, 0, none⟩ = some (.int .i64 xa) ∧ V.cell? ⟨Bx, 1, none⟩ = some (.int .i64 xb) ∧ V.cell? ⟨Bx, 2, none⟩ = some (.int .i64 xc) ∧ V.cell? ⟨Bx, 3, none⟩ = some (.int .i64 xd)) V from by
          obtain ⟨h1, h2, h3⟩ := FK V hk
          exact ⟨(World.cell?_of_block (a := ⟨c1, 0, none⟩) h1).trans r1, (World.cell?_of_block (a := ⟨c2, 0, none⟩) h2).trans r2, (World.cell?_of_block (a := ⟨Bx, 0, none⟩) h3).trans x0, (World.cell?_of_block (a := ⟨Bx, 1, none⟩) h3).trans x1, (World.cell?_of_block (a := ⟨Bx, 2, none⟩) h3).trans x2, (World.cell?_of_block (a := ⟨Bx, 3, none⟩) h3).trans x3⟩)
        have HSF := Kept.mk (fun (V : World) (hk : ∀ i, i < W1.heap.size → (Value.slice A1 np n1).ownBlock ≠ some i → (Value.slice A2 np n2).ownBlock ≠ some i → V.heap[i]? = W1.heap[i]?) => show V.cell? ⟨c1, 0, none⟩ = some (.slice A1 np n1) ∧ V.cell? ⟨c2, 0, none⟩ = some (.slice A2 np n2) ∧ V.frozen? ⟨c1, 0, none⟩ = false ∧ V.frozen? ⟨c2, 0, none⟩ = false from by
          obtain ⟨h1, h2, h3⟩ := FK V hk
          exact ⟨(World.cell?_of_block (a := ⟨c1, 0, none⟩) h1).trans r1, (World.cell?_of_block (a := ⟨c2, 0, none⟩) h2).trans r2, (World.frozen?_of_block (a := ⟨c1, 0, none⟩) h1).trans hfc.1, (World.frozen?_of_block (a := ⟨c2, 0, none⟩) h2).trans hfc.2⟩)
        have HHELD := Kept.mk (HSK.out W1 (fun _ _ _ _ => rfl))
        have hc12 : c1 ≠ c2 := HC12.out
        clear FK r1 r2 o1 o2 od g3 g4 g5 g6 x0 x1 x2 x3 hX hJ hD hpp hnp hfc hz1 hcl3 HF0 hcl hJ2 hD2 hIn q1 q2
        gi_wp2_with fail
        refine wpIn_region_late (fun V : World => V.cell? ⟨c1, 0, none⟩ = some (.slice A1 np n1) ∧ V.cell? ⟨c2, 0, none⟩ = some (.slice A2 np n2) ∧ V.cell? ⟨Bx, 0, none⟩ = some (.int .i64 xa) ∧ V.cell? ⟨Bx, 1, none⟩ = some (.int .i64 xb) ∧ V.cell? ⟨Bx, 2, none⟩ = some (.int .i64 xc) ∧ V.cell? ⟨Bx, 3, none⟩ = some (.int .i64 xd)) (fun i => decide (10 ≤ i)) (by kernel_rfl) (by kernel_rfl) ?_
        rw [← hW1]
        clear hW1
        refine wpAnyT_take (i := 0) (v := ?v0) [0, 4, 9, 10, 11] (by simp only [List.getElem?_toArray, List.getElem?_cons_succ, List.getElem?_cons_zero]; exact rfl) (by kernel_rfl) (by kernel_rfl) (by kernel_rfl) (by kernel_rfl) (by intro _ _ _ h; exact h) (Or.inl ⟨by rfl, ?hy0⟩) HHELD.out ?rest0
        case hy0 => (intro w hSw; go_simp; try with_reducible rfl)
        try simp only [Act.put, List.setIfInBounds_toArray, List.set_cons_zero, List.set_cons_succ]
        refine wpAnyT_take (i := 1) (v := ?v1) [1, 2, 3, 4, 9, 10, 11] (by simp only [List.getElem?_toArray, List.getElem?_cons_succ, List.getElem?_cons_zero]; exact rfl) (by kernel_rfl) (by kernel_rfl) (by kernel_rfl) (by kernel_rfl) (by intro _ _ _ h; exact h) (Or.inl ⟨by rfl, ?hy1⟩) HHELD.out ?rest1
        case hy1 => (intro w hSw; go_simp; try with_reducible rfl)
        try simp only [Act.put, List.setIfInBounds_toArray, List.set_cons_zero, List.set_cons_succ]
        refine wpAnyT_take (i := 2) (v := ?v2) [2, 3, 4, 9, 10, 11] (by simp only [List.getElem?_toArray, List.getElem?_cons_succ, List.getElem?_cons_zero]; exact rfl) (by kernel_rfl) (by kernel_rfl) (by kernel_rfl) (by kernel_rfl) (by intro _ _ _ h; exact h) (Or.inl ⟨by rfl, ?hy2⟩) HHELD.out ?rest2
        case hy2 => (intro w hSw; go_simp; try with_reducible rfl)
        try simp only [Act.put, List.setIfInBounds_toArray, List.set_cons_zero, List.set_cons_succ]
        refine wpAnyT_take (i := 5) (v := ?v5) [5, 9, 10, 11] (by simp only [List.getElem?_toArray, List.getElem?_cons_succ, List.getElem?_cons_zero]; exact rfl) (by kernel_rfl) (by kernel_rfl) (by kernel_rfl) (by kernel_rfl) (by intro _ _ _ h; exact h) (Or.inl ⟨by rfl, ?hy5⟩) HHELD.out ?rest5
        case hy5 => (intro w hSw; go_simp; try with_reducible rfl)
        try simp only [Act.put, List.setIfInBounds_toArray, List.set_cons_zero, List.set_cons_succ]
        refine wpAnyT_take (i := 6) (v := ?v6) [6, 7, 8, 9, 10, 11] (by simp only [List.getElem?_toArray, List.getElem?_cons_succ, List.getElem?_cons_zero]; exact rfl) (by kernel_rfl) (by kernel_rfl) (by kernel_rfl) (by kernel_rfl) (by intro _ _ _ h; exact h) (Or.inl ⟨by rfl, ?hy6⟩) HHELD.out ?rest6
        case hy6 => (intro w hSw; go_simp; try with_reducible rfl)
        try simp only [Act.put, List.setIfInBounds_toArray, List.set_cons_zero, List.set_cons_succ]
        refine wpAnyT_take (i := 7) (v := ?v7) [7, 8, 9, 10, 11] (by simp only [List.getElem?_toArray, List.getElem?_cons_succ, List.getElem?_cons_zero]; exact rfl) (by kernel_rfl) (by kernel_rfl) (by kernel_rfl) (by kernel_rfl) (by intro _ _ _ h; exact h) (Or.inl ⟨by rfl, ?hy7⟩) HHELD.out ?rest7
        case hy7 => (intro w hSw; go_simp; try with_reducible rfl)
        try simp only [Act.put, List.setIfInBounds_toArray, List.set_cons_zero, List.set_cons_succ]
        refine wpAnyT_two 3 8 (by kernel_rfl) (by simp only [List.getElem?_toArray, List.getElem?_cons_succ, List.getElem?_cons_zero]; exact rfl) (by simp only [List.getElem?_toArray, List.getElem?_cons_succ, List.getElem?_cons_zero]; exact rfl) (fun K hK => ?_) (fun K hK => ?_)
        · go_simp
          have hb1 := (hb0.build 108 (cs := #[.int .i64 xa, .int .i64 xb, .int .i64 xc]) rfl)
          refine hK.out _ _ (fun _ => HSK.out _ hb1.keep) ?_
          clear hK K
          obtain ⟨V1, hV1⟩ : ∃ V, V = W1.alloc (.cells #[.int .i64 xa, .int .i64 xb, .int .i64 xc] 108) := ⟨_, rfl⟩
          rw [← hV1] at hb1 ⊢
          clear hV1
          try simp only [Act.put, List.setIfInBounds_toArray, List.set_cons_zero, List.set_cons_succ]
          refine wpAnyT_two 4 8 (by kernel_rfl) (by simp only [List.getElem?_toArray, List.getElem?_cons_succ, List.getElem?_cons_zero]; exact rfl) (by simp only [List.getElem?_toArray, List.getElem?_cons_succ, List.getElem?_cons_zero]; exact rfl) (fun K hK => ?_) (fun K hK => ?_)
          · refine step_append_lies _ rfl (.tmp 32) (.tmp 35) 84 rfl R 108 i0 (.agg #[.int .i64 0, .int .i64 0, .int .i64 0]) 3 24 Try.underlying84 hi0 hz0 hz1 hz2 rfl (by decide) (.slice A1 np n1) np (pC pp) rfl hb1.a ⟨_, 0, none⟩ 1 1 [.int .i64 xa, .int .i64 xb, .int .i64 xc] rfl rfl (hb1.a1 rfl).2.1 (by simp [Value.oneCell']) (by decide) (by simp only [maxLen]; omega) (by omega) (Nat.le_trans HRS.out hb1.size) _ rfl ?_
            intro g2 cap2 V2 own2 grow2 lies2 _
            have hb2 := hb1.app (q := .slice (some ⟨g2, 0, none⟩) (np + 1) cap2) rfl own2 grow2 lies2
            refine hK.out _ _ (fun _ => HSK.out _ hb2.keep) ?_
            clear hK K own2 grow2 lies2
            try simp only [Act.put, List.setIfInBounds_toArray, List.set_cons_zero, List.set_cons_succ]
            refine wpAnyT_one 8 (by kernel_rfl) (by simp only [List.getElem?_toArray, List.getElem?_cons_succ, List.getElem?_cons_zero]; exact rfl) (fun K hK => ?_)
            go_simp
            have hb3 := (hb2.swap.build 2 (cs := #[.int .i64 xd]) rfl).swap
            refine hK.out _ _ (fun _ => HSK.out _ hb3.keep) ?_
            clear hK K
            obtain ⟨V3, hV3⟩ : ∃ V, V = V2.alloc (.cells #[.int .i64 xd] 2) := ⟨_, rfl⟩
            rw [← hV3] at hb3 ⊢
            clear hV3
            try simp only [Act.put, List.setIfInBounds_toArray, List.set_cons_zero, List.set_cons_succ]
            refine wpAnyT_one 9 (by kernel_rfl) (by simp only [List.getElem?_toArray, List.getElem?_cons_succ, List.getElem?_cons_zero]; exact rfl) (fun K hK => ?_)
            refine step_append_lies _ rfl (.tmp 37) (.tmp 40) 85 rfl R 2 j0 (.int .i64 0) 1 8 Try.underlying85 hj0 hj1 hj2 hj3 rfl (by decide) (.slice A2 np n2) np (dC pp) rfl hb3.b ⟨_, 0, none⟩ 1 1 [.int .i64 xd] rfl rfl (hb3.b1 rfl).2.1 (by simp [Value.oneCell']) (by decide) (by simp only [maxLen]; omega) (by omega) (Nat.le_trans HRS.out hb3.size) _ rfl ?_
            intro g4 cap4 V4 own4 grow4 lies4 _
            have hb4 := (hb3.swap.app (q := .slice (some ⟨g4, 0, none⟩) (np + 1) cap4) rfl own4 grow4 lies4).swap
            refine hK.out _ _ (fun _ => HSK.out _ hb4.keep) ?_
            clear hK K own4 grow4 lies4
            try simp only [Act.put, List.setIfInBounds_toArray, List.set_cons_zero, List.set_cons_succ]
            obtain ⟨y1, y2, f1, f2⟩ := HSF.out _ hb4.keep
            have HFIN := Kept.mk (HBF.out _ _ _ _ _ _ _ hb4)
            refine wpAnyT_one 10 (by kernel_rfl) (by simp only [List.getElem?_toArray, List.getElem?_cons_succ, List.getElem?_cons_zero]; exact rfl) (fun K hK => ?_)
            go_simp
            refine hK.out _ _ (fun h => absurd h (by decide)) ?_
            clear hK K
            try simp only [Act.put, List.setIfInBounds_toArray, List.set_cons_zero, List.set_cons_succ]
            refine wpAnyT_one 11 (by kernel_rfl) (by simp only [List.getElem?_toArray, List.getElem?_cons_succ, List.getElem?_cons_zero]; exact rfl) (fun K hK => ?_)
            go_simp
            refine hK.out _ _ (fun h => absurd h (by decide)) ?_
            clear hK K
            try simp only [Act.put, List.setIfInBounds_toArray, List.set_cons_zero, List.set_cons_succ]
            refine wpAnyT_done (by kernel_rfl) ?_ _
            unfold EndN
            dsimp only
            exact ⟨HFIN.out.1.from _, HFIN.out.2.1, HFIN.out.2.2, HDK.out _ HFIN.out.1⟩
          · go_simp
            have hb5 := (hb1.swap.build 2 (cs := #[.int .i64 xd]) rfl).swap
            refine hK.out _ _ (fun _ => HSK.out _ hb5.keep) ?_
            clear hK K
            obtain ⟨V5, hV5⟩ : ∃ V, V = V1.alloc (.cells #[.int .i64 xd] 2) := ⟨_, rfl⟩
            rw [← hV5] at hb5 ⊢
            clear hV5
            try simp only [Act.put, List.setIfInBounds_toArray, List.set_cons_zero, List.set_cons_succ]
            refine wpAnyT_one 4 (by kernel_rfl) (by simp only [List.getElem?_toArray, List.getElem?_cons_succ, List.getElem?_cons_zero]; exact rfl) (fun K hK => ?_)
            refine step_append_lies _ rfl (.tmp 32) (.tmp 35) 84 rfl R 108 i0 (.agg #[.int .i64 0, .int .i64 0, .int .i64 0]) 3 24 Try.underlying84 hi0 hz0 hz1 hz2 rfl (by decide) (.slice A1 np n1) np (pC pp) rfl hb5.a ⟨_, 0, none⟩ 1 1 [.int .i64 xa, .int .i64 xb, .int .i64 xc] rfl rfl (hb5.a1 rfl).2.1 (by simp [Value.oneCell']) (by decide) (by simp only [maxLen]; omega) (by omega) (Nat.le_trans HRS.out hb5.size) _ rfl ?_
            intro g6 cap6 V6 own6 grow6 lies6 _
            have hb6 := hb5.app (q := .slice (some ⟨g6, 0, none⟩) (np + 1) cap6) rfl own6 grow6 lies6
            refine hK.out _ _ (fun _ => HSK.out _ hb6.keep) ?_
            clear hK K own6 grow6 lies6
            try simp only [Act.put, List.setIfInBounds_toArray, List.set_cons_zero, List.set_cons_succ]
            refine wpAnyT_one 9 (by kernel_rfl) (by simp only [List.getElem?_toArray, List.getElem?_cons_succ, List.getElem?_cons_zero]; exact rfl) (fun K hK => ?_)
            refine step_append_lies _ rfl (.tmp 37) (.tmp 40) 85 rfl R 2 j0 (.int .i64 0) 1 8 Try.underlying85 hj0 hj1 hj2 hj3 rfl (by decide) (.slice A2 np n2) np (dC pp) rfl hb6.b ⟨_, 0, none⟩ 1 1 [.int .i64 xd] rfl rfl (hb6.b1 rfl).2.1 (by simp [Value.oneCell']) (by decide) (by simp only [maxLen]; omega) (by omega) (Nat.le_trans HRS.out hb6.size) _ rfl ?_
            intro g7 cap7 V7 own7 grow7 lies7 _
            have hb7 := (hb6.swap.app (q := .slice (some ⟨g7, 0, none⟩) (np + 1) cap7) rfl own7 grow7 lies7).swap
            refine hK.out _ _ (fun _ => HSK.out _ hb7.keep) ?_
            clear hK K own7 grow7 lies7
            try simp only [Act.put, List.setIfInBounds_toArray, List.set_cons_zero, List.set_cons_succ]
            obtain ⟨y1, y2, f1, f2⟩ := HSF.out _ hb7.keep
            have HFIN := Kept.mk (HBF.out _ _ _ _ _ _ _ hb7)
            refine wpAnyT_one 10 (by kernel_rfl) (by simp only [List.getElem?_toArray, List.getElem?_cons_succ, List.getElem?_cons_zero]; exact rfl) (fun K hK => ?_)
            go_simp
            refine hK.out _ _ (fun h => absurd h (by decide)) ?_
            clear hK K
            try simp only [Act.put, List.setIfInBounds_toArray, List.set_cons_zero, List.set_cons_succ]
            refine wpAnyT_one 11 (by kernel_rfl) (by simp only [List.getElem?_toArray, List.getElem?_cons_succ, List.getElem?_cons_zero]; exact rfl) (fun K hK => ?_)
            go_simp
            refine hK.out _ _ (fun h => absurd h (by decide)) ?_
            clear hK K
            try simp only [Act.put, List.setIfInBounds_toArray, List.set_cons_zero, List.set_cons_succ]
            refine wpAnyT_done (by kernel_rfl) ?_ _
            unfold EndN
            dsimp only
            exact ⟨HFIN.out.1.from _, HFIN.out.2.1, HFIN.out.2.2, HDK.out _ HFIN.out.1⟩
        · go_simp
          have hb8 := (hb0.swap.build 2 (cs := #[.int .i64 xd]) rfl).swap
          refine hK.out _ _ (fun _ => HSK.out _ hb8.keep) ?_
          clear hK K
          obtain ⟨V8, hV8⟩ : ∃ V, V = W1.alloc (.cells #[.int .i64 xd] 2) := ⟨_, rfl⟩
          rw [← hV8] at hb8 ⊢
          clear hV8
          try simp only [Act.put, List.setIfInBounds_toArray, List.set_cons_zero, List.set_cons_succ]
          refine wpAnyT_one 3 (by kernel_rfl) (by simp only [List.getElem?_toArray, List.getElem?_cons_succ, List.getElem?_cons_zero]; exact rfl) (fun K hK => ?_)
          go_simp
          have hb9 := (hb8.build 108 (cs := #[.int .i64 xa, .int .i64 xb, .int .i64 xc]) rfl)
          refine hK.out _ _ (fun _ => HSK.out _ hb9.keep) ?_
          clear hK K
          obtain ⟨V9, hV9⟩ : ∃ V, V = V8.alloc (.cells #[.int .i64 xa, .int .i64 xb, .int .i64 xc] 108) := ⟨_, rfl⟩
          rw [← hV9] at hb9 ⊢
          clear hV9
          try simp only [Act.put, List.setIfInBounds_toArray, List.set_cons_zero, List.set_cons_succ]
          refine wpAnyT_one 4 (by kernel_rfl) (by simp only [List.getElem?_toArray, List.getElem?_cons_succ, List.getElem?_cons_zero]; exact rfl) (fun K hK => ?_)
          refine step_append_lies _ rfl (.tmp 32) (.tmp 35) 84 rfl R 108 i0 (.agg #[.int .i64 0, .int .i64 0, .int .i64 0]) 3 24 Try.underlying84 hi0 hz0 hz1 hz2 rfl (by decide) (.slice A1 np n1) np (pC pp) rfl hb9.a ⟨_, 0, none⟩ 1 1 [.int .i64 xa, .int .i64 xb, .int .i64 xc] rfl rfl (hb9.a1 rfl).2.1 (by simp [Value.oneCell']) (by decide) (by simp only [maxLen]; omega) (by omega) (Nat.le_trans HRS.out hb9.size) _ rfl ?_
          intro g10 cap10 V10 own10 grow10 lies10 _
          have hb10 := hb9.app (q := .slice (some ⟨g10, 0, none⟩) (np + 1) cap10) rfl own10 grow10 lies10
          refine hK.out _ _ (fun _ => HSK.out _ hb10.keep) ?_
          clear hK K own10 grow10 lies10
          try simp only [Act.put, List.setIfInBounds_toArray, List.set_cons_zero, List.set_cons_succ]
          refine wpAnyT_one 9 (by kernel_rfl) (by simp only [List.getElem?_toArray, List.getElem?_cons_succ, List.getElem?_cons_zero]; exact rfl) (fun K hK => ?_)
          refine step_append_lies _ rfl (.tmp 37) (.tmp 40) 85 rfl R 2 j0 (.int .i64 0) 1 8 Try.underlying85 hj0 hj1 hj2 hj3 rfl (by decide) (.slice A2 np n2) np (dC pp) rfl hb10.b ⟨_, 0, none⟩ 1 1 [.int .i64 xd] rfl rfl (hb10.b1 rfl).2.1 (by simp [Value.oneCell']) (by decide) (by simp only [maxLen]; omega) (by omega) (Nat.le_trans HRS.out hb10.size) _ rfl ?_
          intro g11 cap11 V11 own11 grow11 lies11 _
          have hb11 := (hb10.swap.app (q := .slice (some ⟨g11, 0, none⟩) (np + 1) cap11) rfl own11 grow11 lies11).swap
          refine hK.out _ _ (fun _ => HSK.out _ hb11.keep) ?_
          clear hK K own11 grow11 lies11
          try simp only [Act.put, List.setIfInBounds_toArray, List.set_cons_zero, List.set_cons_succ]
          obtain ⟨y1, y2, f1, f2⟩ := HSF.out _ hb11.keep
          have HFIN := Kept.mk (HBF.out _ _ _ _ _ _ _ hb11)
          refine wpAnyT_one 10 (by kernel_rfl) (by simp only [List.getElem?_toArray, List.getElem?_cons_succ, List.getElem?_cons_zero]; exact rfl) (fun K hK => ?_)
          go_simp
          refine hK.out _ _ (fun h => absurd h (by decide)) ?_
          clear hK K
          try simp only [Act.put, List.setIfInBounds_toArray, List.set_cons_zero, List.set_cons_succ]
          refine wpAnyT_one 11 (by kernel_rfl) (by simp only [List.getElem?_toArray, List.getElem?_cons_succ, List.getElem?_cons_zero]; exact rfl) (fun K hK => ?_)
          go_simp
          refine hK.out _ _ (fun h => absurd h (by decide)) ?_
          clear hK K
          try simp only [Act.put, List.setIfInBounds_toArray, List.set_cons_zero, List.set_cons_succ]
          refine wpAnyT_done (by kernel_rfl) ?_ _
          unfold EndN
          dsimp only
          exact ⟨HFIN.out.1.from _, HFIN.out.2.1, HFIN.out.2.2, HDK.out _ HFIN.out.1⟩
      case done =>
        rintro D xs X hD' rfl ⟨hJ, hDS⟩ hK
        rw [← HSUC.out] at hJ
        have HJF := Kept.mk hJ
        have HDF := Kept.mk (show DS N (D :: Ds) X from ⟨List.nodup_cons.2 ⟨fun h => by have := (hD2.at' D h).2; have := lt_of_block this; omega, hDS.nd⟩, fun D' h => by
          rcases List.mem_cons.1 h with rfl | h
          · exact ⟨by omega, hK⟩
          · exact hDS.at' D' h⟩)
        clear hJ hDS hK hJ2 hD2
        go_wp2
        exact ⟨⟨k + 1, D :: Ds, _, _, _, _, _, _, _, _, _, _, _, _, _, _, _, _, _, _, _, _, _, _, _, _, _, _, _, by omega, rfl, by go_num, HJF.out, HDF.out⟩, by simp [intOf]; omega⟩
      case stop =>
        rintro D c pre X hD hpre hf hK
        exact hf.elim
    · have hke : k = ts.length := by omega
      have ik : decide ((k : Int) < (ts.length : Int)) = false := decide_eq_false (by omega)
      rw [hke, ← HZ.out.1] at hJB
      obtain ⟨A1, n1, A2, n2, r1, r2, o1, o2, od⟩ := hJB.rows
      have hbw := hJB.bw
      obtain ⟨nL, hnL⟩ : ∃ nL, nL = L.length := ⟨_, rfl⟩
      rw [← hnL] at r1 r2
      have HEND := Kept.mk (show W.cell? ⟨c1, 0, none⟩ = some (.slice A1 nL n1) ∧ True from ⟨r1, trivial⟩)
      have HNL := Kept.mk hnL
      have HD := Kept.mk hDS
      have HO := Kept.mk (show W.ownsRow R 108 3 (.slice A1 L.length n1) L.length (pC L) ∧ W.ownsRow R 2 1 (.slice A2 L.length n2) L.length (dC L) ∧ Below N w1 W from ⟨o1, o2, hbw⟩)
      have HBZ := Kept.mk hJB.size
      clear hke hJB o1 o2 od hbw hDS hnL
      go_wp2_with fail
      go_quiet (fail)
      go_wp2
      refine DS.leaves (N := N) (Z := fun V => V.ownsRow R 108 3 (.slice A1 L.length n1) L.length (pC L) ∧ V.ownsRow R 2 1 (.slice A2 L.length n2) L.length (dC L) ∧ Below N w1 V) ?_ ?_ Ds _ ⟨HD.out.nd, HD.out.at'⟩ ⟨own_below HO.out.1 ((Below.refl _ _).drewN _), own_below HO.out.2.1 ((Below.refl _ _).drewN _), HO.out.2.2.drewN _⟩
      · rintro V D ⟨z1, z2, z3⟩ hD hK
        have hg := grownBy_putObj' V D (.deferred none)
        have hr : ∀ r, some D = some r → ∃ o : Obj, V.heap[r]? = some o ∧ o.isCells = false := fun r e => by cases e; exact ⟨_, hK, rfl⟩
        exact ⟨own_book z1 hg hr, own_book z2 hg hr, z3.trans ⟨hg.os, hg.tape, hg.output, hg.size, fun i hi => hg.block i (by have := lt_of_block hK; omega) (by simp; omega)⟩⟩
      · rintro V ⟨z1, z2, z3⟩
        refine ⟨.tuple #[.slice A1 nL n1, .slice A2 nL n2, .int .i64 0], by simp [results, Try.f66, go_sem], ?_⟩
        rw [HZ.out.2, HNL.out]
        refine ⟨A1, n1, A2, n2, rfl, ?_, ?_, HW1.out V z3⟩
        · have := (R3.of_own (xs := L.map fun x => ⟨x.a, x.b, x.c⟩) (n := L.length) (by rw [show (L.map fun x : J4 => (⟨x.a, x.b, x.c⟩ : Q3)).flatMap Q3.cells = pC L by unfold pC; rw [List.flatMap_map]; rfl]; exact z1)).2
          exact this
        · exact (Ints.of_own (xs := L.map fun x => x.d) (n := L.length) (by rw [List.map_map]; exact z2)).2
end Go.Proofs.Ytcchmkpodfjhcaa
