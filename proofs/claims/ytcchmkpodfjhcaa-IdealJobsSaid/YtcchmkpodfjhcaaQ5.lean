/-
  The walk of the queue's Push.
-/
import Derived.Test.YtcchmkpodfjhcaaQ4
namespace Go.Proofs.Ytcchmkpodfjhcaa
open Go.RowKit Go.Shelf Go.Maps Go.ChangeMaps
set_option linter.unusedVariables false
/-- A queue in memory, but for the notes of some priorities. -/
structure QJ (w : World) (lo hi qb I M p L K n : Nat) (S : PS) (ids : Nat → Int) (f : Int → Option Nat) (b : Nat) (Q : QL) (X : List Nat) : Prop where
  ly : LY lo hi qb I M
  hh : hi ≤ w.heap.size
  pa : PoolAt w lo (lo + 3) p L K n 64 S
  qc : QC w qb p I M n b
  nb : NB w I n ids
  mp : MapIs w M Q.length f
  co : Con n S ids Q
  fi : ∀ id x, f id = some x ↔ ∃ q : Nat, q < 64 ∧ x ∈ S.list (q : Int) ∧ ids x = id
  bl : b < 18446744073709551616
  bi : ∀ i, i < 64 → i ∉ X → b.testBit i = decide (S.list ((i : Nat) : Int) ≠ [])
theorem QJ.at {w : World} {lo hi qb I M p L K n : Nat} {S : PS} {ids : Nat → Int} {f : Int → Option Nat} {b : Nat} {Q : QL} (h : QJ w lo hi qb I M p L K n S ids f b Q []) : QAt w lo hi qb I M p L K n Q :=
  ⟨S, ids, f, b, h.ly, h.hh, h.pa, h.qc, h.nb, h.mp, h.co, h.fi, h.bl, fun i hi => h.bi i hi (by simp)⟩
theorem PoolAt.keptQ {w w' : World} {lo hi p L K n m : Nat} {S : PS} (h : PoolAt w lo hi p L K n m S) (hs : w.heap.size ≤ w'.heap.size) (hk : ∀ i, i < hi → w'.heap[i]? = w.heap[i]?) : PoolAt w' lo hi p L K n m S := by
  obtain ⟨F, G, h1, h2⟩ := h.of
  exact ⟨h.pl, Nat.le_trans h.hh hs, h.nb, h.mb, F, G, h1.kept (hk _ h.pl.p2) (hk _ h.pl.l2) (hk _ h.pl.k2), h2⟩
theorem QJ.note {w w' : World} {lo hi qb I M p L K n : Nat} {S : PS} {ids : Nat → Int} {f : Int → Option Nat} {b k : Nat} {Q : QL} {X : List Nat} {e : Ending} (h : QJ w lo hi qb I M p L K n S ids f b Q (k :: X)) (hk : NoteRes w qb p I M n b k S e w') :
    e = .returned (.tuple #[]) ∧ Kp lo hi w w' ∧ ∃ c, QJ w' lo hi qb I M p L K n S ids f c Q X := by
  obtain ⟨rfl, c, hc, hl, hkp, hb⟩ := hk
  have l := h.ly
  have l0 := l.lh
  have l1 := l.q1
  have l2 := l.q2
  have l3 := l.i2
  have l4 := l.m2
  have hh := h.hh
  have l5 := l.qi
  have l6 := l.qm
  refine ⟨rfl, ⟨hkp.os, hkp.tape, hkp.output, hkp.size, fun i h1 h2 => hkp.block i h1 (by omega)⟩, c, l, Nat.le_trans hh hkp.size, h.pa.keptQ hkp.size fun i hi => hkp.block i (by omega) (by omega), hc, h.nb.kept (hkp.block _ (by omega) (by omega)), h.mp.kept (hkp.block _ (by omega) (by omega)), h.co, h.fi, hl, fun i hi hx => ?_⟩
  rw [hb i hi]
  by_cases e : i = k
  · subst e; rw [if_pos rfl]
  · rw [if_neg e]
    exact h.bi i hi (by simp [e, hx])
theorem list_take {n : Nat} {S : PS} {F G : Nat → Int} (hg : Good n 64 S F G) (i : Nat) {k : Nat} (hk : k < 64) (q : Nat) : (S.take i k).list (q : Int) = S.list (q : Int) ++ if k = q then [i] else [] := by
  unfold PS.take
  rw [list_put (by show k < S.lists.length; rw [hg.rep.len]; exact hk)]
  rfl
theorem fi_push {n : Nat} {S : PS} {F G ids : Nat → Int} {f : Int → Option Nat} {Q : QL} (hg : Good n 64 S F G) (hc : Con n S ids Q) (h : ∀ id x, f id = some x ↔ ∃ q : Nat, q < 64 ∧ x ∈ S.list (q : Int) ∧ ids x = id) {i j : Nat} (hi : i ∈ S.pile) (hj : j < 64) {id : Int} (hm : id ∉ Q.ids) (a : Int) (x : Nat) :
    (if a = id then some i else f a) = some x ↔ ∃ q : Nat, q < 64 ∧ x ∈ (S.take i j).list (q : Int) ∧ upd ids i id x = a := by
  constructor
  · intro e
    by_cases ha : a = id
    · rw [if_pos ha] at e
      cases e
      exact ⟨j, hj, by rw [list_take hg i hj, if_pos rfl]; simp, by rw [upd_same, ha]⟩
    · rw [if_neg ha] at e
      obtain ⟨q, h1, h2, h3⟩ := (h a x).1 e
      refine ⟨q, h1, by rw [list_take hg i hj]; exact List.mem_append_left _ h2, ?_⟩
      rw [upd_ne (by rintro rfl; exact not_listed hg hi q h2), h3]
  · rintro ⟨q, h1, h2, h3⟩
    rw [list_take hg i hj] at h2
    rcases List.mem_append.1 h2 with h2' | h2
    · have hxi : x ≠ i := by rintro rfl; exact not_listed hg hi q h2'
      rw [upd_ne hxi] at h3
      have ha : a ≠ id := by
        rintro rfl
        exact hm (List.mem_map.2 ⟨_, hc.mem h1 h2', h3⟩)
      rw [if_neg ha]
      exact (h a x).2 ⟨q, h1, h2', h3⟩
    · split at h2
      · simp at h2
        subst h2
        rw [upd_same] at h3
        rw [if_pos h3.symm]
      · cases h2
def qPush (n : Nat) (Q : QL) (id p : Int) : Int × QL := if ¬ (0 ≤ p ∧ p < 64) then (1, Q) else if id ∈ Q.ids then (4, Q) else if n ≤ Q.length then (5, Q) else (0, Q ++ [(id, p.toNat)])
theorem Kp.wide {lo hi hi' : Nat} {a w : World} (h : Kp lo hi a w) (hh : hi ≤ hi') : Kp lo hi' a w := ⟨h.os, h.tape, h.output, h.size, fun i h1 h2 => h.block i h1 (by omega)⟩
def QRes (w : World) (lo hi qb I M p L K n : Nat) (Q : QL) (v : Value) (e : Ending) (w' : World) : Prop := e = .returned v ∧ QAt w' lo hi qb I M p L K n Q ∧ Kp lo hi w w'
theorem QK.after {w w1 : World} {lo hi qb I M p L K n : Nat} {S S' : PS} {ids : Nat → Int} {f : Int → Option Nat} {b : Nat} {Q : QL} (h : QK w lo hi qb I M p L K n S ids f b Q) (hk : Kp lo (lo + 3) w w1) : QC w1 qb p I M n b ∧ NB w1 I n ids ∧ MapIs w1 M Q.length f := by
  have h1 := h.ly
  have h2 := h.hh
  exact ⟨h.qc.kept (hk.block _ (by have := h1.q2; omega) (.inr h1.q1)), h.nb.kept (hk.block _ (by have := h1.i2; omega) (.inr h1.i1)), h.mp.kept (hk.block _ (by have := h1.m2; omega) (.inr h1.m1))⟩
/-- Only the block M is another. -/
structure Only (w w' : World) (M : Nat) : Prop where
  os : w'.os = w.os
  tape : w'.tape = w.tape
  output : w'.output = w.output
  size : w'.heap.size = w.heap.size
  kept : ∀ i, i ≠ M → w'.heap[i]? = w.heap[i]?
theorem block_set (w : World) (M : Nat) (o : Obj) (h : M < w.heap.size) : Only w (setBlock w M o) M ∧ (setBlock w M o).heap[M]? = some o := by
  refine ⟨⟨rfl, rfl, rfl, by simp [setBlock], fun i hi => ?_⟩, by simp [setBlock, h]⟩
  have e : ¬ M = i := fun e => hi e.symm
  simp [setBlock, e]
theorem set_block_cell (w : World) {M : Nat} {a : Addr} (v : Value) (o : Obj) (h : M ≠ a.block) : (setBlock w M o).setCell a v = setBlock (w.setCell a v) M o := by
  unfold setBlock World.setCell
  congr 1
  apply Array.ext_getElem?
  intro i
  have e : ¬ a.block = M := fun e => h e.symm
  simp only [Array.getElem?_modify, Array.getElem?_setIfInBounds, Array.size_modify]
  by_cases e1 : a.block = i
  · have e2 : ¬ M = i := fun e2 => h (e2.trans e1.symm)
    simp [e1, e2]
  · simp [e1]
theorem qpush_any {w : World} {lo hi qb I M p L K n : Nat} {Q : QL} (h : QAt w lo hi qb I M p L K n Q) {id : Int} (hid : (Lit.int .i64 id).wf = true) (k : Int) :
    Calls Try.prog 35 #[.pointer (some ⟨qb, 0, none⟩), .int .i64 id, .int .i64 k] w (QRes w lo hi qb I M p L K n (qPush n Q id k).2 (.int .i64 (qPush n Q id k).1)) := by
  have HA := Kept.mk h
  obtain ⟨S, ids, f, b, h⟩ := h.of
  have HH := fun w => qhas_any k w
  by_cases hk : ¬ (0 ≤ k ∧ k < 64)
  · simp only [decide_eq_false hk] at HH
    have e : qPush n Q id k = (1, Q) := by unfold qPush; rw [if_pos hk]
    rw [e]
    clear h
    go_enter Try.func35, Try.ntmps35
    go_wp2_with ((go_at_call 79; refine (HH _).mono ?_; rintro e w' ⟨rfl, rfl⟩))
    go_ret
    exact ⟨rfl, HA.out, Kp.refl _ _ _⟩
  have hk := Classical.not_not.1 hk
  obtain ⟨j, rfl⟩ : ∃ j : Nat, k = j := ⟨k.toNat, by omega⟩
  simp only [decide_eq_true hk] at HH
  have HL := map_look h.mp hid
  have hmem := h.mem id
  obtain ⟨c0, c1, c2, c3, qf⟩ := h.qc
  by_cases hm : id ∈ Q.ids
  · have e : qPush n Q id j = (4, Q) := by unfold qPush; rw [if_neg (by simpa using hk), if_pos hm]
    rw [e]
    rw [hmem, decide_eq_true hm] at HL
    clear h hmem
    go_enter Try.func35, Try.ntmps35
    go_wp2_with ((go_at_call 79; refine (HH _).mono ?_; rintro e w' ⟨rfl, rfl⟩))
    go_ret
    exact ⟨rfl, HA.out, Kp.refl _ _ _⟩
  rw [hmem, decide_eq_false hm] at HL
  have hf : f id = none := by rw [decide_eq_false hm] at hmem; cases e : f id with | none => rfl | some x => rw [e] at hmem; cases hmem
  have HT := take_any h.pa (j : Int)
  have hlen := h.co.len
  by_cases hfull : n ≤ Q.length
  · have hp : S.pile = [] := List.eq_nil_of_length_eq_zero (by omega)
    have et : tk 64 S j = (0, 5, S) := by
      unfold tk
      rw [if_neg (by omega), hp]; rfl
    rw [et] at HT
    have e : qPush n Q id j = (5, Q) := by unfold qPush; rw [if_neg (by simpa using hk), if_neg hm, if_pos hfull]
    rw [e]
    have HK := Kept.mk h
    clear h hmem
    go_enter Try.func35, Try.ntmps35
    go_wp2_with (first | (go_at_call 79; refine (HH _).mono ?_; rintro e w' ⟨rfl, rfl⟩) | (go_at_call 17; refine (HT).mono ?_; rintro e w1 ⟨rfl, hp1, hk1⟩))
    go_ret
    obtain ⟨g1, g2, g3⟩ := HK.out.after hk1 (S' := S)
    exact ⟨rfl, ⟨S, ids, f, b, HK.out.ly, Nat.le_trans HK.out.hh hk1.size, hp1, g1, g2, g3, HK.out.co, HK.out.fi, HK.out.bl, HK.out.bi⟩, hk1.wide HK.out.ly.lh⟩
  · obtain ⟨i, hgl⟩ : ∃ i, S.pile.getLast? = some i := by
      cases e : S.pile.getLast? with
      | some i => exact ⟨i, rfl⟩
      | none => rw [List.getLast?_eq_none_iff] at e; rw [e] at hlen; simp at hlen; omega
    have et : tk 64 S j = ((i : Int), 0, S.take i j) := by
      unfold tk
      rw [if_neg (by omega), hgl]; rfl
    rw [et] at HT
    have e : qPush n Q id j = (0, Q ++ [(id, j)]) := by unfold qPush; rw [if_neg (by simpa using hk), if_neg hm, if_neg hfull]; rfl
    rw [e]
    have hin : i < n := by
      obtain ⟨F, G, _, hG⟩ := h.pa.of
      exact hG.rep.plt i (List.mem_of_getLast? hgl)
    have HK := Kept.mk h
    have hn := h.pa.nb
    have hly := h.ly
    clear h hmem
    go_enter Try.func35, Try.ntmps35
    go_wp2_with (go_at_call 79; refine (HH _).mono ?_; rintro e w' ⟨rfl, rfl⟩)
    refine HT.mono ?_
    rintro e w1 ⟨rfl, hp1, hk1⟩
    obtain ⟨g1, g2, g3⟩ := HK.out.after hk1 (S' := S)
    have HP1 := Kept.mk hp1
    have HK1 := Kept.mk hk1
    have HG1 := Kept.mk g1
    have HG2 := Kept.mk g2
    have hlen2 := HK.out.co.len
    have him := hly.im
    have him' := hly.im.symm
    obtain ⟨st, o1, o2, m1, m2, m3, m4⟩ := map_entry g3 hid hf (by omega) i (by simp [Lit.wf, IntKind.min, IntKind.max, IntKind.signed, IntKind.bits]; omega)
    have hMl := g3.lt
    obtain ⟨Z1, hZ1⟩ : ∃ Z1, Z1 = setBlock w1 M o1 := ⟨_, rfl⟩
    obtain ⟨Z2, hZ2⟩ : ∃ Z2, Z2 = setBlock Z1 M o2 := ⟨_, rfl⟩
    obtain ⟨hz1, hs1⟩ := block_set w1 M o1 hMl
    rw [← hZ1] at hz1 hs1
    obtain ⟨hz2, hs2⟩ := block_set Z1 M o2 (by rw [hz1.size]; exact hMl)
    rw [← hZ2] at hz2 hs2
    have a1 : (Instr.mapEntry 132 (.map (some M)) (.int .i64 id)).run Try.prog w1.drew = .ok (.tuple #[.int .i64 0, st]) Z1.drew := (m1 w1.drew rfl).trans (by rw [hZ1]; rfl)
    have a2 : (Instr.mapEntry 132 (.map (some M)) (.int .i64 id)).run Try.prog (w1.setCell ⟨I, i, none⟩ (.int .i64 id)).drew = .ok (.tuple #[.int .i64 0, st]) (Z1.setCell ⟨I, i, none⟩ (.int .i64 id)).drew :=
      (m1 (w1.setCell ⟨I, i, none⟩ (.int .i64 id)).drew (Below.heap_setCell _ _ _ _ him')).trans (by rw [hZ1, set_block_cell _ _ _ him']; rfl)
    have b1 : (Instr.entryStore 132 (.map (some M)) st (.int .i64 (i : Int))).run Try.prog Z1.drew = .ok () Z2.drew := (m2 Z1.drew hs1).trans (by rw [hZ2]; rfl)
    have b2 : (Instr.entryStore 132 (.map (some M)) st (.int .i64 (i : Int))).run Try.prog (Z1.setCell ⟨I, i, none⟩ (.int .i64 id)).drew = .ok () (Z2.setCell ⟨I, i, none⟩ (.int .i64 id)).drew :=
      (m2 (Z1.setCell ⟨I, i, none⟩ (.int .i64 id)).drew ((Below.heap_setCell _ _ _ _ him').trans hs1)).trans (by rw [hZ2, set_block_cell _ _ _ him']; rfl)
    have HM3 := Kept.mk m3
    have k1 := fun j hj => g2.c j hj
    have kf := g2.f
    have y1 := g1.kept (hz1.kept _ hly.qm)
    have y2 := y1.kept (hz2.kept _ hly.qm)
    have n1 := g2.kept (hz1.kept _ him)
    have n2 := n1.kept (hz2.kept _ him)
    obtain ⟨d0, d1, d2, d3, df⟩ := y1
    obtain ⟨e0, e1, e2, e3, ef⟩ := y2
    have l1 := n1.c
    have lf := n1.f
    have r1 := n2.c
    have rf := n2.f
    have HY := Kept.mk n2
    clear c0 c1 c2 c3 qf HL HT HH
    obtain ⟨c0, c1, c2, c3, qf⟩ := g1
    clear g2 g3 m1 m2 m3 hp1 hk1 n1 n2
    have HZ1 := Kept.mk hz1
    have HZ2 := Kept.mk hz2
    have HS := Kept.mk hs2
    have hqi := hly.qi
    have hqi' := hly.qi.symm
    clear hZ1 hZ2 hz1 hz2 hs1 hs2
    go_wp2_with fail
    go_region
    obtain ⟨W2, hW2⟩ : ∃ W2, W2 = (Z2.setCell ⟨I, i, none⟩ (.int .i64 id)).drew := ⟨_, rfl⟩
    have hJ : QJ W2 lo hi qb I M p L K n (S.take i j) (upd ids i id) (fun a => if a = id then some i else f a) b (Q ++ [(id, j)]) [j] ∧ Kp lo hi w1 W2 := by
      have q0 := hly.lh
      have q1 := hly.q1
      have q2 := hly.i1
      have q3 := hly.m1
      have q4 := hly.i2
      have q5 := hly.m2
      have z1 := HZ1.out
      have z2 := HZ2.out
      have hsz : W2.heap.size = w1.heap.size := by rw [hW2]; simpa using z2.size.trans z1.size
      have hbl : ∀ x, x ≠ M → x ≠ I → W2.heap[x]? = w1.heap[x]? := fun x h1 h2 => by
        rw [hW2]
        exact (Below.heap_setCell _ _ _ _ h2).trans ((z2.kept x h1).trans (z1.kept x h1))
      obtain ⟨F, G, _, hG⟩ := HK.out.pa.of
      have hip : i ∈ S.pile := List.mem_of_getLast? hgl
      have hhw := Nat.le_trans HK.out.hh HK1.out.size
      refine ⟨⟨hly, by rw [hsz]; exact hhw, HP1.out.keptQ (by omega) fun x hx => hbl x (by omega) (by omega), HG1.out.kept (hbl _ hly.qm hly.qi), ?_, ?_, con_push hG HK.out.co hgl (by omega) hm, fi_push hG HK.out.co HK.out.fi hip (by omega) hm, HK.out.bl, fun a ha hx => ?_⟩, ?_⟩
      · rw [hW2]; exact (HY.out.set hin id).drew
      · have := HM3.out W2 (by rw [hW2]; exact (Below.heap_setCell _ _ _ _ him').trans HS.out)
        simpa using this
      · rw [list_take hG i (by omega), HK.out.bi a ha, if_neg (by simp at hx; omega), List.append_nil]
      · exact ⟨by rw [hW2]; exact z2.os.trans z1.os, by rw [hW2]; exact z2.tape.trans z1.tape, by rw [hW2]; exact z2.output.trans z1.output, by omega, fun x h1 h2 => hbl x (by omega) (by omega)⟩
    rw [← hW2]
    obtain ⟨hJ, hKp⟩ := hJ
    have HN := note_any hJ.pa hJ.qc hly.q1 hJ.bl j (by omega)
    have HJ := Kept.mk hJ
    have HKp := Kept.mk hKp
    clear hW2 hJ hKp a1 a2 b1 b2 k1 kf d0 d1 d2 d3 df e0 e1 e2 e3 ef l1 lf r1 rf c0 c1 c2 c3 qf
    go_wp2_with (go_at_call 80; refine (HN).mono ?_; rintro e w' hn'; obtain ⟨rfl, hkp', c', hJ'⟩ := HJ.out.note hn'; have HJ' := Kept.mk hJ'; have HKp' := Kept.mk hkp'; clear hn' hkp' hJ')
    go_ret
    exact ⟨rfl, HJ'.out.at, ((HK1.out.wide hly.lh).trans HKp.out).trans HKp'.out⟩
end Go.Proofs.Ytcchmkpodfjhcaa
