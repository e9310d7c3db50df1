/-
  The walks of the queue's Remove, Pop, Raise, Turn.
-/
import Derived.Test.YtcchmkpodfjhcaaQ5
namespace Go.Proofs.Ytcchmkpodfjhcaa
open Go.RowKit Go.Shelf Go.Maps Go.ChangeMaps
set_option linter.unusedVariables false
/-! ### plain: a place that is taken out, or moved -/
theorem wh_in {n : Nat} {S : PS} {F G : Nat → Int} (hg : Good n 64 S F G) {q x : Nat} (hq : q < 64) (hx : x ∈ S.list (q : Int)) : x < n ∧ wh n S x = ((q : Int), (0 : Int)) := by
  obtain ⟨h1, _, _, h2⟩ := hg.list hq
  have h3 := h2 x hx
  refine ⟨h3, ?_⟩
  unfold wh
  rw [if_neg (by omega), Int.toNat_natCast, hg.rep.loc h1 hx]
theorem list_one {n : Nat} {S : PS} {F G : Nat → Int} (hg : Good n 64 S F G) {q x a : Nat} (hq : q < 64) (hx : x ∈ S.list (q : Int)) (ha : a < 64) (hne : a ≠ q) : x ∉ S.list (a : Int) := fun h =>
  hne (hg.rep.one (hg.list ha).1 (hg.list hq).1 h hx).1
theorem out_same {n : Nat} {S : PS} {F G : Nat → Int} (hg : Good n 64 S F G) {q x a : Nat} (hq : q < 64) (hx : x ∈ S.list (q : Int)) (ha : a < 64) (hne : a ≠ q) : (S.out x).list (a : Int) = S.list (a : Int) := by
  rw [list_outq]
  exact filter_notin (list_one hg hq hx ha hne)
theorem list_move {n : Nat} {S : PS} {F G : Nat → Int} (hg : Good n 64 S F G) (x : Nat) {k : Nat} (hk : k < 64) (q : Nat) : (S.move x k).list (q : Int) = (S.out x).list (q : Int) ++ if k = q then [x] else [] := by
  unfold PS.move
  rw [list_put (by unfold PS.out; rw [List.length_map, hg.rep.len]; exact hk)]
theorem fi_give {n : Nat} {S : PS} {F G ids : Nat → Int} {f : Int → Option Nat} {Q : QL} (hg : Good n 64 S F G) (hc : Con n S ids Q) (h : ∀ id x, f id = some x ↔ ∃ q : Nat, q < 64 ∧ x ∈ S.list (q : Int) ∧ ids x = id) {x r : Nat} (hr : r < 64) (hx : x ∈ S.list (r : Int)) (a : Int) (y : Nat) :
    (if a = ids x then none else f a) = some y ↔ ∃ q : Nat, q < 64 ∧ y ∈ (S.give x).list (q : Int) ∧ ids y = a := by
  have e : ∀ q : Nat, (S.give x).list (q : Int) = (S.out x).list (q : Int) := fun q => rfl
  constructor
  · intro h0
    by_cases ha : a = ids x
    · rw [if_pos ha] at h0; cases h0
    · rw [if_neg ha] at h0
      obtain ⟨q, h1, h2, h3⟩ := (h a y).1 h0
      refine ⟨q, h1, ?_, h3⟩
      rw [e, list_outq, List.mem_filter]
      exact ⟨h2, decide_eq_true (by rintro rfl; exact ha h3.symm)⟩
  · rintro ⟨q, h1, h2, h3⟩
    rw [e, list_outq, List.mem_filter] at h2
    have hyx : y ≠ x := of_decide_eq_true h2.2
    have ha : a ≠ ids x := by
      rintro rfl
      exact hyx (hc.inj h1 hr h2.1 hx h3)
    rw [if_neg ha]
    exact (h a y).2 ⟨q, h1, h2.1, h3⟩
theorem fi_move {n : Nat} {S : PS} {F G ids : Nat → Int} {f : Int → Option Nat} (hg : Good n 64 S F G) (h : ∀ id x, f id = some x ↔ ∃ q : Nat, q < 64 ∧ x ∈ S.list (q : Int) ∧ ids x = id) {x r k : Nat} (hr : r < 64) (hx : x ∈ S.list (r : Int)) (hk : k < 64) (a : Int) (y : Nat) :
    f a = some y ↔ ∃ q : Nat, q < 64 ∧ y ∈ (S.move x k).list (q : Int) ∧ ids y = a := by
  constructor
  · intro h0
    obtain ⟨q, h1, h2, h3⟩ := (h a y).1 h0
    by_cases hyx : y = x
    · subst hyx
      exact ⟨k, hk, by rw [list_move hg y hk, if_pos rfl]; simp, h3⟩
    · refine ⟨q, h1, ?_, h3⟩
      rw [list_move hg x hk, list_outq]
      exact List.mem_append_left _ (List.mem_filter.2 ⟨h2, decide_eq_true hyx⟩)
  · rintro ⟨q, h1, h2, h3⟩
    rw [list_move hg x hk, list_outq] at h2
    rcases List.mem_append.1 h2 with h2' | h2'
    · exact (h a y).2 ⟨q, h1, (List.mem_filter.1 h2').1, h3⟩
    · split at h2'
      · simp at h2'
        subst h2'
        exact (h a y).2 ⟨r, hr, hx, h3⟩
      · cases h2'
theorem QK.find {w : World} {lo hi qb I M p L K n : Nat} {S : PS} {ids : Nat → Int} {f : Int → Option Nat} {b : Nat} {Q : QL} (h : QK w lo hi qb I M p L K n S ids f b Q) {id : Int} (hm : id ∈ Q.ids) : ∃ x r : Nat, f id = some x ∧ r < 64 ∧ x ∈ S.list (r : Int) ∧ ids x = id ∧ x < n ∧ wh n S x = ((r : Int), (0 : Int)) := by
  have h0 := h.mem id
  rw [decide_eq_true hm] at h0
  cases e : f id with
  | none => rw [e] at h0; cases h0
  | some x =>
    obtain ⟨r, h1, h2, h3⟩ := (h.fi id x).1 e
    obtain ⟨F, G, _, hG⟩ := h.pa.of
    obtain ⟨h4, h5⟩ := wh_in hG h1 h2
    exact ⟨x, r, rfl, h1, h2, h3, h4, h5⟩
theorem Only.refl (w : World) (M : Nat) : Only w w M := ⟨rfl, rfl, rfl, rfl, fun _ _ => rfl⟩
theorem qj_make {w w1 w2 : World} {lo hi qb I M p L K n : Nat} {S S' : PS} {ids : Nat → Int} {f f' : Int → Option Nat} {b : Nat} {Q Q' : QL} {X : List Nat} (h : QK w lo hi qb I M p L K n S ids f b Q) (hk : Kp lo (lo + 3) w w1) (hp : PoolAt w1 lo (lo + 3) p L K n 64 S') (ho : Only w1 w2 M)
    (hm : MapIs w2 M Q'.length f') (hc : Con n S' ids Q') (hf : ∀ id x, f' id = some x ↔ ∃ q : Nat, q < 64 ∧ x ∈ S'.list (q : Int) ∧ ids x = id) (hb : ∀ i, i < 64 → i ∉ X → decide (S.list ((i : Nat) : Int) ≠ []) = decide (S'.list ((i : Nat) : Int) ≠ [])) :
    QJ w2 lo hi qb I M p L K n S' ids f' b Q' X ∧ Kp lo hi w w2 := by
  obtain ⟨g1, g2, g3⟩ := h.after hk (S' := S)
  have l := h.ly
  have q0 := l.lh
  have q3 := l.m1
  have q5 := l.m2
  have hh := Nat.le_trans h.hh hk.size
  have z := ho.size
  refine ⟨⟨l, by omega, hp.keptQ (by omega) fun i hi => ho.kept i (by omega), g1.kept (ho.kept _ l.qm), g2.kept (ho.kept _ l.im), hm, hc, hf, h.bl, fun i h1 h2 => (h.bi i h1).trans (hb i h1 h2)⟩, (hk.wide (by omega)).trans ⟨ho.os, ho.tape, ho.output, by omega, fun i h1 h2 => ho.kept i (by omega)⟩⟩
def qRemove (Q : QL) (id : Int) : Int × QL := if id ∈ Q.ids then (0, Q.rem id) else (3, Q)
theorem only_of_turned {w w' : World} {M : Nat} (h : w.mapTurned w' M) : Only w w' M := by
  obtain ⟨es, clock, es', clock', h1, rfl⟩ := h
  exact (block_set w M _ (by rcases Nat.lt_or_ge M w.heap.size with h | h; exact h; rw [Array.getElem?_eq_none h] at h1; cases h1)).1
theorem qremove_any {w : World} {lo hi qb I M p L K n : Nat} {Q : QL} (h : QAt w lo hi qb I M p L K n Q) {id : Int} (hid : (Lit.int .i64 id).wf = true) :
    Calls Try.prog 48 #[.pointer (some ⟨qb, 0, none⟩), .int .i64 id] w (QRes w lo hi qb I M p L K n (qRemove Q id).2 (.int .i64 (qRemove Q id).1)) := by
  have HA := Kept.mk h
  obtain ⟨S, ids, f, b, h⟩ := h.of
  have HL := map_look h.mp hid
  have hmem := h.mem id
  obtain ⟨c0, c1, c2, c3, qf⟩ := h.qc
  by_cases hm : id ∈ Q.ids
  · have e : qRemove Q id = (0, Q.rem id) := by unfold qRemove; rw [if_pos hm]
    rw [e]
    obtain ⟨x, r, hf, hr, hx, hxi, hxn, hw⟩ := h.find hm
    rw [hf] at HL
    have HW := pwhere h.pa x
    rw [hw] at HW
    have HT := give_any h.pa x
    have eg : gv n S x = (0, S.give x) := by unfold gv; rw [hw]; rfl
    rw [eg] at HT
    have HK := Kept.mk h
    have hly := h.ly
    clear h hmem
    go_enter Try.func48, Try.ntmps48
    go_wp2_with (go_at_call 27; refine (HW).mono ?_; rintro e w' ⟨rfl, rfl⟩)
    refine HT.mono ?_
    rintro e w1 ⟨rfl, hp1, hk1⟩
    obtain ⟨g1, g2, g3⟩ := HK.out.after hk1 (S' := S)
    have HP1 := Kept.mk hp1
    have HK1 := Kept.mk hk1
    have HG1 := Kept.mk g1
    have HG2 := Kept.mk g2
    obtain ⟨D, hD, hsz, hv⟩ := g3
    have HD := Kept.mk hD
    have HV := Kept.mk hv
    have HWF := Kept.mk (keyOf_int_mk (P := Try.prog) Try.underlying3 hid)
    clear c0 c1 c2 c3 qf HL HT HW hv hp1 hk1 g2
    obtain ⟨c0, c1, c2, c3, qf⟩ := g1
    go_wp2_with ((at_delete; refine wpList_delete_own _ rfl _ _ 132 3 rfl 3 keyInt Try.underlying132 _ M _ D rfl hD _ _ rfl HWF.out ?_; intro w2 hown2 hturn2))
    have hsz' : Maps.size D = (Q.rem id).length + 1 := by rw [hsz]; exact (rem_len HK.out.co.nd hm).symm
    have hdel := MapIs.del HD.out hsz' HV.out hid hf hown2
    obtain ⟨F, G, _, hG⟩ := HK.out.pa.of
    obtain ⟨hJ, hKp⟩ := qj_make (X := [r]) (Q' := Q.rem id) HK.out HK1.out HP1.out (only_of_turned hturn2) hdel (by rw [← hxi]; exact con_give hG HK.out.co hr hx) (fun a y => by rw [← hxi]; exact fi_give hG HK.out.co HK.out.fi hr hx a y)
      (fun i hi hne => by rw [show (S.give x).list (i : Int) = S.list (i : Int) from out_same hG hr hx hi (by simpa using hne)])
    have HN := note_any hJ.pa hJ.qc hly.q1 hJ.bl r hr
    have HJ := Kept.mk hJ
    have HKp := Kept.mk hKp
    clear hG hdel hJ hKp hturn2 hown2 hD hsz hsz' c0 c1 c2 c3 qf
    refine HN.mono ?_
    intro e w3 hn'
    obtain ⟨rfl, hkp', c', hJ'⟩ := HJ.out.note hn'
    have HJ' := Kept.mk hJ'
    have HKp' := Kept.mk hkp'
    clear hn' hkp' hJ' HN
    go_wp2
    go_ret
    exact ⟨rfl, HJ'.out.at, HKp.out.trans HKp'.out⟩
  · have e : qRemove Q id = (3, Q) := by unfold qRemove; rw [if_neg hm]
    rw [e]
    rw [hmem, decide_eq_false hm] at HL
    clear h hmem
    go_enter Try.func48, Try.ntmps48
    go_wp2
    go_ret
    exact ⟨rfl, HA.out, Kp.refl _ _ _⟩
end Go.Proofs.Ytcchmkpodfjhcaa
