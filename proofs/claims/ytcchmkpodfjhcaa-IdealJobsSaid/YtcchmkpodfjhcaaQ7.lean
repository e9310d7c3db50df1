/-
  The walks of the queue's Pop, Raise, Turn.
-/
import Derived.Test.YtcchmkpodfjhcaaQ6
namespace Go.Proofs.Ytcchmkpodfjhcaa
open Go.RowKit Go.Shelf Go.Maps Go.ChangeMaps
set_option linter.unusedVariables false
def popQ (Q : QL) : Option (Int × Nat) → QL
  | none => Q
  | some (id, _) => Q.rem id
def PopRes (w : World) (lo hi qb I M p L K n : Nat) (Q : QL) (e : Ending) (w' : World) : Prop := ∃ o, IsTop Q o ∧ e = .returned (topV o) ∧ QAt w' lo hi qb I M p L K n (popQ Q o) ∧ Kp lo hi w w'
theorem qpop_any {w : World} {lo hi qb I M p L K n : Nat} {Q : QL} (h : QAt w lo hi qb I M p L K n Q) (hid : ∀ x ∈ Q, (Lit.int .i64 x.1).wf = true) :
    Calls Try.prog 46 #[.pointer (some ⟨qb, 0, none⟩)] w (PopRes w lo hi qb I M p L K n Q) := by
  have HA := Kept.mk h
  have HT := Kept.mk (qtop_any h)
  have HR := Kept.mk (fun (id : Int) (hi : (Lit.int .i64 id).wf = true) => qremove_any h hi)
  have HI := Kept.mk hid
  clear hid h
  go_enter Try.func46, Try.ntmps46
  go_wp2_with fail
  refine HT.out.mono ?_
  rintro e w' ⟨⟨o, ho, rfl⟩, rfl⟩
  cases o with
  | none =>
    unfold topV
    go_wp2
    go_ret3
    exact ⟨none, ho, rfl, HA.out, Kp.refl _ _ _⟩
  | some a =>
    obtain ⟨id, k⟩ := a
    have hm : (id, k) ∈ Q := of_mem.1 (List.mem_of_head? ho.2.1)
    have HO := Kept.mk ho
    have hq := HR.out id (HI.out _ hm)
    have hmi : id ∈ Q.ids := List.mem_map.2 ⟨(id, k), hm, rfl⟩
    have e : qRemove Q id = (0, Q.rem id) := by unfold qRemove; rw [if_pos hmi]
    rw [e] at hq
    unfold topV
    clear ho hm hmi e
    go_wp2_with (go_at_call 48; refine (hq).mono ?_; rintro e w1 ⟨rfl, hA1, hk1⟩; have HA1 := Kept.mk hA1; have HK1 := Kept.mk hk1; clear hA1 hk1)
    go_ret3
    exact ⟨some (id, k), HO.out, rfl, HA1.out, HK1.out⟩
theorem rem_app_len {Q : QL} (h : Q.ids.Nodup) {id : Int} (hm : id ∈ Q.ids) (k : Nat) : (Q.rem id ++ [(id, k)]).length = Q.length := by
  have := rem_len h hm
  simp; omega
theorem mv_ok {n : Nat} {S : PS} {x r k : Nat} (hw : wh n S x = ((r : Int), (0 : Int))) (hk : k < 64) : mv n 64 S x k = (0, S.move x k) := by
  unfold mv
  rw [hw, if_neg (by simp; omega)]
  simp
def qRaise (Q : QL) (id k : Int) : Int × QL := if ¬ (0 ≤ k ∧ k < 64) then (1, Q) else if id ∈ Q.ids then (0, Q.rem id ++ [(id, k.toNat)]) else (3, Q)
theorem qraise_any {w : World} {lo hi qb I M p L K n : Nat} {Q : QL} (h : QAt w lo hi qb I M p L K n Q) {id : Int} (hid : (Lit.int .i64 id).wf = true) (k : Int) :
    Calls Try.prog 38 #[.pointer (some ⟨qb, 0, none⟩), .int .i64 id, .int .i64 k] w (QRes w lo hi qb I M p L K n (qRaise Q id k).2 (.int .i64 (qRaise Q id k).1)) := by
  have HA := Kept.mk h
  obtain ⟨S, ids, f, b, h⟩ := h.of
  have HH := fun w => qhas_any k w
  by_cases hk : ¬ (0 ≤ k ∧ k < 64)
  · simp only [decide_eq_false hk] at HH
    have e : qRaise Q id k = (1, Q) := by unfold qRaise; rw [if_pos hk]
    rw [e]
    clear h
    go_enter Try.func38, Try.ntmps38
    go_wp2_with ((go_at_call 79; refine (HH _).mono ?_; rintro e w' ⟨rfl, rfl⟩))
    go_ret
    exact ⟨rfl, HA.out, Kp.refl _ _ _⟩
  have hk := Classical.not_not.1 hk
  obtain ⟨j, rfl⟩ : ∃ j : Nat, k = j := ⟨k.toNat, by omega⟩
  simp only [decide_eq_true hk] at HH
  have HL := map_look h.mp hid
  have hmem := h.mem id
  obtain ⟨c0, c1, c2, c3, qf⟩ := h.qc
  by_cases hm : id ∈ Q.ids
  · have e : qRaise Q id j = (0, Q.rem id ++ [(id, j)]) := by unfold qRaise; rw [if_neg (by simpa using hk), if_pos hm]; rfl
    rw [e]
    obtain ⟨x, r, hf, hr, hx, hxi, hxn, hw⟩ := h.find hm
    rw [hf] at HL
    have HW := pwhere h.pa x
    rw [hw] at HW
    have HT := move_any h.pa x (j : Int)
    rw [mv_ok hw (by omega)] at HT
    have HK := Kept.mk h
    have hly := h.ly
    clear h hmem
    go_enter Try.func38, Try.ntmps38
    go_wp2_with (first | (go_at_call 79; refine (HH _).mono ?_; rintro e w' ⟨rfl, rfl⟩) | (go_at_call 27; refine (HW).mono ?_; rintro e w' ⟨rfl, rfl⟩))
    refine HT.mono ?_
    rintro e w1 ⟨rfl, hp1, hk1⟩
    obtain ⟨g1, g2, g3⟩ := HK.out.after hk1 (S' := S)
    obtain ⟨F, G, _, hG⟩ := HK.out.pa.of
    obtain ⟨hJ, hKp⟩ := qj_make (X := [r, j]) (Q' := Q.rem id ++ [(id, j)]) HK.out hk1 hp1 (Only.refl _ _) (by rw [rem_app_len HK.out.co.nd hm]; exact g3) (by rw [← hxi]; exact con_move hG HK.out.co hr hx (by omega)) (fun a y => fi_move hG HK.out.fi hr hx (by omega) a y)
      (fun i hi hne => by rw [list_move hG x (by omega), out_same hG hr hx hi (by simp at hne; exact hne.1), if_neg (by simp at hne; omega), List.append_nil])
    have HN := note_any hJ.pa hJ.qc hly.q1 hJ.bl r hr
    have HJ := Kept.mk hJ
    have HKp := Kept.mk hKp
    clear hG g1 g2 g3 hJ hKp c0 c1 c2 c3 qf hp1 hk1 HL HT HW HH
    go_wp2_with fail
    refine HN.mono ?_
    intro e w3 hn'
    obtain ⟨rfl, hkp', c', hJ'⟩ := HJ.out.note hn'
    have HN2 := note_any hJ'.pa hJ'.qc hly.q1 hJ'.bl j (by omega)
    have HJ' := Kept.mk hJ'
    have HKp' := Kept.mk hkp'
    clear hn' hkp' hJ' HN
    go_wp2_with fail
    refine HN2.mono ?_
    intro e w4 hn'
    obtain ⟨rfl, hkp', c'', hJ'⟩ := HJ'.out.note hn'
    have HJ2 := Kept.mk hJ'
    have HKp2 := Kept.mk hkp'
    clear hn' hkp' hJ' HN2
    go_wp2
    go_ret
    exact ⟨rfl, HJ2.out.at, (HKp.out.trans HKp'.out).trans HKp2.out⟩
  · have e : qRaise Q id j = (3, Q) := by unfold qRaise; rw [if_neg (by simpa using hk), if_neg hm]
    rw [e]
    rw [hmem, decide_eq_false hm] at HL
    clear h hmem
    go_enter Try.func38, Try.ntmps38
    go_wp2_with ((go_at_call 79; refine (HH _).mono ?_; rintro e w' ⟨rfl, rfl⟩))
    go_ret
    exact ⟨rfl, HA.out, Kp.refl _ _ _⟩
def qTurn (Q : QL) (k : Int) : Int × QL := if ¬ (0 ≤ k ∧ k < 64) then (1, Q) else match (Q.of k.toNat).head? with | none => (3, Q) | some id => (0, Q.rem id ++ [(id, k.toNat)])
theorem qturn_any {w : World} {lo hi qb I M p L K n : Nat} {Q : QL} (h : QAt w lo hi qb I M p L K n Q) (k : Int) :
    Calls Try.prog 51 #[.pointer (some ⟨qb, 0, none⟩), .int .i64 k] w (QRes w lo hi qb I M p L K n (qTurn Q k).2 (.int .i64 (qTurn Q k).1)) := by
  have HA := Kept.mk h
  obtain ⟨S, ids, f, b, h⟩ := h.of
  have HH := fun w => qhas_any k w
  by_cases hk : ¬ (0 ≤ k ∧ k < 64)
  · simp only [decide_eq_false hk] at HH
    have e : qTurn Q k = (1, Q) := by unfold qTurn; rw [if_pos hk]
    rw [e]
    clear h
    go_enter Try.func51, Try.ntmps51
    go_wp2_with ((go_at_call 79; refine (HH _).mono ?_; rintro e w' ⟨rfl, rfl⟩))
    go_ret
    exact ⟨rfl, HA.out, Kp.refl _ _ _⟩
  have hk := Classical.not_not.1 hk
  obtain ⟨j, rfl⟩ : ∃ j : Nat, k = j := ⟨k.toNat, by omega⟩
  simp only [decide_eq_true hk] at HH
  have HF := pfirst h.pa (j : Int)
  obtain ⟨c0, c1, c2, c3, qf⟩ := h.qc
  have hl := h.co.lists j (by omega)
  cases hx : S.list (j : Int) with
  | nil =>
    rw [hx] at HF hl
    simp only [List.head?_nil, optV] at HF
    have e : qTurn Q j = (3, Q) := by
      unfold qTurn; rw [if_neg (by simpa using hk), Int.toNat_natCast, ← hl]; rfl
    rw [e]
    clear h
    go_enter Try.func51, Try.ntmps51
    go_wp2_with (first | (go_at_call 79; refine (HH _).mono ?_; rintro e w' ⟨rfl, rfl⟩) | (go_at_call 31; refine (HF).mono ?_; rintro e w' ⟨rfl, rfl⟩))
    go_ret
    exact ⟨rfl, HA.out, Kp.refl _ _ _⟩
  | cons x rr =>
    rw [hx] at HF hl
    simp only [List.head?_cons, optV] at HF
    have e : qTurn Q j = (0, Q.rem (ids x) ++ [(ids x, j)]) := by
      unfold qTurn; rw [if_neg (by simpa using hk), Int.toNat_natCast, ← hl]; rfl
    rw [e]
    obtain ⟨F, G, _, hG⟩ := h.pa.of
    have hxm : x ∈ S.list (j : Int) := by rw [hx]; exact List.mem_cons_self ..
    obtain ⟨hxn, hw⟩ := wh_in hG (show j < 64 by omega) hxm
    have HT := move_any h.pa x (j : Int)
    rw [mv_ok hw (by omega)] at HT
    have HK := Kept.mk h
    have HX := Kept.mk hxm
    clear h hl hx hxm hG
    go_enter Try.func51, Try.ntmps51
    go_wp2_with (first | (go_at_call 79; refine (HH _).mono ?_; rintro e w' ⟨rfl, rfl⟩) | (go_at_call 31; refine (HF).mono ?_; rintro e w' ⟨rfl, rfl⟩))
    refine HT.mono ?_
    rintro e w1 ⟨rfl, hp1, hk1⟩
    have HP1 := Kept.mk hp1
    have HK1 := Kept.mk hk1
    clear hp1 hk1 HT HF HH c0 c1 c2 c3 qf
    go_wp2
    go_ret
    obtain ⟨g1, g2, g3⟩ := HK.out.after HK1.out (S' := S)
    obtain ⟨F, G, _, hG⟩ := HK.out.pa.of
    have hm : ids x ∈ Q.ids := List.mem_map.2 ⟨_, HK.out.co.mem (by omega) HX.out, rfl⟩
    obtain ⟨hJ, hKp⟩ := qj_make (X := []) (Q' := Q.rem (ids x) ++ [(ids x, j)]) HK.out HK1.out HP1.out (Only.refl _ _) (by rw [rem_app_len HK.out.co.nd hm]; exact g3) (con_move hG HK.out.co (by omega) HX.out (by omega)) (fun a y => fi_move hG HK.out.fi (by omega) HX.out (by omega) a y)
      (fun i hi _ => by
        rw [list_move hG x (by omega)]
        by_cases e : j = i
        · subst e
          rw [if_pos rfl, decide_eq_true (List.ne_nil_of_mem HX.out), decide_eq_true (by simp)]
        · rw [if_neg e, List.append_nil, out_same hG (by omega) HX.out hi (fun h => e h.symm)])
    exact ⟨rfl, hJ.at, hKp⟩
end Go.Proofs.Ytcchmkpodfjhcaa
