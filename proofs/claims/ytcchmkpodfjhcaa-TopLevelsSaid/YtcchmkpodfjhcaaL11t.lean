/-
  The walk of the law ReadyTurns.
-/
import Derived.Test.YtcchmkpodfjhcaaL11o
namespace Go.Proofs.Ytcchmkpodfjhcaa
open Go.RowKit
set_option linter.unusedVariables false
/-- A row of numbers in memory behind the queue's own. -/
def IntsO (w : World) (hi : Nat) (A : Option Addr) (xs : List Int) : Prop :=
  0 < xs.length → ∃ b off, A = some ⟨b, off, none⟩ ∧ hi ≤ b ∧ b < w.heap.size ∧ ∀ j, j < xs.length → w.cell? ⟨b, off + j, none⟩ = some (.int .i64 (xs[j]?.getD 0))
theorem IntsO.of_own {w : World} {base : Nat} {A : Option Addr} {c : Nat} {xs : List Int} (h : w.ownsRow base 3 1 (.slice A xs.length c) xs.length (xs.map (Value.int .i64))) {hi : Nat} (hb : hi ≤ base) : IntsO w hi A xs := fun h0 => by
  obtain ⟨g, cap, hv, hg, hlt⟩ := h.form h0
  obtain ⟨b, off, e, h1, h2⟩ := (Ints.of_own h).2 h0
  have e1 : A = some ⟨g, 0, none⟩ := by cases hv; rfl
  rw [e1] at e
  cases e
  exact ⟨_, _, e1, Nat.le_trans hb hg, h1, h2⟩
theorem IntsO.ints {w : World} {hi : Nat} {A : Option Addr} {xs : List Int} (h : IntsO w hi A xs) : Ints w w.heap.size A xs := fun h0 => by
  obtain ⟨b, off, e, _, h1, h2⟩ := h h0
  exact ⟨b, off, e, h1, h2⟩
theorem IntsO.below {w w' : World} {hi : Nat} {A : Option Addr} {xs : List Int} (h : IntsO w hi A xs) (hb : Below w.heap.size w w') : IntsO w' hi A xs := fun h0 => by
  obtain ⟨b, off, e, h1, h2, h3⟩ := h h0
  exact ⟨b, off, e, h1, Nat.lt_of_lt_of_le h2 hb.size, fun j hj => (hb.cell (p := ⟨b, off + j, none⟩) h2).trans (h3 j hj)⟩
theorem IntsO.kp {w w' : World} {lo hi : Nat} {A : Option Addr} {xs : List Int} (h : IntsO w hi A xs) (hk : Kp lo hi w w') : IntsO w' hi A xs := fun h0 => by
  obtain ⟨b, off, e, h1, h2, h3⟩ := h h0
  exact ⟨b, off, e, h1, Nat.lt_of_lt_of_le h2 hk.size, fun j hj => (World.cell?_of_block (a := ⟨b, off + j, none⟩) (hk.block b h2 (.inr h1))).trans (h3 j hj)⟩
theorem turn_list {Q : QL} {l : List Int} {k : Nat} {p : Int} (hn : Q.ids.Nodup) (h : qList Q p = l.drop k ++ l.take k) (hk : k < l.length) : ∃ id : Int, l[k]?.getD 0 = id ∧ (qList Q p)[0]?.getD 0 = id ∧ (qList Q p).length = l.length ∧ ∃ Q', qTurn Q p = (0, Q') ∧ qList Q' p = l.drop (k + 1) ++ l.take (k + 1) := by
  have hlen : (qList Q p).length = l.length := by rw [h]; simp; omega
  have hd : l.drop k = l[k] :: l.drop (k + 1) := List.drop_eq_getElem_cons hk
  have ht : l.take (k + 1) = l.take k ++ [l[k]] := by rw [List.take_add_one, List.getElem?_eq_getElem hk]; rfl
  have hp : 0 ≤ p ∧ p < 64 := by
    by_cases hp : 0 ≤ p ∧ p < 64
    · exact hp
    · unfold qList at hlen
      rw [if_neg hp] at hlen
      simp at hlen; omega
  refine ⟨l[k], by simp [hk], by rw [h, hd]; rfl, hlen, Q.rem l[k] ++ [(l[k], p.toNat)], ?_, ?_⟩
  · unfold qTurn
    unfold qList at h
    rw [if_pos hp] at h
    rw [if_neg (fun hc => hc hp), h, hd]
    rfl
  · unfold qList at h ⊢
    rw [if_pos hp] at h ⊢
    have hnd := of_nodup hn p.toNat
    rw [h, hd] at hnd
    rw [of_app, if_pos rfl, of_rem, h, hd, ht]
    rw [List.cons_append, List.nodup_cons] at hnd
    rw [List.cons_append, List.filter_cons_of_neg (by simp), List.filter_eq_self.2 (fun a ha => decide_eq_true (by rintro rfl; exact hnd.1 ha))]
    simp
theorem turn_none {Q : QL} {p : Int} (h : qList Q p = []) : ∃ a : Int, qTurn Q p = (a, Q) ∧ (a == 0) = false := by
  unfold qTurn
  by_cases hp : 0 ≤ p ∧ p < 64
  · unfold qList at h
    rw [if_pos hp] at h
    rw [if_neg (fun hc => hc hp), h]
    exact ⟨3, rfl, by decide⟩
  · rw [if_pos hp]
    exact ⟨1, rfl, by decide⟩
theorem QAt.nd {w : World} {lo hi qb I M p L K n : Nat} {Q : QL} (h : QAt w lo hi qb I M p L K n Q) : Q.ids.Nodup := by
  obtain ⟨_, _, _, _, hk⟩ := h.of
  exact hk.co.nd
theorem QAt.hi {w : World} {lo hi qb I M p L K n : Nat} {Q : QL} (h : QAt w lo hi qb I M p L K n Q) : hi ≤ w.heap.size := by
  obtain ⟨_, _, _, _, hk⟩ := h.of
  exact hk.hh
theorem qList_len {w : World} {lo hi qb I M p L K n : Nat} {Q : QL} (h : QAt w lo hi qb I M p L K n Q) (k : Int) : (qList Q k).length ≤ 4096 := by
  obtain ⟨S, _, _, _, hk⟩ := h.of
  unfold qList
  split
  · unfold QL.of
    rw [List.length_map]
    have h1 := hk.co.len
    have h2 := hk.pa.nb
    have h3 := List.length_filter_le (fun x : Int × Nat => decide (x.2 = k.toNat)) Q
    omega
  · simp
set_option maxRecDepth 100000 in
set_option maxHeartbeats 8000000 in
theorem turns_walk (A : Option Addr) (xs : List Int) (cap : Nat) (pr : Int) (w : World) (hxs : Ints w w.heap.size A xs) (hl : xs.length ≤ 9223372036854775807) :
    Calls Try.prog 8 #[.slice A xs.length cap, .int .i64 pr] w fun e w' => e = .returned (.bool true) ∧ Below w.heap.size w w' := by
  have HI := Kept.mk (fun W (hw : Below w.heap.size w W) => hxs.below hw)
  go_enter Try.func8, Try.ntmps8
  go_wp2_with fail
  refine (lives11 _).mono ?_
  rintro e w1 ⟨rfl, hb1⟩
  go_wp2_with fail
  refine (qnew_any 100 (by omega) (by omega) w1).mono ?_
  rintro e w2 ⟨hi, qb, I, M, p, L, K, rfl, hQ2, hb2⟩
  have hbw2 := hb1.trans (hb2.mono hb1.size)
  by_cases hsm : xs.length ≤ 100
  · have s1 : (xs.length : Int) ≤ 100 := by omega
    have HP := Kept.mk hQ2
    have HB := Kept.mk hbw2
    clear hQ2 hb2 hxs hbw2
    go_wp2_with fail
    go_loopw [34] (fun t wr => ∃ (k : Nat), k ≤ xs.length ∧ t = .int .i64 k ∧ QAt wr w1.heap.size hi qb I M p L K 100 (PQ xs k) ∧ Below w.heap.size w wr) (fun t _ => xs.length - (intOf t).toNat)
    case atStart => exact ⟨0, by omega, rfl, HP.out, HB.out⟩
    case round =>
      clear HP HB
      obtain ⟨k, hk, rfl, hQ, hbw⟩ := hrel
      by_cases hlt : k < xs.length
      · obtain ⟨b, off, rfl, hbB, hc⟩ := (HI.out wr hbw) (by omega)
        have hck := hc k hlt
        have ik : (k : Int) < (xs.length : Int) := by omega
        have HC := Kept.mk (push_at hQ (wf_nat (show k ≤ 100 by omega)) (PQ_push (xs := xs) (k := k) (by omega)))
        obtain ⟨y, hy⟩ : ∃ y, y = xs[k]?.getD 0 := ⟨_, rfl⟩
        rw [← hy] at hck HC
        clear hc hy hQ
        go_wp2_with fail
        refine HC.out.mono ?_
        rintro e w3 ⟨rfl, hQ3, hK3⟩
        have hb3 := hK3.below hbw hb1.size hbw.size
        clear HC
        go_wp2
        go_roundw
        case rel => exact ⟨k + 1, by omega, by go_num, hQ3, hb3⟩
        case measure => simp [intOf]; omega
      · obtain ⟨Q0, hQ0⟩ : ∃ Q0, Q0 = PQ xs k := ⟨_, rfl⟩
        rw [← hQ0] at hQ
        have HL := qlist_any hQ pr
        have HQ := Kept.mk hQ
        have HBW := Kept.mk hbw
        clear hQ0 hQ hbw
        obtain ⟨wo, hwo⟩ : ∃ wo : World, wo = wr := ⟨_, rfl⟩
        subst hwo
        go_wp2_with fail
        refine HL.mono ?_
        rintro e w4 ⟨A1, c1, rfl, own1, hb4⟩
        have hle0 := qList_len HQ.out pr
        obtain ⟨l0, hl0⟩ : ∃ l0, l0 = qList Q0 pr := ⟨_, rfl⟩
        rw [← hl0] at own1 hle0 ⊢
        have HO4 := Kept.mk (IntsO.of_own own1 HQ.out.hi)
        have HQ4 := Kept.mk (HQ.out.below (hb4.mono HQ.out.hi))
        have HB4 := Kept.mk (HBW.out.trans (hb4.mono HBW.out.size))
        have HL0 := Kept.mk hl0
        clear HL own1 hb4 HQ HBW hl0
        go_wp2_with fail
        go_loopw [49] (fun t wr => ∃ (k : Nat) (Q : QL), k ≤ l0.length ∧ t = .int .i64 k ∧ Kept (qList Q pr = l0.drop k ++ l0.take k) ∧ QAt wr w1.heap.size hi qb I M p L K 100 Q ∧ IntsO wr hi A1 l0 ∧ Below w.heap.size w wr) (fun t _ => l0.length - (intOf t).toNat)
        case atStart => exact ⟨0, Q0, by omega, rfl, ⟨by rw [← HL0.out]; simp⟩, HQ4.out, HO4.out, HB4.out⟩
        case round =>
          clear HQ4 HB4 HO4 HL0
          obtain ⟨k, Q, hk, rfl, hrot, hQ, hIO, hbw⟩ := hrel
          by_cases hlt : k < l0.length
          · obtain ⟨id, hid1, hid2, hlen, Q', hturn, hrot'⟩ := turn_list hQ.nd hrot.out hlt
            have HIO := Kept.mk hIO
            obtain ⟨b, off, hA, hb1', hb2', hc⟩ := hIO (by omega)
            subst hA
            have hck := hc k hlt
            rw [hid1] at hck
            have ik : (k : Int) < (l0.length : Int) := by omega
            have HLq := Kept.mk (qlist_any hQ pr)
            have HQ := Kept.mk hQ
            have HB := Kept.mk hbw
            have HID := Kept.mk hid2
            have HLEN := Kept.mk hlen
            have HTU := Kept.mk hturn
            have HR := Kept.mk hrot'
            clear hc hIO hQ hbw hid1 hid2 hlen hturn hrot' hb1' hb2'
            go_wp2_with fail
            refine HLq.out.mono ?_
            rintro e w5 ⟨A5, c5, rfl, own5, hb5⟩
            have hQ5 := HQ.out.below (hb5.mono HQ.out.hi)
            have hI5 := HIO.out.below hb5
            have hbw5 := HB.out.trans (hb5.mono HB.out.size)
            obtain ⟨b5, off5, hA5, _, hc5⟩ := (Ints.of_own own5).2 (by rw [HLEN.out]; omega)
            have hc0 := hc5 0 (by rw [HLEN.out]; omega)
            rw [HID.out, Nat.add_zero] at hc0
            rw [HLEN.out]
            subst hA5
            have hpos : (0 : Int) < (l0.length : Int) := by omega
            have HT := Kept.mk (turn_at hQ5 HTU.out)
            have HI5 := Kept.mk hI5
            have HB5 := Kept.mk hbw5
            clear hc5 own5 hQ5 hI5 hbw5 hb5 HLq HIO HQ HB
            go_wp2_with fail
            refine HT.out.mono ?_
            rintro e w6 ⟨rfl, hQ6, hK6⟩
            have hb6 := hK6.below HB5.out hb1.size HB5.out.size
            have hI6 := HI5.out.kp hK6
            clear HT
            go_wp2
            go_roundw
            case rel => exact ⟨k + 1, Q', by omega, by go_num, HR, hQ6, hI6, hb6⟩
            case measure => simp [intOf]; omega
          · have hke : k = l0.length := by omega
            subst hke
            have hq : qList Q pr = l0 := by rw [hrot.out]; simp
            have HLq := Kept.mk (qlist_any hQ pr)
            rw [hq] at HLq
            have HQ := Kept.mk hQ
            have HB := Kept.mk hbw
            have HIO := Kept.mk hIO
            have HE := Kept.mk hq
            clear hrot hq hQ hbw hIO
            go_wp2_with fail
            refine HLq.out.mono ?_
            rintro e w5 ⟨A5, c5, rfl, own5, hb5⟩
            have hQ5 := HQ.out.below (hb5.mono HQ.out.hi)
            have hI5 := HIO.out.below hb5
            have hbw5 := HB.out.trans (hb5.mono HB.out.size)
            have HS := Kept.mk (same_any A5 A1 l0 l0 c5 c1 w5 (Ints.of_own own5).2 hI5.ints (by omega) (by omega))
            have HQ5 := Kept.mk hQ5
            have HB5 := Kept.mk hbw5
            clear own5 hQ5 hI5 hbw5 hb5 HLq HIO HQ HB
            go_wp2_with fail
            refine HS.out.mono ?_
            rintro e w6 ⟨rfl, j, rfl⟩
            have hQ6 := HQ5.out.below (Below.drewN (Below.refl _ _) j)
            have hb6 := HB5.out.drewN j
            by_cases hz : l0.length = 0
            · have hnil : l0 = [] := List.eq_nil_of_length_eq_zero hz
              obtain ⟨a, hta, htb⟩ := turn_none (HE.out.trans hnil)
              have HT := Kept.mk (turn_at hQ6 hta)
              have HB6 := Kept.mk hb6
              have hz2 : ¬ ((0 : Int) < (l0.length : Int)) := by omega
              clear hQ6 hb6 hnil hta HS HQ5 HB5
              go_wp2_with fail
              refine HT.out.mono ?_
              rintro e w7 ⟨rfl, hQ7, hK7⟩
              have hb7 := hK7.below HB6.out hb1.size HB6.out.size
              clear HT
              go_wp2
              go_ret
              exact ⟨by show Ending.returned (Value.bool (a != 0)) = _; simp only [bne, htb]; rfl, hb7⟩
            · have hz2 : (0 : Int) < (l0.length : Int) := by omega
              have HB6 := Kept.mk hb6
              clear hQ6 hb6 HS HQ5 HB5
              go_wp2
              go_ret
              exact ⟨rfl, HB6.out⟩
  · have s1 : ¬ (xs.length : Int) ≤ 100 := by omega
    have HB := Kept.mk hbw2
    clear hQ2 hb2 hxs hbw2
    go_wp2
    go_ret
    exact ⟨rfl, HB.out⟩
end Go.Proofs.Ytcchmkpodfjhcaa
