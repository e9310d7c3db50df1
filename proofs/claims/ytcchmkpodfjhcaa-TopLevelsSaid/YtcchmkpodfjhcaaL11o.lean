/-
  The walk of the law ReadyOrder.
-/
import Derived.Test.YtcchmkpodfjhcaaL11p
import Derived.Test.YtcchmkpodfjhcaaLR
namespace Go.Proofs.Ytcchmkpodfjhcaa
open Go.RowKit
set_option linter.unusedVariables false
theorem wf_nat {k : Nat} (h : k ≤ 100) : (Lit.int .i64 (k : Int)).wf = true := by
  simp [Lit.wf, IntKind.min, IntKind.max, IntKind.signed, IntKind.bits]
  omega
set_option maxRecDepth 100000 in
set_option maxHeartbeats 8000000 in
theorem order_walk (A : Option Addr) (xs : List Int) (cap : Nat) (w : World) (hxs : Ints w w.heap.size A xs) (hl : xs.length ≤ 9223372036854775807) :
    Calls Try.prog 7 #[.slice A xs.length cap] w fun e w' => e = .returned (.bool true) ∧ Below w.heap.size w w' := by
  have HI := Kept.mk (fun W (hw : Below w.heap.size w W) => hxs.below hw)
  go_enter Try.func7, Try.ntmps7
  go_wp2_with fail
  refine (lives11 _).mono ?_
  rintro e w1 ⟨rfl, hb1⟩
  go_wp2_with fail
  refine (qnew_any 100 (by omega) (by omega) w1).mono ?_
  rintro e w2 ⟨hi, qb, I, M, p, L, K, rfl, hQ2, hb2⟩
  have hbw2 := hb1.trans (hb2.mono hb1.size)
  by_cases hsm : xs.length ≤ 100
  · have s1 : (xs.length : Int) ≤ 100 := by omega
    have HP := Kept.mk hQ2
    have HB := Kept.mk hbw2
    clear hQ2 hb2 hxs hbw2
    go_wp2_with fail
    go_loopw [5, 37] (fun many t wr => ∃ (k : Nat), k ≤ xs.length ∧ many = .int .i64 ((PQ xs k).length : Nat) ∧ t = .int .i64 k ∧ QAt wr w1.heap.size hi qb I M p L K 100 (PQ xs k) ∧ Below w.heap.size w wr) (fun _ t _ => xs.length - (intOf t).toNat)
    case atStart => exact ⟨0, by omega, rfl, rfl, HP.out, HB.out⟩
    case round =>
      clear HP HB
      obtain ⟨k, hk, rfl, rfl, hQ, hbw⟩ := hrel
      by_cases hlt : k < xs.length
      · obtain ⟨b, off, rfl, hbB, hc⟩ := (HI.out wr hbw) (by omega)
        have hck := hc k hlt
        have ik : (k : Int) < (xs.length : Int) := by omega
        have hpq := PQ_push (xs := xs) (k := k) (by omega)
        have hlen : (PQ xs (k + 1)).length = (PQ xs k).length + (if 0 ≤ xs[k]?.getD 0 ∧ xs[k]?.getD 0 < 64 then 1 else 0) := by
          show (PQ xs k ++ _).length = _
          rw [List.length_append]
          split <;> rfl
        have hle := PQ_len xs k
        obtain ⟨y, hy⟩ : ∃ y, y = xs[k]?.getD 0 := ⟨_, rfl⟩
        rw [← hy] at hck hpq hlen
        obtain ⟨a, ha⟩ : ∃ a, a = (PQ xs k).length := ⟨_, rfl⟩
        rw [← ha] at hle hlen ⊢
        have HC := Kept.mk (push_at hQ (wf_nat (show k ≤ 100 by omega)) hpq)
        by_cases hg : 0 ≤ y ∧ y < 64
        · rw [if_pos hg] at hlen
          have hcall := HC.out
          rw [if_pos hg] at hcall
          have HL := Kept.mk hlen
          clear hc hy ha hlen hpq HC hQ
          go_wp2_with fail
          refine hcall.mono ?_
          rintro e w3 ⟨rfl, hQ3, hK3⟩
          have hb3 := hK3.below hbw hb1.size hbw.size
          clear hcall
          go_wp2
          go_roundw
          case rel => exact ⟨k + 1, by omega, by rw [HL.out]; go_num, by go_num, hQ3, hb3⟩
          case measure => simp [intOf]; omega
        · rw [if_neg hg] at hlen
          have hcall := HC.out
          rw [if_neg hg] at hcall
          have HL := Kept.mk hlen
          clear hc hy ha hlen hpq HC hQ
          go_wp2_with fail
          refine hcall.mono ?_
          rintro e w3 ⟨rfl, hQ3, hK3⟩
          have hb3 := hK3.below hbw hb1.size hbw.size
          clear hcall
          by_cases h0 : 0 ≤ y
          · have h63 : ¬ y ≤ 63 := by omega
            go_wp2
            go_roundw
            case rel => exact ⟨k + 1, by omega, by rw [HL.out]; rfl, by go_num, hQ3, hb3⟩
            case measure => simp [intOf]; omega
          · go_wp2
            go_roundw
            case rel => exact ⟨k + 1, by omega, by rw [HL.out]; rfl, by go_num, hQ3, hb3⟩
            case measure => simp [intOf]; omega
      · have hke : k = xs.length := by omega
        subst hke
        obtain ⟨many, hmany⟩ : ∃ a, a = (PQ xs xs.length).length := ⟨_, rfl⟩
        have hml := PQ_len xs xs.length
        have HM := Kept.mk hmany
        have HQ := Kept.mk hQ
        have HBW := Kept.mk hbw
        rw [← hmany] at hml ⊢
        clear hmany hQ hbw
        obtain ⟨wo, hwo⟩ : ∃ wo : World, wo = wr := ⟨_, rfl⟩
        subst hwo
        go_wp2_with fail
        go_loopw [8, 9, 57] (fun la lp t wr => ∃ (k : Nat) (Q : QL) (last lastP : Int), Q.length + k = many ∧ la = .int .i64 last ∧ lp = .int .i64 lastP ∧ t = .int .i64 k ∧ Kept (Ord xs Q last lastP) ∧ QAt wr w1.heap.size hi qb I M p L K 100 Q ∧ Below w.heap.size w wr) (fun _ _ t _ => many - (intOf t).toNat)
        case atStart => exact ⟨0, PQ xs xs.length, -1, 64, HM.out.symm, rfl, rfl, rfl, ⟨Ord.start xs⟩, HQ.out, HBW.out⟩
        case round =>
          clear HQ HBW HM
          obtain ⟨k, Q, last, lastP, hkm, rfl, rfl, rfl, hO, hQ, hbw⟩ := hrel
          by_cases hlt2 : k < many
          · have hne : Q ≠ [] := fun e => by rw [e] at hkm; simp at hkm; omega
            obtain ⟨id, pp, hqt, hit, hmem⟩ := top_some hQ.pr hne
            obtain ⟨i, hi1, hi2, hi3, hi4⟩ := hO.out.a _ hmem
            simp only at hi1 hi3 hi4
            have hcc := hO.out.c _ hmem
            simp only at hcc
            have hml2 : id ∈ Q.ids := List.mem_map.2 ⟨_, hmem, rfl⟩
            have hnd : Q.ids.Nodup := by obtain ⟨_, _, _, _, hk⟩ := hQ.of; exact hk.co.nd
            have hrl := rem_len hnd hml2
            have HPOP := Kept.mk (pop_at hQ (hO.out.wf hsm) (show topV (qTop Q) = .tuple #[.int .i64 id, .int .i64 (pp : Int), .bool true] by rw [hqt]; rfl) (show popQ Q (qTop Q) = Q.rem id by rw [hqt]; rfl))
            have HO := Kept.mk (hO.out.pop hit)
            subst hi1
            obtain ⟨b, off, rfl, hbB, hc⟩ := (HI.out wr hbw) (by omega)
            have hci := hc i hi2
            rw [hi3] at hci
            have HCI := Kept.mk (fun (W : World) (hb : Below w.heap.size wr W) => (hb.cell (p := ⟨b, off + i, none⟩) hbB).trans hci)
            have ik : (k : Int) < (many : Int) := by omega
            have i0 : ¬ ((i : Int) < 0) := by omega
            have i1 : ¬ ((xs.length : Int) ≤ (i : Int)) := by omega
            have HRL := Kept.mk hrl
            have HPL := Kept.mk hbw
            have hleP : ¬ (lastP < (pp : Int)) := by omega
            by_cases heq : (pp : Int) = lastP
            · have hla : ¬ ((i : Int) ≤ last) := by omega
              subst heq
              clear hc hci hqt hit hmem hml2 hnd hrl hO hQ hne hcc
              go_wp2_with fail
              refine HPOP.out.mono ?_
              rintro e w3 ⟨rfl, hQ3, hK3⟩
              have hb3 := hK3.below HPL.out hb1.size HPL.out.size
              have hci := HCI.out w3 (hK3.below (Below.refl _ _) hb1.size HPL.out.size)
              clear HPOP HCI
              go_wp2
              go_roundw
              case rel => exact ⟨k + 1, _, _, _, by have := HRL.out; omega, rfl, rfl, by go_num, HO, hQ3, hb3⟩
              case measure => simp [intOf]; omega
            · have heq2 : ((pp : Int) == lastP) = false := by simpa using heq
              clear hc hci hqt hit hmem hml2 hnd hrl hO hQ hne hcc
              go_wp2_with fail
              refine HPOP.out.mono ?_
              rintro e w3 ⟨rfl, hQ3, hK3⟩
              have hb3 := hK3.below HPL.out hb1.size HPL.out.size
              have hci := HCI.out w3 (hK3.below (Below.refl _ _) hb1.size HPL.out.size)
              clear HPOP HCI
              go_wp2
              go_roundw
              case rel => exact ⟨k + 1, _, _, _, by have := HRL.out; omega, rfl, rfl, by go_num, HO, hQ3, hb3⟩
              case measure => simp [intOf]; omega
          · have hq0 : Q = [] := List.eq_nil_of_length_eq_zero (by omega)
            subst hq0
            have HT := Kept.mk (show Calls Try.prog 40 #[.pointer (some ⟨qb, 0, none⟩)] wr fun e w' => e = .returned (.tuple #[.int .i64 0, .int .i64 0, .bool false]) ∧ wr = w' from qtop_at hQ)
            have HL := Kept.mk (show Calls Try.prog 52 #[.pointer (some ⟨qb, 0, none⟩)] wr fun e w' => e = .returned (.int .i64 0) ∧ wr = w' from qlen_any hQ)
            have HBB := Kept.mk hbw
            clear hQ hbw hO
            go_wp2_with fail
            refine HT.out.mono ?_
            rintro e w' ⟨rfl, rfl⟩
            go_wp2_with fail
            refine HL.out.mono ?_
            rintro e w' ⟨rfl, rfl⟩
            go_wp2
            go_ret
            exact ⟨rfl, HBB.out⟩
  · have s1 : ¬ (xs.length : Int) ≤ 100 := by omega
    have HB := Kept.mk hbw2
    clear hQ2 hb2 hxs hbw2
    go_wp2
    go_ret
    exact ⟨rfl, HB.out⟩
end Go.Proofs.Ytcchmkpodfjhcaa
