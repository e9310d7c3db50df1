/-
  The walks of the document's Check, pick and next; its schedule in memory.
-/
import Derived.Test.YtcchmkpodfjhcaaL40
namespace Go.Proofs.Ytcchmkpodfjhcaa
open Go.RowKit
set_option linter.unusedVariables false
set_option maxHeartbeats 8000000 in
theorem rcheck_any (A : Option Addr) (xs : List Q3) (cap : Nat) (w : World) (hxs : R3 w w.heap.size A xs) :
    Calls Try.prog 63 #[.slice A xs.length cap] w fun e w' => e = .returned (.int .i64 (chk xs)) ∧ Below w.heap.size w w' := by
  by_cases hl : xs.length ≤ 4096
  · have hl' : decide ((4096 : Int) < (xs.length : Int)) = false := decide_eq_false (by omega)
    have HI := Kept.mk hxs
    clear hxs
    go_enter Try.func63, Try.ntmps63
    go_wp2
    go_loopw [10] (fun t wr => ∃ k : Nat, k ≤ xs.length ∧ t = .int .i64 k ∧ Kept ((xs.take k).all okb = true) ∧ Below w.heap.size w wr) (fun t _ => xs.length - (intOf t).toNat)
    case atStart => exact ⟨0, by omega, rfl, ⟨rfl⟩, Below.refl _ _⟩
    case round =>
      obtain ⟨k, hk, rfl, hA, hb⟩ := hrel
      by_cases hlt : k < xs.length
      · obtain ⟨b, off, rfl, hbB, hc⟩ := (HI.out.below hb) (by omega)
        obtain ⟨y, hy⟩ := some3_at hlt
        obtain ⟨e1, e2, e3⟩ := hc k y hy
        have ik : (k : Int) < (xs.length : Int) := by omega
        have hst : (xs.take (k + 1)).all okb = (okb y) := by
          rw [List.take_add_one, hy, List.all_append, hA.out]; simp
        obtain ⟨ya, yb, yc⟩ := y
        simp only at e1 e2 e3
        have HST := Kept.mk hst
        have HB2 := Kept.mk (hb.alloc hb.size (.cells #[.int .i64 ya, .int .i64 yb, .int .i64 yc] 108))
        have HT := Kept.mk (fun W => rtime_any yb W)
        obtain ⟨tb, htb⟩ : ∃ tb, tb = timeP yb := ⟨_, rfl⟩
        have HOK := Kept.mk (show okb ⟨ya, yb, yc⟩ = (decide (0 ≤ ya) && decide (ya ≤ 63) && tb && decide (1 ≤ yc) && decide (yc ≤ 1099511627776)) by rw [htb]; rfl)
        rw [← htb] at HT
        have HM := Kept.mk (show okb ⟨ya, yb, yc⟩ = false → chk xs = 2 from fun h => by
          unfold chk
          rw [if_neg]
          rintro ⟨_, h2⟩
          rw [List.all_eq_true] at h2
          have := h2 _ (List.mem_of_getElem? hy)
          rw [h] at this
          cases this)
        clear hc hy hst hb htb
        by_cases h1 : ya < 0
        · have HC := Kept.mk (HM.out (by rw [HOK.out, decide_eq_false (show ¬ 0 ≤ ya by omega)]; rfl))
          go_wp2
          go_ret
          exact ⟨congrArg (fun v => Ending.returned (.int .i64 v)) HC.out.symm, HB2.out⟩
        · have d1 : decide (ya < 0) = false := decide_eq_false h1
          have z1 : decide (0 ≤ ya) = true := decide_eq_true (by omega)
          by_cases h2 : 63 < ya
          · have HC := Kept.mk (HM.out (by rw [HOK.out, z1, decide_eq_false (show ¬ ya ≤ 63 by omega)]; rfl))
            go_wp2
            go_ret
            exact ⟨congrArg (fun v => Ending.returned (.int .i64 v)) HC.out.symm, HB2.out⟩
          · have d2 : decide (63 < ya) = false := decide_eq_false h2
            have z2 : decide (ya ≤ 63) = true := decide_eq_true (by omega)
            cases tb with
            | false =>
              have HC := Kept.mk (HM.out (by rw [HOK.out, z1, z2]; rfl))
              clear z1 z2
              go_wp2_with ((go_at_call 91; refine (HT.out _).mono ?_; rintro e w' ⟨rfl, rfl⟩))
              go_ret
              exact ⟨congrArg (fun v => Ending.returned (.int .i64 v)) HC.out.symm, HB2.out⟩
            | true =>
              by_cases h3 : yc < 1
              · have HC := Kept.mk (HM.out (by rw [HOK.out, z1, z2, decide_eq_false (show ¬ 1 ≤ yc by omega)]; rfl))
                clear z1 z2
                go_wp2_with ((go_at_call 91; refine (HT.out _).mono ?_; rintro e w' ⟨rfl, rfl⟩))
                go_ret
                exact ⟨congrArg (fun v => Ending.returned (.int .i64 v)) HC.out.symm, HB2.out⟩
              · have d3 : decide (yc < 1) = false := decide_eq_false h3
                have z3 : decide (1 ≤ yc) = true := decide_eq_true (by omega)
                by_cases h4 : 1099511627776 < yc
                · have HC := Kept.mk (HM.out (by rw [HOK.out, z1, z2, z3, decide_eq_false (show ¬ yc ≤ 1099511627776 by omega)]; rfl))
                  clear z1 z2 z3
                  go_wp2_with ((go_at_call 91; refine (HT.out _).mono ?_; rintro e w' ⟨rfl, rfl⟩))
                  go_ret
                  exact ⟨congrArg (fun v => Ending.returned (.int .i64 v)) HC.out.symm, HB2.out⟩
                · have d4 : decide (1099511627776 < yc) = false := decide_eq_false h4
                  have HC := Kept.mk (show (xs.take (k + 1)).all okb = true by rw [HST.out, HOK.out, z1, z2, z3, decide_eq_true (show yc ≤ 1099511627776 by omega)]; rfl)
                  clear z1 z2 z3
                  go_wp2_with ((go_at_call 91; refine (HT.out _).mono ?_; rintro e w' ⟨rfl, rfl⟩))
                  go_roundw
                  case rel => exact ⟨k + 1, by omega, by go_num, HC, HB2.out⟩
                  case measure => simp [intOf]; omega
      · have hke : k = xs.length := by omega
        subst hke
        have hA' := hA.out
        rw [List.take_length] at hA'
        have HC := Kept.mk (show chk xs = 0 by unfold chk; rw [if_pos ⟨hl, hA'⟩])
        clear hA hA'
        go_wp2
        go_ret
        exact ⟨congrArg (fun v => Ending.returned (.int .i64 v)) HC.out.symm, hb⟩
  · have hl' : decide ((4096 : Int) < (xs.length : Int)) = true := decide_eq_true (by omega)
    have HC := Kept.mk (show chk xs = 2 by unfold chk; rw [if_neg (fun h => hl h.1)])
    go_enter Try.func63, Try.ntmps63
    go_wp2
    go_ret
    exact ⟨congrArg (fun v => Ending.returned (.int .i64 v)) HC.out.symm, Below.refl _ _⟩
def pkV : Option Nat → Int
  | none => -1
  | some b => (b : Int)
def nxW : Option Nat → Int
  | none => 0
  | some t => (t : Int)
set_option maxRecDepth 100000 in
set_option maxHeartbeats 8000000 in
theorem rnext_any {w : World} {A : Option Addr} {xs : List Q3} {cap : Nat} (hR : Rt xs) (hx : R3 w w.heap.size A xs) (now : Nat) :
    Calls Try.prog 103 #[.slice A xs.length cap, .int .i64 (now : Int)] w fun e w' => e = .returned (.tuple #[.int .i64 (nxW (nxt (pcs xs) now xs.length)), .bool (nxt (pcs xs) now xs.length).isSome]) ∧ Below w.heap.size w w' := by
  have HI := Kept.mk hx
  have HR := Kept.mk hR
  have hlen := hR.len
  clear hx hR
  go_enter Try.func103, Try.ntmps103
  go_wp2
  go_loopw [6, 7, 12] (fun u v t wr => ∃ k : Nat, k ≤ xs.length ∧ t = .int .i64 k ∧ u = .int .i64 (nxW (nxt (pcs xs) now k)) ∧ v = .bool (nxt (pcs xs) now k).isSome ∧ Below w.heap.size w wr) (fun _ _ t _ => xs.length - (intOf t).toNat)
  case atStart => exact ⟨0, by omega, rfl, rfl, rfl, Below.refl _ _⟩
  case round =>
    obtain ⟨k, hk, rfl, rfl, rfl, hb⟩ := hrel
    by_cases hlt : k < xs.length
    · obtain ⟨b, off, rfl, hbB, hc⟩ := (HI.out.below hb) (by omega)
      obtain ⟨q, hq, hqo, hqa, hqb, hqc⟩ := HR.out.at hlt
      obtain ⟨e1, e2, e3⟩ := hc k q hq
      have ik : (k : Int) < (xs.length : Int) := by omega
      have HST := Kept.mk (show nxt (pcs xs) now (k + 1) = match nxt (pcs xs) now k with
        | none => if now < (pcs xs).A k then some ((pcs xs).A k) else none
        | some t => if now < (pcs xs).A k ∧ (pcs xs).A k < t then some ((pcs xs).A k) else some t from rfl)
      obtain ⟨qa, qb, qc⟩ := q
      simp only at e1 e2 e3 hqa hqb hqc
      obtain ⟨av, hav⟩ : ∃ av, av = (pcs xs).A k := ⟨_, rfl⟩
      rw [← hav] at HST hqb
      have HB2 := Kept.mk (hb.alloc hb.size (.cells #[.int .i64 qa, .int .i64 qb, .int .i64 qc] 108))
      have HQB := Kept.mk hqb
      clear hc hq hqo hqa hqc hav hb
      obtain ⟨o, ho⟩ : ∃ o, o = nxt (pcs xs) now k := ⟨_, rfl⟩
      rw [← ho] at HST ⊢
      clear ho
      by_cases h1 : now < av
      · have d1 : decide ((now : Int) < qb) = true := decide_eq_true (by omega)
        cases o with
        | none =>
          have HN := Kept.mk (show nxt (pcs xs) now (k + 1) = some av from HST.out.trans (if_pos h1))
          clear hqb
          dsimp only [nxW, Option.isSome]
          go_wp2
          go_roundw
          case rel => exact ⟨k + 1, by omega, by go_num, by rw [HN.out, HQB.out] <;> rfl, by rw [HN.out] <;> rfl, HB2.out⟩
          case measure => simp [intOf]; omega
        | some t =>
          by_cases h2 : av < t
          · have d2 : decide (qb < (t : Int)) = true := decide_eq_true (by omega)
            have HN := Kept.mk (show nxt (pcs xs) now (k + 1) = some av from HST.out.trans (if_pos ⟨h1, h2⟩))
            clear hqb
            dsimp only [nxW, Option.isSome]
            go_wp2
            go_roundw
            case rel => exact ⟨k + 1, by omega, by go_num, by rw [HN.out, HQB.out] <;> rfl, by rw [HN.out] <;> rfl, HB2.out⟩
            case measure => simp [intOf]; omega
          · have d2 : decide (qb < (t : Int)) = false := decide_eq_false (by omega)
            have HN := Kept.mk (show nxt (pcs xs) now (k + 1) = some t from HST.out.trans (if_neg (fun h => h2 h.2)))
            clear hqb
            dsimp only [nxW, Option.isSome]
            go_wp2
            go_roundw
            case rel => exact ⟨k + 1, by omega, by go_num, by rw [HN.out] <;> rfl, by rw [HN.out] <;> rfl, HB2.out⟩
            case measure => simp [intOf]; omega
      · have d1 : decide ((now : Int) < qb) = false := decide_eq_false (by omega)
        have HN := Kept.mk (show nxt (pcs xs) now (k + 1) = o from HST.out.trans (by
          cases o with
          | none => exact if_neg h1
          | some t => exact if_neg (fun h => h1 h.1)))
        clear hqb
        go_wp2
        go_roundw
        case rel => exact ⟨k + 1, by omega, by go_num, by rw [HN.out], by rw [HN.out], HB2.out⟩
        case measure => simp [intOf]; omega
    · have hke : k = xs.length := by omega
      subst hke
      go_wp2
      go_ret2
      exact ⟨rfl, hb⟩
set_option maxRecDepth 100000 in
set_option maxHeartbeats 8000000 in
theorem pick_any {w : World} {A Al : Option Addr} {xs : List Q3} {cap cl gl : Nat} {l : Nat → Nat} (hR : Rt xs) (hx : R3 w w.heap.size A xs) (hl : 0 < xs.length → Al = some ⟨gl, 0, none⟩ ∧ NB w gl xs.length (fun i => (l i : Int))) (now : Nat) :
    Calls Try.prog 102 #[.slice A xs.length cap, .slice Al xs.length cl, .int .i64 (now : Int)] w fun e w' => e = .returned (.int .i64 (pkV (pk (pcs xs) l now xs.length))) ∧ Below w.heap.size w w' := by
  have HI := Kept.mk hx
  have HR := Kept.mk hR
  have HL := Kept.mk hl
  have hlen := hR.len
  clear hx hR hl
  go_enter Try.func102, Try.ntmps102
  go_wp2
  go_loopw [7, 12] (fun u t wr => ∃ k : Nat, k ≤ xs.length ∧ t = .int .i64 k ∧ u = .int .i64 (pkV (pk (pcs xs) l now k)) ∧ Below w.heap.size w wr) (fun _ t _ => xs.length - (intOf t).toNat)
  case atStart => exact ⟨0, by omega, rfl, rfl, Below.refl _ _⟩
  case round =>
    obtain ⟨k, hk, rfl, rfl, hb⟩ := hrel
    by_cases hlt : k < xs.length
    · obtain ⟨b, off, rfl, hbB, hc⟩ := (HI.out.below hb) (by omega)
      obtain ⟨rfl, hnb⟩ := HL.out (by omega)
      obtain ⟨q, hq, hqo, hqa, hqb, hqc⟩ := HR.out.at hlt
      obtain ⟨e1, e2, e3⟩ := hc k q hq
      have ik : (k : Int) < (xs.length : Int) := by omega
      have hgl := hnb.lt (by omega)
      have el : wr.cell? ⟨gl, k, none⟩ = some (.int .i64 (l k : Int)) := (hb.cell (p := ⟨gl, k, none⟩) hgl).trans (hnb.c k hlt)
      have HST := Kept.mk (show pk (pcs xs) l now (k + 1) = if now < (pcs xs).A k ∨ l k = 0 then pk (pcs xs) l now k else match pk (pcs xs) l now k with
        | none => some k
        | some b => if (pcs xs).P b < (pcs xs).P k ∨ ((pcs xs).P k = (pcs xs).P b ∧ (pcs xs).A k < (pcs xs).A b) then some k else some b from rfl)
      have hbest : ∀ j, pk (pcs xs) l now k = some j → j < k := fun j hj => (pk_some hj).1
      obtain ⟨qa, qb, qc⟩ := q
      simp only at e1 e2 e3 hqa hqb hqc
      obtain ⟨av, hav⟩ : ∃ av, av = (pcs xs).A k := ⟨_, rfl⟩
      obtain ⟨pv, hpv⟩ : ∃ pv, pv = (pcs xs).P k := ⟨_, rfl⟩
      obtain ⟨lv, hlv⟩ : ∃ lv, lv = l k := ⟨_, rfl⟩
      rw [← hav] at HST hqb
      rw [← hpv] at HST hqa
      rw [← hlv] at HST el
      have HB2 := Kept.mk (hb.alloc hb.size (.cells #[.int .i64 qa, .int .i64 qb, .int .i64 qc] 108))
      have HQ := Kept.mk (show qa = (pv : Int) ∧ qb = (av : Int) from ⟨hqa, hqb⟩)
      have HBC := Kept.mk (fun (j : Nat) (hj : j < xs.length) => show wr.cell? ⟨b, off + j * 3, none⟩ = some (.int .i64 ((pcs xs).P j : Int)) ∧ wr.cell? ⟨b, off + j * 3 + 1, none⟩ = some (.int .i64 ((pcs xs).A j : Int)) from by
        obtain ⟨r, hr, _, hra, hrb, _⟩ := HR.out.at hj
        obtain ⟨f1, f2, _⟩ := hc j r hr
        exact ⟨by rw [← hra]; exact f1, by rw [← hrb]; exact f2⟩)
      have hblt : b < wr.heap.size := by have := hb.size; omega
      have hglt : gl < wr.heap.size := by have := hb.size; omega
      have hel : (wr.alloc (.cells #[.int .i64 qa, .int .i64 qb, .int .i64 qc] 108)).cell? ⟨gl, k, none⟩ = some (.int .i64 (lv : Int)) := ((below_box wr _).cell (p := ⟨gl, k, none⟩) hglt).trans el
      clear hc hq hqo hqa hqb hqc hav hpv hlv hb hnb hgl
      obtain ⟨o, ho⟩ : ∃ o, o = pk (pcs xs) l now k := ⟨_, rfl⟩
      rw [← ho] at HST hbest ⊢
      clear ho
      obtain ⟨hqa, hqb⟩ := HQ.out
      by_cases h1 : now < av
      · have d1 : decide ((now : Int) < qb) = true := decide_eq_true (by omega)
        have HN := Kept.mk (show pk (pcs xs) l now (k + 1) = o from HST.out.trans (if_pos (.inl h1)))
        clear hqa hqb
        go_wp2
        go_roundw
        case rel => exact ⟨k + 1, by omega, by go_num, by rw [HN.out], HB2.out⟩
        case measure => simp [intOf]; omega
      · have d1 : decide ((now : Int) < qb) = false := decide_eq_false (by omega)
        by_cases h2 : lv = 0
        · have d2 : ((lv : Int) == 0) = true := by rw [beq_iff_eq]; omega
          have d2' : (lv == 0) = true := by rw [h2]; rfl
          have HN := Kept.mk (show pk (pcs xs) l now (k + 1) = o from HST.out.trans (if_pos (.inr h2)))
          clear hqa hqb h2
          go_wp2
          go_roundw
          case rel => exact ⟨k + 1, by omega, by go_num, by rw [HN.out], HB2.out⟩
          case measure => simp [intOf]; omega
        · have d2 : ((lv : Int) == 0) = false := by rw [beq_eq_false_iff_ne]; omega
          have d2' : (lv == 0) = false := by rw [beq_eq_false_iff_ne]; exact h2
          have HS2 := Kept.mk (HST.out.trans (if_neg (by rintro (h | h) <;> contradiction)))
          cases o with
          | none =>
            have HN := Kept.mk (show pk (pcs xs) l now (k + 1) = some k from HS2.out)
            clear hqa hqb h2
            dsimp only [pkV]
            go_upto_region 6 with fail
            go_quiet (fail)
            go_wp2
            go_roundw
            case rel => exact ⟨k + 1, by omega, by go_num, by rw [HN.out] <;> rfl, HB2.out.drewN _⟩
            case measure => simp [intOf]; omega
          | some j =>
            have hjk := hbest j rfl
            obtain ⟨f1, f2⟩ := HBC.out j (by omega)
            obtain ⟨pj, hpj⟩ : ∃ pj, pj = (pcs xs).P j := ⟨_, rfl⟩
            obtain ⟨aj, haj⟩ : ∃ aj, aj = (pcs xs).A j := ⟨_, rfl⟩
            have HN := Kept.mk (show pk (pcs xs) l now (k + 1) = if pj < pv ∨ (pv = pj ∧ av < aj) then some k else some j by rw [hpj, haj]; exact HS2.out)
            rw [← hpj] at f1
            rw [← haj] at f2
            have f1' : (wr.alloc (.cells #[.int .i64 qa, .int .i64 qb, .int .i64 qc] 108)).cell? ⟨b, off + j * 3, none⟩ = some (.int .i64 (pj : Int)) := ((below_box wr _).cell (p := ⟨b, off + j * 3, none⟩) hblt).trans f1
            have f2' : (wr.alloc (.cells #[.int .i64 qa, .int .i64 qb, .int .i64 qc] 108)).cell? ⟨b, off + j * 3 + 1, none⟩ = some (.int .i64 (aj : Int)) := ((below_box wr _).cell (p := ⟨b, off + j * 3 + 1, none⟩) hblt).trans f2
            have HXC := Kept.mk (show (wr.alloc (.cells #[.int .i64 qa, .int .i64 qb, .int .i64 qc] 108)).cell? ⟨wr.heap.size, 0, none⟩ = some (.int .i64 qa) ∧ (wr.alloc (.cells #[.int .i64 qa, .int .i64 qb, .int .i64 qc] 108)).cell? ⟨wr.heap.size, 1, none⟩ = some (.int .i64 qb) from ⟨cell_of_row _ _ 0 _ _ _ (heap_alloc_new _ _), cell_of_row _ _ 1 _ _ _ (heap_alloc_new _ _)⟩)
            have ij : (j : Int) < (xs.length : Int) := by omega
            have d0 : decide ((j : Int) < 0) = false := decide_eq_false (by omega)
            have ij0 : (0 : Int) ≤ (j : Int) := by omega
            clear hpj haj h2 hqa hqb
            go_upto_region 6 with fail
            obtain ⟨wa, hwa⟩ : ∃ wa, wa = wr.alloc (.cells #[.int .i64 qa, .int .i64 qb, .int .i64 qc] 108) := ⟨_, rfl⟩
            obtain ⟨xb, hxb⟩ : ∃ xb, xb = wr.heap.size := ⟨_, rfl⟩
            rw [← hwa] at f1' f2' HB2 hel ⊢
            rw [← hwa, ← hxb] at HXC
            rw [← hxb]
            obtain ⟨x0, x1⟩ := HXC.out
            clear hwa hxb HXC f1 f2 e1 e2 e3 el
            obtain ⟨hqa, hqb⟩ := HQ.out
            by_cases g1 : pj < pv
            · have t1 : decide ((pj : Int) < qa) = true := decide_eq_true (by omega)
              have HV := Kept.mk (HN.out.trans (if_pos (.inl g1)))
              clear hqa hqb
              dsimp only [pkV]
              go_quiet (fail)
              go_wp2
              go_roundw
              case rel => exact ⟨k + 1, by omega, by go_num, by rw [HV.out] <;> rfl, HB2.out.drewN _⟩
              case measure => simp [intOf]; omega
            · have t1 : decide ((pj : Int) < qa) = false := decide_eq_false (by omega)
              by_cases g2 : pv = pj
              · have t2 : (qa == (pj : Int)) = true := by rw [beq_iff_eq]; omega
                by_cases g3 : av < aj
                · have t3 : decide (qb < (aj : Int)) = true := decide_eq_true (by omega)
                  have HV := Kept.mk (HN.out.trans (if_pos (.inr ⟨g2, g3⟩)))
                  clear hqa hqb g2
                  dsimp only [pkV]
                  go_quiet (fail)
                  go_wp2
                  go_roundw
                  case rel => exact ⟨k + 1, by omega, by go_num, by rw [HV.out] <;> rfl, HB2.out.drewN _⟩
                  case measure => simp [intOf]; omega
                · have t3 : decide (qb < (aj : Int)) = false := decide_eq_false (by omega)
                  have HV := Kept.mk (HN.out.trans (if_neg (by rintro (h | h); exact g1 h; exact g3 h.2)))
                  clear hqa hqb g2
                  dsimp only [pkV]
                  go_quiet (fail)
                  go_wp2
                  go_roundw
                  case rel => exact ⟨k + 1, by omega, by go_num, by rw [HV.out] <;> rfl, HB2.out.drewN _⟩
                  case measure => simp [intOf]; omega
              · have t2 : (qa == (pj : Int)) = false := by rw [beq_eq_false_iff_ne]; omega
                have HV := Kept.mk (HN.out.trans (if_neg (by rintro (h | h); exact g1 h; exact g2 h.1)))
                clear hqa hqb
                dsimp only [pkV]
                go_quiet (fail)
                go_wp2
                go_roundw
                case rel => exact ⟨k + 1, by omega, by go_num, by rw [HV.out] <;> rfl, HB2.out.drewN _⟩
                case measure => simp [intOf]; omega
    · have hke : k = xs.length := by omega
      subst hke
      go_wp2
      go_ret
      exact ⟨rfl, hb⟩
def zrC (k : Nat) : List Value := (List.range k).map fun _ => .int .i64 0
theorem zrC_succ (k : Nat) : zrC (k + 1) = zrC k ++ [.int .i64 0] := by unfold zrC; rw [List.range_succ, List.map_append]; rfl
/-- Two lists of numbers that grow. -/
structure LD (w W : World) (n1 : Nat) (l1 : List Value) (v1 : Value) (n2 : Nat) (l2 : List Value) (v2 : Value) : Prop where
  a : W.ownsRow w.heap.size 2 1 v1 n1 l1
  b : W.ownsRow w.heap.size 2 1 v2 n2 l2
  dis : ∀ g, v1.ownBlock = some g → v2.ownBlock = some g → False
  bw : Below w.heap.size w W
section
variable {w W W' : World} {n1 n2 : Nat} {l1 l2 : List Value} {v1 v2 : Value}
theorem LD.start (w : World) : LD w w 0 [] (.slice none 0 0) 0 [] (.slice none 0 0) :=
  ⟨⟨rfl, .inl ⟨rfl, rfl⟩⟩, ⟨rfl, .inl ⟨rfl, rfl⟩⟩, fun g h => (by simp [Value.ownBlock] at h), Below.refl _ _⟩
theorem LD.swap (h : LD w W n1 l1 v1 n2 l2 v2) : LD w W n2 l2 v2 n1 l1 v1 := ⟨h.b, h.a, fun g a b => h.dis g b a, h.bw⟩
theorem LD.alloc (h : LD w W n1 l1 v1 n2 l2 v2) (o : Obj) : LD w (W.alloc o) n1 l1 v1 n2 l2 v2 := ⟨h.a.alloc _, h.b.alloc _, h.dis, h.bw.trans ((below_box W o).mono h.bw.size)⟩
theorem LD.app (h : LD w W n1 l1 v1 n2 l2 v2) {g cap m : Nat} {l' : List Value} (ho : W'.ownsRow w.heap.size 2 1 (.slice (some ⟨g, 0, none⟩) m cap) m l') (hg : W.grownBy W' v1.ownBlock) (hl : v1.ownBlock = some g ∨ g = W.heap.size) : LD w W' m l' (.slice (some ⟨g, 0, none⟩) m cap) n2 l2 v2 := by
  refine ⟨ho, h.b.kept hg ?_, fun g' a b => ?_, h.bw.grown hg h.bw.size fun j hj => (h.a.lt j hj).1⟩
  · cases hp : v2.ownBlock with
    | none => exact .inl rfl
    | some j => right; intro e; exact h.dis j e.symm hp
  · have e : g = g' := by simpa [Value.ownBlock] using a
    subst e
    rcases hl with hl | hl
    · exact h.dis _ hl b
    · have := (h.b.lt _ b).2; omega
end
/-- What is left of pieces, when they are done, and their stretches, in memory. -/
structure SS (w W : World) (hi : Nat) (Al Ad : Option Addr) (gl gd : Nat) (xs : List Q3) (st : Sch) (Ab : Option Addr) (cb : Nat) : Prop where
  bw : Below w.heap.size w W
  sz : hi ≤ W.heap.size
  hw : w.heap.size ≤ hi
  left : 0 < xs.length → Al = some ⟨gl, 0, none⟩ ∧ NB W gl xs.length (fun i => (st.left i : Int))
  done : 0 < xs.length → Ad = some ⟨gd, 0, none⟩ ∧ NB W gd xs.length (fun i => (st.done i : Int))
  pl : 0 < xs.length → w.heap.size ≤ gl ∧ gl < hi ∧ w.heap.size ≤ gd ∧ gd < hi ∧ gl ≠ gd
  own : W.ownsRow hi 110 2 (.slice Ab st.busy.length cb) st.busy.length (ivC st.busy)
theorem LD.counted {w W : World} {xs : List Q3} {Al Ad : Option Addr} {cl cd : Nat} (hR : Rt xs) (h : LD w W xs.length (csC xs xs.length) (.slice Al xs.length cl) xs.length (zrC xs.length) (.slice Ad xs.length cd)) : ∃ gl gd, SS w W W.heap.size Al Ad gl gd xs (sch0 (pcs xs)) none 0 := by
  by_cases h0 : 0 < xs.length
  · obtain ⟨gl, c1, e1, p1, q1⟩ := h.a.form h0
    obtain ⟨gd, c2, e2, p2, q2⟩ := h.b.form h0
    cases e1
    cases e2
    refine ⟨gl, gd, ⟨h.bw, Nat.le_refl _, h.bw.size, fun _ => ⟨rfl, fun j hj => ?_, fun j => h.a.frozenAt j⟩, fun _ => ⟨rfl, fun j hj => ?_, fun j => h.b.frozenAt j⟩, fun _ => ⟨p1, q1, p2, q2, fun e => h.dis gl rfl (by rw [e]; rfl)⟩, ⟨rfl, .inl ⟨rfl, rfl⟩⟩⟩⟩
    · rw [h.a.cellAt j (by omega)]
      simp [csC, hj, sch0]
    · rw [h.b.cellAt j (by omega)]
      simp [zrC, hj, sch0]
  · exact ⟨0, 0, ⟨h.bw, Nat.le_refl _, h.bw.size, fun g => absurd g h0, fun g => absurd g h0, fun g => absurd g h0, ⟨rfl, .inl ⟨rfl, rfl⟩⟩⟩⟩
section
variable {w W W' : World} {hi gl gd cb : Nat} {Al Ad Ab : Option Addr} {xs : List Q3} {st : Sch}
theorem SS.below (h : SS w W hi Al Ad gl gd xs st Ab cb) (hb : Below W.heap.size W W') : SS w W' hi Al Ad gl gd xs st Ab cb := by
  have h1 := h.sz
  have h2 := h.hw
  exact ⟨h.bw.trans (hb.mono h.bw.size), Nat.le_trans h1 hb.size, h2, fun g => ⟨(h.left g).1, (h.left g).2.kept (hb.block _ (by have := h.pl g; omega))⟩, fun g => ⟨(h.done g).1, (h.done g).2.kept (hb.block _ (by have := h.pl g; omega))⟩, h.pl, own_below h.own hb⟩
theorem SS.turned (h : SS w W hi Al Ad gl gd xs st Ab cb) (hb : Below hi W W') {b' : List (Nat × Nat)} {Ab' : Option Addr} {cb' : Nat} (ho : W'.ownsRow hi 110 2 (.slice Ab' b'.length cb') b'.length (ivC b')) : SS w W' hi Al Ad gl gd xs { st with busy := b' } Ab' cb' := by
  have h1 := h.sz
  have h2 := h.hw
  exact ⟨h.bw.trans (hb.mono h2), Nat.le_trans h1 hb.size, h2, fun g => ⟨(h.left g).1, (h.left g).2.kept (hb.block _ (by have := h.pl g; omega))⟩, fun g => ⟨(h.done g).1, (h.done g).2.kept (hb.block _ (by have := h.pl g; omega))⟩, h.pl, ho⟩
theorem SS.timed (h : SS w W hi Al Ad gl gd xs st Ab cb) (t : Nat) : SS w W hi Al Ad gl gd xs { st with now := t } Ab cb := ⟨h.bw, h.sz, h.hw, h.left, h.done, h.pl, h.own⟩
theorem nb_upf {W : World} {L N : Nat} {f : Nat → Nat} {i v : Nat} (h : NB W L N (fun i => (f i : Int))) (hi : i < N) : NB (W.setCell ⟨L, i, none⟩ (.int .i64 (v : Int))) L N (fun j => (upf f i v j : Int)) := by
  have hs := h.set hi (v : Int)
  refine ⟨fun j hj => (hs.c j hj).trans ?_, hs.f⟩
  unfold upd upf
  dsimp only
  by_cases e : j = i
  · simp [e]
  · simp [e]
theorem SS.lefted (h : SS w W hi Al Ad gl gd xs st Ab cb) {i : Nat} (hi' : i < xs.length) (v : Nat) : SS w (W.setCell ⟨gl, i, none⟩ (.int .i64 (v : Int))) hi Al Ad gl gd xs { st with left := upf st.left i v } Ab cb := by
  have h1 := h.sz
  have h2 := h.hw
  have hp := h.pl (by omega)
  exact ⟨h.bw.setCell (p := ⟨gl, i, none⟩) hp.1 _, by simpa using h1, h2, fun g => ⟨(h.left g).1, nb_upf (h.left g).2 hi'⟩, fun g => ⟨(h.done g).1, (h.done g).2.far (p := ⟨gl, i, none⟩) hp.2.2.2.2 _⟩, h.pl, own_setQ h.own hp.2.1 _⟩
theorem SS.doned (h : SS w W hi Al Ad gl gd xs st Ab cb) {i : Nat} (hi' : i < xs.length) (v : Nat) : SS w (W.setCell ⟨gd, i, none⟩ (.int .i64 (v : Int))) hi Al Ad gl gd xs { st with done := upf st.done i v } Ab cb := by
  have h1 := h.sz
  have h2 := h.hw
  have hp := h.pl (by omega)
  exact ⟨h.bw.setCell (p := ⟨gd, i, none⟩) hp.2.2.1 _, by simpa using h1, h2, fun g => ⟨(h.left g).1, (h.left g).2.far (p := ⟨gd, i, none⟩) (fun e => hp.2.2.2.2 e.symm) _⟩, fun g => ⟨(h.done g).1, nb_upf (h.done g).2 hi'⟩, h.pl, own_setQ h.own hp.2.2.2.1 _⟩
end
end Go.Proofs.Ytcchmkpodfjhcaa
