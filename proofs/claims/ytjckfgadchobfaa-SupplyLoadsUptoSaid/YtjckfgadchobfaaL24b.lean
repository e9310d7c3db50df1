/-
  The law SupplyLoads of vergelaw24: any threads and lines have the loads that the document says, or none; what these ask for is at least what is told of each. Condition: what is read is of bulk at most 1048576.
-/
import Derived.Test.YtjckfgadchobfaaLw
import Derived.Test.YtjckfgadchobfaaLod4
import Derived.Test.YtjckfgadchobfaaSupQ
import Derived.JoinedCond
namespace Go.Proofs.Ytjckfgadchobfaa.supplyLoads
open Go.ChangeShapes Go.WideShapes Go.ChangeAt Go.RowKit
set_option linter.unusedVariables false

theorem al_ok {xs : List Q4} {w : Int} (h : alE xs w = 0) : ldsE xs = 0 ∧ 0 ≤ w ∧ w ≤ 4503599627370496 ∧ sumP (xs.map (arrOf w)) = some (alV xs w) := by
  have h0 := h
  unfold alE at h
  split at h
  · omega
  · split at h
    · omega
    · split at h
      · omega
      · rename_i h1 h2 h3
        cases hs : sumP (xs.map (arrOf w)) with
        | none => simp [hs] at h3
        | some s => exact ⟨by omega, by omega, by omega, by rw [(al_sum (by omega) (by omega) (by omega) hs).2]⟩
theorem lo_len (ts ls : List Q4) (pr : Int) : (loL ts ls pr).length ≤ ts.length + ls.length := by
  unfold loL
  split
  · simp
  · cases h : lnS (thS pr ts) ls with
    | none => simp
    | some L =>
      rw [lnS_some _ _ _ h]
      have := thS_len pr ts
      simp; omega
theorem pre_th {pr : Int} {ts ls : List Q4} {k : Nat} : thS pr (ts.take k) <+: thS pr ts ++ ls.map lnL := by
  have : thS pr ts = thS pr (ts.take k) ++ thS pr (ts.drop k) := by
    unfold thS
    rw [← List.map_append, ← List.filter_append, List.take_append_drop]
  rw [this, List.append_assoc]
  exact List.prefix_append _ _
theorem pre_ln {pr : Int} {ts ls : List Q4} {k : Nat} : thS pr ts ++ (ls.take k).map lnL <+: thS pr ts ++ ls.map lnL :=
  List.prefix_append_right_inj _ |>.2 (List.IsPrefix.map _ (List.take_prefix _ _))
set_option maxHeartbeats 2000000 in
theorem walk (A1 A2 : Option Addr) (ts ls : List Q4) (c1 c2 : Nat) (pr wd : Int) (w : World) (h1 : R4 w w.heap.size A1 ts) (h2 : R4 w w.heap.size A2 ls) (hl : ts.length + ls.length ≤ 2147483647) :
    Calls Try.prog 16 #[.slice A1 ts.length c1, .slice A2 ls.length c2, .int .i64 pr, .int .i64 wd] w fun e w' => e = .returned (.bool true) ∧ Below w.heap.size w w' := by
  have hll := lo_len ts ls pr
  by_cases hE : loE ts ls pr = 0
  · by_cases hA : alE (loL ts ls pr) wd = 0
    · obtain ⟨f1, f2⟩ := lo_form hE
      have f3 := odd_parts (show ¬ oddB ts ls = true by rw [f1]; simp)
      obtain ⟨g1, w0, w1', g2⟩ := al_ok hA
      have F3 := Lib.hid f3
      have hn := alV_bd (loL ts ls pr) wd
      have G := Lib.hid (And.intro f2 (And.intro g1 g2))
      clear f1 f2 f3 g1 g2
      go_enter Try.func16, Try.ntmps16
      go_wp2_with fail
      refine (loads_any A1 A2 ts ls _ _ _ _ h1 h2 (by omega)).mono ?_
      rintro e w1 ⟨A, c, rfl, hR, HB⟩
      go_wp2_with fail
      refine (rloads_any A1 A2 ts ls _ _ _ _ ((h1.below HB).mono HB.size) ((h2.below HB).mono HB.size) (by omega)).mono ?_
      rintro e w2 ⟨A', c', rfl, hR', hb⟩
      replace hR := (hR.below hb).mono hb.size
      replace HB := HB.next HB.size hb
      clear hb
      go_wp2_with fail
      refine (lives24 _).mono ?_
      rintro e w3 ⟨rfl, hb⟩
      replace hR := (hR.below hb).mono hb.size
      replace hR' := (hR'.below hb).mono hb.size
      replace HB := HB.next HB.size hb
      clear hb
      go_wp2_with fail
      refine (same24_any _ _ _ _ _ _ hR hR' (by omega)).mono ?_
      rintro e w4 ⟨rfl, nn, rfl⟩
      replace HB := HB.drewN nn
      clear hR'
      go_wp2_with fail
      refine (all_any _ _ _ _ (w3.drewN nn) hR (by omega)).mono ?_
      rintro e w5 ⟨rfl, hb⟩
      replace HB := HB.next HB.size hb
      clear hb hR
      obtain ⟨n, en⟩ : ∃ n, n = alV (loL ts ls pr) wd := ⟨_, rfl⟩
      rw [← en] at hn ⊢
      have EN := Lib.hid en
      clear en
      go_wp2_with fail
      go_loopw [15, 65] (fun u i wr => ∃ (k : Nat) (s v : Int), k ≤ ts.length ∧ i = .int .i64 k ∧ u = .int .i64 s ∧ 0 ≤ s ∧ s ≤ v ∧ v ≤ 4503599627370496 ∧ Hid (sumP ((thS pr (ts.take k)).map (arrOf wd)) = some v) ∧ Below w.heap.size w wr) (fun _ i _ => ts.length - (intOf i).toNat)
      case atStart => exact ⟨0, 0, 0, by omega, rfl, rfl, by omega, by omega, by omega, rfl, HB⟩
      case round =>
        obtain ⟨k, s, v, hk, rfl, rfl, s0, s1, s2, hs, hbl⟩ := hrel
        by_cases hlt : k < ts.length
        · obtain ⟨b, off, rfl, hbB, hc⟩ := h1 (by omega)
          obtain ⟨x, hx⟩ := some_at hlt
          obtain ⟨e1, e2, e3, e4⟩ := hc k x hx
          replace e1 := (hbl.cell (p := ⟨b, off + k * 4, none⟩) hbB).trans e1
          replace e2 := (hbl.cell (p := ⟨b, off + k * 4 + 1, none⟩) hbB).trans e2
          replace e3 := (hbl.cell (p := ⟨b, off + k * 4 + 2, none⟩) hbB).trans e3
          replace e4 := (hbl.cell (p := ⟨b, off + k * 4 + 3, none⟩) hbB).trans e4
          have hth := List.all_eq_true.1 F3.out.1 x (List.mem_of_getElem? hx)
          have hsn := thS_snoc pr (ts.take k) x
          rw [← takeR_snoc hx] at hsn
          have hpp : thS pr (ts.take (k + 1)) <+: thS pr ts ++ ls.map lnL := pre_th
          clear hc hx
          obtain ⟨xa, xb, xc, xd⟩ := x
          simp only at e1 e2 e3 e4 hsn
          by_cases hpr : pr < xa
          · rw [if_pos hpr] at hsn
            obtain ⟨p1, p2, p3, p4⟩ := sup_step G.out.2.1 G.out.2.2 (by rw [G.out.1, ← hsn]; exact hpp) hs.out
            rw [← hsn] at p1
            obtain ⟨q1, q2⟩ := th_le hth w0 w1' p2 p4
            replace p1 : sumP ((thS pr (ts.take (k + 1))).map (arrOf wd)) = some (v + moV xc 0 xc wd * xb) := p1
            replace p3 : v + moV xc 0 xc wd * xb ≤ 4503599627370496 := p3
            replace q2 : thV xb xc wd ≤ moV xc 0 xc wd * xb := q2
            have P1 := Lib.hid p1
            obtain ⟨m, em⟩ : ∃ m, m = moV xc 0 xc wd * xb := ⟨_, rfl⟩
            rw [← em] at P1 p3 q2
            clear p1 p4 hsn hpp hth em
            by_cases ht : thE xb xc wd = 0
            · go_wp2_with (first | (go_at_call 17; refine (thread_any _ _ _ _ _ _).mono ?_; rintro e w6 ⟨rfl, hb⟩; have b0 := box_cell hb 0 _ rfl))
              go_roundw
              case rel => exact ⟨k + 1, _, v + m, by omega, by go_num, rfl, by omega, by omega, by omega, P1, hbl.next1 hbl.size hb⟩
              case measure => simp [intOf]; omega
            · go_wp2_with (first | (go_at_call 17; refine (thread_any _ _ _ _ _ _).mono ?_; rintro e w6 ⟨rfl, hb⟩; have b0 := box_cell hb 0 _ rfl))
              go_roundw
              case rel => exact ⟨k + 1, _, v + m, by omega, by go_num, rfl, by omega, by omega, by omega, P1, hbl.next1 hbl.size hb⟩
              case measure => simp [intOf]; omega
          · rw [if_neg hpr, List.append_nil] at hsn
            have HS := Lib.hid hsn
            clear hsn hpp hth
            by_cases ht : thE xb xc wd = 0
            · go_wp2_with (first | (go_at_call 17; refine (thread_any _ _ _ _ _ _).mono ?_; rintro e w6 ⟨rfl, hb⟩; have b0 := box_cell hb 0 _ rfl))
              go_roundw
              case rel => exact ⟨k + 1, _, v, by omega, by go_num, rfl, by omega, by omega, by omega, by unfold Hid; rw [HS.out]; exact hs.out, hbl.next1 hbl.size hb⟩
              case measure => simp [intOf]; omega
            · go_wp2_with (first | (go_at_call 17; refine (thread_any _ _ _ _ _ _).mono ?_; rintro e w6 ⟨rfl, hb⟩; have b0 := box_cell hb 0 _ rfl))
              go_roundw
              case rel => exact ⟨k + 1, _, v, by omega, by go_num, rfl, by omega, by omega, by omega, by unfold Hid; rw [HS.out]; exact hs.out, hbl.next1 hbl.size hb⟩
              case measure => simp [intOf]; omega
        · have etk : ts.take k = ts := List.take_of_length_le (by omega)
          rw [etk] at hs
          clear etk
          obtain ⟨wo, hwo⟩ : ∃ wo : World, wo = wr := ⟨_, rfl⟩
          subst hwo
          go_wp2_with fail
          go_loopw [15, 89] (fun u i wr => ∃ (k : Nat) (s v : Int), k ≤ ls.length ∧ i = .int .i64 k ∧ u = .int .i64 s ∧ 0 ≤ s ∧ s ≤ v ∧ v ≤ 4503599627370496 ∧ Hid (sumP ((thS pr ts ++ (ls.take k).map lnL).map (arrOf wd)) = some v) ∧ Below w.heap.size w wr) (fun _ i _ => ls.length - (intOf i).toNat)
          case atStart => exact ⟨0, s, v, by omega, rfl, rfl, s0, s1, s2, by unfold Hid; simpa using hs.out, hbl⟩
          case round =>
            clear hbl hk hlt s0 s1 s2 hs
            obtain ⟨k, s, v, hk, rfl, rfl, s0, s1, s2, hs, hbl⟩ := hrel
            by_cases hlt : k < ls.length
            · obtain ⟨b, off, rfl, hbB, hc⟩ := h2 (by omega)
              obtain ⟨x, hx⟩ := some_at hlt
              obtain ⟨e1, e2, e3, e4⟩ := hc k x hx
              replace e1 := (hbl.cell (p := ⟨b, off + k * 4, none⟩) hbB).trans e1
              replace e2 := (hbl.cell (p := ⟨b, off + k * 4 + 1, none⟩) hbB).trans e2
              replace e3 := (hbl.cell (p := ⟨b, off + k * 4 + 2, none⟩) hbB).trans e3
              replace e4 := (hbl.cell (p := ⟨b, off + k * 4 + 3, none⟩) hbB).trans e4
              have hln := List.all_eq_true.1 F3.out.2 x (List.mem_of_getElem? hx)
              have hsn : thS pr ts ++ (ls.take (k + 1)).map lnL = thS pr ts ++ (ls.take k).map lnL ++ [lnL x] := by rw [takeR_snoc hx]; simp
              have hpp : thS pr ts ++ (ls.take (k + 1)).map lnL <+: thS pr ts ++ ls.map lnL := pre_ln
              clear hc hx
              obtain ⟨p1, p2, p3, p4⟩ := sup_step G.out.2.1 G.out.2.2 (by rw [G.out.1, ← hsn]; exact hpp) hs.out
              rw [← hsn] at p1
              obtain ⟨z1, z2, z3, z4, z5, z6⟩ := lnB_parts hln
              obtain ⟨xa, xb, xc, xd⟩ := x
              simp only at e1 e2 e3 e4 z1 z2 z3 z4 z5 z6
              have hlB : lineB xc xd = true := by simp [lineB]; omega
              replace p1 : sumP ((thS pr ts ++ (ls.take (k + 1)).map lnL).map (arrOf wd)) = some (v + moV xd 0 xd wd * (xc * xb)) := p1
              replace p3 : v + moV xd 0 xd wd * (xc * xb) ≤ 4503599627370496 := p3
              have hm0 : 0 ≤ moV xd 0 xd wd * (xc * xb) := by
                rw [mo_up z3 z4 w0 w1']
                exact Int.mul_nonneg (up_le wd xd w0 z3).1 (Int.mul_nonneg (by omega) (by omega))
              have P1 := Lib.hid p1
              by_cases ht : liE xc xd wd = 0
              · obtain ⟨q1, q2⟩ := li_eq hlB z5 w0 w1' ht
                obtain ⟨m, em⟩ : ∃ m, m = moV xd 0 xd wd * (xc * xb) := ⟨_, rfl⟩
                rw [← em] at P1 p3 hm0 q1
                have qa : 0 ≤ liV xc xd wd * xb := by omega
                have qb : liV xc xd wd * xb ≤ 4503599627370496 - v := by omega
                have Q1 := Lib.hid q1
                clear p1 p4 hsn hpp hln em hlB q1
                go_wp2_with (first | (go_at_call 19; refine (line_any _ _ _ _ _ _).mono ?_; rintro e w6 ⟨rfl, hb⟩; have b1 := box_cell hb 1 _ rfl))
                go_roundw
                case rel => exact ⟨k + 1, _, v + m, by omega, by go_num, rfl, by omega, by have := Q1.out; omega, by omega, P1, hbl.next1 hbl.size hb⟩
                case measure => simp [intOf]; omega
              · obtain ⟨m, em⟩ : ∃ m, m = moV xd 0 xd wd * (xc * xb) := ⟨_, rfl⟩
                rw [← em] at P1 p3 hm0
                clear p1 p4 hsn hpp hln em hlB
                go_wp2_with (first | (go_at_call 19; refine (line_any _ _ _ _ _ _).mono ?_; rintro e w6 ⟨rfl, hb⟩; have b1 := box_cell hb 1 _ rfl))
                go_roundw
                case rel => exact ⟨k + 1, _, v + m, by omega, by go_num, rfl, by omega, by omega, by omega, P1, hbl.next1 hbl.size hb⟩
                case measure => simp [intOf]; omega
            · have hv : v = n := by
                have := hs.out
                rw [List.take_of_length_le (by omega), ← G.out.1, G.out.2.2] at this
                rw [EN.out]; exact (Option.some.inj this).symm
              subst hv
              have hge : s ≤ v := s1
              go_wp2
              go_ret
              exact ⟨by simp <;> omega, hbl⟩
    · go_enter Try.func16, Try.ntmps16
      go_wp2_with fail
      refine (loads_any A1 A2 ts ls _ _ _ _ h1 h2 (by omega)).mono ?_
      rintro e w1 ⟨A, c, rfl, hR, HB⟩
      go_wp2_with fail
      refine (rloads_any A1 A2 ts ls _ _ _ _ ((h1.below HB).mono HB.size) ((h2.below HB).mono HB.size) (by omega)).mono ?_
      rintro e w2 ⟨A', c', rfl, hR', hb⟩
      replace hR := (hR.below hb).mono hb.size
      replace HB := HB.next HB.size hb
      clear hb
      go_wp2_with fail
      refine (lives24 _).mono ?_
      rintro e w3 ⟨rfl, hb⟩
      replace hR := (hR.below hb).mono hb.size
      replace hR' := (hR'.below hb).mono hb.size
      replace HB := HB.next HB.size hb
      clear hb
      go_wp2_with fail
      refine (same24_any _ _ _ _ _ _ hR hR' (by omega)).mono ?_
      rintro e w4 ⟨rfl, nn, rfl⟩
      replace HB := HB.drewN nn
      clear hR'
      go_wp2_with fail
      refine (all_any _ _ _ _ (w3.drewN nn) hR (by omega)).mono ?_
      rintro e w5 ⟨rfl, hb⟩
      replace HB := HB.next HB.size hb
      clear hb hR
      go_wp2
      go_ret
      exact ⟨rfl, HB⟩
  · go_enter Try.func16, Try.ntmps16
    go_wp2_with fail
    refine (loads_any A1 A2 ts ls _ _ _ _ h1 h2 (by omega)).mono ?_
    rintro e w1 ⟨A, c, rfl, hR, HB⟩
    go_wp2_with fail
    refine (rloads_any A1 A2 ts ls _ _ _ _ ((h1.below HB).mono HB.size) ((h2.below HB).mono HB.size) (by omega)).mono ?_
    rintro e w2 ⟨A', c', rfl, hR', hb⟩
    replace hR := (hR.below hb).mono hb.size
    replace HB := HB.next HB.size hb
    clear hb
    go_wp2_with fail
    refine (lives24 _).mono ?_
    rintro e w3 ⟨rfl, hb⟩
    replace hR := (hR.below hb).mono hb.size
    replace hR' := (hR'.below hb).mono hb.size
    replace HB := HB.next HB.size hb
    clear hb
    go_wp2_with fail
    refine (same24_any _ _ _ _ _ _ hR hR' (by omega)).mono ?_
    rintro e w4 ⟨rfl, nn, rfl⟩
    replace HB := HB.drewN nn
    clear hR'
    go_wp2_with fail
    refine (all_any _ _ _ _ (w3.drewN nn) hR (by omega)).mono ?_
    rintro e w5 ⟨rfl, hb⟩
    replace HB := HB.next HB.size hb
    clear hb hR
    go_wp2
    all_goals go_ret
    all_goals exact ⟨rfl, HB⟩

/-! ### the bound -/
theorem one_le {H : Type} (d : DataW H) : 1 ≤ Rows.uptoBulk d := by
  cases d with
  | lit l => cases l <;> simp [Rows.uptoBulk]
  | nil => simp [Rows.uptoBulk]
  | ptr d => simp [Rows.uptoBulk]
  | slice elems spare => simp [Rows.uptoBulk]
  | agg parts => simp [Rows.uptoBulk]
  | iface t d => simp [Rows.uptoBulk]
  | map entries => simp [Rows.uptoBulk]
  | held h => simp [Rows.uptoBulk]
theorem length_le {H : Type} (l : List (DataW H)) : l.length ≤ Rows.uptoBulkAll l := by
  induction l with
  | nil => simp [Rows.uptoBulkAll]
  | cons x r ih => have := one_le x; simp only [Rows.uptoBulkAll, List.length_cons]; omega
theorem open_bulk {H : Type} {enc : TypeId × Value → H} {P : Program} {w : World} {base : Nat} {spare : Nat → Bool} {held : Bool} {t e : TypeId} {A : Option Addr} {n c : Nat} {d : DataW H} {p : List MemPlace} (ht : P.underlying t = some (.slice e))
    (h : DataW.Trod enc P w base spare held t (.slice A n c) d p) : n ≤ Rows.uptoBulk d := by
  obtain ⟨fuel, hf⟩ := h
  have hf' : DataW.trod enc P w base spare held fuel t [.slice A n c] = some (d, p) := hf
  rcases Go.Deep.open_slice ht hf' with ⟨h1, _⟩ | ⟨a, len, cap, m, n', D, Pl, h1, _, _, _, _, hx, _⟩
  · simp only [List.cons.injEq, and_true, Value.slice.injEq] at h1
    rw [h1.2.1]; omega
  · simp only [List.cons.injEq, and_true, Value.slice.injEq] at h1
    simp only [Prod.mk.injEq] at hx
    rw [hx.1, h1.2.1]
    have := length_le ((List.range len).map D)
    simp only [List.length_map, List.length_range] at this
    simp only [Rows.uptoBulk]
    omega

abbrev spec := Rows.supplyLoadsSpec
set_option maxRecDepth 100000 in
theorem contract (H : Type) (enc : TypeId × Value → H) (W : World) (base : Nat) (args : Array Value) (ds gs : List (DataW H)) (before : List MemPlace)
    (hval0 : ∀ (j : Nat) t v, Try.f16.params[j]? = some t → args[j]? = some v → Value.okWide Try.prog W .any base t v)
    (hW : DataW.Whole enc Try.prog Try.f16.params.toList spec.vars false W args.toList ds gs before)
    (hk : Rows.uptoSmall H (ds ++ gs) = true) :
    Calls Try.prog 16 args W fun e W' => ∃ v, e = .returned v ∧ spec.post enc Try.prog Try.f16 false true false false W args v W' := by
  have hval : ∀ (j : Nat) t v, Try.f16.params[j]? = some t → args[j]? = some v → Value.okWide Try.prog W .any base t v := hval0
  have hW' := hW
  obtain ⟨p, q, hA0, hV, rfl, hfz, hnd⟩ := hW
  have hA : DataW.TrodAll enc Try.prog W 0 (fun _ => true) true Try.f16.params.toList args.toList ds p := hA0
  rw [Try.params16] at hA hval
  obtain ⟨v0, vs0, d0, ds0, p0, q0, hargs, rfl, rfl, h0, r0⟩ := trodAll_cons hA
  obtain ⟨v1, vs1, d1, ds1, p1, q1, rfl, rfl, rfl, h1, r1⟩ := trodAll_cons r0
  obtain ⟨v2, vs2, d2, ds2, p2, q2, rfl, rfl, rfl, h2, r2⟩ := trodAll_cons r1
  obtain ⟨v3, vs3, d3, ds3, p3, q3, rfl, rfl, rfl, h3, r3⟩ := trodAll_cons r2
  obtain ⟨rfl, rfl, rfl⟩ := trodAll_nil r3
  obtain rfl : args = #[v0, v1, v2, v3] := by cases args; simp_all
  obtain ⟨rfl, rfl⟩ := trodVars_none hV
  obtain ⟨A1, ts, c1, rfl, hR, hlen, _⟩ := open_r4 4 Try.underlying64 (by kernel_rfl) (by kernel_rfl) (hval 0 _ v0 rfl rfl) h0
  obtain ⟨A2, ls, c2, rfl, hR2, hlen2, _⟩ := open_r4 4 Try.underlying65 (by kernel_rfl) (by kernel_rfl) (hval 1 _ v1 rfl rfl) h1
  obtain ⟨pr, rfl, rfl, rfl, px⟩ := open_int Try.underlying3 (hval 2 _ v2 rfl rfl) h2
  obtain ⟨wd, rfl, rfl, rfl, wx⟩ := open_int Try.underlying2 (hval 3 _ v3 rfl rfl) h3
  have b0 := open_bulk Try.underlying64 h0
  have b1 := open_bulk Try.underlying65 h1
  have hb : Rows.uptoBulkAll ([d0, d1, .lit (.int .i64 pr), .lit (.int .i64 wd)] ++ []) ≤ 1048576 := of_decide_eq_true hk
  simp only [List.append_nil, Rows.uptoBulkAll] at hb
  refine (walk A1 A2 ts ls c1 c2 pr wd W hR hR2 (by omega)).mono fun e W' ⟨he, hb⟩ => ?_
  subst he
  exact ⟨_, rfl, law_post try_laidOut (by kernel_rfl) rfl rfl Try.underlying4 hW' rfl rfl rfl hb⟩

set_option maxRecDepth 100000 in
theorem lifted (os : Os) (started : os.Started) (H : Type) (enc : TypeId × Value → H) (F : Stop.Interp) :
    ReturnsInHanded {} Try.checked os 16 .any ((Rows.OpenSpec.upto Rows.supplyLoadsSpec).pre6 enc Try.prog Try.f16 Rows.supplyLoadsUptoRow.domain false) (((Rows.OpenSpec.upto Rows.supplyLoadsSpec).at F).post enc Try.prog Try.f16 false true false false) := by
  refine returnsInHanded_of_cond (C := Try.checked) (s := Rows.OpenSpec.upto Rows.supplyLoadsSpec) (k := Rows.uptoSmall) rfl own started (by kernel_rfl) Try.func16
    (OpenSpec.witness (enc := enc) (C := Try.checked) (s := Rows.OpenSpec.upto Rows.supplyLoadsSpec) (k := Rows.uptoSmall) rfl false ⟨#[], #[.slice none 0 0, .slice none 0 0, .int .i64 0, .int .i64 0], []⟩ 8 (by kernel_rfl) (by kernel_rfl) (by kernel_rfl)
      (x := ([.nil, .nil, .lit (.int .i64 0), .lit (.int .i64 0)], [], [])) (by kernel_rfl) rfl (by kernel_rfl)) ?_
  intro W base args ds gs before hval hW _ hk _
  exact contract H enc W base args ds gs before hval hW hk

/-- The statement. -/
theorem proved : Rows.SupplyLoadsUptoSaid :=
  OpenClaim.holds_of_cond 16 Try.f16 rfl rfl rfl rfl rfl rfl rfl ⟨rfl, rfl, rfl, rfl, rfl⟩ rfl rfl rfl rfl rfl (by kernel_rfl) Try.func16 (by kernel_rfl)
    (of_decide_eq_true (by kernel_rfl)) (by unfold Func.isWrapper; first | (rw [if_pos (by decide +kernel)]; kernel_rfl) | (rw [if_neg (by decide +kernel)]; exact ⟨rfl, rfl⟩))
    (fun os started H enc _ F => lifted os started H enc F)
#print axioms proved
end Go.Proofs.Ytjckfgadchobfaa.supplyLoads
