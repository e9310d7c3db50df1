/-
  The law DemandUse of vergelaw23: in a stretch there is at most what is used of it, in millionths, and, for each load, what its jitter brings, and one cost. No condition.
-/
import Derived.Test.YtjckfgadchobfaaLw
import Derived.Test.YtjckfgadchobfaaDem5
import Derived.Test.YtjckfgadchobfaaDemQ
namespace Go.Proofs.Ytjckfgadchobfaa.demandUse
open Go.ChangeShapes Go.WideShapes Go.ChangeAt Go.RowKit
set_option linter.unusedVariables false

theorem al_cases (xs : List Q4) (wd : Int) : alE xs wd = 2 ∧ ldsE xs ≠ 0 ∨ ldsE xs = 0 ∧ alE xs wd = 1 ∨ ldsE xs = 0 ∧ alE xs wd = 10 ∨ ldsE xs = 0 ∧ alE xs wd = 0 ∧ sumP (xs.map (arrOf wd)) = some (alV xs wd) := by
  by_cases h : ldsE xs = 0
  · by_cases h2 : 0 ≤ wd ∧ wd ≤ 4503599627370496
    · cases hs : sumP (xs.map (arrOf wd)) with
      | none => exact .inr (.inr (.inl ⟨h, (al_over h h2.1 h2.2 hs).1⟩))
      | some s => exact .inr (.inr (.inr ⟨h, (al_sum h h2.1 h2.2 hs).1, by rw [(al_sum h h2.1 h2.2 hs).2]⟩))
    · exact .inr (.inl ⟨h, by unfold alE; rw [if_neg (by omega), if_pos h2]⟩)
  · exact .inl ⟨by unfold alE; rw [if_pos h], h⟩
theorem us_cases (xs : List Q4) : usE xs = 2 ∧ ldsE xs ≠ 0 ∨ ldsE xs = 0 ∧ usE xs = 10 ∨ ldsE xs = 0 ∧ usE xs = 0 ∧ sumU xs = some (usV xs) := by
  by_cases h : ldsE xs = 0
  · cases hs : sumU xs with
    | none => exact .inr (.inl ⟨h, (us_over h hs).1⟩)
    | some s => exact .inr (.inr ⟨h, (us_sum h hs).1, by rw [(us_sum h hs).2]⟩)
  · exact .inl ⟨by unfold usE; rw [if_pos h], h⟩
theorem foldU_bd : ∀ (l : List Q4) (s t : Int), (∀ x ∈ l, ldB x = true) → 0 ≤ s → l.foldl addU (some s) = some t → 0 ≤ t
  | [], s, t, _, h0, h => by simp only [List.foldl_nil, Option.some.injEq] at h; omega
  | x :: r, s, t, hl, h0, h => by
    rw [List.foldl_cons, addU_some] at h
    have hx := ldB_parts (hl x (by simp))
    have hu : 0 ≤ upD (x.d * 1000000) x.a := up_nonneg hx.1 (by omega)
    by_cases hc : 4503599627370496 < s + upD (x.d * 1000000) x.a
    · rw [if_pos hc, foldU_none] at h; cases h
    · rw [if_neg hc] at h
      exact foldU_bd r _ t (fun y hy => hl y (by simp [hy])) (by omega) h
set_option maxHeartbeats 1600000 in
theorem walk (A : Option Addr) (xs : List Q4) (cap : Nat) (wd : Int) (w : World) (h : R4 w w.heap.size A xs) (hl : xs.length ≤ 9223372036854775807) :
    Calls Try.prog 11 #[.slice A xs.length cap, .int .i64 wd] w fun e w' => e = .returned (.bool true) ∧ Below w.heap.size w w' := by
  by_cases hwd : 0 ≤ wd ∧ wd ≤ 4294967296
  · obtain ⟨w0', w1'⟩ := hwd
    rcases al_cases xs wd with ⟨e1, hE⟩ | ⟨hE, e1⟩ | ⟨hE, e1⟩ | ⟨hE, e1, hs⟩
    · have e2 : usE xs = 2 := by unfold usE; rw [if_pos hE]
      clear hE
      go_enter Try.func11, Try.ntmps11
      go_wp2_with fail
      refine (lives23 _).mono ?_
      rintro e w0 ⟨rfl, HB⟩
      go_wp2_with fail
      refine (all_any A xs _ _ _ ((h.below HB).mono HB.size) hl).mono ?_
      rintro e w1 ⟨rfl, hb⟩
      replace HB := HB.next HB.size hb
      clear hb
      go_wp2_with fail
      refine (use_any A xs _ _ ((h.below HB).mono HB.size) hl).mono ?_
      rintro e w2 ⟨rfl, hb⟩
      replace HB := HB.next HB.size hb
      clear hb
      go_wp2
      go_ret
      exact ⟨rfl, HB⟩
    · exfalso; unfold alE at e1; rw [if_neg (by omega), if_neg (by omega)] at e1; split at e1 <;> omega
    · have HE := Lib.hid hE
      clear hE
      rcases us_cases xs with ⟨e2, hE2⟩ | ⟨hE2, e2⟩ | ⟨hE2, e2, hu⟩
      · exact absurd HE.out hE2
      · clear hE2
        go_enter Try.func11, Try.ntmps11
        go_wp2_with fail
        refine (lives23 _).mono ?_
        rintro e w0 ⟨rfl, HB⟩
        go_wp2_with fail
        refine (all_any A xs _ _ _ ((h.below HB).mono HB.size) hl).mono ?_
        rintro e w1 ⟨rfl, hb⟩
        replace HB := HB.next HB.size hb
        clear hb
        go_wp2_with fail
        refine (use_any A xs _ _ ((h.below HB).mono HB.size) hl).mono ?_
        rintro e w2 ⟨rfl, hb⟩
        replace HB := HB.next HB.size hb
        clear hb
        go_wp2
        go_ret
        exact ⟨rfl, HB⟩
      · clear hE2 hu
        go_enter Try.func11, Try.ntmps11
        go_wp2_with fail
        refine (lives23 _).mono ?_
        rintro e w0 ⟨rfl, HB⟩
        go_wp2_with fail
        refine (all_any A xs _ _ _ ((h.below HB).mono HB.size) hl).mono ?_
        rintro e w1 ⟨rfl, hb⟩
        replace HB := HB.next HB.size hb
        clear hb
        go_wp2_with fail
        refine (use_any A xs _ _ ((h.below HB).mono HB.size) hl).mono ?_
        rintro e w2 ⟨rfl, hb⟩
        replace HB := HB.next HB.size hb
        clear hb
        go_wp2
        go_ret
        exact ⟨rfl, HB⟩
    · rcases us_cases xs with ⟨e2, hE2⟩ | ⟨hE2, e2⟩ | ⟨hE2, e2, hu⟩
      · exact absurd hE hE2
      · clear hE2 hs hE
        go_enter Try.func11, Try.ntmps11
        go_wp2_with fail
        refine (lives23 _).mono ?_
        rintro e w0 ⟨rfl, HB⟩
        go_wp2_with fail
        refine (all_any A xs _ _ _ ((h.below HB).mono HB.size) hl).mono ?_
        rintro e w1 ⟨rfl, hb⟩
        replace HB := HB.next HB.size hb
        clear hb
        go_wp2_with fail
        refine (use_any A xs _ _ ((h.below HB).mono HB.size) hl).mono ?_
        rintro e w2 ⟨rfl, hb⟩
        replace HB := HB.next HB.size hb
        clear hb
        go_wp2
        go_ret
        exact ⟨rfl, HB⟩
      · have hlaw := use_law hE w0' hs hu
        have hnb := sumP_bd (arr_nonneg hE wd) hs
        have hub : 0 ≤ usV xs := foldU_bd xs 0 _ (fun x hx => by obtain ⟨k, hk⟩ := List.getElem?_of_mem hx; exact (lds_parts hE).2 k x hk) (by omega) hu
        have HP := Lib.hid (lds_parts hE).2
        have hlen := (lds_parts hE).1
        obtain ⟨n, en⟩ : ∃ n, n = alV xs wd := ⟨_, rfl⟩
        obtain ⟨u, eu⟩ : ∃ n, n = usV xs := ⟨_, rfl⟩
        rw [← en] at hlaw hnb
        rw [← eu] at hlaw hub
        have EN := Lib.hid en
        have EU := Lib.hid eu
        have HL := Lib.hid hlaw
        obtain ⟨n0, n1⟩ := hnb
        clear hs hu hE hE2 hlaw
        go_enter Try.func11, Try.ntmps11
        go_wp2_with fail
        refine (lives23 _).mono ?_
        rintro e w0 ⟨rfl, HB⟩
        go_wp2_with fail
        refine (all_any A xs _ _ _ ((h.below HB).mono HB.size) hl).mono ?_
        rintro e w1 ⟨rfl, hb⟩
        replace HB := HB.next HB.size hb
        clear hb
        go_wp2_with fail
        refine (use_any A xs _ _ ((h.below HB).mono HB.size) hl).mono ?_
        rintro e w2 ⟨rfl, hb⟩
        replace HB := HB.next HB.size hb
        clear hb
        rw [← EN.out, ← EU.out]
        clear en eu
        go_wp2_with fail
        go_loopw [9, 53] (fun u i wr => ∃ (k : Nat) (s : Int), k ≤ xs.length ∧ i = .int .i64 k ∧ u = .int .i64 s ∧ 0 ≤ s ∧ s ≤ k * 2251799813685248 ∧ Below w.heap.size w wr ∧ Hid (s = mostP (xs.take k))) (fun _ i _ => xs.length - (intOf i).toNat)
        case atStart => exact ⟨0, 0, by omega, rfl, rfl, by omega, by omega, HB, rfl⟩
        case round =>
          obtain ⟨k, s, hk, rfl, rfl, s0, s1, hbl, hs⟩ := hrel
          by_cases hlt : k < xs.length
          · obtain ⟨b, off, rfl, hbB, hc⟩ := h (by omega)
            obtain ⟨x, hx⟩ := some_at hlt
            obtain ⟨c1, c2, c3, c4⟩ := hc k x hx
            replace c1 := (hbl.cell (p := ⟨b, off + k * 4, none⟩) hbB).trans c1
            replace c2 := (hbl.cell (p := ⟨b, off + k * 4 + 1, none⟩) hbB).trans c2
            replace c3 := (hbl.cell (p := ⟨b, off + k * 4 + 2, none⟩) hbB).trans c3
            replace c4 := (hbl.cell (p := ⟨b, off + k * 4 + 3, none⟩) hbB).trans c4
            have hld := HP.out k x hx
            obtain ⟨x1, x2, x3, x4, x5, x6, x7, x8, x9⟩ := ldB_parts hld
            have hsn := mostP_snoc (xs.take k) x
            rw [← takeR_snoc hx, ← hs.out] at hsn
            have u1 := up_le x.b x.a x3 x1
            obtain ⟨u1, u2⟩ := u1
            have hsn2 : mostP (xs.take (k + 1)) = s + (x.d + (x.b + x.a - 1) / x.a * x.d) := hsn
            have HS := Lib.hid hsn2
            clear hc hx hs hsn hsn2 x9 hld
            obtain ⟨xa, xb, xc, xd⟩ := x
            simp only at c1 c2 c3 c4 x1 x2 x3 x4 x5 x6 x7 x8 u1 u2 HS
            by_cases g : 1048576 < xd
            · go_wp2
              go_ret
              exact ⟨rfl, hbl.alloc hbl.size _⟩
            · by_cases g2 : 1073741824 < xb
              · go_wp2
                go_ret
                exact ⟨rfl, hbl.alloc hbl.size _⟩
              · have p0 : 0 ≤ (xb + xa - 1) / xa * xd := Int.mul_nonneg u1 x7
                have p1 : (xb + xa - 1) / xa * xd ≤ 1073741824 * 1048576 := Int.mul_le_mul (by omega) (by omega) x7 (by omega)
                go_wp2_with (go_quiet (fail))
                go_roundw
                case rel => exact ⟨k + 1, _, by omega, by go_num, rfl, by omega, by simp only [Int.natCast_add]; omega, (hbl.alloc hbl.size _).drewN _, by have := HS.out; unfold Hid; rw [this]⟩
                case measure => simp [intOf]; omega
          · have hs' := hs.out
            rw [List.take_of_length_le (by omega)] at hs'
            have hk2 : k ≤ 256 := by omega
            by_cases gu : 268435456 < u
            · go_wp2
              go_ret
              exact ⟨rfl, hbl⟩
            · have m0 : 0 ≤ wd * u := Int.mul_nonneg w0' hub
              have m1 : wd * u ≤ 4294967296 * 268435456 := Int.mul_le_mul w1' (by omega) hub (by omega)
              have q0 : 0 ≤ (wd * u + 999999) / 1000000 := by omega
              have q1 : (wd * u + 999999) / 1000000 ≤ wd * u + 999999 := Int.ediv_le_self _ (by omega)
              have hle : n ≤ s + (wd * u + 999999) / 1000000 := by rw [hs']; exact HL.out
              go_wp2
              go_ret
              refine ⟨?_, hbl⟩
              simp
              exact HL.out
  · go_enter Try.func11, Try.ntmps11
    go_wp2_with fail
    refine (lives23 _).mono ?_
    rintro e w0 ⟨rfl, HB⟩
    go_wp2
    all_goals first | (exfalso; omega) | skip
    all_goals go_ret
    all_goals exact ⟨rfl, HB⟩

abbrev spec := Rows.demandUseSpec
set_option maxRecDepth 100000 in
theorem contract (H : Type) (enc : TypeId × Value → H) (W : World) (base : Nat) (args : Array Value) (ds gs : List (DataW H)) (before : List MemPlace)
    (hval0 : ∀ (j : Nat) t v, Try.f11.params[j]? = some t → args[j]? = some v → Value.okWide Try.prog W .any base t v)
    (hW : DataW.Whole enc Try.prog Try.f11.params.toList spec.vars false W args.toList ds gs before) :
    Calls Try.prog 11 args W fun e W' => ∃ v, e = .returned v ∧ spec.post enc Try.prog Try.f11 false true false false W args v W' := by
  have hval : ∀ (j : Nat) t v, Try.f11.params[j]? = some t → args[j]? = some v → Value.okWide Try.prog W .any base t v := hval0
  have hW' := hW
  obtain ⟨p, q, hA0, hV, rfl, hfz, hnd⟩ := hW
  have hA : DataW.TrodAll enc Try.prog W 0 (fun _ => true) true Try.f11.params.toList args.toList ds p := hA0
  rw [Try.params11] at hA hval
  obtain ⟨v0, vs0, d0, ds0, p0, q0, hargs, rfl, rfl, h0, r0⟩ := trodAll_cons hA
  obtain ⟨v1, vs1, d1, ds1, p1, q1, rfl, rfl, rfl, h1, r1⟩ := trodAll_cons r0
  obtain ⟨rfl, rfl, rfl⟩ := trodAll_nil r1
  obtain rfl : args = #[v0, v1] := by cases args; simp_all
  obtain ⟨rfl, rfl⟩ := trodVars_none hV
  obtain ⟨A, xs, cap, rfl, hR, hlen, _⟩ := open_r4 4 Try.underlying49 (by kernel_rfl) (by kernel_rfl) (hval 0 _ v0 rfl rfl) h0
  obtain ⟨wd, rfl, rfl, rfl, wx⟩ := open_int Try.underlying2 (hval 1 _ v1 rfl rfl) h1
  refine (walk A xs cap wd W hR hlen).mono fun e W' ⟨he, hb⟩ => ?_
  subst he
  exact ⟨_, rfl, law_post try_laidOut (by kernel_rfl) rfl rfl Try.underlying4 hW' rfl rfl rfl hb⟩

set_option maxRecDepth 100000 in
theorem lifted (os : Os) (started : os.Started) (H : Type) (enc : TypeId × Value → H) :
    ReturnsInHanded {} Try.checked os 11 .any (Rows.demandUseSpec.pre6 enc Try.prog Try.f11 Rows.demandUseRow.domain false) (Rows.demandUseSpec.post enc Try.prog Try.f11 false true false false) := by
  refine returnsInHanded_of_change (C := Try.checked) own started (by kernel_rfl) Try.func11
    (ChangeSpec.witness6 (enc := enc) (C := Try.checked) false ⟨#[], #[.slice none 0 0, .int .i64 0], []⟩ 8 (by kernel_rfl) (by kernel_rfl) (by kernel_rfl) (by kernel_rfl)) ?_
  intro W base args ds gs before hval hW hcnd _
  exact contract H enc W base args ds gs before hval hW

theorem over : Rows.demandUseRow.holds Try.pinned (OpenSpec.ofChange Rows.demandUseSpec) :=
  OpenClaim.holds_of_wide 11 Try.f11 rfl rfl rfl rfl rfl rfl rfl ⟨rfl, rfl, rfl, rfl, rfl⟩ rfl rfl rfl rfl rfl (by kernel_rfl) Try.func11 (by kernel_rfl)
    (of_decide_eq_true (by kernel_rfl)) (by unfold Func.isWrapper; first | (rw [if_pos (by decide +kernel)]; kernel_rfl) | (rw [if_neg (by decide +kernel)]; exact ⟨rfl, rfl⟩))
    (fun os started H enc _ => lifted os started H enc)

/-- The statement. -/
theorem proved : Rows.DemandUseSaid :=
  over
#print axioms proved
end Go.Proofs.Ytjckfgadchobfaa.demandUse
