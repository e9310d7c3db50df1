/-
  The law CurveJust of vergelaw22: arrivals fit just if in each stretch there are at most as many as may arrive. No condition.
-/
import Derived.Test.YtjckfgadchobfaaLw
import Derived.Test.YtjckfgadchobfaaCur5
import Derived.Test.YtjckfgadchobfaaCurQ
namespace Go.Proofs.Ytjckfgadchobfaa.curveJust
open Go.ChangeShapes Go.WideShapes Go.ChangeAt Go.RowKit
set_option linter.unusedVariables false

/-- Too many in the stretch from the arrival i to k. -/
def J (p j a : Int) (xs : List Int) (k i : Nat) : Prop := xs[k]?.getD 0 - xs[i]?.getD 0 + 1 ≤ 4503599627370496 ∧ moV p j a (xs[k]?.getD 0 - xs[i]?.getD 0 + 1) < (k : Int) - i + 1
theorem srt_mono : ∀ (xs : List Int) (b : Int), srt b xs = true → ∀ i k, i ≤ k → k < xs.length → xs[i]?.getD 0 ≤ xs[k]?.getD 0
  | [], b, _, i, k, _, hk => by simp at hk
  | x :: r, b, h, i, k, hi, hk => by
    simp only [srt, Bool.and_eq_true, decide_eq_true_eq] at h
    cases k with
    | zero => obtain rfl : i = 0 := by omega
              exact Int.le_refl _
    | succ k =>
      cases i with
      | zero =>
        have := (srt_at x r h.2 k (by simpa using hk)).1
        simpa using this
      | succ i =>
        have := srt_mono r x h.2 i k (by omega) (by simpa using hk)
        simpa using this
theorem J_self {p j a : Int} {xs : List Int} {k : Nat} (hc : curE p j a = 0) (hp : 1 ≤ p) (ha : 1 ≤ a) (hj : 0 ≤ j) : ¬ J p j a xs k k := by
  rintro ⟨_, h⟩
  rw [show xs[k]?.getD 0 - xs[k]?.getD 0 + 1 = 0 + 1 by omega] at h
  have := (most_lt_iff (p := p) (j := j) (a := a) (d := 0) (m := 1) hc hp ha (by omega) (by omega)).1 (by omega)
  rw [gap_one hj] at this
  omega
theorem J_iff {p j a : Int} {xs : List Int} {k i : Nat} (hc : curE p j a = 0) (hp : 1 ≤ p) (hp2 : p ≤ 1099511627776) (ha : 1 ≤ a) (hap : a ≤ p) (hj : 0 ≤ j) (hs : srt 0 xs = true) (hl : xs.length ≤ 100) (hi : i < k) (hk : k < xs.length) :
    J p j a xs k i ↔ xs[k]?.getD 0 - xs[i]?.getD 0 < gapV p j a ((k : Int) - i + 1) := by
  have h1 := srt_mono xs 0 hs i k (by omega) hk
  obtain ⟨_, h2, h3⟩ := srt_at 0 xs hs k hk
  obtain ⟨_, h4, h5⟩ := srt_at 0 xs hs i (by omega)
  unfold J
  by_cases hd : xs[k]?.getD 0 - xs[i]?.getD 0 + 1 ≤ 4503599627370496
  · have := most_lt_iff (p := p) (j := j) (a := a) (d := xs[k]?.getD 0 - xs[i]?.getD 0) (m := (k : Int) - i + 1) hc hp ha (by omega) (by omega)
    rw [this]
    exact ⟨fun h => h.2, fun h => ⟨hd, h⟩⟩
  · refine ⟨fun h => absurd h.1 hd, fun h => ?_⟩
    exfalso
    have g1 : ((k : Int) - i + 1 - 1) * p ≤ 100 * 1099511627776 := Int.mul_le_mul (by omega) hp2 (by omega) (by omega)
    have g2 : ((k : Int) - i + 1 - 1) * a ≤ 100 * 1099511627776 := Int.mul_le_mul (by omega) (by omega) (by omega) (by omega)
    unfold gapV at h
    omega

/-- The first bad one below k, or none. -/
def FB (p j a : Int) (xs : List Int) (k bd : Nat) : Prop :=
  (bd = xs.length ∧ ∀ m, m < k → ¬ badAt p j a xs m) ∨ (bd < xs.length ∧ bd < k ∧ badAt p j a xs bd ∧ ∀ m, m < bd → ¬ badAt p j a xs m)
def FI (p j a : Int) (xs : List Int) (k i bd : Nat) : Prop :=
  (bd = xs.length ∧ (∀ m, m < k → ¬ badAt p j a xs m) ∧ ∀ m, m < i → ¬ J p j a xs k m) ∨ (bd < xs.length ∧ bd < k + 1 ∧ badAt p j a xs bd ∧ ∀ m, m < bd → ¬ badAt p j a xs m)
theorem FB.toFI {p j a : Int} {xs : List Int} {k bd : Nat} (h : FB p j a xs k bd) : FI p j a xs k 0 bd := by
  rcases h with ⟨h1, h2⟩ | ⟨h1, h2, h3, h4⟩
  · exact .inl ⟨h1, h2, fun m hm => by omega⟩
  · exact .inr ⟨h1, by omega, h3, h4⟩
theorem FI.toFB {p j a : Int} {xs : List Int} {k i bd : Nat} (hc : curE p j a = 0) (hp : 1 ≤ p) (hp2 : p ≤ 1099511627776) (ha : 1 ≤ a) (hap : a ≤ p) (hj : 0 ≤ j) (hs : srt 0 xs = true) (hl : xs.length ≤ 100) (hk : k < xs.length)
    (h : FI p j a xs k i bd) (he : ¬ (i ≤ k ∧ bd = xs.length)) : FB p j a xs (k + 1) bd := by
  rcases h with ⟨h1, h2, h3⟩ | ⟨h1, h2, h3, h4⟩
  · refine .inl ⟨h1, fun m hm => ?_⟩
    by_cases e : m = k
    · subst e
      rintro ⟨i', hi', hb⟩
      exact h3 i' (by omega) ((J_iff hc hp hp2 ha hap hj hs hl hi' hk).2 hb)
    · exact h2 m (by omega)
  · exact .inr ⟨h1, by omega, h3, h4⟩
theorem FI.miss {p j a : Int} {xs : List Int} {k i bd : Nat} (h : FI p j a xs k i bd) (hb : bd = xs.length) (hJ : ¬ J p j a xs k i) : FI p j a xs k (i + 1) bd := by
  rcases h with ⟨h1, h2, h3⟩ | ⟨h1, h2, h3, h4⟩
  · refine .inl ⟨h1, h2, fun m hm => ?_⟩
    by_cases e : m = i
    · subst e; exact hJ
    · exact h3 m (by omega)
  · omega
theorem FI.hit {p j a : Int} {xs : List Int} {k i bd : Nat} (hc : curE p j a = 0) (hp : 1 ≤ p) (hp2 : p ≤ 1099511627776) (ha : 1 ≤ a) (hap : a ≤ p) (hj : 0 ≤ j) (hs : srt 0 xs = true) (hl : xs.length ≤ 100) (hk : k < xs.length)
    (h : FI p j a xs k i bd) (hb : bd = xs.length) (hi : i ≤ k) (hJ : J p j a xs k i) : FI p j a xs k (i + 1) k := by
  rcases h with ⟨h1, h2, h3⟩ | ⟨h1, h2, h3, h4⟩
  · by_cases e : i = k
    · subst e; exact absurd hJ (J_self hc hp ha hj)
    · exact .inr ⟨hk, by omega, ⟨i, by omega, (J_iff hc hp hp2 ha hap hj hs hl (by omega) hk).1 hJ⟩, h2⟩
  · omega
theorem FB.value {p j a : Int} {xs : List Int} {bd : Nat} (hE : fiE p j a xs = 0) (h : FB p j a xs xs.length bd) : (bd : Int) = fiV p j a xs := by
  obtain ⟨f0, f1, f2⟩ := fits_found p j a xs
  unfold fiV
  rw [if_neg (by omega)]
  rcases h with ⟨h1, h2⟩ | ⟨h1, h2, h3, h4⟩
  · rw [first_one f0 f1 f2 (k := bd) (by omega) (by subst h1; exact h2) (by omega)]
  · rw [first_one f0 f1 f2 (k := bd) (by omega) h4 (fun _ => h3)]

set_option maxHeartbeats 1600000 in
theorem walk (p j a : Int) (A : Option Addr) (xs : List Int) (cap : Nat) (w : World) (h : Ints w w.heap.size A xs) (hl : xs.length ≤ 9223372036854775807) :
    Calls Try.prog 6 #[.agg #[.int .i64 p, .int .i64 j, .int .i64 a], .slice A xs.length cap] w fun e w' => e = .returned (.bool true) ∧ Below w.heap.size w w' := by
  by_cases hn : 100 < xs.length
  · go_enter Try.func6, Try.ntmps6
    go_wp2_with fail
    refine (lives22 _).mono ?_
    rintro e w0 ⟨rfl, HB⟩
    have q0 := box_cell HB 0 _ rfl
    have q1 := box_cell HB 1 _ rfl
    have q2 := box_cell HB 2 _ rfl
    go_wp2_with fail
    go_ret
    exact ⟨rfl, HB.box (Nat.le_refl _)⟩
  have hn' : xs.length ≤ 100 := by omega
  clear hn
  have HH : ∀ W, Below (w.alloc (.cells #[.int .i64 p, .int .i64 j, .int .i64 a] 34)).heap.size (w.alloc (.cells #[.int .i64 p, .int .i64 j, .int .i64 a] 34)) W → Ints W W.heap.size A xs := fun W hb => (h.below (hb.box (Nat.le_refl _))).mono (hb.box (Nat.le_refl _)).size
  have HI := Lib.hid HH
  clear HH
  by_cases hE : fiE p j a xs = 0
  · have hcu : 1 ≤ p ∧ p ≤ 1099511627776 ∧ 0 ≤ j ∧ j ≤ 1099511627776 ∧ 1 ≤ a ∧ a ≤ p := by
      unfold fiE at hE
      split at hE
      · omega
      · rename_i h; unfold curE at h; split at h <;> omega
    have hC : curE p j a = 0 := by unfold curE; rw [if_pos hcu]
    have hs : srt 0 xs = true := by
      unfold fiE at hE
      rw [if_neg (by omega)] at hE
      cases hs : srt 0 xs
      · rw [hs] at hE; simp at hE
      · rfl
    obtain ⟨p1, p2, j1, j2, a1, a2⟩ := hcu
    have hv : 0 ≤ fiV p j a xs ∧ fiV p j a xs ≤ xs.length := by
      have := (fits_found p j a xs).1
      unfold fiV; rw [if_neg (by omega)]; omega
    obtain ⟨v1, v2⟩ := hv
    have HS := Lib.hid hs
    have HC := Lib.hid hC
    have HE := Lib.hid hE
    clear hs
    go_enter Try.func6, Try.ntmps6
    go_wp2_with fail
    refine (lives22 _).mono ?_
    rintro e w0 ⟨rfl, HB⟩
    have q0 := box_cell HB 0 _ rfl
    have q1 := box_cell HB 1 _ rfl
    have q2 := box_cell HB 2 _ rfl
    go_wp2_with fail
    refine (fits_any _ _ _ A xs _ _ (HI.out _ HB) hl).mono ?_
    rintro e w1 ⟨rfl, hb⟩
    replace HB := HB.next HB.size hb
    clear hb q0 q1 q2
    have q0 := box_cell HB 0 _ rfl
    have q1 := box_cell HB 1 _ rfl
    have q2 := box_cell HB 2 _ rfl
    go_wp2_with fail
    clear q0 q1 q2
    have HB1 := HB
    clear HB
    go_loopw [7, 40] (fun u i wr => ∃ (k bd : Nat), k ≤ xs.length ∧ i = .int .i64 k ∧ u = .int .i64 bd ∧ bd ≤ xs.length ∧ Below (w.alloc (.cells #[.int .i64 p, .int .i64 j, .int .i64 a] 34)).heap.size (w.alloc (.cells #[.int .i64 p, .int .i64 j, .int .i64 a] 34)) wr ∧ Hid (FB p j a xs k bd)) (fun _ i _ => xs.length - (intOf i).toNat)
    case atStart => exact ⟨0, xs.length, by omega, rfl, rfl, by omega, HB1, .inl ⟨rfl, fun m hm => by omega⟩⟩
    case round =>
      obtain ⟨k, bd, hk, rfl, rfl, hbd, hbo, hfb⟩ := hrel
      obtain ⟨wo, hwo⟩ : ∃ wo : World, wo = wr := ⟨_, rfl⟩
      subst hwo
      by_cases hlt : k < xs.length
      · go_wp2
        go_loopw [7, 9] (fun u i wr => ∃ (i2 b2 : Nat), i2 ≤ k + 1 ∧ i = .int .i64 i2 ∧ u = .int .i64 b2 ∧ b2 ≤ xs.length ∧ Below (w.alloc (.cells #[.int .i64 p, .int .i64 j, .int .i64 a] 34)).heap.size (w.alloc (.cells #[.int .i64 p, .int .i64 j, .int .i64 a] 34)) wr ∧ Hid (FI p j a xs k i2 b2)) (fun _ i _ => k + 1 - (intOf i).toNat)
        case atStart => exact ⟨0, bd, by omega, rfl, rfl, hbd, hbo, hfb.out.toFI⟩
        case round =>
          obtain ⟨i2, b2, hi2, rfl, rfl, hb2, hbi, hfi⟩ := hrel
          by_cases hc1 : i2 ≤ k
          · by_cases hc2 : b2 = xs.length
            · subst hc2
              obtain ⟨b, off, rfl, hbB, hc⟩ := h (by omega)
              have hbi' := hbi.box (Nat.le_refl _)
              have c1 : wr.cell? ⟨b, off + k, none⟩ = some (.int .i64 (xs[k]?.getD 0)) := (hbi'.cell (p := ⟨b, off + k, none⟩) hbB).trans (hc k hlt)
              have c2 : wr.cell? ⟨b, off + i2, none⟩ = some (.int .i64 (xs[i2]?.getD 0)) := (hbi'.cell (p := ⟨b, off + i2, none⟩) hbB).trans (hc i2 (by omega))
              have c3 := box_cell hbi 0 _ rfl
              have c4 := box_cell hbi 1 _ rfl
              have c5 := box_cell hbi 2 _ rfl
              obtain ⟨_, t1, t2⟩ := srt_at 0 xs HS.out k hlt
              obtain ⟨_, t3, t4⟩ := srt_at 0 xs HS.out i2 (by omega)
              have t5 := srt_mono xs 0 HS.out i2 k hc1 hlt
              obtain ⟨t, et⟩ : ∃ t, t = xs[k]?.getD 0 := ⟨_, rfl⟩
              obtain ⟨q, eq⟩ : ∃ t, t = xs[i2]?.getD 0 := ⟨_, rfl⟩
              have hJ0 : J p j a xs k i2 ↔ (t - q + 1 ≤ 4503599627370496 ∧ moV p j a (t - q + 1) < (k : Int) - i2 + 1) := by rw [et, eq]; exact Iff.rfl
              rw [← et] at c1 t1 t2 t5
              rw [← eq] at c2 t3 t4 t5
              have w1' : IntKind.i64.wrap (t - q) = t - q := IntWalk.i64_in _ (by omega)
              have w2' : IntKind.i64.wrap (t - q + 1) = t - q + 1 := IntWalk.i64_in _ (by omega)
              have i3 : (k : Int) < (xs.length : Int) := by omega
              have i4 : (i2 : Int) < (xs.length : Int) := by omega
              have HJ := Lib.hid hJ0
              clear hJ0 et eq hc
              by_cases hbig : 4503599627370496 < t - q + 1
              · go_wp2_with fail
                go_quiet (fail)
                go_wp2
                go_roundw
                case rel => exact ⟨i2 + 1, xs.length, by omega, by go_num, rfl, by omega, hbi.drewN _, hfi.out.miss rfl (by rw [HJ.out]; omega)⟩
                case measure => simp [intOf]; omega
              · have e1 : moE p j a (t - q + 1) = 0 := by unfold moE; rw [if_neg (by rw [HC.out]; omega), if_pos (by omega)]
                have hbig' : t - q + 1 ≤ 4503599627370496 := by omega
                clear hbig
                by_cases hmany : moV p j a (t - q + 1) < (k : Int) - i2 + 1
                · go_wp2_with fail
                  go_quiet (fail)
                  go_wp2_with (first | (go_at_call 24; refine (most_any _ _ _ _ _).mono ?_; rintro e w3 ⟨rfl, hb3⟩))
                  go_roundw
                  case rel => exact ⟨i2 + 1, k, by omega, by go_num, rfl, by omega, (hbi.drewN _).next (by have := hbi.size; simpa using this) hb3, hfi.out.hit HC.out p1 p2 a1 a2 j1 HS.out hn' hlt rfl hc1 (by rw [HJ.out]; omega)⟩
                  case measure => simp [intOf]; omega
                · have hmany' : (k : Int) - i2 + 1 ≤ moV p j a (t - q + 1) := by omega
                  go_wp2_with fail
                  go_quiet (fail)
                  go_wp2_with (first | (go_at_call 24; refine (most_any _ _ _ _ _).mono ?_; rintro e w3 ⟨rfl, hb3⟩))
                  go_roundw
                  case rel => exact ⟨i2 + 1, xs.length, by omega, by go_num, rfl, by omega, (hbi.drewN _).next (by have := hbi.size; simpa using this) hb3, hfi.out.miss rfl (by rw [HJ.out]; omega)⟩
                  case measure => simp [intOf]; omega
            · have hc2' : ((b2 : Int) == (xs.length : Int)) = false := by simp; omega
              have HC2 := Lib.hid hc2
              clear hc2
              go_wp2
              go_roundw
              case rel => exact ⟨k + 1, b2, by omega, by go_num, rfl, hb2, hbi, hfi.out.toFB HC.out p1 p2 a1 a2 j1 HS.out hn' hlt (fun h => HC2.out h.2)⟩
              case measure => simp [intOf]; omega
          · have hc1' : k < i2 := by omega
            go_wp2
            all_goals go_roundw
            case rel => exact ⟨k + 1, b2, by omega, by go_num, rfl, hb2, hbi, hfi.out.toFB HC.out p1 p2 a1 a2 j1 HS.out hn' hlt (fun h => hc1 h.1)⟩
            case measure => simp [intOf]; omega
      · have hk' : k = xs.length := by omega
        have hbv : (bd : Int) = fiV p j a xs := by
          have := hfb.out
          rw [hk'] at this
          exact this.value HE.out
        have hbv' : ((bd : Int) == fiV p j a xs) = true := by simpa using hbv
        clear hk' hbv
        go_wp2
        go_ret
        exact ⟨rfl, hbo.box (Nat.le_refl _)⟩
  · have hE' : (fiE p j a xs != 0) = true := by simpa using hE
    have hV : fiV p j a xs = 0 := by unfold fiV; rw [if_pos hE]
    clear hE
    go_enter Try.func6, Try.ntmps6
    go_wp2_with fail
    refine (lives22 _).mono ?_
    rintro e w0 ⟨rfl, HB⟩
    have q0 := box_cell HB 0 _ rfl
    have q1 := box_cell HB 1 _ rfl
    have q2 := box_cell HB 2 _ rfl
    go_wp2_with fail
    refine (fits_any _ _ _ A xs _ _ (HI.out _ HB) hl).mono ?_
    rintro e w1 ⟨rfl, hb⟩
    replace HB := HB.next HB.size hb
    clear hb q0 q1 q2
    have q0 := box_cell HB 0 _ rfl
    have q1 := box_cell HB 1 _ rfl
    have q2 := box_cell HB 2 _ rfl
    go_wp2
    go_ret
    exact ⟨rfl, HB.box (Nat.le_refl _)⟩

abbrev spec := Rows.curveJustSpec
set_option maxRecDepth 100000 in
theorem contract (H : Type) (enc : TypeId × Value → H) (W : World) (base : Nat) (args : Array Value) (ds gs : List (DataW H)) (before : List MemPlace)
    (hval0 : ∀ (j : Nat) t v, Try.f6.params[j]? = some t → args[j]? = some v → Value.okWide Try.prog W .any base t v)
    (hW : DataW.Whole enc Try.prog Try.f6.params.toList spec.vars false W args.toList ds gs before) :
    Calls Try.prog 6 args W fun e W' => ∃ v, e = .returned v ∧ spec.post enc Try.prog Try.f6 false true false false W args v W' := by
  have hval : ∀ (j : Nat) t v, Try.f6.params[j]? = some t → args[j]? = some v → Value.okWide Try.prog W .any base t v := hval0
  have hW' := hW
  obtain ⟨p, q, hA0, hV, rfl, hfz, hnd⟩ := hW
  have hA : DataW.TrodAll enc Try.prog W 0 (fun _ => true) true Try.f6.params.toList args.toList ds p := hA0
  rw [Try.params6] at hA hval
  obtain ⟨v0, vs0, d0, ds0, p0, q0, hargs, rfl, rfl, h0, r0⟩ := trodAll_cons hA
  obtain ⟨v1, vs1, d1, ds1, p1, q1, rfl, rfl, rfl, h1, r1⟩ := trodAll_cons r0
  obtain ⟨rfl, rfl, rfl⟩ := trodAll_nil r1
  obtain rfl : args = #[v0, v1] := by cases args; simp_all
  obtain ⟨rfl, rfl⟩ := trodVars_none hV
  obtain ⟨cs, rfl, hl⟩ := open_leafy (l := [some .i64, some .i64, some .i64]) 3 (by kernel_rfl) Try.underlying34 (hval 0 _ v0 rfl rfl) h0
  obtain ⟨p, _, rfl, _, j, _, rfl, _, a, _, rfl, _, rfl⟩ := hl
  obtain ⟨A, xs, cap, rfl, hI, hlen, _⟩ := open_i64s Try.underlying39 Try.underlying2 (by kernel_rfl) (hval 1 _ v1 rfl rfl) h1
  refine (walk p j a A xs cap W hI hlen).mono fun e W' ⟨he, hb⟩ => ?_
  subst he
  exact ⟨_, rfl, law_post try_laidOut (by kernel_rfl) rfl rfl Try.underlying4 hW' rfl rfl rfl hb⟩

set_option maxRecDepth 100000 in
theorem lifted (os : Os) (started : os.Started) (H : Type) (enc : TypeId × Value → H) :
    ReturnsInHanded {} Try.checked os 6 .any (Rows.curveJustSpec.pre6 enc Try.prog Try.f6 Rows.curveJustRow.domain false) (Rows.curveJustSpec.post enc Try.prog Try.f6 false true false false) := by
  refine returnsInHanded_of_change (C := Try.checked) own started (by kernel_rfl) Try.func6
    (ChangeSpec.witness6 (enc := enc) (C := Try.checked) false ⟨#[], #[.agg #[.int .i64 0, .int .i64 0, .int .i64 0], .slice none 0 0], []⟩ 8 (by kernel_rfl) (by kernel_rfl) (by kernel_rfl) (by kernel_rfl)) ?_
  intro W base args ds gs before hval hW hcnd _
  exact contract H enc W base args ds gs before hval hW

theorem over : Rows.curveJustRow.holds Try.pinned (OpenSpec.ofChange Rows.curveJustSpec) :=
  OpenClaim.holds_of_wide 6 Try.f6 rfl rfl rfl rfl rfl rfl rfl ⟨rfl, rfl, rfl, rfl, rfl⟩ rfl rfl rfl rfl rfl (by kernel_rfl) Try.func6 (by kernel_rfl)
    (of_decide_eq_true (by kernel_rfl)) (by unfold Func.isWrapper; first | (rw [if_pos (by decide +kernel)]; kernel_rfl) | (rw [if_neg (by decide +kernel)]; exact ⟨rfl, rfl⟩))
    (fun os started H enc _ => lifted os started H enc)

/-- The statement. -/
theorem proved : Rows.CurveJustSaid :=
  over
#print axioms proved
end Go.Proofs.Ytjckfgadchobfaa.curveJust
