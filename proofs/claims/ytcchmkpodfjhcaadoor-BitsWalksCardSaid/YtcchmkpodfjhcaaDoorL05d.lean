/-
  The law BitsWalks of vergelaw05: the first one, and then the next one, again and again, come by all, and end with the last one; around any number the walk goes on at it, or from the beginning; every argument reads afterwards as before. No condition; the library's table (math/bits) is tied to its text.
-/
import Derived.Test.YtcchmkpodfjhcaaDoorL05
import Derived.Test.YtcchmkpodfjhcaaDoorBQ
namespace Go.Proofs.YtcchmkpodfjhcaaDoor.bitsWalks
open Go.ChangeShapes Go.WideShapes Go.ChangeAt Go.RowKit Go.Shelf
set_option linter.unusedVariables false

/-! ### plain -/
theorem find_after {L : List Int} (h : L.Pairwise (· < ·)) : ∀ {k : Nat} {x : Int}, L[k]? = some x → L.find? (fun m => decide (x < m)) = L[k + 1]? := by
  induction L with
  | nil => intro k x hx; simp at hx
  | cons y r ih =>
    rw [List.pairwise_cons] at h
    intro k x hx
    cases k with
    | zero =>
      simp only [List.getElem?_cons_zero, Option.some.injEq] at hx
      subst hx
      rw [List.find?_cons]
      simp only [Int.lt_irrefl, decide_false]
      cases r with
      | nil => rfl
      | cons z s => simp [h.1 z (by simp)]
    | succ k =>
      have hx' : r[k]? = some x := by simpa using hx
      have := h.1 x (List.mem_of_getElem? hx')
      rw [List.find?_cons]
      have hd : decide (x < y) = false := decide_eq_false (by omega)
      rw [hd]
      simpa using ih h.2 hx'
theorem above_head (b : Nat) (n : Int) : (lb 64 (b &&& btN n 63)).head? = (lb 64 b).find? fun m => decide (n ≤ m) := by
  rw [lb_filter (b := b) (p := fun m => decide (n ≤ m)) (fun i hi => ?_), List.head?_filter]
  rw [Nat.testBit_and, btN_bit]
  unfold btP
  congr 1
  rw [Bool.eq_iff_iff]
  simp
  omega
theorem above_none (b : Nat) {n : Int} (h : 63 < n) : ((lb 64 b).find? fun m => decide (n ≤ m)) = none := by
  rw [List.find?_eq_none]
  intro x hx
  obtain ⟨i, rfl, hi, _⟩ := lb_mem hx
  simp; omega
def sliceLen : Value → Nat
  | .slice _ n _ => n
  | _ => 0
set_option maxHeartbeats 1000000 in
theorem walk (b : Nat) (hb : b < 18446744073709551616) (n : Int) (w : World) (hT : Tab w) (hS : 0 < w.heap.size) :
    Calls Tryd.prog 7 #[.int .u64 (b : Int), .int .i64 n] w fun e w' => e = .returned (.bool true) ∧ Below w.heap.size w w' := by
  obtain ⟨i0, hi, hz0, hz1, hz2⟩ := info_parts info_int
  have hlen := lb_len 64 b
  have hnil := lb_nil (b := b) hb
  have hrise := lb_rises b
  have c1 := first_any b hb
  have c2 := fun x W h hx => after_any b hb x W h hx
  have c3 := list_any b hb
  have c4 := last_any b hb
  have c5 := around_any b hb n
  have c6 := fun W => between_any n 63 W (by decide)
  have hab := and_num b (btN n 63) hb (btN_lt n 63)
  have hlt : b &&& btN n 63 < 18446744073709551616 := Nat.lt_of_le_of_lt Nat.and_le_left hb
  have c7 := first_any _ hlt
  have hh := above_head b n
  have hn := fun h => above_none b (n := n) h
  have c8 : ∀ W, Tab W → Calls Tryd.prog 16 #[.int .u64 0] W fun e w' => e = .returned (.tuple #[.int .i64 0, .bool false]) ∧ W = w' := fun W h => by
    have := first_any 0 (by omega) W h
    rw [show lb 64 0 = [] by decide +kernel] at this; exact this
  have hbd : ∀ x ∈ lb 64 b, 0 ≤ x ∧ x ≤ 63 := fun x hx => by
    obtain ⟨i, rfl, hi, _⟩ := lb_mem hx
    omega
  generalize btN n 63 = q at hab c6 c7 hh hlt
  generalize (b &&& q) = a at hab c7 hh hlt
  rw [hh] at c7
  obtain ⟨L, hL⟩ : ∃ L, L = lb 64 b := ⟨_, rfl⟩
  simp only [← hL] at c1 c2 c3 c4 c5 c7 hnil hrise hlen hn hbd
  have hbz : ((b : Int) != 0) = !L.isEmpty := by
    cases hLe : L with
    | nil => have := hnil.1 hLe; simp [this]
    | cons y r => have : ¬ b = 0 := fun h => by have := hnil.2 h; rw [hLe] at this; cases this
                  simp [this]
  have ha2 : ∀ k x, L[k]? = some x → ∀ W, Tab W → Calls Tryd.prog 20 #[.int .u64 (b : Int), .int .i64 x] W fun e w' => e = op2 L[k + 1]? ∧ W = w' := fun k x hx W h => by
    have hm := hbd x (List.mem_of_getElem? hx)
    have := c2 x W h (WalkArith.wf_i64 (by omega))
    rw [find_after hrise hx] at this
    exact this
  have C1 := Lib.hid c1
  have C2 := Lib.hid ha2
  have C3 := Lib.hid c3
  have C4 := Lib.hid c4
  have C5 := Lib.hid c5
  have C6 := Lib.hid c6
  have C7 := Lib.hid c7
  have C8 := Lib.hid c8
  have HN := Lib.hid hn
  have HAB := Lib.hid hab
  have HBZ := Lib.hid hbz
  clear c1 c2 c3 c4 c5 c6 c7 c8 hn hab hh hnil hrise hL ha2 hlt hbd hbz
  unfold op2 at C1 C2 C4 C5 C7
  go_enter Tryd.func7, Tryd.ntmps7
  go_wp2_with fail
  refine (lives05 _ hT hS).mono ?_
  rintro e1 w1 ⟨rfl, HB⟩
  go_wp2_with fail
  refine (C1.out _ (hT.below HB hS)).mono ?_
  rintro e1 w2 ⟨rfl, rfl⟩
  go_wp2_with fail
  go_loopw [5, 6, 7] (fun u at_ is wr => ∃ (k : Nat) (v : Value), k ≤ L.length ∧ u = v ∧ at_ = .int .i64 (L[k]?.getD 0) ∧ is = .bool L[k]?.isSome ∧ wr.ownsRow w1.heap.size 3 1 v k ((L.take k).map (Value.int .i64)) ∧ Below w.heap.size w wr ∧ w1.heap.size ≤ wr.heap.size) (fun u _ _ _ => L.length - sliceLen u)
  case atStart => exact ⟨0, _, by omega, rfl, by rw [List.head?_eq_getElem?], by rw [List.head?_eq_getElem?], by simpa using World.ownsRow_nil _ _ _ _, HB, Nat.le_refl _⟩
  case round =>
    obtain ⟨k, v, hk, rfl, h6, h7, hown, hbl, hsz⟩ := hrel
    obtain ⟨A0, cp, rfl⟩ := own_slice hown
    by_cases hlt : k < L.length
    · obtain ⟨x, hx⟩ : ∃ x, L[k]? = some x := ⟨L[k], List.getElem?_eq_getElem hlt⟩
      rw [hx] at h6 h7
      simp only [Option.getD_some, Option.isSome_some] at h6 h7
      subst h6
      subst h7
      have CA := Lib.hid (C2.out k x hx)
      have HTK := Lib.hid (show (L.take (k + 1)).map (Value.int .i64) = (L.take k).map (Value.int .i64) ++ [.int .i64 x] by rw [List.take_add_one, hx]; simp)
      have k64 : (k : Int) ≤ 64 := by omega
      have HT1 := Lib.hid (fun w4 (h : Below w.heap.size w w4) => hT.below h hS)
      clear hx
      go_wp2_with (at_builtin; refine wpList_append_own _ rfl _ _ 22 rfl w1.heap.size 3 i0 (.int .i64 0) 1 8 Tryd.underlying22 hi hz0 hz1 hz2 rfl (by decide) _ _ _ rfl (hown.alloc _) ⟨wr.heap.size, 0, none⟩ 1 1 [.int .i64 x] rfl rfl (cell_one_new _ _ _) (by simp [Value.oneCell']) (by simp only [maxLen]; omega) (by omega) (by simp; omega) ?_; intro v' w4 hown' hgrow _; have HB4 := below_grown (hbl.alloc hbl.size _) hgrow (hown.alloc _) (by have := HB.size; omega) (by simp; have := hbl.size; omega); have hs4 := hgrow.size)
      refine (CA.out _ (HT1.out _ HB4)).mono ?_
      rintro e1 w5 ⟨rfl, rfl⟩
      obtain ⟨A4, cp4, rfl⟩ := own_slice hown'
      obtain ⟨z, hz⟩ : ∃ z, z = L[k + 1]?.getD 0 := ⟨_, rfl⟩
      obtain ⟨s, hs⟩ : ∃ s, s = L[k + 1]?.isSome := ⟨_, rfl⟩
      rw [← hz, ← hs]
      have HZ := Lib.hid hz
      have HS2 := Lib.hid hs
      clear hz hs
      go_wp2
      go_roundw
      case rel => exact ⟨k + 1, _, by omega, rfl, by rw [HZ.out], by rw [HS2.out], by rw [HTK.out]; exact hown', HB4, by simp at hs4; omega⟩
      case measure => simp [sliceLen]; omega
    · have e : k = L.length := by omega
      subst e
      rw [List.getElem?_eq_none (Nat.le_refl _)] at h6 h7
      simp only [Option.getD_none, Option.isSome_none] at h6 h7
      subst h6
      subst h7
      rw [List.take_of_length_le (Nat.le_refl _)] at hown
      obtain ⟨_, hI1⟩ := Ints.of_own hown
      clear hown
      go_wp2_with fail
      refine (C3.out _ (hT.below hbl hS) (Nat.lt_of_lt_of_le hS hbl.size)).mono ?_
      rintro e1 w3 ⟨A2, k2, rfl, hI2, hb2⟩
      replace hI1 := (hI1.below hb2).mono hb2.size
      replace hbl := hbl.next hbl.size hb2
      clear hb2
      go_wp2_with fail
      refine (same_any _ _ L L _ _ _ hI1 hI2 (by omega) (by omega)).mono ?_
      rintro e1 w4 ⟨rfl, m, rfl⟩
      replace hbl := hbl.drewN m
      clear hI2 hlt hk
      have hab := HAB.out
      have hTT := hT.below hbl hS
      have c1 := C1.out
      have c4 := C4.out
      have c5 := C5.out
      have c7 := C7.out
      have hbz := HBZ.out
      by_cases hL : L = []
      · subst hL
        simp only [List.head?_nil, List.getLast?_nil, List.find?_nil, arO, Option.or_none, Option.getD_none, Option.isSome_none, List.isEmpty_nil, Bool.not_true] at c1 c4 c5 c7 hbz
        have K1 := Lib.hid c1
        have K4 := Lib.hid c4
        have K5 := Lib.hid c5
        have K7 := Lib.hid c7
        clear c1 c4 c5 c7
        by_cases h63 : 63 < n
        · go_wp2_with fail
          refine (K4.out _).mono ?_
          rintro e1 w4 ⟨rfl, rfl⟩
          go_wp2_with fail
          refine (K5.out _ hTT).mono ?_
          rintro e1 w4 ⟨rfl, rfl⟩
          go_wp2_with fail
          refine (C6.out _).mono ?_
          rintro e1 w4 ⟨rfl, rfl⟩
          go_wp2_with fail
          refine (C8.out _ hTT).mono ?_
          rintro e1 w4 ⟨rfl, rfl⟩
          go_wp2_with fail
          refine (K1.out _ hTT).mono ?_
          rintro e1 w4 ⟨rfl, rfl⟩
          go_wp2
          go_ret
          exact ⟨rfl, hbl⟩
        · go_wp2_with fail
          refine (K4.out _).mono ?_
          rintro e1 w4 ⟨rfl, rfl⟩
          go_wp2_with fail
          refine (K5.out _ hTT).mono ?_
          rintro e1 w4 ⟨rfl, rfl⟩
          go_wp2_with fail
          refine (C6.out _).mono ?_
          rintro e1 w4 ⟨rfl, rfl⟩
          go_wp2_with fail
          refine (K7.out _ hTT).mono ?_
          rintro e1 w4 ⟨rfl, rfl⟩
          go_wp2_with fail
          refine (K1.out _ hTT).mono ?_
          rintro e1 w4 ⟨rfl, rfl⟩
          go_wp2
          go_ret
          exact ⟨rfl, hbl⟩
      · obtain ⟨y, hy⟩ : ∃ y, L.head? = some y := by cases L with | nil => exact absurd rfl hL | cons y r => exact ⟨y, rfl⟩
        obtain ⟨m2, hm⟩ : ∃ m, L.length = m + 1 := ⟨L.length - 1, by have := List.length_pos_iff.2 hL; omega⟩
        obtain ⟨z, hz⟩ : ∃ z, L[m2]? = some z := ⟨L[m2], List.getElem?_eq_getElem (by omega)⟩
        have hz2 : L.getLast? = some z := by rw [List.getLast?_eq_getElem?, hm, Nat.add_sub_cancel]; exact hz
        have hie : L.isEmpty = false := by cases L with | nil => exact absurd rfl hL | cons y r => rfl
        obtain ⟨b2, off, rfl, hlt2, hc⟩ := hI1 (by omega)
        have c0 := hc m2 (by omega)
        rw [hz] at c0
        simp only [Option.getD_some] at c0
        have im : (m2 : Int) < ((m2 + 1 : Nat) : Int) := by omega
        have im3 : (m2 : Int) ≤ 63 := by omega
        have im4 : m2 ≤ 63 := by omega
        have im2 : (m2 : Int) < (m2 : Int) + 1 := by omega
        have e1 : IntKind.i64.wrap (((m2 + 1 : Nat) : Int) - 1) = (m2 : Int) := by rw [IntWalk.i64_in _ (by omega)]; omega
        have e2 : IntKind.i64.wrap ((m2 : Int) + 1 - 1) = (m2 : Int) := by rw [IntWalk.i64_in _ (by omega)]; omega
        have e0 : (((m2 + 1 : Nat) : Int) == 0) = false := by simp; omega
        rw [hy] at c1
        rw [hz2] at c4
        rw [hie] at hbz
        rw [hm]
        have hnone := HN.out
        simp only [Option.getD_some, Option.isSome_some, Bool.not_false] at c1 c4 hbz
        cases hf : L.find? (fun m => decide (n ≤ m)) with
        | none =>
          have hr : arO n L = some y := by unfold arO; rw [hf, hy]; rfl
          rw [hr] at c5
          rw [hf] at c7
          simp only [Option.getD_some, Option.isSome_some, Option.getD_none, Option.isSome_none] at c5 c7
          clear hc hy hz hz2 hie hm hf hr hL hnone
          have K1 := Lib.hid c1
          have K4 := Lib.hid c4
          have K5 := Lib.hid c5
          have K7 := Lib.hid c7
          clear c1 c4 c5 c7
          by_cases h63 : 63 < n
          · go_wp2_with fail
            refine (K4.out _).mono ?_
            rintro e1 w4 ⟨rfl, rfl⟩
            go_wp2_with fail
            refine (K5.out _ hTT).mono ?_
            rintro e1 w4 ⟨rfl, rfl⟩
            go_wp2_with fail
            refine (C6.out _).mono ?_
            rintro e1 w4 ⟨rfl, rfl⟩
            go_wp2_with fail
            refine (C8.out _ hTT).mono ?_
            rintro e1 w4 ⟨rfl, rfl⟩
            go_wp2_with fail
            refine (K1.out _ hTT).mono ?_
            rintro e1 w4 ⟨rfl, rfl⟩
            go_wp2
            go_ret
            exact ⟨rfl, hbl⟩
          · go_wp2_with fail
            refine (K4.out _).mono ?_
            rintro e1 w4 ⟨rfl, rfl⟩
            go_wp2_with fail
            refine (K5.out _ hTT).mono ?_
            rintro e1 w4 ⟨rfl, rfl⟩
            go_wp2_with fail
            refine (C6.out _).mono ?_
            rintro e1 w4 ⟨rfl, rfl⟩
            go_wp2_with fail
            refine (K7.out _ hTT).mono ?_
            rintro e1 w4 ⟨rfl, rfl⟩
            go_wp2_with fail
            refine (K1.out _ hTT).mono ?_
            rintro e1 w4 ⟨rfl, rfl⟩
            go_wp2
            go_ret
            exact ⟨rfl, hbl⟩
        | some x =>
          have hr : arO n L = some x := by unfold arO; rw [hf]; rfl
          have hn63 : ¬ 63 < n := fun h => by rw [hnone h] at hf; cases hf
          rw [hr] at c5
          rw [hf] at c7
          simp only [Option.getD_some, Option.isSome_some] at c5 c7
          clear hc hy hz hz2 hie hm hf hr hL hnone
          have K1 := Lib.hid c1
          have K4 := Lib.hid c4
          have K5 := Lib.hid c5
          have K7 := Lib.hid c7
          clear c1 c4 c5 c7
          go_wp2_with fail
          refine (K4.out _).mono ?_
          rintro e1 w4 ⟨rfl, rfl⟩
          go_wp2_with fail
          refine (K5.out _ hTT).mono ?_
          rintro e1 w4 ⟨rfl, rfl⟩
          go_wp2_with fail
          refine (C6.out _).mono ?_
          rintro e1 w4 ⟨rfl, rfl⟩
          go_wp2_with fail
          refine (K7.out _ hTT).mono ?_
          rintro e1 w4 ⟨rfl, rfl⟩
          go_wp2
          go_ret
          exact ⟨rfl, hbl⟩
abbrev spec := Rows.bitsWalksSpec
set_option maxRecDepth 100000 in
theorem contract (H : Type) (enc : TypeId × Value → H) (W : World) (base : Nat) (args : Array Value) (ds gs : List (DataW H)) (before : List MemPlace)
    (hval0 : ∀ (j : Nat) t v, Tryd.f7.params[j]? = some t → args[j]? = some v → Value.okWide Tryd.prog W .any base t v)
    (hW : DataW.Whole enc Tryd.prog Tryd.f7.params.toList spec.vars false W args.toList ds gs before) (hL : laidMetH Tryd.prog Rows.bitsWalksRow.laid W) :
    Calls Tryd.prog 7 args W fun e W' => ∃ v, e = .returned v ∧ spec.post enc Tryd.prog Tryd.f7 false true false false W args v W' := by
  have hval : ∀ (j : Nat) t v, Tryd.f7.params[j]? = some t → args[j]? = some v → Value.okWide Tryd.prog W .any base t v := hval0
  have hW' := hW
  obtain ⟨p, q, hA0, hV, rfl, hfz, hnd⟩ := hW
  have hA : DataW.TrodAll enc Tryd.prog W 0 (fun _ => true) true Tryd.f7.params.toList args.toList ds p := hA0
  have hT := tab_of_laid hL
  have hS := tab_size hT
  rw [Tryd.params7] at hA hval
  obtain ⟨v0, vs0, d0, ds0, p0, q0, hargs, rfl, rfl, h0, r0⟩ := trodAll_cons hA
  obtain ⟨v1, vs1, d1, ds1, p1, q1, rfl, rfl, rfl, h1, r1⟩ := trodAll_cons r0
  obtain ⟨rfl, rfl, rfl⟩ := trodAll_nil r1
  obtain rfl : args = #[v0, v1] := by cases args; simp_all
  obtain ⟨rfl, rfl⟩ := trodVars_none hV
  obtain ⟨b, rfl, rfl, rfl, wb⟩ := open_int Tryd.underlying23 (hval 0 _ v0 rfl rfl) h0
  obtain ⟨n, rfl, rfl, rfl, wn⟩ := open_int Tryd.underlying3 (hval 1 _ v1 rfl rfl) h1
  obtain ⟨b1, b2⟩ := u64_bounds wb
  obtain ⟨m, rfl⟩ := Int.eq_ofNat_of_zero_le b1
  refine (walk m (by omega) n W hT hS).mono fun e W' ⟨he, hb⟩ => ?_
  subst he
  exact ⟨_, rfl, law_post try_laidOut (by kernel_rfl) rfl rfl Tryd.underlying4 hW' rfl rfl rfl hb⟩

theorem laid_met (os : Os) : laidMet Tryd.prog Rows.bitsWalksRow.laid ((laidWorld os).forCall (fun _ _ => 0) ⟨#[], #[.int .u64 0, .int .i64 0], []⟩).memory :=
  laidMet_of_run' 8 (by kernel_rfl) (by kernel_rfl)
theorem reads (os : Os) {H : Type} (enc : TypeId × Value → H) : ∃ places, DataW.whole enc Tryd.prog ((laidWorld os).forCall (fun _ _ => 0) ⟨#[], #[.int .u64 0, .int .i64 0], []⟩).memory Tryd.f7.params.toList Rows.bitsWalksSpec.vars false #[.int .u64 0, .int .i64 0].toList 8 = some ([.lit (.int .u64 0), .lit (.int .i64 0)], [], places) :=
  ⟨[], by kernel_rfl⟩
set_option maxRecDepth 100000 in
theorem lifted (os : Os) (started : os.Started) (H : Type) (enc : TypeId × Value → H) (F : Stop.Interp) :
    ReturnsInHanded {} Tryd.checked os 7 .any ((OpenSpec.ofChange Rows.bitsWalksSpec).preRow enc Tryd.prog Tryd.f7 Rows.bitsWalksRow.domain false Rows.bitsWalksRow.laid) (((OpenSpec.ofChange Rows.bitsWalksSpec).at F).post enc Tryd.prog Tryd.f7 false true false false) := by
  obtain ⟨places, hx⟩ := reads os enc
  refine returnsInHanded_of_row (C := Tryd.checked) (s := OpenSpec.ofChange Rows.bitsWalksSpec) own started (by kernel_rfl) Tryd.func7
    (witness_row_at (enc := enc) (C := Tryd.checked) false (laidWorld os) #[.int .u64 0, .int .i64 0] rfl (by kernel_rfl) (by kernel_rfl) (by kernel_rfl)
      (OpenSpec.preRow_of_cond 8 hx (by kernel_rfl) (fun k hk => by cases hk) (by kernel_rfl) (laid_met os))) ?_
  intro W base args ds gs before hval hW _ _ _ hL _ _
  exact contract H enc W base args ds gs before hval hW hL
theorem said : Rows.BitsWalksSaid :=
  OpenClaim.holds_of_cond 7 Tryd.f7 rfl rfl rfl rfl rfl rfl rfl ⟨rfl, rfl, rfl, rfl, rfl⟩ rfl rfl rfl rfl rfl (by kernel_rfl) Tryd.func7 (by kernel_rfl)
    (of_decide_eq_true (by kernel_rfl)) (by unfold Func.isWrapper; first | (rw [if_pos (by decide +kernel)]; kernel_rfl) | (rw [if_neg (by decide +kernel)]; exact ⟨rfl, rfl⟩))
    (fun os started H enc _ F => by rw [OpenClaim.pre_eq_preRow]; exact lifted os started H enc F)
theorem plain (f : FuncId) (fn : Func) (hf : Tryd.pinned.checked.prog.funcNamed "verge/vergelaw05.BitsWalks" = some f) (hfn : Tryd.pinned.checked.prog.funcs[f]? = some fn) :
    false = Tryd.pinned.checked.prog.looks [] ∧ ∀ (j : Nat) t, fn.params[j]? = some t → Tryd.pinned.checked.prog.wantsStandIn t = false := by
  obtain rfl : f = 7 := Option.some.inj ((show Tryd.prog.funcNamed "verge/vergelaw05.BitsWalks" = some 7 by kernel_rfl).symm.trans hf) |>.symm
  obtain rfl : fn = Tryd.f7 := (Option.some.inj (Tryd.func7.symm.trans hfn)).symm
  refine ⟨by kernel_rfl, fun j t ht => ?_⟩
  have hall : (Tryd.f7.params.toList.all fun t => !(Tryd.prog.wantsStandIn t)) = true := by kernel_rfl
  have hw : Tryd.prog.wantsStandIn t = false := by simpa using List.all_eq_true.1 hall t (by simpa using Array.mem_of_getElem? ht)
  exact hw
/-- The card. -/
theorem proved : Rows.BitsWalksCardSaid :=
  Claim7.holds_tied_plain_at .later [] _ _ _ _ said (fun _ h => by cases h) (by kernel_rfl) (fun _ h => by cases h) bitsWalks_row_tie rfl ⟨rfl, rfl⟩ (by kernel_rfl) rfl plain (by kernel_rfl)
#print axioms proved
end Go.Proofs.YtcchmkpodfjhcaaDoor.bitsWalks
