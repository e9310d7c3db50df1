/-
  The law BitsLists of vergelaw05: a set is made of its list; the list rises; the set of some numbers has just these; every argument reads afterwards as before. No condition; the library's table (math/bits) is tied to its text.
-/
import Derived.Test.YtcchmkpodfjhcaaDoorL05
import Derived.Test.YtcchmkpodfjhcaaDoorBQ
namespace Go.Proofs.YtcchmkpodfjhcaaDoor.bitsLists
open Go.ChangeShapes Go.WideShapes Go.ChangeAt Go.RowKit Go.Shelf
set_option linter.unusedVariables false

theorem has_num (d p q : Nat) (hd : d < 18446744073709551616) (hp : p < 18446744073709551616) (hq : q < 18446744073709551616) (h : (d &&& (18446744073709551615 - p)) &&& q ≠ 0) :
    (bits .and .u64 (bits .andNot .u64 (d : Int) (p : Int)) (q : Int) == 0) = false := by
  have h1 : d &&& (18446744073709551615 - p) < 18446744073709551616 := Nat.lt_of_le_of_lt Nat.and_le_left hd
  rw [u64_andNot_nat _ _ hd hp, u64_and_nat _ _ h1 hq]
  simp; omega
theorem len_neq (n : Nat) : ((n : Int) != (n : Int)) = false := by simp
set_option maxHeartbeats 1000000 in
theorem walk (A : Option Addr) (xs : List Int) (cap : Nat) (b : Nat) (hb : b < 18446744073709551616) (w : World) (hT : Tab w) (hS : 0 < w.heap.size)
    (hI : Ints w w.heap.size A xs) (hl : xs.length ≤ 9223372036854775807) (hwf : ∀ x ∈ xs, (Lit.int .i64 x).wf = true) :
    Calls Tryd.prog 6 #[.int .u64 (b : Int), .slice A xs.length cap] w fun e w' => e = .returned (.bool true) ∧ Below w.heap.size w w' := by
  have hlen := lb_len 64 b
  have c3 := list_any b hb
  have c5 := count_any b hb
  have n1 := fun k x y => lb_next (b := b) (k := k) (x := x) (y := y)
  have o1 := of_lb hb
  have c8 := fun A c W h => of_any A (lb 64 b) c W h (Nat.le_trans hlen (by omega))
  rw [o1.1, o1.2] at c8
  obtain ⟨L, hL⟩ : ∃ L, L = lb 64 b := ⟨_, rfl⟩
  simp only [← hL] at c3 c5 c8 n1 hlen
  have C3 := Lib.hid c3
  have C5 := Lib.hid c5
  have C8 := Lib.hid c8
  have N1 := Lib.hid n1
  have hbb : ((b : Int) != (b : Int)) = false := by simp
  have hLL := len_neq L.length
  clear c3 c5 c8 n1 o1 hL
  have c9 := fun W h => of_any A xs cap W h hl
  have C9 := Lib.hid c9
  clear c9
  go_enter Tryd.func6, Tryd.ntmps6
  go_wp2_with fail
  refine (lives05 _ hT hS).mono ?_
  rintro e1 w1 ⟨rfl, HB⟩
  go_wp2_with fail
  refine (C3.out _ (hT.below HB hS) (Nat.lt_of_lt_of_le hS HB.size)).mono ?_
  rintro e1 w2 ⟨A1, k1, rfl, hI1, hb2⟩
  replace HB := HB.next HB.size hb2
  clear hb2
  go_wp2_with fail
  refine (C8.out _ _ _ hI1).mono ?_
  rintro e1 w3 ⟨rfl, rfl⟩
  go_wp2_with fail
  refine (C5.out _).mono ?_
  rintro e1 w3 ⟨rfl, rfl⟩
  go_wp2_with fail
  go_loopw [38] (fun i wr => ∃ (k n : Nat), k ≤ L.length ∧ i = .int .i64 k ∧ wr = w2.drewN n) (fun i _ => L.length - (intOf i).toNat)
  case atStart => exact ⟨0, 0, by omega, rfl, rfl⟩
  case round =>
    obtain ⟨k, n, hk, rfl, rfl⟩ := hrel
    by_cases hlt : k < L.length
    · obtain ⟨b2, off, rfl, hbB, hc⟩ := hI1 (by omega)
      obtain ⟨y, hy⟩ : ∃ y, L[k]? = some y := ⟨L[k], List.getElem?_eq_getElem hlt⟩
      have cy := hc k hlt
      rw [hy] at cy
      simp only [Option.getD_some] at cy
      have ik : (k : Int) < (L.length : Int) := by omega
      cases k with
      | zero =>
        clear hc hy
        go_wp2_with (go_quiet (fail))
        go_roundw
        case rel => exact ⟨1, _, by omega, by go_num, rfl⟩
        case measure => simp [intOf]; omega
      | succ m =>
        obtain ⟨x, hx⟩ : ∃ x, L[m]? = some x := ⟨L[m], List.getElem?_eq_getElem (by omega)⟩
        have cx := hc m (by omega)
        rw [hx] at cx
        simp only [Option.getD_some] at cx
        have hxy := N1.out m x y hx hy
        have hdec : decide (y ≤ x) = false := decide_eq_false (by omega)
        have im : (m : Int) < (L.length : Int) := by omega
        have i0 : (0 : Int) < ((m + 1 : Nat) : Int) := by omega
        have e1 : IntKind.i64.wrap (((m + 1 : Nat) : Int) - 1) = (m : Int) := by rw [IntWalk.i64_in _ (by omega)]; omega
        have e2 : IntKind.i64.wrap ((m : Int) + 1 - 1) = (m : Int) := by rw [IntWalk.i64_in _ (by omega)]; omega
        clear hc hx hy
        go_wp2
        go_quiet (fail)
        go_wp2
        go_roundw
        case rel => exact ⟨m + 2, _, by omega, by go_num, rfl⟩
        case measure => simp [intOf]; omega
    · replace HB := HB.drewN n
      have hIx := hI.below HB
      by_cases hok : xs.all okB = true
      · obtain ⟨g1, g2⟩ := of_good hok
        have hcnt := of_count xs
        have hdl := ofF_lt xs hok
        have hhas := fun x => of_has hok (x := x)
        obtain ⟨d, hd⟩ : ∃ d, d = ofF xs := ⟨_, rfl⟩
        have c9 := C9.out _ (hIx.mono HB.size)
        rw [g1, g2] at c9
        rw [← hd] at c9 hcnt hdl
        simp only [← hd] at hhas
        have C10 := Lib.hid c9
        have HH := Lib.hid hhas
        have HC := Lib.hid hcnt
        have HOK := Lib.hid (show ∀ x ∈ xs, 0 ≤ x ∧ x ≤ 63 from fun x hx => by simpa [okB] using List.all_eq_true.1 hok x hx)
        have CC := Lib.hid (count_any d hdl)
        have HDL := Lib.hid hdl
        clear c9 hhas hcnt g1 g2 hd hdl hok
        go_wp2_with fail
        refine C10.out.mono ?_
        rintro e1 w5 ⟨rfl, rfl⟩
        go_wp2_with fail
        go_loop [67] (fun i => ∃ (k : Nat), k ≤ xs.length ∧ i = .int .i64 k) (fun i => xs.length - (intOf i).toNat)
        case atStart => exact ⟨0, by omega, rfl⟩
        case round =>
          clear hlt hk
          obtain ⟨k, hk, rfl⟩ := hrel
          by_cases hlt : k < xs.length
          · obtain ⟨b2, off, rfl, hbB, hc⟩ := hIx (by omega)
            have c0 := hc k hlt
            obtain ⟨x, hx⟩ : ∃ x, xs[k]? = some x := ⟨xs[k], List.getElem?_eq_getElem hlt⟩
            rw [hx] at c0
            simp only [Option.getD_some] at c0
            have hm := List.mem_of_getElem? hx
            have h1 := HH.out x hm
            have hw := hwf x hm
            have hx03 : 0 ≤ x ∧ x ≤ 63 := HOK.out x hm
            obtain ⟨x0, x1⟩ := hx03
            have k1 := fun W => between_any 0 (x - 1) W (WalkArith.wf_i64 (by omega))
            have k2 := fun W => between_any 0 x W hw
            have p1 := btN_lt 0 (x - 1)
            have p2 := btN_lt 0 x
            generalize btN 0 (x - 1) = p at h1 k1 p1
            generalize btN 0 x = q at h1 k2 p2
            have hE := has_num d p q HDL.out p1 p2 h1
            have K1 := Lib.hid k1
            have K2 := Lib.hid k2
            clear hc hx hm hw h1 k1 k2 p1 p2
            go_wp2_with fail
            refine (K1.out _).mono ?_
            rintro e1 w6 ⟨rfl, rfl⟩
            go_wp2_with fail
            refine (K2.out _).mono ?_
            rintro e1 w6 ⟨rfl, rfl⟩
            go_wp2
            go_round
            case rel => exact ⟨k + 1, by omega, by go_num⟩
            case measure => simp [intOf]; omega
          · have hle := HC.out
            have hdec : decide (((lb 64 d).length : Int) ≤ (xs.length : Int)) = true := decide_eq_true (by omega)
            have hdec2 : decide ((lb 64 d).length ≤ xs.length) = true := decide_eq_true (by omega)
            clear hle
            go_wp2_with fail
            refine (CC.out _).mono ?_
            rintro e1 w6 ⟨rfl, rfl⟩
            go_wp2
            go_ret
            exact ⟨rfl, HB⟩
      · have c9 := C9.out _ (hIx.mono HB.size)
        have ev : ofV xs = 0 := by unfold ofV; rw [if_neg hok]
        have ee : ofE xs = 1 := by unfold ofE; rw [if_neg hok]
        rw [ev, ee] at c9
        have C10 := Lib.hid c9
        clear c9 ev ee hok
        go_wp2_with fail
        refine C10.out.mono ?_
        rintro e1 w5 ⟨rfl, rfl⟩
        go_wp2
        go_ret
        exact ⟨rfl, HB⟩
abbrev spec := Rows.bitsListsSpec
set_option maxRecDepth 100000 in
theorem contract (H : Type) (enc : TypeId × Value → H) (W : World) (base : Nat) (args : Array Value) (ds gs : List (DataW H)) (before : List MemPlace)
    (hval0 : ∀ (j : Nat) t v, Tryd.f6.params[j]? = some t → args[j]? = some v → Value.okWide Tryd.prog W .any base t v)
    (hW : DataW.Whole enc Tryd.prog Tryd.f6.params.toList spec.vars false W args.toList ds gs before) (hL : laidMetH Tryd.prog Rows.bitsListsRow.laid W) :
    Calls Tryd.prog 6 args W fun e W' => ∃ v, e = .returned v ∧ spec.post enc Tryd.prog Tryd.f6 false true false false W args v W' := by
  have hval : ∀ (j : Nat) t v, Tryd.f6.params[j]? = some t → args[j]? = some v → Value.okWide Tryd.prog W .any base t v := hval0
  have hW' := hW
  obtain ⟨p, q, hA0, hV, rfl, hfz, hnd⟩ := hW
  have hA : DataW.TrodAll enc Tryd.prog W 0 (fun _ => true) true Tryd.f6.params.toList args.toList ds p := hA0
  have hT := tab_of_laid hL
  have hS := tab_size hT
  rw [Tryd.params6] at hA hval
  obtain ⟨v0, vs0, d0, ds0, p0, q0, hargs, rfl, rfl, h0, r0⟩ := trodAll_cons hA
  obtain ⟨v1, vs1, d1, ds1, p1, q1, rfl, rfl, rfl, h1, r1⟩ := trodAll_cons r0
  obtain ⟨rfl, rfl, rfl⟩ := trodAll_nil r1
  obtain rfl : args = #[v0, v1] := by cases args; simp_all
  obtain ⟨rfl, rfl⟩ := trodVars_none hV
  obtain ⟨b, rfl, rfl, rfl, wb⟩ := open_int Tryd.underlying23 (hval 0 _ v0 rfl rfl) h0
  obtain ⟨A, xs, cap, rfl, hI, hl, hwf⟩ := open_i64s Tryd.underlying22 Tryd.underlying3 (by kernel_rfl) (hval 1 _ v1 rfl rfl) h1
  obtain ⟨b1, b2⟩ := u64_bounds wb
  obtain ⟨m, rfl⟩ := Int.eq_ofNat_of_zero_le b1
  refine (walk A xs cap m (by omega) W hT hS hI hl hwf).mono fun e W' ⟨he, hb⟩ => ?_
  subst he
  exact ⟨_, rfl, law_post try_laidOut (by kernel_rfl) rfl rfl Tryd.underlying4 hW' rfl rfl rfl hb⟩

theorem laid_met (os : Os) : laidMet Tryd.prog Rows.bitsListsRow.laid ((laidWorld os).forCall (fun _ _ => 0) ⟨#[], #[.int .u64 0, .slice none 0 0], []⟩).memory :=
  laidMet_of_run' 8 (by kernel_rfl) (by kernel_rfl)
theorem reads (os : Os) {H : Type} (enc : TypeId × Value → H) : ∃ places, DataW.whole enc Tryd.prog ((laidWorld os).forCall (fun _ _ => 0) ⟨#[], #[.int .u64 0, .slice none 0 0], []⟩).memory Tryd.f6.params.toList Rows.bitsListsSpec.vars false #[.int .u64 0, .slice none 0 0].toList 8 = some ([.lit (.int .u64 0), .nil], [], places) :=
  ⟨[], by kernel_rfl⟩
set_option maxRecDepth 100000 in
theorem lifted (os : Os) (started : os.Started) (H : Type) (enc : TypeId × Value → H) (F : Stop.Interp) :
    ReturnsInHanded {} Tryd.checked os 6 .any ((OpenSpec.ofChange Rows.bitsListsSpec).preRow enc Tryd.prog Tryd.f6 Rows.bitsListsRow.domain false Rows.bitsListsRow.laid) (((OpenSpec.ofChange Rows.bitsListsSpec).at F).post enc Tryd.prog Tryd.f6 false true false false) := by
  obtain ⟨places, hx⟩ := reads os enc
  refine returnsInHanded_of_row (C := Tryd.checked) (s := OpenSpec.ofChange Rows.bitsListsSpec) own started (by kernel_rfl) Tryd.func6
    (witness_row_at (enc := enc) (C := Tryd.checked) false (laidWorld os) #[.int .u64 0, .slice none 0 0] rfl (by kernel_rfl) (by kernel_rfl) (by kernel_rfl)
      (OpenSpec.preRow_of_cond 8 hx (by kernel_rfl) (fun k hk => by cases hk) (by kernel_rfl) (laid_met os))) ?_
  intro W base args ds gs before hval hW _ _ _ hL _ _
  exact contract H enc W base args ds gs before hval hW hL
theorem said : Rows.BitsListsSaid :=
  OpenClaim.holds_of_cond 6 Tryd.f6 rfl rfl rfl rfl rfl rfl rfl ⟨rfl, rfl, rfl, rfl, rfl⟩ rfl rfl rfl rfl rfl (by kernel_rfl) Tryd.func6 (by kernel_rfl)
    (of_decide_eq_true (by kernel_rfl)) (by unfold Func.isWrapper; first | (rw [if_pos (by decide +kernel)]; kernel_rfl) | (rw [if_neg (by decide +kernel)]; exact ⟨rfl, rfl⟩))
    (fun os started H enc _ F => by rw [OpenClaim.pre_eq_preRow]; exact lifted os started H enc F)
theorem plain (f : FuncId) (fn : Func) (hf : Tryd.pinned.checked.prog.funcNamed "verge/vergelaw05.BitsLists" = some f) (hfn : Tryd.pinned.checked.prog.funcs[f]? = some fn) :
    false = Tryd.pinned.checked.prog.looks [] ∧ ∀ (j : Nat) t, fn.params[j]? = some t → Tryd.pinned.checked.prog.wantsStandIn t = false := by
  obtain rfl : f = 6 := Option.some.inj ((show Tryd.prog.funcNamed "verge/vergelaw05.BitsLists" = some 6 by kernel_rfl).symm.trans hf) |>.symm
  obtain rfl : fn = Tryd.f6 := (Option.some.inj (Tryd.func6.symm.trans hfn)).symm
  refine ⟨by kernel_rfl, fun j t ht => ?_⟩
  have hall : (Tryd.f6.params.toList.all fun t => !(Tryd.prog.wantsStandIn t)) = true := by kernel_rfl
  have hw : Tryd.prog.wantsStandIn t = false := by simpa using List.all_eq_true.1 hall t (by simpa using Array.mem_of_getElem? ht)
  exact hw
/-- The card. -/
theorem proved : Rows.BitsListsCardSaid :=
  Claim7.holds_tied_plain_at .later [] _ _ _ _ said (fun _ h => by cases h) (by kernel_rfl) (fun _ h => by cases h) bitsLists_row_tie rfl ⟨rfl, rfl⟩ (by kernel_rfl) rfl plain (by kernel_rfl)
#print axioms proved
end Go.Proofs.YtcchmkpodfjhcaaDoor.bitsLists
