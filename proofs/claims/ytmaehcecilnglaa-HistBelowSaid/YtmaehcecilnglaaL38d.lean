/-
  The law HistBelow of vergelaw38: the number below which a part of a list's numbers lies, asked of their histogram, is right by the list itself; every argument reads afterwards as before. Its condition: the arguments' bytes are within a machine's reach.
-/
import Derived.Test.YtmaehcecilnglaaL38
import Derived.Test.YtmaehcecilnglaaHR
import Derived.Test.YtmaehcecilnglaaHO
import Derived.Test.YtmaehcecilnglaaOsz
namespace Go.Proofs.Ytmaehcecilnglaa.histBelow
open Go.ChangeShapes Go.WideShapes Go.ChangeAt Go.RowKit
set_option linter.unusedVariables false
theorem be_hZ (p o : Int) : beE hZ p o ≠ 0 := by
  have h := okZ.tot
  unfold beE
  rw [if_neg (by omega)]
  split
  · omega
  · rw [if_pos h.2]; omega
theorem bv_zero {V : List Int} {p o : Int} (h : beE V p o ≠ 0) : beV V p o = 0 := by unfold beV; rw [if_pos h]
set_option maxRecDepth 100000 in
set_option maxHeartbeats 4000000 in
theorem walk (A : Option Addr) (l : List Int) (cap : Nat) (p o : Int) (w : World) (hI : Ints w w.heap.size A l) (hl : l.length ≤ 17592186044416) :
    Calls Try.prog 6 #[.slice A l.length cap, .int .i64 p, .int .i64 o] w fun e w' => e = .returned (.bool true) ∧ Below w.heap.size w w' := by
  have c1 := fun W h => of_any A l cap W h (by omega)
  have lX := smF_len l hZ_len
  have c2 := below_any _ lX p o
  unfold HistRes at c1
  obtain ⟨X, hX⟩ : ∃ X, X = (smF hZ l).1 := ⟨_, rfl⟩
  obtain ⟨F, hF⟩ : ∃ X, X = (smF hZ l).2 := ⟨_, rfl⟩
  obtain ⟨b, hb⟩ : ∃ x, x = beV X p o := ⟨_, rfl⟩
  obtain ⟨E, hE⟩ : ∃ x, x = beE X p o := ⟨_, rfl⟩
  simp only [← hX, ← hF, ← hb, ← hE] at c1 c2 lX
  have sa := sm_all l hZ 0 okZ (by omega)
  by_cases hg : l.all timeB = true
  · obtain ⟨s1, _⟩ := sa.1 hg
    rw [addL_hZ (cV_len l)] at s1
    rw [s1] at hX hF
    simp only at hX hF
    by_cases he : E = 0
    · have law := below_law hg (by omega) (by rw [← hX, ← hE]; exact he)
      rw [← hX, ← hb] at law
      obtain ⟨⟨k0, hk0, hbk⟩, ⟨o1, o2, p1, p2⟩, L1, L2, L3⟩ := law
      have hpow := pow_num hk0
      have b0 : 0 ≤ b := by omega
      have b1 : b ≤ 9007199254740991 := by omega
      have hpos : 0 < l.length := by
        rcases Nat.eq_zero_or_pos l.length with h0 | h0
        · exfalso
          have hn : l = [] := List.eq_nil_of_length_eq_zero h0
          have : cV [] = hZ := by rw [← addL_hZ (cV_len [])]; exact addL_nil hZ_len
          rw [hn, this] at hX
          rw [hX] at hE
          exact be_hZ p o (by omega)
        · exact h0
      have hc0 : b.tdiv 2 = b / 2 := Int.tdiv_eq_ediv_of_nonneg b0
      rw [hF] at c1
      rw [he] at c2
      have C1 := Kept.mk c1
      have C2 := Kept.mk c2
      clear c1 c2 hX hF hb hE s1 sa hbk hpow
      obtain ⟨c, hc⟩ : ∃ c, c = b / 2 := ⟨_, rfl⟩
      rw [← hc] at hc0 L2
      have c0 : 0 ≤ c := by omega
      have c1' : c ≤ 9007199254740991 := by omega
      have LL1 := Kept.mk L1
      have LL2 := Kept.mk L2
      have LL3 := Kept.mk L3
      clear hc L1 L2 L3
      go_enter Try.func6, Try.ntmps6
      go_wp2_with fail
      refine (lives38 _).mono ?_
      rintro e w1 ⟨rfl, hb⟩
      have B := hb
      clear hb
      go_wp2_with fail
      refine (C1.out _ ((hI.below B).mono B.size)).mono ?_
      rintro e w2 ⟨rfl, hb⟩
      replace B := B.next B.size hb
      clear hb
      obtain ⟨d1, B1⟩ := boxed B X
      replace B := B1
      clear B1
      go_wp2_with (first | (refine wpList_store_row rfl 24 _ _ rfl w2.heap.size rfl (hC X) rfl 24 (hC hZ) (HB.newZ w2) (hist_size lX) (by rw [hC_size, hC_size, lX, hZ_len]) (hC_one _) ?_) | (refine wpList_load_row rfl 24 _ rfl w2.heap.size rfl 24 (hC X) (0, 0) _ d1 Try.underlying24 rfl (hist_size lX) ?_))
      refine (C2.out _).mono ?_
      rintro e w3 ⟨rfl, hb⟩
      replace B := B.next B.size hb
      clear hb d1
      obtain ⟨bk, off, rfl, hbk, hcell⟩ := (hI.below B) hpos
      have hpi : (0 : Int) < (l.length : Int) := by omega
      have hli : (l.length : Int) ≤ 17592186044416 := by omega
      have CL := Kept.mk hcell
      clear hcell hI hg
      go_wp2
      go_loop [11, 12, 39] (fun u v i => ∃ (k : Nat), k ≤ l.length ∧ u = .int .i64 (cnt (l.take k) b : Nat) ∧ v = .int .i64 (cnt (l.take k) c : Nat) ∧ i = .int .i64 k) (fun _ _ i => l.length - (intOf i).toNat)
      case atStart => exact ⟨0, by omega, rfl, rfl, rfl⟩
      case round =>
        obtain ⟨k, hk, rfl, rfl, rfl⟩ := hrel
        have u1 := cnt_le (l.take k) b
        have u2 := cnt_le (l.take k) c
        have u3 : (l.take k).length ≤ l.length := by simp; omega
        by_cases hlt : k < l.length
        · obtain ⟨x, hx⟩ : ∃ x, l[k]? = some x := ⟨l[k], List.getElem?_eq_getElem hlt⟩
          have hcx := CL.out k hlt
          rw [hx, Option.getD_some] at hcx
          have st1 := Kept.mk (cnt_step b hx)
          have st2 := Kept.mk (cnt_step c hx)
          have ik : (k : Int) < (l.length : Int) := by omega
          clear hx
          obtain ⟨n1, hn1⟩ : ∃ n, n = cnt (l.take k) b := ⟨_, rfl⟩
          obtain ⟨n2, hn2⟩ : ∃ n, n = cnt (l.take k) c := ⟨_, rfl⟩
          rw [← hn1] at st1 u1
          rw [← hn2] at st2 u2
          simp only [← hn1, ← hn2]
          clear hn1 hn2
          by_cases h1 : x ≤ b
          · by_cases h2 : x ≤ c
            · go_wp2
              go_round
              case rel => exact ⟨k + 1, by omega, by rw [st1.out, if_pos h1]; go_num, by rw [st2.out, if_pos h2]; go_num, by go_num⟩
              case measure => simp [intOf]; omega
            · go_wp2
              go_round
              case rel => exact ⟨k + 1, by omega, by rw [st1.out, if_pos h1]; go_num, by rw [st2.out, if_neg h2]; rfl, by go_num⟩
              case measure => simp [intOf]; omega
          · by_cases h2 : x ≤ c
            · go_wp2
              go_round
              case rel => exact ⟨k + 1, by omega, by rw [st1.out, if_neg h1]; rfl, by rw [st2.out, if_pos h2]; go_num, by go_num⟩
              case measure => simp [intOf]; omega
            · go_wp2
              go_round
              case rel => exact ⟨k + 1, by omega, by rw [st1.out, if_neg h1]; rfl, by rw [st2.out, if_neg h2]; rfl, by go_num⟩
              case measure => simp [intOf]; omega
        · have hke : l.take k = l := List.take_of_length_le (by omega)
          have hkl : k = l.length := by omega
          rw [hke]
          subst hkl
          clear hke hk hlt u1 u2 u3
          have u1 := cnt_le l b
          have u2 := cnt_le l c
          by_cases hbig : 1048576 < l.length
          · have hbi : (1048576 : Int) < (l.length : Int) := by omega
            go_wp2
            all_goals first | (exfalso; omega) | skip
            all_goals go_ret
            all_goals exact ⟨by first | rfl | (simp; done) | (simp; omega), B⟩
          · have hbi : (l.length : Int) ≤ 1048576 := by omega
            have L1 := LL1.out
            have L2 := LL2.out
            have L3 := LL3.out
            obtain ⟨x1, hx1⟩ : ∃ x, x = cnt l b := ⟨_, rfl⟩
            obtain ⟨x2, hx2⟩ : ∃ x, x = cnt l c := ⟨_, rfl⟩
            rw [← hx1] at L1 L3 u1 ⊢
            rw [← hx2] at L2 u2 ⊢
            clear hx1 hx2
            obtain ⟨m1, hm1⟩ : ∃ m, m = (x1 : Int) * o := ⟨_, rfl⟩
            obtain ⟨m2, hm2⟩ : ∃ m, m = (l.length : Int) * p := ⟨_, rfl⟩
            obtain ⟨m3, hm3⟩ : ∃ m, m = (x2 : Int) * o := ⟨_, rfl⟩
            rw [← hm2, ← hm1] at L1
            rw [← hm2, ← hm3] at L2
            have g1 : 0 ≤ (x1 : Int) * o ∧ (x1 : Int) * o ≤ 1048576 * 1000000 := ⟨Int.mul_nonneg (by omega) (by omega), Int.mul_le_mul (by omega) o2 (by omega) (by omega)⟩
            have g2 : 0 ≤ (l.length : Int) * p ∧ (l.length : Int) * p ≤ 1048576 * 1000000 := ⟨Int.mul_nonneg (by omega) p1, Int.mul_le_mul hbi (by omega) p1 (by omega)⟩
            have g3 : 0 ≤ (x2 : Int) * o ∧ (x2 : Int) * o ≤ 1048576 * 1000000 := ⟨Int.mul_nonneg (by omega) (by omega), Int.mul_le_mul (by omega) o2 (by omega) (by omega)⟩
            have e1 : wrap64 ((x1 : Int) * o) = m1 := by rw [w64 (by omega) (by omega), hm1]
            have e2 : wrap64 ((l.length : Int) * p) = m2 := by rw [w64 (by omega) (by omega), hm2]
            have e3 : wrap64 ((x2 : Int) * o) = m3 := by rw [w64 (by omega) (by omega), hm3]
            clear g1 g2 g3 hm1 hm2 hm3 LL1 LL2 LL3
            by_cases hb0 : b = 0
            · by_cases hpo : p < o
              · go_wp2
                all_goals first | (exfalso; omega) | skip
                all_goals go_ret
                all_goals exact ⟨by first | rfl | (simp; done) | (simp; omega), B⟩
              · have L4 := Kept.mk (show x1 = l.length by omega)
                clear L3
                go_wp2
                all_goals first | (exfalso; omega) | skip
                all_goals go_ret
                all_goals exact ⟨by first | rfl | (simp; done) | (have h4 := L4.out; simp; omega), B⟩
            · have L5 : m3 < m2 := by omega
              by_cases hpo : p < o
              · go_wp2
                all_goals first | (exfalso; omega) | skip
                all_goals go_ret
                all_goals exact ⟨by first | rfl | (simp; done) | (simp; omega), B⟩
              · have L4 := Kept.mk (show x1 = l.length by omega)
                clear L3
                go_wp2
                all_goals first | (exfalso; omega) | skip
                all_goals go_ret
                all_goals exact ⟨by first | rfl | (simp; done) | (have h4 := L4.out; simp; omega), B⟩
    · have hbz : b = 0 := by rw [hb]; exact bv_zero (by rw [← hE]; exact he)
      rw [hbz] at c2
      rw [hF] at c1
      have C1 := Kept.mk c1
      have C2 := Kept.mk c2
      clear c1 c2 hX hF hb hE s1 sa hbz
      go_enter Try.func6, Try.ntmps6
      go_wp2_with fail
      refine (lives38 _).mono ?_
      rintro e w1 ⟨rfl, hb⟩
      have B := hb
      clear hb
      go_wp2_with fail
      refine (C1.out _ ((hI.below B).mono B.size)).mono ?_
      rintro e w2 ⟨rfl, hb⟩
      replace B := B.next B.size hb
      clear hb
      obtain ⟨d1, B1⟩ := boxed B X
      replace B := B1
      clear B1
      go_wp2_with (first | (refine wpList_store_row rfl 24 _ _ rfl w2.heap.size rfl (hC X) rfl 24 (hC hZ) (HB.newZ w2) (hist_size lX) (by rw [hC_size, hC_size, lX, hZ_len]) (hC_one _) ?_) | (refine wpList_load_row rfl 24 _ rfl w2.heap.size rfl 24 (hC X) (0, 0) _ d1 Try.underlying24 rfl (hist_size lX) ?_))
      refine (C2.out _).mono ?_
      rintro e w3 ⟨rfl, hb⟩
      replace B := B.next B.size hb
      clear hb d1
      go_wp2
      go_ret
      exact ⟨rfl, B⟩
  · have s2 := sa.2 (by simpa using hg)
    rw [s2] at hX hF
    simp only at hX hF
    have hbz : b = 0 := by rw [hb, hX]; exact bv_zero (be_hZ p o)
    rw [hbz] at c2
    rw [hF] at c1
    have C1 := Kept.mk c1
    have C2 := Kept.mk c2
    clear c1 c2 hX hF hb hE s2 sa hbz hg
    go_enter Try.func6, Try.ntmps6
    go_wp2_with fail
    refine (lives38 _).mono ?_
    rintro e w1 ⟨rfl, hb⟩
    have B := hb
    clear hb
    go_wp2_with fail
    refine (C1.out _ ((hI.below B).mono B.size)).mono ?_
    rintro e w2 ⟨rfl, hb⟩
    replace B := B.next B.size hb
    clear hb
    obtain ⟨d1, B1⟩ := boxed B X
    replace B := B1
    clear B1
    go_wp2_with (first | (refine wpList_store_row rfl 24 _ _ rfl w2.heap.size rfl (hC X) rfl 24 (hC hZ) (HB.newZ w2) (hist_size lX) (by rw [hC_size, hC_size, lX, hZ_len]) (hC_one _) ?_) | (refine wpList_load_row rfl 24 _ rfl w2.heap.size rfl 24 (hC X) (0, 0) _ d1 Try.underlying24 rfl (hist_size lX) ?_))
    refine (C2.out _).mono ?_
    rintro e w3 ⟨rfl, hb⟩
    replace B := B.next B.size hb
    clear hb d1
    go_wp2
    go_ret
    exact ⟨rfl, B⟩
theorem bytes_i64 : Try.prog.bytesOf 2 = 8 := by kernel_rfl
abbrev spec := Rows.histBelowSpec
set_option maxRecDepth 100000 in
theorem contract (H : Type) (enc : TypeId × Value → H) (W : World) (base : Nat) (args : Array Value) (ds gs : List (DataW H)) (before : List MemPlace)
    (hval0 : ∀ (j : Nat) t v, Try.f6.params[j]? = some t → args[j]? = some v → Value.okWide Try.prog W .any base t v)
    (hW : DataW.Whole enc Try.prog Try.f6.params.toList spec.vars false W args.toList ds gs before)
    (hsz : (DataW.weightsEach Try.prog (Try.f6.params.toList ++ spec.plain.varTypes Try.prog) (ds ++ gs)).all (· ≤ reachBytes) = true) :
    Calls Try.prog 6 args W fun e W' => ∃ v, e = .returned v ∧ spec.post enc Try.prog Try.f6 false true false false W args v W' := by
  have hval : ∀ (j : Nat) t v, Try.f6.params[j]? = some t → args[j]? = some v → Value.okWide Try.prog W .any base t v := hval0
  have hW' := hW
  obtain ⟨p, q, hA0, hV, rfl, hfz, hnd⟩ := hW
  have hA : DataW.TrodAll enc Try.prog W 0 (fun _ => true) true Try.f6.params.toList args.toList ds p := hA0
  rw [Try.params6] at hA hval hsz
  obtain ⟨v0, vs0, d0, ds0, p0, q0, hargs, rfl, rfl, h0, r0⟩ := trodAll_cons hA
  obtain ⟨v1, vs1, d1, ds1, p1, q1, rfl, rfl, rfl, h1, r1⟩ := trodAll_cons r0
  obtain ⟨v2, vs2, d2, ds2, p2, q2, rfl, rfl, rfl, h2, r2⟩ := trodAll_cons r1
  obtain ⟨rfl, rfl, rfl⟩ := trodAll_nil r2
  obtain rfl : args = #[v0, v1, v2] := by cases args; simp_all
  obtain ⟨rfl, rfl⟩ := trodVars_none hV
  obtain ⟨A, l, cap, rfl, hI, hlen, _⟩ := open_i64s Try.underlying25 Try.underlying2 (by kernel_rfl) (hval 0 _ v0 rfl rfl) h0
  obtain ⟨p, rfl, rfl, rfl, wp⟩ := open_int Try.underlying2 (hval 1 _ v1 rfl rfl) h1
  obtain ⟨o, rfl, rfl, rfl, wo⟩ := open_int Try.underlying2 (hval 2 _ v2 rfl rfl) h2
  refine (walk A l cap p o W hI (by have := open_small Try.underlying25 bytes_i64 h0 hsz 0 rfl rfl; omega)).mono fun e W' ⟨he, hb⟩ => ?_
  subst he
  exact ⟨_, rfl, law_post try_laidOut (by kernel_rfl) rfl rfl Try.underlying4 hW' rfl rfl rfl hb⟩

set_option maxRecDepth 100000 in
theorem lifted (os : Os) (started : os.Started) (H : Type) (enc : TypeId × Value → H) :
    ReturnsInHanded {} Try.checked os 6 .any (Rows.histBelowSpec.pre6 enc Try.prog Try.f6 Rows.histBelowRow.domain false) (Rows.histBelowSpec.post enc Try.prog Try.f6 false true false false) := by
  refine returnsInHanded_of_change_sized (C := Try.checked) own started (by kernel_rfl) Try.func6
    (ChangeSpec.witness6 (enc := enc) (C := Try.checked) false ⟨#[], #[.slice Option.none 0 0, .int .i64 0, .int .i64 0], []⟩ 8 (by kernel_rfl) (by kernel_rfl) (by kernel_rfl) (by kernel_rfl)) ?_
  intro W base args ds gs before hval hW hcnd hsz _
  exact contract H enc W base args ds gs before hval hW hsz

theorem over : Rows.histBelowRow.holds Try.pinned (OpenSpec.ofChange Rows.histBelowSpec) :=
  OpenClaim.holds_of_wide 6 Try.f6 rfl rfl rfl rfl rfl rfl rfl ⟨rfl, rfl, rfl, rfl, rfl⟩ rfl rfl rfl rfl rfl (by kernel_rfl) Try.func6 (by kernel_rfl)
    (of_decide_eq_true (by kernel_rfl)) (by unfold Func.isWrapper; first | (rw [if_pos (by decide +kernel)]; kernel_rfl) | (rw [if_neg (by decide +kernel)]; exact ⟨rfl, rfl⟩))
    (fun os started H enc _ => lifted os started H enc)

/-- The statement. -/
theorem proved : Rows.HistBelowSaid :=
  over
#print axioms proved
end Go.Proofs.Ytmaehcecilnglaa.histBelow
