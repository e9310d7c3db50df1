/-
  The walks of hist.Below and of the reference's Below.
-/
import Derived.Test.YtmaehcecilnglaaH9
namespace Go.Proofs.Ytmaehcecilnglaa
open Go.RowKit
set_option linter.unusedVariables false

theorem pow_num {k : Nat} (hk : k ≤ 53) : (2 : Int) ^ k ≤ 9007199254740992 ∧ 1 ≤ (2 : Int) ^ k := by
  have h1 : 2 ^ k ≤ 2 ^ 53 := Nat.pow_le_pow_right (by omega) hk
  have h2 := Nat.two_pow_pos k
  have e : (2 : Int) ^ k = ((2 ^ k : Nat) : Int) := by simp
  rw [e]
  omega
def rangeOk (p o : Int) : Prop := 1 ≤ o ∧ o ≤ 1000000 ∧ 0 ≤ p ∧ p ≤ o
theorem be_form {V : List Int} {p o : Int} : beE V p o = 2 ∧ beV V p o = 0 ∨ totE V = 0 := by
  rcases tot_cases V with h | h
  · exact .inr h
  · have : beE V p o = 2 := by unfold beE; rw [if_pos (by omega)]
    exact .inl ⟨this, by unfold beV; rw [if_pos (by omega)]⟩
theorem w64 {x : Int} (h1 : -9223372036854775808 ≤ x) (h2 : x ≤ 9223372036854775807) : wrap64 x = x := IntWalk.wrap64_in x ⟨h1, h2⟩
theorem ref_num {a m n : Nat} (ha : a ≤ 4503599627370496) (h1 : 1 ≤ n) (hn : n ≤ 1000000) (hm : m ≤ n) :
    wrap64 (wrap64 (wrap64 ((a : Int) / (n : Int)) * (m : Int)) + wrap64 ((wrap64 (wrap64 (wrap64 ((a : Int) % (n : Int) * (m : Int)) + (n : Int)) - 1)).tdiv (n : Int))) = (ndN a m n : Int) := by
  rw [← nd_ref (a := a) (p := m) (o := n) (by omega)]
  have e1 : (a : Int) / (n : Int) = ((a / n : Nat) : Int) := by simp
  have e2 : (a : Int) % (n : Int) = ((a % n : Nat) : Int) := by simp
  have hr := Nat.mod_lt a (show 0 < n by omega)
  have hq : a / n * m ≤ a := Nat.le_trans (Nat.mul_le_mul_left _ hm) (Nat.div_mul_le_self a n)
  have hrm : a % n * m ≤ 1000000 * 1000000 := Nat.mul_le_mul (by omega) (by omega)
  have hq0 : a / n ≤ a := Nat.div_le_self _ _
  rw [e1, e2]
  generalize a / n = q at hq hq0 ⊢
  generalize a % n = r at hr hrm ⊢
  have e3 : (q : Int) * (m : Int) = ((q * m : Nat) : Int) := by simp
  have e4 : (r : Int) * (m : Int) = ((r * m : Nat) : Int) := by simp
  rw [w64 (x := (q : Int)) (by omega) (by omega), e3, e4]
  generalize q * m = A at hq ⊢
  generalize r * m = C at hrm ⊢
  rw [w64 (x := (A : Int)) (by omega) (by omega), w64 (x := (C : Int)) (by omega) (by omega), w64 (x := (C : Int) + (n : Int)) (by omega) (by omega), w64 (x := (C : Int) + (n : Int) - 1) (by omega) (by omega)]
  have e5 : (C : Int) + (n : Int) - 1 = ((C + n - 1 : Nat) : Int) := by omega
  rw [e5, Int.tdiv_eq_ediv_of_nonneg (by omega)]
  have e6 : ((C + n - 1 : Nat) : Int) / (n : Int) = (((C + n - 1) / n : Nat) : Int) := by simp
  have hB : (C + n - 1) / n ≤ C + n - 1 := Nat.div_le_self _ _
  rw [e6]
  generalize (C + n - 1) / n = B at hB ⊢
  rw [w64 (x := (B : Int)) (by omega) (by omega), w64 (by omega) (by omega)]
  omega
set_option maxHeartbeats 1000000 in
theorem below_any (V : List Int) (hV : V.length = 54) (p o : Int) (w : World) :
    Calls Try.prog 18 #[.agg (hC V), .int .i64 p, .int .i64 o] w fun e w' => e = .returned (.tuple #[.int .i64 (beV V p o), .int .i64 (beE V p o)]) ∧ Below w.heap.size w w' := by
  rcases be_form (V := V) (p := p) (o := o) with ⟨R1, R2⟩ | hE
  · have hE : totE V = 2 := by
      rcases tot_cases V with h | h
      · exfalso
        unfold beE at R1
        rw [if_neg (by omega)] at R1
        split at R1
        · omega
        · split at R1 <;> omega
      · exact h
    have hS := rtE_2 hE
    rw [R1, R2]
    clear R1 R2
    go_enter Try.func18, Try.ntmps18
    go_wp2_with (refine wpList_load_row rfl 24 _ rfl _ rfl 24 (hC V) (0, 0) _ (heap_alloc_new _ _) Try.underlying24 rfl (hist_size hV) ?_)
    refine (total_any V hV _).mono ?_
    rintro e w1 ⟨rfl, hb⟩
    have b0 := (HB.new w V).below hb (by simp)
    have hbl : Below w.heap.size w w1 := hb.box (Nat.le_refl _)
    have hz := hb.size
    simp only [World.size_alloc] at hz
    clear hb
    go_wp2
    go_ret2
    exact ⟨rfl, hbl⟩
  · obtain ⟨t1, t2, t3, t4⟩ := tot_each (tot_ok hE)
    have hS := rtE_0 hE
    have T1 := Kept.mk t1
    have T4 := Kept.mk t4
    clear t1 t4
    by_cases o1 : o < 1
    · have R1 : beE V p o = 1 := by unfold beE; rw [if_neg (by omega), if_pos (by omega)]
      have R2 : beV V p o = 0 := by unfold beV; rw [if_pos (by omega)]
      rw [R1, R2]
      clear R1 R2
      go_enter Try.func18, Try.ntmps18
      go_wp2_with (refine wpList_load_row rfl 24 _ rfl _ rfl 24 (hC V) (0, 0) _ (heap_alloc_new _ _) Try.underlying24 rfl (hist_size hV) ?_)
      refine (total_any V hV _).mono ?_
      rintro e w1 ⟨rfl, hb⟩
      have b0 := (HB.new w V).below hb (by simp)
      have hbl : Below w.heap.size w w1 := hb.box (Nat.le_refl _)
      have hz := hb.size
      simp only [World.size_alloc] at hz
      clear hb
      go_wp2
      go_ret2
      exact ⟨rfl, hbl⟩
    · by_cases o2 : 1000000 < o
      · have R1 : beE V p o = 1 := by unfold beE; rw [if_neg (by omega), if_pos (by omega)]
        have R2 : beV V p o = 0 := by unfold beV; rw [if_pos (by omega)]
        rw [R1, R2]
        clear R1 R2
        go_enter Try.func18, Try.ntmps18
        go_wp2_with (refine wpList_load_row rfl 24 _ rfl _ rfl 24 (hC V) (0, 0) _ (heap_alloc_new _ _) Try.underlying24 rfl (hist_size hV) ?_)
        refine (total_any V hV _).mono ?_
        rintro e w1 ⟨rfl, hb⟩
        have b0 := (HB.new w V).below hb (by simp)
        have hbl : Below w.heap.size w w1 := hb.box (Nat.le_refl _)
        have hz := hb.size
        simp only [World.size_alloc] at hz
        clear hb
        go_wp2
        go_ret2
        exact ⟨rfl, hbl⟩
      · by_cases p1 : p < 0
        · have R1 : beE V p o = 1 := by unfold beE; rw [if_neg (by omega), if_pos (by omega)]
          have R2 : beV V p o = 0 := by unfold beV; rw [if_pos (by omega)]
          rw [R1, R2]
          clear R1 R2
          go_enter Try.func18, Try.ntmps18
          go_wp2_with (refine wpList_load_row rfl 24 _ rfl _ rfl 24 (hC V) (0, 0) _ (heap_alloc_new _ _) Try.underlying24 rfl (hist_size hV) ?_)
          refine (total_any V hV _).mono ?_
          rintro e w1 ⟨rfl, hb⟩
          have b0 := (HB.new w V).below hb (by simp)
          have hbl : Below w.heap.size w w1 := hb.box (Nat.le_refl _)
          have hz := hb.size
          simp only [World.size_alloc] at hz
          clear hb
          go_wp2
          go_ret2
          exact ⟨rfl, hbl⟩
        · by_cases p2 : o < p
          · have R1 : beE V p o = 1 := by unfold beE; rw [if_neg (by omega), if_pos (by omega)]
            have R2 : beV V p o = 0 := by unfold beV; rw [if_pos (by omega)]
            rw [R1, R2]
            clear R1 R2
            go_enter Try.func18, Try.ntmps18
            go_wp2_with (refine wpList_load_row rfl 24 _ rfl _ rfl 24 (hC V) (0, 0) _ (heap_alloc_new _ _) Try.underlying24 rfl (hist_size hV) ?_)
            refine (total_any V hV _).mono ?_
            rintro e w1 ⟨rfl, hb⟩
            have b0 := (HB.new w V).below hb (by simp)
            have hbl : Below w.heap.size w w1 := hb.box (Nat.le_refl _)
            have hz := hb.size
            simp only [World.size_alloc] at hz
            clear hb
            go_wp2
            go_ret2
            exact ⟨rfl, hbl⟩
          · have q1 : 1 ≤ o := by omega
            have q2 : o ≤ 1000000 := by omega
            have q3 : 0 ≤ p := by omega
            have q4 : p ≤ o := by omega
            by_cases hz0 : totV V = 0
            · have hz1 : (totV V == 0) = true := by simp [hz0]
              have R1 : beE V p o = 3 := by unfold beE; rw [if_neg (by omega), if_neg (by omega), if_pos hz0]
              have R2 : beV V p o = 0 := by unfold beV; rw [if_pos (by omega)]
              rw [R1, R2]
              clear R1 R2
              go_enter Try.func18, Try.ntmps18
              go_wp2_with (refine wpList_load_row rfl 24 _ rfl _ rfl 24 (hC V) (0, 0) _ (heap_alloc_new _ _) Try.underlying24 rfl (hist_size hV) ?_)
              refine (total_any V hV _).mono ?_
              rintro e w1 ⟨rfl, hb⟩
              have b0 := (HB.new w V).below hb (by simp)
              have hbl : Below w.heap.size w w1 := hb.box (Nat.le_refl _)
              have hz := hb.size
              simp only [World.size_alloc] at hz
              clear hb
              go_wp2
              go_ret2
              exact ⟨rfl, hbl⟩
            · have hz1 : (totV V == 0) = false := by simp [hz0]
              have R1 : beE V p o = 0 := by unfold beE; rw [if_neg (by omega), if_neg (by omega), if_neg hz0]
              have R2 : beV V p o = 2 ^ plc V (ndN (totV V).toNat p.toNat o.toNat) - 1 := by unfold beV; rw [if_neg (by omega)]
              rw [R1, R2]
              clear R1 R2 o1 o2 p1 p2 hz0
              obtain ⟨a, ha⟩ := Int.eq_ofNat_of_zero_le t2
              obtain ⟨m, rfl⟩ := Int.eq_ofNat_of_zero_le q3
              obtain ⟨n, rfl⟩ := Int.eq_ofNat_of_zero_le (show 0 ≤ o by omega)
              have hdle := (nd_le (a := a) (p := m) (o := n) (by omega) (by omega)).1
              have cS := fun w => share_any a m n (by omega) (by omega) (by omega) (by omega) w
              have hrf := nd_ref (a := a) (p := m) (o := n) (by omega)
              rw [ha] at hz1 t3 T4 ⊢
              simp only [Int.toNat_natCast]
              obtain ⟨D, hD⟩ : ∃ D : Int, D = (ndN a m n : Int) := ⟨_, rfl⟩
              simp only [← hD] at cS ⊢
              have d0 : 0 ≤ D := by omega
              have d1 : D ≤ (a : Int) := by omega
              have CS := Kept.mk cS
              have HD := Kept.mk hD
              have HRF := Kept.mk hrf
              have HA := Kept.mk ha
              clear cS hD hrf hdle
              rw [ha] at t2
              clear ha
              have h53 : D ≤ psum V 54 := by rw [psum_end hV, ← T4.out]; exact d1
              have PS := Kept.mk fun k => psum_le T1.out k
              have H53 := Kept.mk h53
              clear h53
              have cT := total_any V hV
              rw [HA.out] at cT
              have CT := Kept.mk cT
              clear cT
              go_enter Try.func18, Try.ntmps18
              go_wp2_with (refine wpList_load_row rfl 24 _ rfl _ rfl 24 (hC V) (0, 0) _ (heap_alloc_new _ _) Try.underlying24 rfl (hist_size hV) ?_)
              refine (CT.out _).mono ?_
              rintro e w1 ⟨rfl, hb⟩
              have b0 := (HB.new w V).below hb (by simp)
              have hbl : Below w.heap.size w w1 := hb.box (Nat.le_refl _)
              have hz := hb.size
              simp only [World.size_alloc] at hz
              clear hb
              go_wp2_with fail
              refine (CS.out _).mono ?_
              rintro e w2 ⟨rfl, hb2⟩
              replace b0 := b0.below hb2 (by omega)
              replace hbl := hbl.next hbl.size hb2
              clear hb2
              obtain ⟨x0, hx0⟩ : ∃ x, V[0]? = some x := ⟨V[0], List.getElem?_eq_getElem (by omega)⟩
              have c0 := b0.cell hx0
              have PS0 := Kept.mk (psum_step hx0)
              clear hx0
              go_wp2_with fail
              go_loop [11, 12] (fun t u => ∃ k : Nat, k < 54 ∧ t = .int .i64 k ∧ u = .int .i64 (psum V (k + 1)) ∧ Kept (∀ i, i < k → psum V (i + 1) < D)) (fun t _ => 54 - (intOf t).toNat)
              case atStart => exact ⟨0, by omega, rfl, by rw [PS0.out]; simp [psum], ⟨fun i hi => by omega⟩⟩
              case round =>
                obtain ⟨k, hk, rfl, rfl, hs⟩ := hrel
                obtain ⟨s0, s1⟩ := PS.out (k + 1)
                rw [← T4.out] at s1
                obtain ⟨S, eS⟩ : ∃ S, S = psum V (k + 1) := ⟨_, rfl⟩
                rw [← eS] at s0 s1 ⊢
                have ES := Kept.mk eS
                clear eS
                by_cases hlt : S < D
                · have hk2 : k + 1 < 54 := by
                    rcases Nat.lt_or_ge (k + 1) 54 with h | h
                    · exact h
                    · have e : k + 1 = 54 := by omega
                      have h1 := H53.out
                      have h2 := ES.out
                      rw [e] at h2
                      omega
                  obtain ⟨x, hx⟩ : ∃ x, V[k + 1]? = some x := ⟨V[k + 1], List.getElem?_eq_getElem (by omega)⟩
                  obtain ⟨x0', x1'⟩ := T1.out x (List.mem_of_getElem? hx)
                  have c1 := b0.cell hx
                  have ST := Kept.mk (psum_step hx)
                  have HS2 := Kept.mk (show ∀ i, i < k + 1 → psum V (i + 1) < D from fun i hi => by
                    by_cases e : i = k
                    · subst e; rw [← ES.out]; exact hlt
                    · exact hs.out i (by omega))
                  have ik : (k : Int) + 1 < 54 := by omega
                  clear hx hs
                  go_wp2
                  go_round
                  case rel => exact ⟨k + 1, hk2, by go_num, by rw [ST.out, ← ES.out], HS2⟩
                  case measure => simp [intOf]; omega
                · have hge : D ≤ S := by omega
                  have HP := Kept.mk (plc_eq hk (by rw [← ES.out]; exact hge) hs.out)
                  obtain ⟨w1', w2'⟩ := pow_num (k := k) (by omega)
                  clear hs hlt
                  go_wp2
                  go_ret2
                  exact ⟨by rw [HP.out]; rfl, hbl⟩
set_option maxHeartbeats 1000000 in
theorem rbelow_any (V : List Int) (hV : V.length = 54) (p o : Int) (w : World) :
    Calls Try.prog 19 #[.agg (hC V), .int .i64 p, .int .i64 o] w fun e w' => e = .returned (.tuple #[.int .i64 (beV V p o), .int .i64 (beE V p o)]) ∧ Below w.heap.size w w' := by
  rcases be_form (V := V) (p := p) (o := o) with ⟨R1, R2⟩ | hE
  · have hE : totE V = 2 := by
      rcases tot_cases V with h | h
      · exfalso
        unfold beE at R1
        rw [if_neg (by omega)] at R1
        split at R1
        · omega
        · split at R1 <;> omega
      · exact h
    have hS := rtE_2 hE
    rw [R1, R2]
    clear R1 R2
    go_enter Try.func19, Try.ntmps19
    go_wp2_with (refine wpList_load_row rfl 24 _ rfl _ rfl 24 (hC V) (0, 0) _ (heap_alloc_new _ _) Try.underlying24 rfl (hist_size hV) ?_)
    refine (rtotalB_any V hV _).mono ?_
    rintro e w1 ⟨rfl, hb⟩
    have b0 := (HB.new w V).below hb (by simp)
    have hbl : Below w.heap.size w w1 := hb.box (Nat.le_refl _)
    have hz := hb.size
    simp only [World.size_alloc] at hz
    clear hb
    go_wp2
    go_ret2
    exact ⟨rfl, hbl⟩
  · obtain ⟨t1, t2, t3, t4⟩ := tot_each (tot_ok hE)
    have hS := rtE_0 hE
    have T1 := Kept.mk t1
    have T4 := Kept.mk t4
    clear t1 t4
    by_cases o1 : o < 1
    · have R1 : beE V p o = 1 := by unfold beE; rw [if_neg (by omega), if_pos (by omega)]
      have R2 : beV V p o = 0 := by unfold beV; rw [if_pos (by omega)]
      rw [R1, R2]
      clear R1 R2
      go_enter Try.func19, Try.ntmps19
      go_wp2_with (refine wpList_load_row rfl 24 _ rfl _ rfl 24 (hC V) (0, 0) _ (heap_alloc_new _ _) Try.underlying24 rfl (hist_size hV) ?_)
      refine (rtotalB_any V hV _).mono ?_
      rintro e w1 ⟨rfl, hb⟩
      have b0 := (HB.new w V).below hb (by simp)
      have hbl : Below w.heap.size w w1 := hb.box (Nat.le_refl _)
      have hz := hb.size
      simp only [World.size_alloc] at hz
      clear hb
      go_wp2
      go_ret2
      exact ⟨rfl, hbl⟩
    · by_cases o2 : 1000000 < o
      · have R1 : beE V p o = 1 := by unfold beE; rw [if_neg (by omega), if_pos (by omega)]
        have R2 : beV V p o = 0 := by unfold beV; rw [if_pos (by omega)]
        rw [R1, R2]
        clear R1 R2
        go_enter Try.func19, Try.ntmps19
        go_wp2_with (refine wpList_load_row rfl 24 _ rfl _ rfl 24 (hC V) (0, 0) _ (heap_alloc_new _ _) Try.underlying24 rfl (hist_size hV) ?_)
        refine (rtotalB_any V hV _).mono ?_
        rintro e w1 ⟨rfl, hb⟩
        have b0 := (HB.new w V).below hb (by simp)
        have hbl : Below w.heap.size w w1 := hb.box (Nat.le_refl _)
        have hz := hb.size
        simp only [World.size_alloc] at hz
        clear hb
        go_wp2
        go_ret2
        exact ⟨rfl, hbl⟩
      · by_cases p1 : p < 0
        · have R1 : beE V p o = 1 := by unfold beE; rw [if_neg (by omega), if_pos (by omega)]
          have R2 : beV V p o = 0 := by unfold beV; rw [if_pos (by omega)]
          rw [R1, R2]
          clear R1 R2
          go_enter Try.func19, Try.ntmps19
          go_wp2_with (refine wpList_load_row rfl 24 _ rfl _ rfl 24 (hC V) (0, 0) _ (heap_alloc_new _ _) Try.underlying24 rfl (hist_size hV) ?_)
          refine (rtotalB_any V hV _).mono ?_
          rintro e w1 ⟨rfl, hb⟩
          have b0 := (HB.new w V).below hb (by simp)
          have hbl : Below w.heap.size w w1 := hb.box (Nat.le_refl _)
          have hz := hb.size
          simp only [World.size_alloc] at hz
          clear hb
          go_wp2
          go_ret2
          exact ⟨rfl, hbl⟩
        · by_cases p2 : o < p
          · have R1 : beE V p o = 1 := by unfold beE; rw [if_neg (by omega), if_pos (by omega)]
            have R2 : beV V p o = 0 := by unfold beV; rw [if_pos (by omega)]
            rw [R1, R2]
            clear R1 R2
            go_enter Try.func19, Try.ntmps19
            go_wp2_with (refine wpList_load_row rfl 24 _ rfl _ rfl 24 (hC V) (0, 0) _ (heap_alloc_new _ _) Try.underlying24 rfl (hist_size hV) ?_)
            refine (rtotalB_any V hV _).mono ?_
            rintro e w1 ⟨rfl, hb⟩
            have b0 := (HB.new w V).below hb (by simp)
            have hbl : Below w.heap.size w w1 := hb.box (Nat.le_refl _)
            have hz := hb.size
            simp only [World.size_alloc] at hz
            clear hb
            go_wp2
            go_ret2
            exact ⟨rfl, hbl⟩
          · have q1 : 1 ≤ o := by omega
            have q2 : o ≤ 1000000 := by omega
            have q3 : 0 ≤ p := by omega
            have q4 : p ≤ o := by omega
            by_cases hz0 : totV V = 0
            · have hz1 : (totV V == 0) = true := by simp [hz0]
              have R1 : beE V p o = 3 := by unfold beE; rw [if_neg (by omega), if_neg (by omega), if_pos hz0]
              have R2 : beV V p o = 0 := by unfold beV; rw [if_pos (by omega)]
              rw [R1, R2]
              clear R1 R2
              go_enter Try.func19, Try.ntmps19
              go_wp2_with (refine wpList_load_row rfl 24 _ rfl _ rfl 24 (hC V) (0, 0) _ (heap_alloc_new _ _) Try.underlying24 rfl (hist_size hV) ?_)
              refine (rtotalB_any V hV _).mono ?_
              rintro e w1 ⟨rfl, hb⟩
              have b0 := (HB.new w V).below hb (by simp)
              have hbl : Below w.heap.size w w1 := hb.box (Nat.le_refl _)
              have hz := hb.size
              simp only [World.size_alloc] at hz
              clear hb
              go_wp2
              go_ret2
              exact ⟨rfl, hbl⟩
            · have hz1 : (totV V == 0) = false := by simp [hz0]
              have R1 : beE V p o = 0 := by unfold beE; rw [if_neg (by omega), if_neg (by omega), if_neg hz0]
              have R2 : beV V p o = 2 ^ plc V (ndN (totV V).toNat p.toNat o.toNat) - 1 := by unfold beV; rw [if_neg (by omega)]
              rw [R1, R2]
              clear R1 R2 o1 o2 p1 p2 hz0
              obtain ⟨a, ha⟩ := Int.eq_ofNat_of_zero_le t2
              obtain ⟨m, rfl⟩ := Int.eq_ofNat_of_zero_le q3
              obtain ⟨n, rfl⟩ := Int.eq_ofNat_of_zero_le (show 0 ≤ o by omega)
              have hdle := (nd_le (a := a) (p := m) (o := n) (by omega) (by omega)).1
              have cS := fun w => share_any a m n (by omega) (by omega) (by omega) (by omega) w
              have hrf := nd_ref (a := a) (p := m) (o := n) (by omega)
              rw [ha] at hz1 t3 T4 ⊢
              simp only [Int.toNat_natCast]
              obtain ⟨D, hD⟩ : ∃ D : Int, D = (ndN a m n : Int) := ⟨_, rfl⟩
              simp only [← hD] at cS ⊢
              have d0 : 0 ≤ D := by omega
              have d1 : D ≤ (a : Int) := by omega
              have CS := Kept.mk cS
              have HD := Kept.mk hD
              have HRF := Kept.mk hrf
              have HA := Kept.mk ha
              clear cS hD hrf hdle
              rw [ha] at t2
              clear ha
              have h53 : D ≤ psum V 54 := by rw [psum_end hV, ← T4.out]; exact d1
              have PS := Kept.mk fun k => psum_le T1.out k
              have H53 := Kept.mk h53
              clear h53
              have cT := rtotalB_any V hV
              rw [HA.out] at cT
              have CT := Kept.mk cT
              clear cT
              go_enter Try.func19, Try.ntmps19
              go_wp2_with (refine wpList_load_row rfl 24 _ rfl _ rfl 24 (hC V) (0, 0) _ (heap_alloc_new _ _) Try.underlying24 rfl (hist_size hV) ?_)
              refine (CT.out _).mono ?_
              rintro e w1 ⟨rfl, hb⟩
              have b0 := (HB.new w V).below hb (by simp)
              have hbl : Below w.heap.size w w1 := hb.box (Nat.le_refl _)
              have hz := hb.size
              simp only [World.size_alloc] at hz
              clear hb
              go_upto_region 8 with fail
              go_cut [10] (fun s wx => s = .int .i64 D ∧ ∃ n, wx = w1.drewN n)
              case first =>
                go_quiet (fail)
                go_wp2
                go_meet
                exact ⟨congrArg _ ((ref_num (by omega) (by omega) (by omega) (by omega)).trans HD.out.symm), _, rfl⟩
              obtain ⟨rfl, nq, rfl⟩ := hcut
              replace hbl := hbl.drewN nq
              have b1 := b0.drewN nq
              go_wp2_with (refine wpList_load_row rfl 22 _ rfl _ rfl 24 (hC V) (0, 0) _ b1 Try.underlying22 rfl (arr_size hV) ?_)
              go_loop [11, 12, 57] (fun s u i => ∃ (k : Nat) (M : Int), k ≤ 54 ∧ i = .int .i64 k ∧ s = .int .i64 (psum V k) ∧ u = .int .i64 M ∧ Kept (M = 2 ^ k - 1) ∧ Kept (∀ i, i < k → psum V (i + 1) < D)) (fun _ _ i => 54 - (intOf i).toNat)
              case atStart => exact ⟨0, 0, by omega, rfl, by simp [psum], rfl, ⟨by simp⟩, ⟨fun i hi => by omega⟩⟩
              case round =>
                obtain ⟨k, M, hk, rfl, rfl, rfl, hM, hs⟩ := hrel
                obtain ⟨s0, s1⟩ := PS.out k
                rw [← T4.out] at s1
                have hk53 : k < 54 := by
                  rcases Nat.lt_or_ge k 54 with h | h
                  · exact h
                  · have e : k = 54 := by omega
                    have h1 := H53.out
                    have h2 : psum V 54 < D := hs.out 53 (by omega)
                    omega
                obtain ⟨x, hx⟩ : ∃ x, V[k]? = some x := ⟨V[k], List.getElem?_eq_getElem (by omega)⟩
                obtain ⟨x0', x1'⟩ := T1.out x (List.mem_of_getElem? hx)
                have hidx := run_idx hV hk53 hx
                have ST := Kept.mk (psum_step hx)
                obtain ⟨S, eS⟩ : ∃ S, S = psum V k := ⟨_, rfl⟩
                rw [← eS] at s0 s1 ⊢
                have ES := Kept.mk eS
                obtain ⟨m1', m2'⟩ := pow_num (k := k) (by omega)
                have M0 : 0 ≤ M := by have := hM.out; omega
                have M1 : M ≤ 9007199254740992 := by have := hM.out; omega
                clear eS hx m1' m2'
                by_cases hlt : S + x < D
                · have HS2 := Kept.mk (show ∀ i, i < k + 1 → psum V (i + 1) < D from fun i hi => by
                    by_cases e : i = k
                    · subst e; rw [ST.out, ← ES.out]; exact hlt
                    · exact hs.out i (by omega))
                  clear hs
                  go_wp2
                  go_round
                  case rel => exact ⟨k + 1, 2 * M + 1, by omega, by go_num, by rw [ST.out, ← ES.out], rfl, ⟨by rw [hM.out, Int.pow_succ]; omega⟩, HS2⟩
                  case measure => simp [intOf]; omega
                · have hge : D ≤ S + x := by omega
                  have HP := Kept.mk (plc_eq hk53 (by rw [ST.out, ← ES.out]; exact hge) hs.out)
                  clear hs hlt
                  go_wp2
                  go_ret2
                  exact ⟨by rw [HP.out, ← hM.out]; rfl, hbl⟩
end Go.Proofs.Ytmaehcecilnglaa
