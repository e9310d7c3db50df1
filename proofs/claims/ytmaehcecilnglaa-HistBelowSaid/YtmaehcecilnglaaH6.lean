/-
  The walks of hist.Join and of its reference.
-/
import Derived.Test.YtmaehcecilnglaaH5
import Derived.RegionTactic
import Derived.StillTailTactics
namespace Go.Proofs.Ytmaehcecilnglaa
open Go.RowKit Go.Shelf
set_option linter.unusedVariables false

def addL (A B : List Int) : List Int := List.zipWith (· + ·) A B
def jnE (A B : List Int) : Int := if totE A ≠ 0 ∨ totE B ≠ 0 then 2 else if 4503599627370496 < totV A + totV B then 10 else 0
def jnV (A B : List Int) : List Int := if jnE A B = 0 then addL A B else hZ
theorem addL_len {A B : List Int} (hA : A.length = 54) (hB : B.length = 54) : (addL A B).length = 54 := by unfold addL; simp [hA, hB]
theorem jnV_len {A B : List Int} (hA : A.length = 54) (hB : B.length = 54) : (jnV A B).length = 54 := by
  unfold jnV
  split
  · exact addL_len hA hB
  · exact hZ_len
/-- A, its first k numbers added to. -/
def cur (A B : List Int) (k : Nat) : List Int := (addL A B).take k ++ A.drop k
theorem cur_zero (A B : List Int) : cur A B 0 = A := by simp [cur]
theorem cur_end {A B : List Int} (hA : A.length = 54) (hB : B.length = 54) : cur A B 54 = addL A B := by
  unfold cur
  rw [List.take_of_length_le (by rw [addL_len hA hB]; omega), List.drop_eq_nil_of_le (by omega), List.append_nil]
theorem cur_len {A B : List Int} (hA : A.length = 54) (hB : B.length = 54) {k : Nat} (hk : k ≤ 54) : (cur A B k).length = 54 := by
  unfold cur
  rw [List.length_append, List.length_take, List.length_drop, addL_len hA hB]; omega
theorem cur_at {A B : List Int} (hA : A.length = 54) (hB : B.length = 54) {k : Nat} {a : Int} (hk : k < 54) (ha : A[k]? = some a) : (cur A B k)[k]? = some a := by
  unfold cur
  rw [List.getElem?_append_right (by rw [List.length_take]; omega), List.getElem?_drop, List.length_take, addL_len hA hB, Nat.min_eq_left (by omega), Nat.sub_self, Nat.add_zero]
  exact ha
theorem cur_step {A B : List Int} (hA : A.length = 54) (hB : B.length = 54) {k : Nat} {a b : Int} (hk : k < 54) (ha : A[k]? = some a) (hb : B[k]? = some b) : (cur A B k).set k (a + b) = cur A B (k + 1) := by
  have hs : (addL A B)[k]? = some (a + b) := by unfold addL; rw [List.getElem?_zipWith, ha, hb]
  unfold cur
  rw [List.set_append_right _ _ (by rw [List.length_take]; omega), List.length_take, addL_len hA hB, Nat.min_eq_left (by omega), Nat.sub_self, drop_cons' ha, List.set_cons_zero, List.take_add_one, hs]
  simp

/-- Three boxes. -/
theorem three_hist (w : World) (A B : List Int) {W : World} (hW : ((w.alloc (.cells (hC A) 24)).alloc (.cells (hC B) 24)).alloc (.cells #[.int .i64 0, .int .i64 0, .int .i64 0, .int .i64 0, .int .i64 0, .int .i64 0, .int .i64 0, .int .i64 0, .int .i64 0, .int .i64 0, .int .i64 0, .int .i64 0, .int .i64 0, .int .i64 0, .int .i64 0, .int .i64 0, .int .i64 0, .int .i64 0, .int .i64 0, .int .i64 0, .int .i64 0, .int .i64 0, .int .i64 0, .int .i64 0, .int .i64 0, .int .i64 0, .int .i64 0, .int .i64 0, .int .i64 0, .int .i64 0, .int .i64 0, .int .i64 0, .int .i64 0, .int .i64 0, .int .i64 0, .int .i64 0, .int .i64 0, .int .i64 0, .int .i64 0, .int .i64 0, .int .i64 0, .int .i64 0, .int .i64 0, .int .i64 0, .int .i64 0, .int .i64 0, .int .i64 0, .int .i64 0, .int .i64 0, .int .i64 0, .int .i64 0, .int .i64 0, .int .i64 0, .int .i64 0] 24) = W) :
    HB W w.heap.size A ∧ HB W (w.heap.size + 1) B ∧ HB W (w.heap.size + 2) hZ ∧ W.heap.size = w.heap.size + 3 ∧ Below w.heap.size w W := by
  subst hW
  refine ⟨((HB.new w A).alloc _).alloc _, ?_, ?_, by simp, (((Below.refl _ _).alloc (Nat.le_refl _) _).alloc (by simp) _).alloc (by simp; omega) _⟩
  · have := (HB.new (w.alloc (.cells (hC A) 24)) B).alloc (.cells #[.int .i64 0, .int .i64 0, .int .i64 0, .int .i64 0, .int .i64 0, .int .i64 0, .int .i64 0, .int .i64 0, .int .i64 0, .int .i64 0, .int .i64 0, .int .i64 0, .int .i64 0, .int .i64 0, .int .i64 0, .int .i64 0, .int .i64 0, .int .i64 0, .int .i64 0, .int .i64 0, .int .i64 0, .int .i64 0, .int .i64 0, .int .i64 0, .int .i64 0, .int .i64 0, .int .i64 0, .int .i64 0, .int .i64 0, .int .i64 0, .int .i64 0, .int .i64 0, .int .i64 0, .int .i64 0, .int .i64 0, .int .i64 0, .int .i64 0, .int .i64 0, .int .i64 0, .int .i64 0, .int .i64 0, .int .i64 0, .int .i64 0, .int .i64 0, .int .i64 0, .int .i64 0, .int .i64 0, .int .i64 0, .int .i64 0, .int .i64 0, .int .i64 0, .int .i64 0, .int .i64 0, .int .i64 0] 24)
    simpa using this
  · have := HB.newZ ((w.alloc (.cells (hC A) 24)).alloc (.cells (hC B) 24))
    simpa using this
set_option maxHeartbeats 1000000 in
theorem join_any (A B : List Int) (hA : A.length = 54) (hB : B.length = 54) (w : World) :
    Calls Try.prog 16 #[.agg (hC A), .agg (hC B)] w (HistRes w (jnV A B) (jnE A B)) := by
  unfold HistRes
  by_cases hEA : totE A = 0
  · have sA := rtE_0 hEA
    by_cases hEB : totE B = 0
    · have sB := rtE_0 hEB
      obtain ⟨t1, t2, t3, t4⟩ := tot_each (tot_ok hEA)
      obtain ⟨u1, u2, u3, u4⟩ := tot_each (tot_ok hEB)
      clear t4 u4
      have T1 := Lib.hid t1
      have U1 := Lib.hid u1
      clear t1 u1
      by_cases hs : totV A + totV B ≤ 4503599627370496
      · have R2 : jnE A B = 0 := by unfold jnE; rw [if_neg (by omega), if_neg (by omega)]
        have R1 : jnV A B = addL A B := by unfold jnV; rw [if_pos R2]
        rw [R1, R2]
        have htm : timeB (totV A + totV B) = true := by simp only [timeB]; exact decide_eq_true (by omega)
        have hlen := addL_len hA hB
        clear R1 R2
        obtain ⟨b0, b1, b2, hz0, hbl⟩ := three_hist w A B rfl
        have HZ0 := Lib.hid hz0
        clear hz0
        go_enter Try.func16, Try.ntmps16
        go_wp2_with (refine wpList_load_row rfl 24 _ rfl _ rfl 24 (hC A) (0, 0) _ b0 Try.underlying24 rfl (hist_size hA) ?_)
        refine (total_any A hA _).mono ?_
        rintro e w1 ⟨rfl, hb⟩
        have hz0 := HZ0.out
        replace b0 := b0.below hb (by omega)
        replace b1 := b1.below hb (by omega)
        replace b2 := b2.below hb (by omega)
        replace hbl := hbl.next (by omega) hb
        have hz1 : w.heap.size + 3 ≤ w1.heap.size := by have := hb.size; omega
        clear hb hz0 HZ0
        go_wp2_with (refine wpList_load_row rfl 24 _ rfl _ rfl 24 (hC B) (0, 0) _ b1 Try.underlying24 rfl (hist_size hB) ?_)
        refine (total_any B hB _).mono ?_
        rintro e w2 ⟨rfl, hb⟩
        replace b0 := b0.below hb (by omega)
        replace b1 := b1.below hb (by omega)
        replace b2 := b2.below hb (by omega)
        replace hbl := hbl.next hbl.size hb
        have hz2 : w.heap.size + 3 ≤ w2.heap.size := by have := hb.size; omega
        clear hb hz1
        go_wp2_with (first | (go_at_call 22; refine (htime_any _ _).mono ?_; rintro e w' ⟨rfl, rfl⟩) | (refine wpList_load_row rfl 22 _ rfl _ rfl 24 (hC B) (0, 0) _ b1 Try.underlying22 rfl (arr_size hB) ?_))
        go_loopw [39] (fun i wr => ∃ (k : Nat), k ≤ 54 ∧ i = .int .i64 k ∧ HB wr w.heap.size (cur A B k) ∧ HB wr (w.heap.size + 1) B ∧ HB wr (w.heap.size + 2) hZ ∧ Below w.heap.size w wr) (fun i _ => 54 - (intOf i).toNat)
        case atStart => exact ⟨0, by omega, rfl, by rw [cur_zero]; exact b0, b1, b2, hbl⟩
        case round =>
          clear b0 b1 b2 hbl hz2
          obtain ⟨k, hk, rfl, b0, b1, b2, hbl⟩ := hrel
          by_cases hlt : k < 54
          · obtain ⟨x, hx⟩ : ∃ x, A[k]? = some x := ⟨A[k], List.getElem?_eq_getElem (by omega)⟩
            obtain ⟨y, hy⟩ : ∃ y, B[k]? = some y := ⟨B[k], List.getElem?_eq_getElem (by omega)⟩
            obtain ⟨x0, x1⟩ := T1.out x (List.mem_of_getElem? hx)
            obtain ⟨y0, y1⟩ := U1.out y (List.mem_of_getElem? hy)
            have c0 := b0.cell (cur_at hA hB hlt hx)
            have c1 := b1.cell hy
            have f0 := b0.free k
            have hidx := run_idx hB hlt hy
            have HST := Lib.hid (cur_step hA hB hlt hx hy)
            have ik : (k : Int) < 54 := by omega
            clear hx hy
            go_wp2
            skip
            go_roundw
            case rel => exact ⟨k + 1, by omega, by go_num, by rw [← HST.out]; exact b0.set _, b1.set_far (by simp) _, b2.set_far (by simp) _, (hbl.setCell (p := ⟨w.heap.size, k, none⟩) (Nat.le_refl _) _)⟩
            case measure => simp [intOf]; omega
          · have e : k = 54 := by omega
            subst e
            rw [cur_end hA hB] at b0
            go_wp2_with (first
              | (refine wpList_load_row rfl 24 _ rfl _ rfl 24 (hC (addL A B)) (0, 0) _ b0 Try.underlying24 rfl (hist_size hlen) ?_)
              | (refine wpList_store_row rfl 24 _ _ rfl _ rfl (hC (addL A B)) rfl 24 (hC hZ) b2 (hist_size hlen) (by rw [hC_size, hC_size, hlen, hZ_len]) (hC_one _) ?_))
            exact bodyPost_ret (v := .tuple #[.agg (hC (addL A B)), .int .i64 0]) (results_hist (p := 4) (u := 5) rfl _ _ (w.heap.size + 2) (addL A B) hlen rfl (b2.put _)) rfl ⟨rfl, below_put hbl (by omega) _⟩
      · have R2 : jnE A B = 10 := by unfold jnE; rw [if_neg (by omega), if_pos (by omega)]
        have R1 : jnV A B = hZ := by unfold jnV; rw [if_neg (by omega)]
        rw [R1, R2]
        have htm : timeB (totV A + totV B) = false := by simp only [timeB]; exact decide_eq_false (by omega)
        have hs' : 4503599627370496 < totV A + totV B := by omega
        clear R1 R2 hs
        obtain ⟨b0, b1, b2, hz0, hbl⟩ := three_hist w A B rfl
        have HZ0 := Lib.hid hz0
        clear hz0
        go_enter Try.func16, Try.ntmps16
        go_wp2_with (refine wpList_load_row rfl 24 _ rfl _ rfl 24 (hC A) (0, 0) _ b0 Try.underlying24 rfl (hist_size hA) ?_)
        refine (total_any A hA _).mono ?_
        rintro e w1 ⟨rfl, hb⟩
        have hz0 := HZ0.out
        replace b0 := b0.below hb (by omega)
        replace b1 := b1.below hb (by omega)
        replace b2 := b2.below hb (by omega)
        replace hbl := hbl.next (by omega) hb
        have hz1 : w.heap.size + 3 ≤ w1.heap.size := by have := hb.size; omega
        clear hb hz0 HZ0
        go_wp2_with (refine wpList_load_row rfl 24 _ rfl _ rfl 24 (hC B) (0, 0) _ b1 Try.underlying24 rfl (hist_size hB) ?_)
        refine (total_any B hB _).mono ?_
        rintro e w2 ⟨rfl, hb⟩
        replace b0 := b0.below hb (by omega)
        replace b1 := b1.below hb (by omega)
        replace b2 := b2.below hb (by omega)
        replace hbl := hbl.next hbl.size hb
        have hz2 : w.heap.size + 3 ≤ w2.heap.size := by have := hb.size; omega
        clear hb hz1
        go_wp2_with (first | (refine wpList_store_row rfl 24 _ _ rfl _ rfl (hC hZ) (congrArg Value.agg hZ_cells).symm 24 (hC hZ) b2 (hist_size hZ_len) rfl (hC_one _) ?_) | (go_at_call 22; refine (htime_any _ _).mono ?_; rintro e w' ⟨rfl, rfl⟩))
        exact bodyPost_ret (v := .tuple #[.agg (hC hZ), .int .i64 10]) (results_hist (p := 4) (u := 5) rfl _ _ (w.heap.size + 2) hZ hZ_len rfl (b2.put hZ)) rfl ⟨rfl, below_put hbl (by omega) _⟩
    · have sB := rtE_2 (V := B) (by rcases tot_cases B with h | h <;> omega)
      have eB : totE B = 2 := by rcases tot_cases B with h | h <;> omega
      have R2 : jnE A B = 2 := by unfold jnE; rw [if_pos (.inr hEB)]
      have R1 : jnV A B = hZ := by unfold jnV; rw [if_neg (by omega)]
      rw [R1, R2]
      clear R1 R2 hEB
      obtain ⟨b0, b1, b2, hz0, hbl⟩ := three_hist w A B rfl
      have HZ0 := Lib.hid hz0
      clear hz0
      go_enter Try.func16, Try.ntmps16
      go_wp2_with (refine wpList_load_row rfl 24 _ rfl _ rfl 24 (hC A) (0, 0) _ b0 Try.underlying24 rfl (hist_size hA) ?_)
      refine (total_any A hA _).mono ?_
      rintro e w1 ⟨rfl, hb⟩
      have hz0 := HZ0.out
      replace b0 := b0.below hb (by omega)
      replace b1 := b1.below hb (by omega)
      replace b2 := b2.below hb (by omega)
      replace hbl := hbl.next (by omega) hb
      have hz1 : w.heap.size + 3 ≤ w1.heap.size := by have := hb.size; omega
      clear hb hz0 HZ0
      go_wp2_with (refine wpList_load_row rfl 24 _ rfl _ rfl 24 (hC B) (0, 0) _ b1 Try.underlying24 rfl (hist_size hB) ?_)
      refine (total_any B hB _).mono ?_
      rintro e w2 ⟨rfl, hb⟩
      replace b0 := b0.below hb (by omega)
      replace b1 := b1.below hb (by omega)
      replace b2 := b2.below hb (by omega)
      replace hbl := hbl.next hbl.size hb
      have hz2 : w.heap.size + 3 ≤ w2.heap.size := by have := hb.size; omega
      clear hb hz1
      go_wp2_with (first | (refine wpList_store_row rfl 24 _ _ rfl _ rfl (hC hZ) (congrArg Value.agg hZ_cells).symm 24 (hC hZ) b2 (hist_size hZ_len) rfl (hC_one _) ?_) | (go_at_call 22; refine (htime_any _ _).mono ?_; rintro e w' ⟨rfl, rfl⟩))
      exact bodyPost_ret (v := .tuple #[.agg (hC hZ), .int .i64 2]) (results_hist (p := 4) (u := 5) rfl _ _ (w.heap.size + 2) hZ hZ_len rfl (b2.put hZ)) rfl ⟨rfl, below_put hbl (by omega) _⟩
  · have sA := rtE_2 (V := A) (by rcases tot_cases A with h | h <;> omega)
    have eA : totE A = 2 := by rcases tot_cases A with h | h <;> omega
    have R2 : jnE A B = 2 := by unfold jnE; rw [if_pos (.inl hEA)]
    have R1 : jnV A B = hZ := by unfold jnV; rw [if_neg (by omega)]
    rw [R1, R2]
    clear R1 R2 hEA
    obtain ⟨b0, b1, b2, hz0, hbl⟩ := three_hist w A B rfl
    have HZ0 := Lib.hid hz0
    clear hz0
    go_enter Try.func16, Try.ntmps16
    go_wp2_with (refine wpList_load_row rfl 24 _ rfl _ rfl 24 (hC A) (0, 0) _ b0 Try.underlying24 rfl (hist_size hA) ?_)
    refine (total_any A hA _).mono ?_
    rintro e w1 ⟨rfl, hb⟩
    have hz0 := HZ0.out
    replace b0 := b0.below hb (by omega)
    replace b1 := b1.below hb (by omega)
    replace b2 := b2.below hb (by omega)
    replace hbl := hbl.next (by omega) hb
    have hz1 : w.heap.size + 3 ≤ w1.heap.size := by have := hb.size; omega
    clear hb hz0 HZ0
    go_wp2_with (refine wpList_load_row rfl 24 _ rfl _ rfl 24 (hC B) (0, 0) _ b1 Try.underlying24 rfl (hist_size hB) ?_)
    refine (total_any B hB _).mono ?_
    rintro e w2 ⟨rfl, hb⟩
    replace b0 := b0.below hb (by omega)
    replace b1 := b1.below hb (by omega)
    replace b2 := b2.below hb (by omega)
    replace hbl := hbl.next hbl.size hb
    have hz2 : w.heap.size + 3 ≤ w2.heap.size := by have := hb.size; omega
    clear hb hz1
    go_wp2_with (first | (refine wpList_store_row rfl 24 _ _ rfl _ rfl (hC hZ) (congrArg Value.agg hZ_cells).symm 24 (hC hZ) b2 (hist_size hZ_len) rfl (hC_one _) ?_) | (go_at_call 22; refine (htime_any _ _).mono ?_; rintro e w' ⟨rfl, rfl⟩))
    exact bodyPost_ret (v := .tuple #[.agg (hC hZ), .int .i64 2]) (results_hist (p := 4) (u := 5) rfl _ _ (w.heap.size + 2) hZ hZ_len rfl (b2.put hZ)) rfl ⟨rfl, below_put hbl (by omega) _⟩
set_option maxHeartbeats 1000000 in
theorem rjoin_any (A B : List Int) (hA : A.length = 54) (hB : B.length = 54) (w : World) :
    Calls Try.prog 17 #[.agg (hC A), .agg (hC B)] w (HistRes w (jnV A B) (jnE A B)) := by
  unfold HistRes
  by_cases hEA : totE A = 0
  · have sA := rtE_0 hEA
    by_cases hEB : totE B = 0
    · have sB := rtE_0 hEB
      obtain ⟨t1, t2, t3, t4⟩ := tot_each (tot_ok hEA)
      obtain ⟨u1, u2, u3, u4⟩ := tot_each (tot_ok hEB)
      clear t4 u4
      have T1 := Lib.hid t1
      have U1 := Lib.hid u1
      clear t1 u1
      by_cases hs : totV A + totV B ≤ 4503599627370496
      · have R2 : jnE A B = 0 := by unfold jnE; rw [if_neg (by omega), if_neg (by omega)]
        have R1 : jnV A B = addL A B := by unfold jnV; rw [if_pos R2]
        rw [R1, R2]
        have htm : timeB (totV A + totV B) = true := by simp only [timeB]; exact decide_eq_true (by omega)
        have hlen := addL_len hA hB
        clear R1 R2
        obtain ⟨b0, b1, b2, hz0, hbl⟩ := three_hist w A B rfl
        have HZ0 := Lib.hid hz0
        clear hz0
        go_enter Try.func17, Try.ntmps17
        go_wp2_with (refine wpList_load_row rfl 24 _ rfl _ rfl 24 (hC A) (0, 0) _ b0 Try.underlying24 rfl (hist_size hA) ?_)
        refine (rtotalB_any A hA _).mono ?_
        rintro e w1 ⟨rfl, hb⟩
        have hz0 := HZ0.out
        replace b0 := b0.below hb (by omega)
        replace b1 := b1.below hb (by omega)
        replace b2 := b2.below hb (by omega)
        replace hbl := hbl.next (by omega) hb
        have hz1 : w.heap.size + 3 ≤ w1.heap.size := by have := hb.size; omega
        clear hb hz0 HZ0
        go_wp2_with (refine wpList_load_row rfl 24 _ rfl _ rfl 24 (hC B) (0, 0) _ b1 Try.underlying24 rfl (hist_size hB) ?_)
        refine (rtotalB_any B hB _).mono ?_
        rintro e w2 ⟨rfl, hb⟩
        replace b0 := b0.below hb (by omega)
        replace b1 := b1.below hb (by omega)
        replace b2 := b2.below hb (by omega)
        replace hbl := hbl.next hbl.size hb
        have hz2 : w.heap.size + 3 ≤ w2.heap.size := by have := hb.size; omega
        clear hb hz1
        go_wp2
        go_loopw [33] (fun i wr => ∃ (k : Nat), k ≤ 54 ∧ i = .int .i64 k ∧ HB wr w.heap.size (cur A B k) ∧ HB wr (w.heap.size + 1) B ∧ HB wr (w.heap.size + 2) hZ ∧ Below w.heap.size w wr) (fun i _ => 54 - (intOf i).toNat)
        case atStart => exact ⟨0, by omega, rfl, by rw [cur_zero]; exact b0, b1, b2, hbl⟩
        case round =>
          clear b0 b1 b2 hbl hz2
          obtain ⟨k, hk, rfl, b0, b1, b2, hbl⟩ := hrel
          by_cases hlt : k < 54
          · obtain ⟨x, hx⟩ : ∃ x, A[k]? = some x := ⟨A[k], List.getElem?_eq_getElem (by omega)⟩
            obtain ⟨y, hy⟩ : ∃ y, B[k]? = some y := ⟨B[k], List.getElem?_eq_getElem (by omega)⟩
            obtain ⟨x0, x1⟩ := T1.out x (List.mem_of_getElem? hx)
            obtain ⟨y0, y1⟩ := U1.out y (List.mem_of_getElem? hy)
            have c0 := b0.cell (cur_at hA hB hlt hx)
            have c1 := b1.cell hy
            have f0 := b0.free k
            have hidx := run_idx hB hlt hy
            have HST := Lib.hid (cur_step hA hB hlt hx hy)
            have ik : (k : Int) < 54 := by omega
            clear hx hy
            go_wp2
            go_region; all_goals go_wp2
            go_roundw
            case rel => exact ⟨k + 1, by omega, by go_num, by rw [← HST.out]; exact b0.set _, b1.set_far (by simp) _, b2.set_far (by simp) _, (hbl.setCell (p := ⟨w.heap.size, k, none⟩) (Nat.le_refl _) _).drew⟩
            case measure => simp [intOf]; omega
          · have e : k = 54 := by omega
            subst e
            rw [cur_end hA hB] at b0
            go_wp2_with (first
              | (refine wpList_load_row rfl 24 _ rfl _ rfl 24 (hC (addL A B)) (0, 0) _ b0 Try.underlying24 rfl (hist_size hlen) ?_)
              | (refine wpList_store_row rfl 24 _ _ rfl _ rfl (hC (addL A B)) rfl 24 (hC hZ) b2 (hist_size hlen) (by rw [hC_size, hC_size, hlen, hZ_len]) (hC_one _) ?_))
            exact bodyPost_ret (v := .tuple #[.agg (hC (addL A B)), .int .i64 0]) (results_hist (p := 4) (u := 5) rfl _ _ (w.heap.size + 2) (addL A B) hlen rfl (b2.put _)) rfl ⟨rfl, below_put hbl (by omega) _⟩
      · have R2 : jnE A B = 10 := by unfold jnE; rw [if_neg (by omega), if_pos (by omega)]
        have R1 : jnV A B = hZ := by unfold jnV; rw [if_neg (by omega)]
        rw [R1, R2]
        have htm : timeB (totV A + totV B) = false := by simp only [timeB]; exact decide_eq_false (by omega)
        have hs' : 4503599627370496 < totV A + totV B := by omega
        clear R1 R2 hs
        obtain ⟨b0, b1, b2, hz0, hbl⟩ := three_hist w A B rfl
        have HZ0 := Lib.hid hz0
        clear hz0
        go_enter Try.func17, Try.ntmps17
        go_wp2_with (refine wpList_load_row rfl 24 _ rfl _ rfl 24 (hC A) (0, 0) _ b0 Try.underlying24 rfl (hist_size hA) ?_)
        refine (rtotalB_any A hA _).mono ?_
        rintro e w1 ⟨rfl, hb⟩
        have hz0 := HZ0.out
        replace b0 := b0.below hb (by omega)
        replace b1 := b1.below hb (by omega)
        replace b2 := b2.below hb (by omega)
        replace hbl := hbl.next (by omega) hb
        have hz1 : w.heap.size + 3 ≤ w1.heap.size := by have := hb.size; omega
        clear hb hz0 HZ0
        go_wp2_with (refine wpList_load_row rfl 24 _ rfl _ rfl 24 (hC B) (0, 0) _ b1 Try.underlying24 rfl (hist_size hB) ?_)
        refine (rtotalB_any B hB _).mono ?_
        rintro e w2 ⟨rfl, hb⟩
        replace b0 := b0.below hb (by omega)
        replace b1 := b1.below hb (by omega)
        replace b2 := b2.below hb (by omega)
        replace hbl := hbl.next hbl.size hb
        have hz2 : w.heap.size + 3 ≤ w2.heap.size := by have := hb.size; omega
        clear hb hz1
        go_wp2_with (first | (refine wpList_store_row rfl 24 _ _ rfl _ rfl (hC hZ) (congrArg Value.agg hZ_cells).symm 24 (hC hZ) b2 (hist_size hZ_len) rfl (hC_one _) ?_) | fail)
        exact bodyPost_ret (v := .tuple #[.agg (hC hZ), .int .i64 10]) (results_hist (p := 4) (u := 5) rfl _ _ (w.heap.size + 2) hZ hZ_len rfl (b2.put hZ)) rfl ⟨rfl, below_put hbl (by omega) _⟩
    · have sB := rtE_2 (V := B) (by rcases tot_cases B with h | h <;> omega)
      have eB : totE B = 2 := by rcases tot_cases B with h | h <;> omega
      have R2 : jnE A B = 2 := by unfold jnE; rw [if_pos (.inr hEB)]
      have R1 : jnV A B = hZ := by unfold jnV; rw [if_neg (by omega)]
      rw [R1, R2]
      clear R1 R2 hEB
      obtain ⟨b0, b1, b2, hz0, hbl⟩ := three_hist w A B rfl
      have HZ0 := Lib.hid hz0
      clear hz0
      go_enter Try.func17, Try.ntmps17
      go_wp2_with (refine wpList_load_row rfl 24 _ rfl _ rfl 24 (hC A) (0, 0) _ b0 Try.underlying24 rfl (hist_size hA) ?_)
      refine (rtotalB_any A hA _).mono ?_
      rintro e w1 ⟨rfl, hb⟩
      have hz0 := HZ0.out
      replace b0 := b0.below hb (by omega)
      replace b1 := b1.below hb (by omega)
      replace b2 := b2.below hb (by omega)
      replace hbl := hbl.next (by omega) hb
      have hz1 : w.heap.size + 3 ≤ w1.heap.size := by have := hb.size; omega
      clear hb hz0 HZ0
      go_wp2_with (refine wpList_load_row rfl 24 _ rfl _ rfl 24 (hC B) (0, 0) _ b1 Try.underlying24 rfl (hist_size hB) ?_)
      refine (rtotalB_any B hB _).mono ?_
      rintro e w2 ⟨rfl, hb⟩
      replace b0 := b0.below hb (by omega)
      replace b1 := b1.below hb (by omega)
      replace b2 := b2.below hb (by omega)
      replace hbl := hbl.next hbl.size hb
      have hz2 : w.heap.size + 3 ≤ w2.heap.size := by have := hb.size; omega
      clear hb hz1
      go_wp2_with (first | (refine wpList_store_row rfl 24 _ _ rfl _ rfl (hC hZ) (congrArg Value.agg hZ_cells).symm 24 (hC hZ) b2 (hist_size hZ_len) rfl (hC_one _) ?_) | fail)
      exact bodyPost_ret (v := .tuple #[.agg (hC hZ), .int .i64 2]) (results_hist (p := 4) (u := 5) rfl _ _ (w.heap.size + 2) hZ hZ_len rfl (b2.put hZ)) rfl ⟨rfl, below_put hbl (by omega) _⟩
  · have sA := rtE_2 (V := A) (by rcases tot_cases A with h | h <;> omega)
    have eA : totE A = 2 := by rcases tot_cases A with h | h <;> omega
    have R2 : jnE A B = 2 := by unfold jnE; rw [if_pos (.inl hEA)]
    have R1 : jnV A B = hZ := by unfold jnV; rw [if_neg (by omega)]
    rw [R1, R2]
    clear R1 R2 hEA
    obtain ⟨b0, b1, b2, hz0, hbl⟩ := three_hist w A B rfl
    have HZ0 := Lib.hid hz0
    clear hz0
    go_enter Try.func17, Try.ntmps17
    go_wp2_with (refine wpList_load_row rfl 24 _ rfl _ rfl 24 (hC A) (0, 0) _ b0 Try.underlying24 rfl (hist_size hA) ?_)
    refine (rtotalB_any A hA _).mono ?_
    rintro e w1 ⟨rfl, hb⟩
    have hz0 := HZ0.out
    replace b0 := b0.below hb (by omega)
    replace b1 := b1.below hb (by omega)
    replace b2 := b2.below hb (by omega)
    replace hbl := hbl.next (by omega) hb
    have hz1 : w.heap.size + 3 ≤ w1.heap.size := by have := hb.size; omega
    clear hb hz0 HZ0
    go_wp2_with (refine wpList_load_row rfl 24 _ rfl _ rfl 24 (hC B) (0, 0) _ b1 Try.underlying24 rfl (hist_size hB) ?_)
    refine (rtotalB_any B hB _).mono ?_
    rintro e w2 ⟨rfl, hb⟩
    replace b0 := b0.below hb (by omega)
    replace b1 := b1.below hb (by omega)
    replace b2 := b2.below hb (by omega)
    replace hbl := hbl.next hbl.size hb
    have hz2 : w.heap.size + 3 ≤ w2.heap.size := by have := hb.size; omega
    clear hb hz1
    go_wp2_with (first | (refine wpList_store_row rfl 24 _ _ rfl _ rfl (hC hZ) (congrArg Value.agg hZ_cells).symm 24 (hC hZ) b2 (hist_size hZ_len) rfl (hC_one _) ?_) | fail)
    exact bodyPost_ret (v := .tuple #[.agg (hC hZ), .int .i64 2]) (results_hist (p := 4) (u := 5) rfl _ _ (w.heap.size + 2) hZ hZ_len rfl (b2.put hZ)) rfl ⟨rfl, below_put hbl (by omega) _⟩
end Go.Proofs.Ytmaehcecilnglaa
