/-
  The walks of hist.Add and of its reference.
-/
import Derived.Test.YtmaehcecilnglaaH2
namespace Go.Proofs.Ytmaehcecilnglaa
open Go.RowKit
set_option linter.unusedVariables false

def bl (n : Int) : Nat := Lib.bitLen n.toNat
def adV (V : List Int) (n : Int) : List Int := if totE V ≠ 0 then hZ else if timeB n = false ∨ totV V = 4503599627370496 then V else V.set (bl n) ((V[bl n]?).getD 0 + 1)
def adE (V : List Int) (n : Int) : Int := if totE V ≠ 0 then 2 else if timeB n = false then 1 else if totV V = 4503599627370496 then 10 else 0
theorem adV_len {V : List Int} (h : V.length = 54) (n : Int) : (adV V n).length = 54 := by
  unfold adV
  split
  · exact hZ_len
  · split
    · exact h
    · simpa using h
theorem tot_cases (V : List Int) : totE V = 0 ∨ totE V = 2 := by
  unfold totE
  split
  · exact .inl rfl
  · exact .inr rfl
theorem tot_each : ∀ {V : List Int} {s : Int}, totO V = some s → (∀ x ∈ V, 0 ≤ x ∧ x ≤ 4503599627370496) ∧ 0 ≤ s ∧ s ≤ 4503599627370496 ∧ s = V.foldl (· + ·) 0 := by
  intro V
  refine snoc_rec (P := fun V => ∀ {s : Int}, totO V = some s → (∀ x ∈ V, 0 ≤ x ∧ x ≤ 4503599627370496) ∧ 0 ≤ s ∧ s ≤ 4503599627370496 ∧ s = V.foldl (· + ·) 0) ?_ ?_ V
  · intro s h
    have : s = 0 := by injection h with h; exact h.symm
    subst this
    exact ⟨by simp, by omega, by omega, rfl⟩
  · intro V x ih s h
    rw [totO_snoc] at h
    cases ho : totO V with
    | none => rw [ho] at h; cases h
    | some a =>
      rw [ho] at h
      obtain ⟨h1, h2, h3, h4⟩ := ih ho
      unfold addT at h
      simp only [Option.bind_some] at h
      split at h
      · rename_i hc
        injection h with h
        subst h
        refine ⟨fun y hy => ?_, by omega, by omega, by rw [List.foldl_append, ← h4]; rfl⟩
        rcases List.mem_append.1 hy with hy | hy
        · exact h1 y hy
        · have : y = x := by simpa using hy
          subst this
          omega
      · cases h
theorem tot_ok {V : List Int} (h : totE V = 0) : totO V = some (totV V) := by
  unfold totE at h
  unfold totV
  cases ho : totO V with
  | none => rw [ho] at h; cases h
  | some s => rfl
theorem rtE_0 {V : List Int} (h : totE V = 0) : (totO V).isSome = true := by unfold totE at h; split at h; · assumption
                                                                             · omega
theorem rtE_2 {V : List Int} (h : totE V = 2) : (totO V).isSome = false := by
  unfold totE at h
  split at h
  · omega
  · rename_i hc; simpa using hc
def HistRes (w : World) (V : List Int) (E : Int) (e : Ending) (w' : World) : Prop := e = .returned (.tuple #[.agg (hC V), .int .i64 E]) ∧ Below w.heap.size w w'

theorem len64_any (m : Nat) (hm : m ≤ 4503599627370496) (W : World) : Calls Try.prog 23 #[.int .u64 (m : Int)] W fun e w' => e = .returned (.int .i64 (Lib.bitLen m : Int)) ∧ W = w' :=
  (bits_Len64 (m : Int) W (by omega) (by omega)).mono fun e w' ⟨h1, h2⟩ => ⟨by simpa using h1, h2.symm⟩
set_option maxHeartbeats 1000000 in
theorem add_any (V : List Int) (hV : V.length = 54) (n : Int) (w : World) :
    Calls Try.prog 7 #[.agg (hC V), .int .i64 n] w (HistRes w (adV V n) (adE V n)) := by
  unfold HistRes
  by_cases hE : totE V = 0
  · obtain ⟨t1, t2, t3, t4⟩ := tot_each (tot_ok hE)
    clear t4
    have hS := rtE_0 hE
    by_cases hn : 0 ≤ n ∧ n ≤ 4503599627370496
    · have ht : timeB n = true := by simp only [timeB]; exact decide_eq_true hn
      by_cases hM : totV V = 4503599627370496
      · have hM2 : (totV V == 4503599627370496) = true := by simp [hM]
        have hM3 : 4503599627370496 ≤ totV V := by omega
        have R1 : adV V n = V := by unfold adV; rw [if_neg (by omega), if_pos (.inr hM)]
        have R2 : adE V n = 10 := by unfold adE; rw [if_neg (by omega), if_neg (by simp [ht]), if_pos hM]
        rw [R1, R2]
        clear R1 R2 t1 hM
        go_enter Try.func7, Try.ntmps7
        go_wp2_with (refine wpList_load_row rfl 24 _ rfl _ rfl 24 (hC V) (0, 0) _ ((HB.new w V).alloc _) Try.underlying24 rfl (hist_size hV) ?_)
        refine (total_any V hV _).mono ?_
        rintro e w1 ⟨rfl, hb⟩
        have b0 : HB w1 w.heap.size V := ((HB.new w V).alloc _).below hb (by simp; omega)
        have b1 : HB w1 (w.heap.size + 1) hZ := by
          have := (HB.newZ (w.alloc (.cells (hC V) 24))).below hb (by simp)
          simpa using this
        have hbl : Below w.heap.size w w1 := (hb.box (by simp)).box (Nat.le_refl _)
        have hs1 := hb.size
        simp only [World.size_alloc] at hs1
        clear hb
        go_wp2_with (first | (refine wpList_load_row rfl 24 _ rfl _ rfl 24 (hC V) (0, 0) _ b0 Try.underlying24 rfl (hist_size hV) ?_) | (refine wpList_store_row rfl 24 _ _ rfl _ rfl (hC V) rfl 24 (hC hZ) b1 (hist_size hV) (by rw [hC_size, hC_size, hV, hZ_len]) (hC_one _) ?_) | (go_at_call 22; refine (htime_any _ _).mono ?_; rintro e w' ⟨rfl, rfl⟩))
        exact bodyPost_ret (v := .tuple #[.agg (hC V), .int .i64 10]) (results_hist (p := 4) (u := 5) rfl _ _ (w.heap.size + 1) V hV rfl (b1.put V)) rfl ⟨rfl, below_put hbl (by omega) _⟩
      · have hM2 : (totV V == 4503599627370496) = false := by simp [hM]
        have hM3 : totV V < 4503599627370496 := by omega
        obtain ⟨m, rfl⟩ := Int.eq_ofNat_of_zero_le hn.1
        have hm : m ≤ 4503599627370496 := by omega
        have hlm := len_le hm
        obtain ⟨x, hx⟩ : ∃ x, V[Lib.bitLen m]? = some x := ⟨V[Lib.bitLen m], List.getElem?_eq_getElem (by omega)⟩
        have hxb := t1 x (List.mem_of_getElem? hx)
        obtain ⟨x0, x1⟩ := hxb
        have R1 : adV V m = V.set (Lib.bitLen m) (x + 1) := by unfold adV; rw [if_neg (by omega), if_neg (by simp [ht, hM])]; unfold bl; rw [Int.toNat_natCast, hx]; rfl
        have R2 : adE V m = 0 := by unfold adE; rw [if_neg (by omega), if_neg (by simp [ht]), if_neg hM]
        rw [R1, R2]
        clear R1 R2 t1 hM
        have cl := len64_any m hm
        obtain ⟨l, hl⟩ : ∃ l, l = Lib.bitLen m := ⟨_, rfl⟩
        rw [← hl] at hx hlm cl ⊢
        have CL := Lib.hid cl
        clear cl
        have hV2 : (V.set l (x + 1)).length = 54 := by simpa using hV
        have HL := Lib.hid hl
        have HX := Lib.hid hx
        clear hx hl
        go_enter Try.func7, Try.ntmps7
        go_wp2_with (refine wpList_load_row rfl 24 _ rfl _ rfl 24 (hC V) (0, 0) _ ((HB.new w V).alloc _) Try.underlying24 rfl (hist_size hV) ?_)
        refine (total_any V hV _).mono ?_
        rintro e w1 ⟨rfl, hb⟩
        have b0 : HB w1 w.heap.size V := ((HB.new w V).alloc _).below hb (by simp; omega)
        have b1 : HB w1 (w.heap.size + 1) hZ := by
          have := (HB.newZ (w.alloc (.cells (hC V) 24))).below hb (by simp)
          simpa using this
        have hbl : Below w.heap.size w w1 := (hb.box (by simp)).box (Nat.le_refl _)
        have hs1 := hb.size
        simp only [World.size_alloc] at hs1
        clear hb
        have c0 := b0.cell HX.out
        have f0 := b0.free l
        go_wp2_with (first | (go_at_call 22; refine (htime_any _ _).mono ?_; rintro e w' ⟨rfl, rfl⟩))
        refine (CL.out _).mono ?_
        rintro e w2 ⟨rfl, rfl⟩
        have b2 : HB (w1.setCell ⟨w.heap.size, l, none⟩ (.int .i64 (x + 1))) w.heap.size (V.set l (x + 1)) := b0.set (x + 1)
        have b3 : HB (w1.setCell ⟨w.heap.size, l, none⟩ (.int .i64 (x + 1))) (w.heap.size + 1) hZ := b1.set_far (by simp) _
        go_wp2_with (first | (refine wpList_load_row rfl 24 _ rfl _ rfl 24 (hC (V.set l (x + 1))) (0, 0) _ b2 Try.underlying24 rfl (hist_size hV2) ?_) | (refine wpList_store_row rfl 24 _ _ rfl _ rfl (hC (V.set l (x + 1))) rfl 24 (hC hZ) b3 (hist_size hV2) (by rw [hC_size, hC_size, hV2, hZ_len]) (hC_one _) ?_))
        exact bodyPost_ret (v := .tuple #[.agg (hC (V.set l (x + 1))), .int .i64 0]) (results_hist (p := 4) (u := 5) rfl _ _ (w.heap.size + 1) (V.set l (x + 1)) hV2 rfl (b3.put _)) rfl ⟨rfl, below_put (hbl.setCell (p := ⟨w.heap.size, l, none⟩) (Nat.le_refl _) _) (by omega) _⟩
    · have ht : timeB n = false := by simp only [timeB]; exact decide_eq_false hn
      have R1 : adV V n = V := by unfold adV; rw [if_neg (by omega), if_pos (.inl ht)]
      have R2 : adE V n = 1 := by unfold adE; rw [if_neg (by omega), if_pos ht]
      rw [R1, R2]
      clear R1 R2 t1 hn
      go_enter Try.func7, Try.ntmps7
      go_wp2_with (refine wpList_load_row rfl 24 _ rfl _ rfl 24 (hC V) (0, 0) _ ((HB.new w V).alloc _) Try.underlying24 rfl (hist_size hV) ?_)
      refine (total_any V hV _).mono ?_
      rintro e w1 ⟨rfl, hb⟩
      have b0 : HB w1 w.heap.size V := ((HB.new w V).alloc _).below hb (by simp; omega)
      have b1 : HB w1 (w.heap.size + 1) hZ := by
        have := (HB.newZ (w.alloc (.cells (hC V) 24))).below hb (by simp)
        simpa using this
      have hbl : Below w.heap.size w w1 := (hb.box (by simp)).box (Nat.le_refl _)
      have hs1 := hb.size
      simp only [World.size_alloc] at hs1
      clear hb
      go_wp2_with (first | (refine wpList_load_row rfl 24 _ rfl _ rfl 24 (hC V) (0, 0) _ b0 Try.underlying24 rfl (hist_size hV) ?_) | (refine wpList_store_row rfl 24 _ _ rfl _ rfl (hC V) rfl 24 (hC hZ) b1 (hist_size hV) (by rw [hC_size, hC_size, hV, hZ_len]) (hC_one _) ?_) | (go_at_call 22; refine (htime_any _ _).mono ?_; rintro e w' ⟨rfl, rfl⟩))
      exact bodyPost_ret (v := .tuple #[.agg (hC V), .int .i64 1]) (results_hist (p := 4) (u := 5) rfl _ _ (w.heap.size + 1) V hV rfl (b1.put V)) rfl ⟨rfl, below_put hbl (by omega) _⟩
  · have hE2 : totE V = 2 := by rcases tot_cases V with h | h <;> omega
    have hS := rtE_2 hE2
    have R1 : adV V n = hZ := by unfold adV; rw [if_pos hE]
    have R2 : adE V n = 2 := by unfold adE; rw [if_pos hE]
    rw [R1, R2]
    clear R1 R2 hE
    go_enter Try.func7, Try.ntmps7
    go_wp2_with (refine wpList_load_row rfl 24 _ rfl _ rfl 24 (hC V) (0, 0) _ ((HB.new w V).alloc _) Try.underlying24 rfl (hist_size hV) ?_)
    refine (total_any V hV _).mono ?_
    rintro e w1 ⟨rfl, hb⟩
    have b0 : HB w1 w.heap.size V := ((HB.new w V).alloc _).below hb (by simp; omega)
    have b1 : HB w1 (w.heap.size + 1) hZ := by
      have := (HB.newZ (w.alloc (.cells (hC V) 24))).below hb (by simp)
      simpa using this
    have hbl : Below w.heap.size w w1 := (hb.box (by simp)).box (Nat.le_refl _)
    have hs1 := hb.size
    simp only [World.size_alloc] at hs1
    clear hb
    go_wp2_with (refine wpList_store_row rfl 24 _ _ rfl _ rfl (hC hZ) (congrArg Value.agg hZ_cells).symm 24 (hC hZ) b1 (hist_size hZ_len) rfl (hC_one _) ?_)
    exact bodyPost_ret (v := .tuple #[.agg (hC hZ), .int .i64 2]) (results_hist (p := 4) (u := 5) rfl _ _ (w.heap.size + 1) hZ hZ_len rfl (b1.put hZ)) rfl ⟨rfl, below_put hbl (by omega) _⟩
set_option maxHeartbeats 1000000 in
theorem radd_any (V : List Int) (hV : V.length = 54) (n : Int) (w : World) :
    Calls Try.prog 8 #[.agg (hC V), .int .i64 n] w (HistRes w (adV V n) (adE V n)) := by
  unfold HistRes
  by_cases hE : totE V = 0
  · obtain ⟨t1, t2, t3, t4⟩ := tot_each (tot_ok hE)
    clear t4
    have hS := rtE_0 hE
    by_cases hn : 0 ≤ n ∧ n ≤ 4503599627370496
    · have ht : timeB n = true := by simp only [timeB]; exact decide_eq_true hn
      by_cases hM : totV V = 4503599627370496
      · have hM2 : (totV V == 4503599627370496) = true := by simp [hM]
        have hM3 : 4503599627370496 ≤ totV V := by omega
        have R1 : adV V n = V := by unfold adV; rw [if_neg (by omega), if_pos (.inr hM)]
        have R2 : adE V n = 10 := by unfold adE; rw [if_neg (by omega), if_neg (by simp [ht]), if_pos hM]
        rw [R1, R2]
        clear R1 R2 t1 hM
        go_enter Try.func8, Try.ntmps8
        go_wp2_with (refine wpList_load_row rfl 24 _ rfl _ rfl 24 (hC V) (0, 0) _ ((HB.new w V).alloc _) Try.underlying24 rfl (hist_size hV) ?_)
        refine (rtotalB_any V hV _).mono ?_
        rintro e w1 ⟨rfl, hb⟩
        have b0 : HB w1 w.heap.size V := ((HB.new w V).alloc _).below hb (by simp; omega)
        have b1 : HB w1 (w.heap.size + 1) hZ := by
          have := (HB.newZ (w.alloc (.cells (hC V) 24))).below hb (by simp)
          simpa using this
        have hbl : Below w.heap.size w w1 := (hb.box (by simp)).box (Nat.le_refl _)
        have hs1 := hb.size
        simp only [World.size_alloc] at hs1
        clear hb
        go_wp2_with (first | (refine wpList_load_row rfl 24 _ rfl _ rfl 24 (hC V) (0, 0) _ b0 Try.underlying24 rfl (hist_size hV) ?_) | (refine wpList_store_row rfl 24 _ _ rfl _ rfl (hC V) rfl 24 (hC hZ) b1 (hist_size hV) (by rw [hC_size, hC_size, hV, hZ_len]) (hC_one _) ?_) | (go_at_call 25; refine (hrtime_any _ _).mono ?_; rintro e w' ⟨rfl, rfl⟩))
        exact bodyPost_ret (v := .tuple #[.agg (hC V), .int .i64 10]) (results_hist (p := 4) (u := 5) rfl _ _ (w.heap.size + 1) V hV rfl (b1.put V)) rfl ⟨rfl, below_put hbl (by omega) _⟩
      · have hM2 : (totV V == 4503599627370496) = false := by simp [hM]
        have hM3 : totV V < 4503599627370496 := by omega
        obtain ⟨m, rfl⟩ := Int.eq_ofNat_of_zero_le hn.1
        have hm : m ≤ 4503599627370496 := by omega
        have hlm := len_le hm
        obtain ⟨x, hx⟩ : ∃ x, V[Lib.bitLen m]? = some x := ⟨V[Lib.bitLen m], List.getElem?_eq_getElem (by omega)⟩
        have hxb := t1 x (List.mem_of_getElem? hx)
        obtain ⟨x0, x1⟩ := hxb
        have R1 : adV V m = V.set (Lib.bitLen m) (x + 1) := by unfold adV; rw [if_neg (by omega), if_neg (by simp [ht, hM])]; unfold bl; rw [Int.toNat_natCast, hx]; rfl
        have R2 : adE V m = 0 := by unfold adE; rw [if_neg (by omega), if_neg (by simp [ht]), if_neg hM]
        rw [R1, R2]
        clear R1 R2 t1 hM
        have cl := bitsOf_any m hm
        obtain ⟨l, hl⟩ : ∃ l, l = Lib.bitLen m := ⟨_, rfl⟩
        rw [← hl] at hx hlm cl ⊢
        have CL := Lib.hid cl
        clear cl
        have hV2 : (V.set l (x + 1)).length = 54 := by simpa using hV
        have HL := Lib.hid hl
        have HX := Lib.hid hx
        clear hx hl
        go_enter Try.func8, Try.ntmps8
        go_wp2_with (refine wpList_load_row rfl 24 _ rfl _ rfl 24 (hC V) (0, 0) _ ((HB.new w V).alloc _) Try.underlying24 rfl (hist_size hV) ?_)
        refine (rtotalB_any V hV _).mono ?_
        rintro e w1 ⟨rfl, hb⟩
        have b0 : HB w1 w.heap.size V := ((HB.new w V).alloc _).below hb (by simp; omega)
        have b1 : HB w1 (w.heap.size + 1) hZ := by
          have := (HB.newZ (w.alloc (.cells (hC V) 24))).below hb (by simp)
          simpa using this
        have hbl : Below w.heap.size w w1 := (hb.box (by simp)).box (Nat.le_refl _)
        have hs1 := hb.size
        simp only [World.size_alloc] at hs1
        clear hb
        have c0 := b0.cell HX.out
        have f0 := b0.free l
        go_wp2_with (first | (go_at_call 25; refine (hrtime_any _ _).mono ?_; rintro e w' ⟨rfl, rfl⟩))
        refine (CL.out _).mono ?_
        rintro e w2 ⟨rfl, rfl⟩
        have b2 : HB (w1.setCell ⟨w.heap.size, l, none⟩ (.int .i64 (x + 1))) w.heap.size (V.set l (x + 1)) := b0.set (x + 1)
        have b3 : HB (w1.setCell ⟨w.heap.size, l, none⟩ (.int .i64 (x + 1))) (w.heap.size + 1) hZ := b1.set_far (by simp) _
        go_wp2_with (first | (refine wpList_load_row rfl 24 _ rfl _ rfl 24 (hC (V.set l (x + 1))) (0, 0) _ b2 Try.underlying24 rfl (hist_size hV2) ?_) | (refine wpList_store_row rfl 24 _ _ rfl _ rfl (hC (V.set l (x + 1))) rfl 24 (hC hZ) b3 (hist_size hV2) (by rw [hC_size, hC_size, hV2, hZ_len]) (hC_one _) ?_))
        exact bodyPost_ret (v := .tuple #[.agg (hC (V.set l (x + 1))), .int .i64 0]) (results_hist (p := 4) (u := 5) rfl _ _ (w.heap.size + 1) (V.set l (x + 1)) hV2 rfl (b3.put _)) rfl ⟨rfl, below_put (hbl.setCell (p := ⟨w.heap.size, l, none⟩) (Nat.le_refl _) _) (by omega) _⟩
    · have ht : timeB n = false := by simp only [timeB]; exact decide_eq_false hn
      have R1 : adV V n = V := by unfold adV; rw [if_neg (by omega), if_pos (.inl ht)]
      have R2 : adE V n = 1 := by unfold adE; rw [if_neg (by omega), if_pos ht]
      rw [R1, R2]
      clear R1 R2 t1 hn
      go_enter Try.func8, Try.ntmps8
      go_wp2_with (refine wpList_load_row rfl 24 _ rfl _ rfl 24 (hC V) (0, 0) _ ((HB.new w V).alloc _) Try.underlying24 rfl (hist_size hV) ?_)
      refine (rtotalB_any V hV _).mono ?_
      rintro e w1 ⟨rfl, hb⟩
      have b0 : HB w1 w.heap.size V := ((HB.new w V).alloc _).below hb (by simp; omega)
      have b1 : HB w1 (w.heap.size + 1) hZ := by
        have := (HB.newZ (w.alloc (.cells (hC V) 24))).below hb (by simp)
        simpa using this
      have hbl : Below w.heap.size w w1 := (hb.box (by simp)).box (Nat.le_refl _)
      have hs1 := hb.size
      simp only [World.size_alloc] at hs1
      clear hb
      go_wp2_with (first | (refine wpList_load_row rfl 24 _ rfl _ rfl 24 (hC V) (0, 0) _ b0 Try.underlying24 rfl (hist_size hV) ?_) | (refine wpList_store_row rfl 24 _ _ rfl _ rfl (hC V) rfl 24 (hC hZ) b1 (hist_size hV) (by rw [hC_size, hC_size, hV, hZ_len]) (hC_one _) ?_) | (go_at_call 25; refine (hrtime_any _ _).mono ?_; rintro e w' ⟨rfl, rfl⟩))
      exact bodyPost_ret (v := .tuple #[.agg (hC V), .int .i64 1]) (results_hist (p := 4) (u := 5) rfl _ _ (w.heap.size + 1) V hV rfl (b1.put V)) rfl ⟨rfl, below_put hbl (by omega) _⟩
  · have hE2 : totE V = 2 := by rcases tot_cases V with h | h <;> omega
    have hS := rtE_2 hE2
    have R1 : adV V n = hZ := by unfold adV; rw [if_pos hE]
    have R2 : adE V n = 2 := by unfold adE; rw [if_pos hE]
    rw [R1, R2]
    clear R1 R2 hE
    go_enter Try.func8, Try.ntmps8
    go_wp2_with (refine wpList_load_row rfl 24 _ rfl _ rfl 24 (hC V) (0, 0) _ ((HB.new w V).alloc _) Try.underlying24 rfl (hist_size hV) ?_)
    refine (rtotalB_any V hV _).mono ?_
    rintro e w1 ⟨rfl, hb⟩
    have b0 : HB w1 w.heap.size V := ((HB.new w V).alloc _).below hb (by simp; omega)
    have b1 : HB w1 (w.heap.size + 1) hZ := by
      have := (HB.newZ (w.alloc (.cells (hC V) 24))).below hb (by simp)
      simpa using this
    have hbl : Below w.heap.size w w1 := (hb.box (by simp)).box (Nat.le_refl _)
    have hs1 := hb.size
    simp only [World.size_alloc] at hs1
    clear hb
    go_wp2_with (refine wpList_store_row rfl 24 _ _ rfl _ rfl (hC hZ) (congrArg Value.agg hZ_cells).symm 24 (hC hZ) b1 (hist_size hZ_len) rfl (hC_one _) ?_)
    exact bodyPost_ret (v := .tuple #[.agg (hC hZ), .int .i64 2]) (results_hist (p := 4) (u := 5) rfl _ _ (w.heap.size + 1) hZ hZ_len rfl (b1.put hZ)) rfl ⟨rfl, below_put hbl (by omega) _⟩
end Go.Proofs.Ytmaehcecilnglaa
