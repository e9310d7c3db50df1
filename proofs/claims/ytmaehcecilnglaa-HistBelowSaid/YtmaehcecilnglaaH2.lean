/-
  The walks of hist.Check, Add and of their references; bits of a number.
-/
import Derived.Test.YtmaehcecilnglaaH1
import Derived.Test.YtmaehcecilnglaaHShf
import Derived.Lib.ItoaNum
namespace Go.Proofs.Ytmaehcecilnglaa
open Go.RowKit
set_option linter.unusedVariables false

theorem len_bd {b : Nat} (h0 : b ≠ 0) (h : b < 2 ^ 64) : 1 ≤ Lib.bitLen b ∧ 2 ^ (Lib.bitLen b - 1) ≤ b ∧ b < 2 ^ Lib.bitLen b := by
  obtain ⟨h1, h2, h3⟩ := Lib.bitLenAux_bounds 64 b h h0
  exact ⟨h1, h2, h3⟩
theorem len_uniq {b l : Nat} (h0 : b ≠ 0) (h : b < 2 ^ 64) (h1 : 2 ^ (l - 1) ≤ b) (h2 : b < 2 ^ l) : Lib.bitLen b = l := by
  obtain ⟨k1, k2, k3⟩ := len_bd h0 h
  have hl : 1 ≤ l := by
    rcases Nat.eq_zero_or_pos l with e | e
    · subst e; simp at h2; omega
    · exact e
  rcases Nat.lt_trichotomy (Lib.bitLen b) l with e | e | e
  · have := Nat.pow_le_pow_right (n := 2) (by omega) (show Lib.bitLen b ≤ l - 1 by omega)
    omega
  · exact e
  · have := Nat.pow_le_pow_right (n := 2) (by omega) (show l ≤ Lib.bitLen b - 1 by omega)
    omega
theorem len_zero : Lib.bitLen 0 = 0 := by decide
theorem len_step {d : Nat} (h0 : d ≠ 0) (h : d < 2 ^ 64) : Lib.bitLen d = Lib.bitLen (d / 2) + 1 := by
  by_cases h1 : d / 2 = 0
  · have : d = 1 := by omega
    subst this
    decide
  · obtain ⟨k1, k2, k3⟩ := len_bd h1 (by omega)
    generalize Lib.bitLen (d / 2) = l at k1 k2 k3 ⊢
    obtain ⟨m, rfl⟩ : ∃ m, l = m + 1 := ⟨l - 1, by omega⟩
    apply len_uniq h0 h
    · simp only [Nat.add_sub_cancel] at k2 ⊢
      rw [Nat.pow_succ]
      omega
    · rw [Nat.pow_succ]
      omega
theorem len_le {m : Nat} (h : m ≤ 4503599627370496) : Lib.bitLen m ≤ 53 := by
  by_cases h0 : m = 0
  · subst h0; decide
  · obtain ⟨k1, k2, k3⟩ := len_bd h0 (by omega)
    have : ¬ 54 ≤ Lib.bitLen m := fun hc => by
      have := Nat.pow_le_pow_right (n := 2) (by omega) (show 53 ≤ Lib.bitLen m - 1 by omega)
      omega
    omega
theorem bitsOf_any (m : Nat) (hm : m ≤ 4503599627370496) (w : World) :
    Calls Try.prog 26 #[.int .i64 (m : Int)] w fun e w' => e = .returned (.int .i64 (Lib.bitLen m : Int)) ∧ w = w' := by
  go_enter Try.func26, Try.ntmps26
  go_wp2
  go_loop [0, 3] (fun t i => ∃ (k d : Nat), t = .int .i64 (d : Int) ∧ i = .int .i64 (k : Int) ∧ d ≤ 4503599627370496 ∧ k ≤ 53 ∧ Hid (Lib.bitLen m = k + Lib.bitLen d)) (fun t _ => (intOf t).toNat)
  case atStart => exact ⟨0, m, rfl, rfl, hm, by omega, by simp [Hid]⟩
  case round =>
    obtain ⟨k, d, rfl, rfl, hd, hk, hs⟩ := hrel
    by_cases h0 : d = 0
    · subst h0
      have h2 := hs.out
      rw [len_zero] at h2
      have H2 := Lib.hid h2
      clear h2 hs
      go_wp2
      go_ret
      exact ⟨ret_i (by rw [H2.out]; simp), rfl⟩
    · have hst := len_step h0 (by omega)
      have h2 := hs.out
      rw [hst] at h2
      have hlm := len_le hm
      have hk2 : k + 1 ≤ 53 := by omega
      have H2 := Lib.hid h2
      have hpos : 0 < d := by omega
      clear h2 hs hst hlm h0
      go_wp2
      go_round
      case rel => exact ⟨k + 1, d / 2, by go_num, by go_num, by omega, by omega, by unfold Hid; rw [H2.out]; omega⟩
      case measure => simp [intOf]; omega

/-! ### results -/
theorem results_hist {fn : Func} {p u : Tmp} (h : fn.results = #[.cell p 24, .tmp u]) (tmps : Array Value) (w : World) (g : Nat) (V : List Int) (hV : V.length = 54)
    (hp : tmps.getD p undef = .pointer (some ⟨g, 0, none⟩)) (hg : w.heap[g]? = some (.cells (hC V) 24 (0, 0))) :
    (results fn tmps).run Try.prog w = .ok (.tuple #[.agg (hC V), tmps.getD u undef]) w := by
  have hl := run_loadVar_row (P := Try.prog) w g 24 24 (hC V) (0, 0) _ hg Try.underlying24 rfl (hist_size hV)
  rw [results_cell_tmp h, hp]
  simp only [asAddr, Sem.run_pure, Result.andThen_ok, hl]
theorem hC_set (V : List Int) (k : Nat) (x : Int) : (hC V).setIfInBounds k (.int .i64 x) = hC (V.set k x) := by
  unfold hC
  simp [List.map_set]
/-- The histogram lies in block g. -/
def HB (w : World) (g : Nat) (V : List Int) : Prop := w.heap[g]? = some (.cells (hC V) 24 (0, 0))
theorem HB.below {w w' : World} {B g : Nat} {V : List Int} (h : HB w g V) (hb : Below B w w') (hg : g < B) : HB w' g V := (hb.block g hg).trans h
theorem HB.lt {w : World} {g : Nat} {V : List Int} (h : HB w g V) : g < w.heap.size := by
  rcases Nat.lt_or_ge g w.heap.size with hlt | hge
  · exact hlt
  · unfold HB at h; rw [Array.getElem?_eq_none hge] at h; cases h
theorem HB.put {w : World} {g : Nat} {V : List Int} (h : HB w g V) (V' : List Int) : HB (w.setRow g (hC V')) g V' := setRow_heap w g _ _ _ _ h
theorem HB.put_far {w : World} {g g' : Nat} {V : List Int} (h : HB w g V) (hn : g ≠ g') (cs : Array Value) : HB (w.setRow g' cs) g V := (setRow_other w g' g cs hn).trans h
theorem HB.cell {w : World} {g k : Nat} {V : List Int} {x : Int} (h : HB w g V) (hx : V[k]? = some x) : w.cell? ⟨g, k, none⟩ = some (.int .i64 x) := (cell_of_row w g k _ _ _ h).trans (hC_at hx)
theorem HB.free {w : World} {g : Nat} {V : List Int} (h : HB w g V) (k : Nat) : w.frozen? ⟨g, k, none⟩ = false := frozen_of_row w g k _ _ h
theorem HB.set {w : World} {g k : Nat} {V : List Int} (h : HB w g V) (x : Int) : HB (w.setCell ⟨g, k, none⟩ (.int .i64 x)) g (V.set k x) := by
  have := heap_setCell_same w g k (hC V) 24 (.int .i64 x) h
  rw [hC_set] at this
  exact this
theorem HB.set_far {w : World} {g : Nat} {p : Addr} {V : List Int} (h : HB w g V) (hn : g ≠ p.block) (v : Value) : HB (w.setCell p v) g V := (heap_setCell_other w p g v hn).trans h
theorem HB.alloc {w : World} {g : Nat} {V : List Int} (h : HB w g V) (o : Obj) : HB (w.alloc o) g V := (Below.heap_alloc w o g h.lt).trans h
theorem HB.new (w : World) (V : List Int) : HB (w.alloc (.cells (hC V) 24)) w.heap.size V := heap_alloc_new w _
theorem HB.newZ (w : World) : HB (w.alloc (.cells #[.int .i64 0, .int .i64 0, .int .i64 0, .int .i64 0, .int .i64 0, .int .i64 0, .int .i64 0, .int .i64 0, .int .i64 0, .int .i64 0, .int .i64 0, .int .i64 0, .int .i64 0, .int .i64 0, .int .i64 0, .int .i64 0, .int .i64 0, .int .i64 0, .int .i64 0, .int .i64 0, .int .i64 0, .int .i64 0, .int .i64 0, .int .i64 0, .int .i64 0, .int .i64 0, .int .i64 0, .int .i64 0, .int .i64 0, .int .i64 0, .int .i64 0, .int .i64 0, .int .i64 0, .int .i64 0, .int .i64 0, .int .i64 0, .int .i64 0, .int .i64 0, .int .i64 0, .int .i64 0, .int .i64 0, .int .i64 0, .int .i64 0, .int .i64 0, .int .i64 0, .int .i64 0, .int .i64 0, .int .i64 0, .int .i64 0, .int .i64 0, .int .i64 0, .int .i64 0, .int .i64 0, .int .i64 0] 24)) w.heap.size hZ := by
  unfold HB
  rw [hZ_cells]
  exact heap_alloc_new w _
theorem hZ_len : hZ.length = 54 := by simp [hZ]
theorem HB.drewN {w : World} {g : Nat} {V : List Int} (h : HB w g V) (n : Nat) : HB (w.drewN n) g V := h
theorem below_put {B g : Nat} {w0 w : World} (hb : Below B w0 w) (hBg : B ≤ g) (cs : Array Value) : Below B w0 (w.setRow g cs) :=
  hb.trans ⟨rfl, rfl, rfl, by simp [World.setRow], fun k hk => setRow_other w g k cs (by omega)⟩

theorem check_any (V : List Int) (hV : V.length = 54) (w : World) :
    Calls Try.prog 14 #[.agg (hC V)] w fun e w' => e = .returned (.int .i64 (totE V)) ∧ Below w.heap.size w w' := by
  go_enter Try.func14, Try.ntmps14
  go_wp2_with (refine wpList_load_row rfl 24 _ rfl _ rfl 24 (hC V) (0, 0) _ (heap_alloc_new _ _) Try.underlying24 rfl (hist_size hV) ?_)
  refine (total_any V hV _).mono ?_
  rintro e w1 ⟨rfl, hb⟩
  go_wp2
  go_ret
  exact ⟨rfl, hb.box (Nat.le_refl _)⟩
theorem rtotal_any (V : List Int) (hV : V.length = 54) (w : World) :
    Calls Try.prog 10 #[.agg (hC V)] w fun e w' => e = .returned (.tuple #[.int .i64 (totV V), .int .i64 (totE V)]) ∧ Below w.heap.size w w' := by
  cases ho : totO V with
  | none =>
    have h1 : totE V = 2 := by unfold totE; rw [ho]; rfl
    have h2 : totV V = 0 := by unfold totV; rw [ho]; rfl
    have c := rtotalB_any V hV
    rw [ho] at c
    have C := Lib.hid c
    rw [h1]
    have H2 := Lib.hid h2
    clear c ho h1 h2
    go_enter Try.func10, Try.ntmps10
    go_wp2_with (refine wpList_load_row rfl 24 _ rfl _ rfl 24 (hC V) (0, 0) _ (heap_alloc_new _ _) Try.underlying24 rfl (hist_size hV) ?_)
    refine (C.out _).mono ?_
    rintro e w1 ⟨rfl, hb⟩
    go_wp2
    go_ret2
    exact ⟨by rw [H2.out]; rfl, hb.box (Nat.le_refl _)⟩
  | some s =>
    have h1 : totE V = 0 := by unfold totE; rw [ho]; rfl
    have c := rtotalB_any V hV
    rw [ho] at c
    have C := Lib.hid c
    rw [h1]
    clear c ho h1
    go_enter Try.func10, Try.ntmps10
    go_wp2_with (refine wpList_load_row rfl 24 _ rfl _ rfl 24 (hC V) (0, 0) _ (heap_alloc_new _ _) Try.underlying24 rfl (hist_size hV) ?_)
    refine (C.out _).mono ?_
    rintro e w1 ⟨rfl, hb⟩
    go_wp2
    go_ret2
    exact ⟨rfl, hb.box (Nat.le_refl _)⟩
theorem rhcheck_any (V : List Int) (hV : V.length = 54) (w : World) :
    Calls Try.prog 15 #[.agg (hC V)] w fun e w' => e = .returned (.int .i64 (totE V)) ∧ Below w.heap.size w w' := by
  cases ho : (totO V).isSome
  all_goals
    have h1 : totE V = if (totO V).isSome then 0 else 2 := rfl
    have c := rtotalB_any V hV
    rw [ho] at c h1
    have C := Lib.hid c
    rw [h1]
    clear c ho h1
    go_enter Try.func15, Try.ntmps15
    go_wp2_with (refine wpList_load_row rfl 24 _ rfl _ rfl 24 (hC V) (0, 0) _ (heap_alloc_new _ _) Try.underlying24 rfl (hist_size hV) ?_)
    refine (C.out _).mono ?_
    rintro e w1 ⟨rfl, hb⟩
    go_wp2
    go_ret
    exact ⟨rfl, hb.box (Nat.le_refl _)⟩
end Go.Proofs.Ytmaehcecilnglaa
