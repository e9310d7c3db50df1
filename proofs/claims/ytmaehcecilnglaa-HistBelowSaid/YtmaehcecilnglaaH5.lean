/-
  The walk of the reference's Of.
-/
import Derived.Test.YtmaehcecilnglaaH4
namespace Go.Proofs.Ytmaehcecilnglaa
open Go.RowKit Go.Shelf
set_option linter.unusedVariables false

theorem drop_cons' {xs : List Int} {k : Nat} {x : Int} (h : xs[k]? = some x) : xs.drop k = x :: xs.drop (k + 1) := by
  obtain ⟨hk, e⟩ := List.getElem?_eq_some_iff.1 h
  rw [List.drop_eq_getElem_cons hk, e]
theorem smF_cons (V : List Int) (n : Int) (r : List Int) : smF V (n :: r) = if adE V n ≠ 0 then (hZ, adE V n) else smF (adV V n) r := rfl
set_option maxRecDepth 10000 in
set_option maxHeartbeats 1000000 in
theorem rof_any (A : Option Addr) (xs : List Int) (cap : Nat) (w : World) (h : Ints w w.heap.size A xs) (hl : xs.length ≤ 9223372036854775807) :
    Calls Try.prog 12 #[.slice A xs.length cap] w (HistRes w (smF hZ xs).1 (smF hZ xs).2) := by
  have s0 := (HB.newZ w)
  have s1 : HB ((w.alloc (.cells #[.int .i64 0, .int .i64 0, .int .i64 0, .int .i64 0, .int .i64 0, .int .i64 0, .int .i64 0, .int .i64 0, .int .i64 0, .int .i64 0, .int .i64 0, .int .i64 0, .int .i64 0, .int .i64 0, .int .i64 0, .int .i64 0, .int .i64 0, .int .i64 0, .int .i64 0, .int .i64 0, .int .i64 0, .int .i64 0, .int .i64 0, .int .i64 0, .int .i64 0, .int .i64 0, .int .i64 0, .int .i64 0, .int .i64 0, .int .i64 0, .int .i64 0, .int .i64 0, .int .i64 0, .int .i64 0, .int .i64 0, .int .i64 0, .int .i64 0, .int .i64 0, .int .i64 0, .int .i64 0, .int .i64 0, .int .i64 0, .int .i64 0, .int .i64 0, .int .i64 0, .int .i64 0, .int .i64 0, .int .i64 0, .int .i64 0, .int .i64 0, .int .i64 0, .int .i64 0, .int .i64 0, .int .i64 0] 24)).alloc (.cells #[.int .i64 0, .int .i64 0, .int .i64 0, .int .i64 0, .int .i64 0, .int .i64 0, .int .i64 0, .int .i64 0, .int .i64 0, .int .i64 0, .int .i64 0, .int .i64 0, .int .i64 0, .int .i64 0, .int .i64 0, .int .i64 0, .int .i64 0, .int .i64 0, .int .i64 0, .int .i64 0, .int .i64 0, .int .i64 0, .int .i64 0, .int .i64 0, .int .i64 0, .int .i64 0, .int .i64 0, .int .i64 0, .int .i64 0, .int .i64 0, .int .i64 0, .int .i64 0, .int .i64 0, .int .i64 0, .int .i64 0, .int .i64 0, .int .i64 0, .int .i64 0, .int .i64 0, .int .i64 0, .int .i64 0, .int .i64 0, .int .i64 0, .int .i64 0, .int .i64 0, .int .i64 0, .int .i64 0, .int .i64 0, .int .i64 0, .int .i64 0, .int .i64 0, .int .i64 0, .int .i64 0, .int .i64 0] 24)) (w.heap.size + 1) hZ := by
    have := HB.newZ (w.alloc (.cells #[.int .i64 0, .int .i64 0, .int .i64 0, .int .i64 0, .int .i64 0, .int .i64 0, .int .i64 0, .int .i64 0, .int .i64 0, .int .i64 0, .int .i64 0, .int .i64 0, .int .i64 0, .int .i64 0, .int .i64 0, .int .i64 0, .int .i64 0, .int .i64 0, .int .i64 0, .int .i64 0, .int .i64 0, .int .i64 0, .int .i64 0, .int .i64 0, .int .i64 0, .int .i64 0, .int .i64 0, .int .i64 0, .int .i64 0, .int .i64 0, .int .i64 0, .int .i64 0, .int .i64 0, .int .i64 0, .int .i64 0, .int .i64 0, .int .i64 0, .int .i64 0, .int .i64 0, .int .i64 0, .int .i64 0, .int .i64 0, .int .i64 0, .int .i64 0, .int .i64 0, .int .i64 0, .int .i64 0, .int .i64 0, .int .i64 0, .int .i64 0, .int .i64 0, .int .i64 0, .int .i64 0, .int .i64 0] 24))
    simpa using this
  unfold HistRes
  go_enter Try.func12, Try.ntmps12
  go_wp2_with (refine wpList_store_row rfl 24 _ _ rfl _ rfl (hC hZ) (congrArg Value.agg hZ_cells).symm 24 (hC hZ) s1 (hist_size hZ_len) rfl (hC_one _) ?_)
  have t0 : HB (((w.alloc (.cells #[.int .i64 0, .int .i64 0, .int .i64 0, .int .i64 0, .int .i64 0, .int .i64 0, .int .i64 0, .int .i64 0, .int .i64 0, .int .i64 0, .int .i64 0, .int .i64 0, .int .i64 0, .int .i64 0, .int .i64 0, .int .i64 0, .int .i64 0, .int .i64 0, .int .i64 0, .int .i64 0, .int .i64 0, .int .i64 0, .int .i64 0, .int .i64 0, .int .i64 0, .int .i64 0, .int .i64 0, .int .i64 0, .int .i64 0, .int .i64 0, .int .i64 0, .int .i64 0, .int .i64 0, .int .i64 0, .int .i64 0, .int .i64 0, .int .i64 0, .int .i64 0, .int .i64 0, .int .i64 0, .int .i64 0, .int .i64 0, .int .i64 0, .int .i64 0, .int .i64 0, .int .i64 0, .int .i64 0, .int .i64 0, .int .i64 0, .int .i64 0, .int .i64 0, .int .i64 0, .int .i64 0, .int .i64 0] 24)).alloc (.cells #[.int .i64 0, .int .i64 0, .int .i64 0, .int .i64 0, .int .i64 0, .int .i64 0, .int .i64 0, .int .i64 0, .int .i64 0, .int .i64 0, .int .i64 0, .int .i64 0, .int .i64 0, .int .i64 0, .int .i64 0, .int .i64 0, .int .i64 0, .int .i64 0, .int .i64 0, .int .i64 0, .int .i64 0, .int .i64 0, .int .i64 0, .int .i64 0, .int .i64 0, .int .i64 0, .int .i64 0, .int .i64 0, .int .i64 0, .int .i64 0, .int .i64 0, .int .i64 0, .int .i64 0, .int .i64 0, .int .i64 0, .int .i64 0, .int .i64 0, .int .i64 0, .int .i64 0, .int .i64 0, .int .i64 0, .int .i64 0, .int .i64 0, .int .i64 0, .int .i64 0, .int .i64 0, .int .i64 0, .int .i64 0, .int .i64 0, .int .i64 0, .int .i64 0, .int .i64 0, .int .i64 0, .int .i64 0] 24)).setRow (w.heap.size + 1) (hC hZ)) w.heap.size hZ := (s0.alloc _).put_far (by omega) _
  have t1 : HB (((w.alloc (.cells #[.int .i64 0, .int .i64 0, .int .i64 0, .int .i64 0, .int .i64 0, .int .i64 0, .int .i64 0, .int .i64 0, .int .i64 0, .int .i64 0, .int .i64 0, .int .i64 0, .int .i64 0, .int .i64 0, .int .i64 0, .int .i64 0, .int .i64 0, .int .i64 0, .int .i64 0, .int .i64 0, .int .i64 0, .int .i64 0, .int .i64 0, .int .i64 0, .int .i64 0, .int .i64 0, .int .i64 0, .int .i64 0, .int .i64 0, .int .i64 0, .int .i64 0, .int .i64 0, .int .i64 0, .int .i64 0, .int .i64 0, .int .i64 0, .int .i64 0, .int .i64 0, .int .i64 0, .int .i64 0, .int .i64 0, .int .i64 0, .int .i64 0, .int .i64 0, .int .i64 0, .int .i64 0, .int .i64 0, .int .i64 0, .int .i64 0, .int .i64 0, .int .i64 0, .int .i64 0, .int .i64 0, .int .i64 0] 24)).alloc (.cells #[.int .i64 0, .int .i64 0, .int .i64 0, .int .i64 0, .int .i64 0, .int .i64 0, .int .i64 0, .int .i64 0, .int .i64 0, .int .i64 0, .int .i64 0, .int .i64 0, .int .i64 0, .int .i64 0, .int .i64 0, .int .i64 0, .int .i64 0, .int .i64 0, .int .i64 0, .int .i64 0, .int .i64 0, .int .i64 0, .int .i64 0, .int .i64 0, .int .i64 0, .int .i64 0, .int .i64 0, .int .i64 0, .int .i64 0, .int .i64 0, .int .i64 0, .int .i64 0, .int .i64 0, .int .i64 0, .int .i64 0, .int .i64 0, .int .i64 0, .int .i64 0, .int .i64 0, .int .i64 0, .int .i64 0, .int .i64 0, .int .i64 0, .int .i64 0, .int .i64 0, .int .i64 0, .int .i64 0, .int .i64 0, .int .i64 0, .int .i64 0, .int .i64 0, .int .i64 0, .int .i64 0, .int .i64 0] 24)).setRow (w.heap.size + 1) (hC hZ)) (w.heap.size + 1) hZ := s1.put _
  have tb : Below w.heap.size w (((w.alloc (.cells #[.int .i64 0, .int .i64 0, .int .i64 0, .int .i64 0, .int .i64 0, .int .i64 0, .int .i64 0, .int .i64 0, .int .i64 0, .int .i64 0, .int .i64 0, .int .i64 0, .int .i64 0, .int .i64 0, .int .i64 0, .int .i64 0, .int .i64 0, .int .i64 0, .int .i64 0, .int .i64 0, .int .i64 0, .int .i64 0, .int .i64 0, .int .i64 0, .int .i64 0, .int .i64 0, .int .i64 0, .int .i64 0, .int .i64 0, .int .i64 0, .int .i64 0, .int .i64 0, .int .i64 0, .int .i64 0, .int .i64 0, .int .i64 0, .int .i64 0, .int .i64 0, .int .i64 0, .int .i64 0, .int .i64 0, .int .i64 0, .int .i64 0, .int .i64 0, .int .i64 0, .int .i64 0, .int .i64 0, .int .i64 0, .int .i64 0, .int .i64 0, .int .i64 0, .int .i64 0, .int .i64 0, .int .i64 0] 24)).alloc (.cells #[.int .i64 0, .int .i64 0, .int .i64 0, .int .i64 0, .int .i64 0, .int .i64 0, .int .i64 0, .int .i64 0, .int .i64 0, .int .i64 0, .int .i64 0, .int .i64 0, .int .i64 0, .int .i64 0, .int .i64 0, .int .i64 0, .int .i64 0, .int .i64 0, .int .i64 0, .int .i64 0, .int .i64 0, .int .i64 0, .int .i64 0, .int .i64 0, .int .i64 0, .int .i64 0, .int .i64 0, .int .i64 0, .int .i64 0, .int .i64 0, .int .i64 0, .int .i64 0, .int .i64 0, .int .i64 0, .int .i64 0, .int .i64 0, .int .i64 0, .int .i64 0, .int .i64 0, .int .i64 0, .int .i64 0, .int .i64 0, .int .i64 0, .int .i64 0, .int .i64 0, .int .i64 0, .int .i64 0, .int .i64 0, .int .i64 0, .int .i64 0, .int .i64 0, .int .i64 0, .int .i64 0, .int .i64 0] 24)).setRow (w.heap.size + 1) (hC hZ)) := below_put (((Below.refl _ _).alloc (Nat.le_refl _) _).alloc (by simp) _) (by omega) _
  clear s0 s1
  go_loopw [12] (fun i wr => ∃ (k : Nat) (V : List Int), k ≤ xs.length ∧ i = .int .i64 k ∧ V.length = 54 ∧ HB wr (w.heap.size + 1) V ∧ HB wr w.heap.size hZ ∧ Below w.heap.size w wr ∧ Hid (smF hZ xs = smF V (xs.drop k))) (fun i _ => xs.length - (intOf i).toNat)
  case atStart => exact ⟨0, hZ, by omega, rfl, hZ_len, t1, t0, tb, rfl⟩
  case round =>
    clear t0 t1 tb
    obtain ⟨k, V, hk, rfl, hV, d1, d0, hbl, hs⟩ := hrel
    have hsz := hbl.size
    have l1 := d1.lt
    by_cases hlt : k < xs.length
    · obtain ⟨b, off, rfl, hbB, hc⟩ := h (by omega)
      have c0 := (hbl.cell (p := ⟨b, off + k, none⟩) hbB).trans (hc k hlt)
      obtain ⟨x, hx⟩ : ∃ x, xs[k]? = some x := ⟨xs[k], List.getElem?_eq_getElem hlt⟩
      rw [hx] at c0
      simp only [Option.getD_some] at c0
      have hs2 := hs.out
      rw [drop_cons' hx, smF_cons] at hs2
      have hV2 := adV_len hV x
      clear hc hx hs
      by_cases hE : adE V x = 0
      · rw [if_neg (by omega)] at hs2
        have cA := radd_any V hV x
        rw [hE] at cA
        have CA := Lib.hid cA
        have HS := Lib.hid hs2
        clear cA hE hs2
        go_wp2_with (refine wpList_load_row rfl 24 _ rfl _ rfl 24 (hC V) (0, 0) _ d1 Try.underlying24 rfl (hist_size hV) ?_)
        refine (CA.out _).mono ?_
        rintro e w1 ⟨rfl, hb⟩
        have hz1 := hb.size
        have e1 := d1.below hb l1
        have e0 := d0.below hb (by omega)
        have e6 := (HB.newZ w1).put (adV V x)
        have e1' := ((e1.alloc (.cells #[.int .i64 0, .int .i64 0, .int .i64 0, .int .i64 0, .int .i64 0, .int .i64 0, .int .i64 0, .int .i64 0, .int .i64 0, .int .i64 0, .int .i64 0, .int .i64 0, .int .i64 0, .int .i64 0, .int .i64 0, .int .i64 0, .int .i64 0, .int .i64 0, .int .i64 0, .int .i64 0, .int .i64 0, .int .i64 0, .int .i64 0, .int .i64 0, .int .i64 0, .int .i64 0, .int .i64 0, .int .i64 0, .int .i64 0, .int .i64 0, .int .i64 0, .int .i64 0, .int .i64 0, .int .i64 0, .int .i64 0, .int .i64 0, .int .i64 0, .int .i64 0, .int .i64 0, .int .i64 0, .int .i64 0, .int .i64 0, .int .i64 0, .int .i64 0, .int .i64 0, .int .i64 0, .int .i64 0, .int .i64 0, .int .i64 0, .int .i64 0, .int .i64 0, .int .i64 0, .int .i64 0, .int .i64 0] 24)).put_far (g' := w1.heap.size) (by omega) (hC (adV V x)))
        have e0' := ((e0.alloc (.cells #[.int .i64 0, .int .i64 0, .int .i64 0, .int .i64 0, .int .i64 0, .int .i64 0, .int .i64 0, .int .i64 0, .int .i64 0, .int .i64 0, .int .i64 0, .int .i64 0, .int .i64 0, .int .i64 0, .int .i64 0, .int .i64 0, .int .i64 0, .int .i64 0, .int .i64 0, .int .i64 0, .int .i64 0, .int .i64 0, .int .i64 0, .int .i64 0, .int .i64 0, .int .i64 0, .int .i64 0, .int .i64 0, .int .i64 0, .int .i64 0, .int .i64 0, .int .i64 0, .int .i64 0, .int .i64 0, .int .i64 0, .int .i64 0, .int .i64 0, .int .i64 0, .int .i64 0, .int .i64 0, .int .i64 0, .int .i64 0, .int .i64 0, .int .i64 0, .int .i64 0, .int .i64 0, .int .i64 0, .int .i64 0, .int .i64 0, .int .i64 0, .int .i64 0, .int .i64 0, .int .i64 0, .int .i64 0] 24)).put_far (g' := w1.heap.size) (by omega) (hC (adV V x)))
        go_wp2_with (first
          | (refine wpList_store_row rfl 24 _ _ rfl w1.heap.size rfl (hC (adV V x)) rfl 24 (hC hZ) (HB.newZ w1) (hist_size hV2) (by rw [hC_size, hC_size, hV2, hZ_len]) (hC_one _) ?_)
          | (refine wpList_load_row rfl 24 _ rfl _ rfl 24 (hC (adV V x)) (0, 0) _ e6 Try.underlying24 rfl (hist_size hV2) ?_)
          | (refine wpList_store_row rfl 24 _ _ rfl _ rfl (hC (adV V x)) rfl 24 (hC V) e1' (hist_size hV2) (by rw [hC_size, hC_size, hV2, hV]) (hC_one _) ?_))
        go_roundw
        case rel => exact ⟨k + 1, adV V x, by omega, by go_num, hV2, e1'.put _, e0'.put_far (by omega) _, below_put (below_put ((hbl.next hsz hb).alloc (by omega) _) (by omega) _) (by omega) _, HS⟩
        case measure => simp [intOf]; omega
      · rw [if_pos hE] at hs2
        have hne : (adE V x != 0) = true := by simp [hE]
        have cA := radd_any V hV x
        obtain ⟨E, hEE⟩ : ∃ E, E = adE V x := ⟨_, rfl⟩
        rw [← hEE] at cA hne hs2
        have CA := Lib.hid cA
        have HS := Lib.hid hs2
        clear cA hE hs2 hEE
        go_wp2_with (refine wpList_load_row rfl 24 _ rfl _ rfl 24 (hC V) (0, 0) _ d1 Try.underlying24 rfl (hist_size hV) ?_)
        refine (CA.out _).mono ?_
        rintro e w1 ⟨rfl, hb⟩
        have hz1 := hb.size
        have e0 := d0.below hb (by omega)
        have e0' := ((e0.alloc (.cells #[.int .i64 0, .int .i64 0, .int .i64 0, .int .i64 0, .int .i64 0, .int .i64 0, .int .i64 0, .int .i64 0, .int .i64 0, .int .i64 0, .int .i64 0, .int .i64 0, .int .i64 0, .int .i64 0, .int .i64 0, .int .i64 0, .int .i64 0, .int .i64 0, .int .i64 0, .int .i64 0, .int .i64 0, .int .i64 0, .int .i64 0, .int .i64 0, .int .i64 0, .int .i64 0, .int .i64 0, .int .i64 0, .int .i64 0, .int .i64 0, .int .i64 0, .int .i64 0, .int .i64 0, .int .i64 0, .int .i64 0, .int .i64 0, .int .i64 0, .int .i64 0, .int .i64 0, .int .i64 0, .int .i64 0, .int .i64 0, .int .i64 0, .int .i64 0, .int .i64 0, .int .i64 0, .int .i64 0, .int .i64 0, .int .i64 0, .int .i64 0, .int .i64 0, .int .i64 0, .int .i64 0, .int .i64 0] 24)).put_far (g' := w1.heap.size) (by omega) (hC (adV V x)))
        go_wp2_with (first
          | (refine wpList_store_row rfl 24 _ _ rfl w1.heap.size rfl (hC (adV V x)) rfl 24 (hC hZ) (HB.newZ w1) (hist_size hV2) (by rw [hC_size, hC_size, hV2, hZ_len]) (hC_one _) ?_)
          | (refine wpList_store_row rfl 24 _ _ rfl _ rfl (hC hZ) (congrArg Value.agg hZ_cells).symm 24 (hC hZ) e0' (hist_size hZ_len) rfl (hC_one _) ?_))
        refine bodyPost_ret (v := .tuple #[.agg (hC hZ), .int .i64 E]) (results_hist (p := 2) (u := 3) rfl _ _ w.heap.size hZ hZ_len rfl (e0'.put hZ)) rfl ⟨by rw [HS.out], ?_⟩
        exact below_put (below_put ((hbl.next hsz hb).alloc (by omega) _) (by omega) _) (Nat.le_refl _) _
    · have hs2 := hs.out
      rw [List.drop_eq_nil_of_le (by omega)] at hs2
      have HS := Lib.hid (show smF hZ xs = (V, 0) from hs2)
      clear hs hs2
      go_wp2_with (first
        | (refine wpList_load_row rfl 24 _ rfl _ rfl 24 (hC V) (0, 0) _ d1 Try.underlying24 rfl (hist_size hV) ?_)
        | (refine wpList_store_row rfl 24 _ _ rfl _ rfl (hC V) rfl 24 (hC hZ) d0 (hist_size hV) (by rw [hC_size, hC_size, hV, hZ_len]) (hC_one _) ?_))
      refine bodyPost_ret (v := .tuple #[.agg (hC V), .int .i64 0]) (results_hist (p := 2) (u := 3) rfl _ _ w.heap.size V hV rfl (d0.put V)) rfl ⟨by rw [HS.out], ?_⟩
      exact below_put hbl (Nat.le_refl _) _
end Go.Proofs.Ytmaehcecilnglaa
