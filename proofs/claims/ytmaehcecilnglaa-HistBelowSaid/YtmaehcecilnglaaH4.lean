/-
  The walks of hist.each, Of and of the reference's Of.
-/
import Derived.Test.YtmaehcecilnglaaHI
namespace Go.Proofs.Ytmaehcecilnglaa
open Go.RowKit Go.Shelf
set_option linter.unusedVariables false
attribute [local go_sem] Oper.semAt_some

theorem smF_len : ∀ (ys : List Int) {V : List Int}, V.length = 54 → (smF V ys).1.length = 54
  | [], V, h => h
  | n :: r, V, h => by
    rw [smF]
    split
    · exact hZ_len
    · exact smF_len r (adV_len h n)
set_option maxHeartbeats 1000000 in
theorem each_in (n : Nat) (hn : 1 ≤ n) (l B1 n₀ : Nat) (A : Option Addr) (xs : List Int) (cap : Nat) (J Jx : List Int → World → Prop) (hlen : xs.length ≤ 9223372036854775807)
    (hY : ∀ pre x W, J pre W → pre.length < xs.length → YieldAt Fence.wide (n - 1) Try.prog l (encI x) W fun e W' =>
      (e = .returned (.bool true) ∧ J (pre ++ [x]) W' ∧ KpB n₀ W W') ∨ (e = .returned (.bool false) ∧ Jx (pre ++ [x]) W'))
    (W : World) (hB1 : W.cell? ⟨B1, 0, none⟩ = some (.slice A xs.length cap)) (hR : Ints W n₀ A xs) (h0 : J [] W) :
    CallsIn Fence.wide n Try.prog 31 #[.func (.yield l) #[] #[], .pointer (some ⟨B1, 0, none⟩)] W fun e W' => (∃ v, e = .returned v) ∧
      ((∃ l, l = xs ∧ J l W') ∨ (∃ pre, pre <+: xs ∧ Jx pre W')) := by
  refine callsIn_of_wp Try.func31 rfl trivial ?_ rfl
  simp only [Try.ntmps31, List.size_toArray, List.length_cons, List.length_nil, Nat.reduceAdd, Nat.reduceSub, Array.replicate_succ, Array.replicate_zero, List.push_toArray, List.append_toArray, List.nil_append, List.cons_append]
  gi_wp2
  gi_loopw [7] (fun i wr => ∃ (k : Nat), k ≤ xs.length ∧ i = .int .i64 k ∧ Ints wr n₀ A xs ∧ J (xs.take k) wr) (fun i _ => xs.length - (intOf i).toNat)
  case atStart => exact ⟨0, by omega, rfl, hR, by simpa using h0⟩
  case round =>
    obtain ⟨k, hk, rfl, hr, hj⟩ := hrel
    by_cases hlt : k < xs.length
    · obtain ⟨b, off, rfl, hbB, hc⟩ := hr (by omega)
      have c0 := hc k hlt
      obtain ⟨x, hx⟩ : ∃ x, xs[k]? = some x := ⟨xs[k], List.getElem?_eq_getElem hlt⟩
      rw [hx] at c0
      simp only [Option.getD_some] at c0
      have htk : xs.take (k + 1) = (xs.take k) ++ [x] := by rw [List.take_add_one, hx]; rfl
      have HTK := Lib.hid htk
      have hpl : (xs.take k).length < xs.length := by simp; omega
      clear hc hx htk
      obtain ⟨fn, tmps, assign, body, hy, hRd⟩ := hY _ x _ hj hpl
      dsimp only [encI] at hy
      gi_wp2
      refine hRd.mono ?_
      rintro e W3 (⟨rfl, hJ3, hk3⟩ | ⟨rfl, hJx3⟩)
      · gi_wp2
        go_roundw
        case rel => exact ⟨k + 1, by omega, by go_num, hr.below hk3, by rw [HTK.out]; exact hJ3⟩
        case measure => simp [intOf]; omega
      · gi_wp2
        refine bodyPost_ret (results_none rfl _ _ _) rfl ?_
        exact ⟨⟨_, rfl⟩, .inr ⟨_, by rw [← HTK.out]; exact List.take_prefix _ _, hJx3⟩⟩
    · have hpe : xs.take k = xs := List.take_of_length_le (by omega)
      rw [hpe] at hj
      clear hpe
      gi_wp2
      go_end0
      exact ⟨⟨_, rfl⟩, .inl ⟨_, rfl, hj⟩⟩
theorem each_stops (n : Nat) (hn : 1 ≤ n) (B1 n₀ : Nat) (A : Option Addr) (xs : List Int) (cap : Nat) (hlen : xs.length ≤ 9223372036854775807) (w : World)
    (hB1 : w.cell? ⟨B1, 0, none⟩ = some (.slice A xs.length cap)) (hB1l : B1 < w.heap.size) (hR : Ints w n₀ A xs) (hn0 : n₀ ≤ w.heap.size) :
    SeqStopsK Fence.wide n Try.prog 31 #[.pointer (some ⟨B1, 0, none⟩)] encI (KpB n₀) (fun l => l = xs) (fun pre => pre <+: xs) xs.length w := fun l J Jx W hW hJ hJx hY h0 =>
  each_in n hn l B1 n₀ A xs cap J Jx hlen hY W ((hW.cell (p := ⟨B1, 0, none⟩) hB1l).trans hB1) (hR.below (hW.mono hn0)) h0
theorem each_any (A : Option Addr) (n cap : Nat) (w : World) :
    Calls Try.prog 28 #[.slice A n cap] w fun e w' => e = .returned (.func (.func 31) #[] #[.pointer (some ⟨w.heap.size, 0, none⟩)]) ∧ w' = w.alloc (.cells #[.slice A n cap] 25) := by
  go_enter Try.func28, Try.ntmps28
  go_wp2
  go_ret
  exact ⟨rfl, rfl⟩
theorem slice_box (w w0 : World) (n : Nat) (hn : n = w0.heap.size) (hb : Below w.heap.size w w0) (A : Option Addr) (xs : List Int) (cap : Nat) (h : Ints w w.heap.size A xs) (hl : xs.length ≤ 9223372036854775807) :
    SeqStopsK Fence.wide (4 - 1) Try.prog 31 #[.pointer (some ⟨n, 0, none⟩)] encI (KpB (w0.alloc (.cells #[.slice A xs.length cap] 25)).heap.size) (fun l => l = xs) (fun pre => pre <+: xs) xs.length (w0.alloc (.cells #[.slice A xs.length cap] 25)) := by
  subst hn
  have hb1 : Below w.heap.size w (w0.alloc (.cells #[.slice A xs.length cap] 25)) := hb.alloc hb.size _
  have c0 := box_cell (w := w0) (w1 := w0.alloc (.cells #[.slice A xs.length cap] 25)) (T := 25) (Below.refl _ _) 0 _ rfl
  exact each_stops (4 - 1) (by omega) w0.heap.size _ A xs cap hl _ c0 (by simp) ((h.below hb1).mono (by have := hb.size; simp; omega)) (Nat.le_refl _)
set_option maxHeartbeats 1000000 in
theorem of_any (A : Option Addr) (xs : List Int) (cap : Nat) (w : World) (h : Ints w w.heap.size A xs) (hl : xs.length ≤ 9223372036854775807) :
    Calls Try.prog 11 #[.slice A xs.length cap] w (HistRes w (smF hZ xs).1 (smF hZ xs).2) := by
  have hV := smF_len xs hZ_len
  obtain ⟨V, hVe⟩ : ∃ V, V = (smF hZ xs).1 := ⟨_, rfl⟩
  obtain ⟨E, hEe⟩ : ∃ E, E = (smF hZ xs).2 := ⟨_, rfl⟩
  have cs := fun (w : World) n hseq => sum_any 31 #[.pointer (some ⟨n, 0, none⟩)] (enters_of Try.func31 (by kernel_rfl) rfl) xs xs.length w hseq
  rw [← hVe] at hV
  simp only [← hVe, ← hEe] at cs ⊢
  have CS := Lib.hid cs
  clear cs hVe hEe
  unfold HistRes
  go_enter Try.func11, Try.ntmps11
  go_wp2_with (go_at_call 28; refine (each_any _ _ _ _).mono ?_; rintro e w' ⟨rfl, rfl⟩)
  have hb0 : Below w.heap.size w (w.alloc (.cells #[.int .i64 0, .int .i64 0, .int .i64 0, .int .i64 0, .int .i64 0, .int .i64 0, .int .i64 0, .int .i64 0, .int .i64 0, .int .i64 0, .int .i64 0, .int .i64 0, .int .i64 0, .int .i64 0, .int .i64 0, .int .i64 0, .int .i64 0, .int .i64 0, .int .i64 0, .int .i64 0, .int .i64 0, .int .i64 0, .int .i64 0, .int .i64 0, .int .i64 0, .int .i64 0, .int .i64 0, .int .i64 0, .int .i64 0, .int .i64 0, .int .i64 0, .int .i64 0, .int .i64 0, .int .i64 0, .int .i64 0, .int .i64 0, .int .i64 0, .int .i64 0, .int .i64 0, .int .i64 0, .int .i64 0, .int .i64 0, .int .i64 0, .int .i64 0, .int .i64 0, .int .i64 0, .int .i64 0, .int .i64 0, .int .i64 0, .int .i64 0, .int .i64 0, .int .i64 0, .int .i64 0, .int .i64 0] 24)) := below_box _ _
  refine (CS.out _ (w.heap.size + 1) (slice_box w _ _ (by simp) hb0 A xs cap h hl)).mono ?_
  rintro e w1 ⟨rfl, hb⟩
  have d0 : HB w1 w.heap.size hZ := ((HB.newZ w).alloc _).below hb (by simp; omega)
  have hbl : Below w.heap.size w w1 := hb0.next1 (by simp) hb
  go_wp2_with (refine wpList_store_row rfl 24 _ _ rfl _ rfl (hC V) rfl 24 (hC hZ) d0 (hist_size hV) (by rw [hC_size, hC_size, hV, hZ_len]) (hC_one _) ?_)
  exact bodyPost_ret (v := .tuple #[.agg (hC V), .int .i64 E]) (results_hist (p := 2) (u := 3) rfl _ _ w.heap.size V hV rfl (d0.put V)) rfl ⟨rfl, below_put hbl (Nat.le_refl _) _⟩
end Go.Proofs.Ytmaehcecilnglaa
