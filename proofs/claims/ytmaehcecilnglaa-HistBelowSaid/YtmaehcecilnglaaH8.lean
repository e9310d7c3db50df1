/-
  The walk of the reference's Jobs.
-/
import Derived.Test.YtmaehcecilnglaaH7
namespace Go.Proofs.Ytmaehcecilnglaa
open Go.RowKit Go.Shelf
set_option linter.unusedVariables false

theorem info_i64 : (Try.prog.info? 2).map (fun i => (i.zero, i.size, i.bytes)) = some (some (.int .i64 0), 1, 8) := by kernel_rfl
theorem cell_two_new (w : World) (o : Obj) (T : TypeId) (v : Value) : ∀ (j : Nat) (u : Value), [v][j]? = some u → ((w.alloc o).alloc (.cells #[v] T)).cell? ((⟨w.heap.size + 1, 0, none⟩ : Addr).add j) = some u := by
  intro j u hu
  have := cell_one_new (w.alloc o) v T j u hu
  rw [World.size_alloc] at this
  exact this
set_option maxHeartbeats 2000000 in
theorem rjobs_any (A : Option Addr) (xs : List QM) (cap : Nat) (task : Int) (w : World) (h : RM w w.heap.size A xs) (hl : xs.length ≤ 4398046511104) :
    Calls Try.prog 21 #[.slice A xs.length cap, .int .i64 task] w (HistRes w (smF hZ (dn task xs)).1 (smF hZ (dn task xs)).2) := by
  have hV := smF_len (dn task xs) hZ_len
  obtain ⟨i0, hi, hz0, hz1, hz2⟩ := info_parts info_i64
  have hb0 : Below w.heap.size w (w.alloc (.cells #[.int .i64 0, .int .i64 0, .int .i64 0, .int .i64 0, .int .i64 0, .int .i64 0, .int .i64 0, .int .i64 0, .int .i64 0, .int .i64 0, .int .i64 0, .int .i64 0, .int .i64 0, .int .i64 0, .int .i64 0, .int .i64 0, .int .i64 0, .int .i64 0, .int .i64 0, .int .i64 0, .int .i64 0, .int .i64 0, .int .i64 0, .int .i64 0, .int .i64 0, .int .i64 0, .int .i64 0, .int .i64 0, .int .i64 0, .int .i64 0, .int .i64 0, .int .i64 0, .int .i64 0, .int .i64 0, .int .i64 0, .int .i64 0, .int .i64 0, .int .i64 0, .int .i64 0, .int .i64 0, .int .i64 0, .int .i64 0, .int .i64 0, .int .i64 0, .int .i64 0, .int .i64 0, .int .i64 0, .int .i64 0, .int .i64 0, .int .i64 0, .int .i64 0, .int .i64 0, .int .i64 0, .int .i64 0] 24)) := below_box _ _
  have z0 := HB.newZ w
  unfold HistRes
  go_enter Try.func21, Try.ntmps21
  go_wp2_with fail
  go_loopw [6, 11] (fun u i wr => ∃ (k : Nat) (v : Value), k ≤ xs.length ∧ i = .int .i64 k ∧ u = v ∧ wr.ownsRow (w.heap.size + 1) 2 1 v (dn task (xs.take k)).length ((dn task (xs.take k)).map (Value.int .i64)) ∧ HB wr w.heap.size hZ ∧ Below w.heap.size w wr) (fun _ i _ => xs.length - (intOf i).toNat)
  case atStart => exact ⟨0, _, by omega, rfl, rfl, by simpa [dn] using World.ownsRow_nil _ _ _ _, z0, hb0⟩
  case round =>
    obtain ⟨k, v, hk, rfl, rfl, hown, d0, hbl⟩ := hrel
    obtain ⟨A0, cp, rfl⟩ := own_slice hown
    have hsz := hbl.size
    have l0 := d0.lt
    have hdl := dn_len task xs k
    by_cases hlt : k < xs.length
    · obtain ⟨b, off, rfl, hbB, hc⟩ := h (by omega)
      obtain ⟨x, hx⟩ := some_atM hlt
      obtain ⟨c1, c2, c3, c4⟩ := hc k x hx
      replace c1 := (hbl.cell (p := ⟨b, off + k * 4, none⟩) hbB).trans c1
      replace c2 := (hbl.cell (p := ⟨b, off + k * 4 + 1, none⟩) hbB).trans c2
      replace c3 := (hbl.cell (p := ⟨b, off + k * 4 + 2, none⟩) hbB).trans c3
      replace c4 := (hbl.cell (p := ⟨b, off + k * 4 + 3, none⟩) hbB).trans c4
      have hst := dn_step (task := task) hx
      have hlb : b < wr.heap.size := by omega
      clear hc hx
      obtain ⟨xa, xb, xc, xd⟩ := x
      simp only at c1 c2 c3 c4 hst
      by_cases hb2 : xb = 2
      · have hb2' : ((xb : Int) == 2) = true := by simp [hb2]
        by_cases hc2 : xc = task
        · have hc2' : (xc == task) = true := by simp [hc2]
          have hd : isD task ⟨xa, xb, xc, xd⟩ = true := by unfold isD; simp [hb2, hc2]
          rw [hd, if_pos rfl] at hst
          have HST := Lib.hid hst
          clear hst hb2 hc2 hd
          go_wp2_with (at_builtin; refine wpList_append_own _ rfl _ _ 25 rfl (w.heap.size + 1) 2 i0 (.int .i64 0) 1 8 Try.underlying25 hi hz0 hz1 hz2 rfl (by decide) _ _ _ rfl ((hown.alloc _).alloc _) ⟨wr.heap.size + 1, 0, none⟩ 1 1 [.int .i64 xd] rfl rfl (cell_two_new _ _ _ _) (by simp [Value.oneCell']) (by simp only [maxLen]; omega) (by omega) (by simp; omega) ?_; intro v' w4 hown' hgrow _)
          have HB4 : Below w.heap.size w w4 := below_grown ((hbl.alloc hsz _).alloc (by simp; omega) _) hgrow ((hown.alloc _).alloc _) (by omega) (by simp; omega)
          have d4 : HB w4 w.heap.size hZ := (hgrow.block w.heap.size (by simp; omega) (fun e => by have := (hown.lt _ e.symm).1; omega)).trans ((d0.alloc _).alloc _)
          go_roundw
          case rel => exact ⟨k + 1, v', by omega, by go_num, rfl, by rw [HST.out, List.length_append, List.map_append]; exact hown', d4, HB4⟩
          case measure => simp [intOf]; omega
        · have hc2' : (xc == task) = false := by simp [hc2]
          have hd : isD task ⟨xa, xb, xc, xd⟩ = false := by unfold isD; simp [hc2]
          rw [hd] at hst
          simp only [Bool.false_eq_true, if_false, List.append_nil] at hst
          have HST := Lib.hid hst
          clear hst hb2 hd
          go_wp2
          go_roundw
          case rel => exact ⟨k + 1, _, by omega, by go_num, rfl, by rw [HST.out]; exact hown.alloc _, d0.alloc _, hbl.alloc hsz _⟩
          case measure => simp [intOf]; omega
      · have hb2' : ((xb : Int) == 2) = false := by simp [hb2]
        have hd : isD task ⟨xa, xb, xc, xd⟩ = false := by unfold isD; simp [hb2]
        rw [hd] at hst
        simp only [Bool.false_eq_true, if_false, List.append_nil] at hst
        have HST := Lib.hid hst
        clear hst hd
        go_wp2
        go_roundw
        case rel => exact ⟨k + 1, _, by omega, by go_num, rfl, by rw [HST.out]; exact hown.alloc _, d0.alloc _, hbl.alloc hsz _⟩
        case measure => simp [intOf]; omega
    · have hpe : xs.take k = xs := List.take_of_length_le (by omega)
      rw [hpe] at hown hdl
      rw [hpe]
      obtain ⟨_, hI⟩ := Ints.of_own hown
      obtain ⟨ys, hys⟩ : ∃ ys, ys = dn task xs := ⟨_, rfl⟩
      rw [← hys] at hI hdl hV ⊢
      have cO := rof_any A0 ys cp wr hI (by omega)
      obtain ⟨V, hVe⟩ : ∃ V, V = (smF hZ ys).1 := ⟨_, rfl⟩
      obtain ⟨E, hEe⟩ : ∃ E, E = (smF hZ ys).2 := ⟨_, rfl⟩
      rw [← hVe, ← hEe] at cO
      rw [← hVe] at hV
      have CO := Lib.hid cO
      have HVE := Lib.hid hVe
      have HEE := Lib.hid hEe
      have HYS := Lib.hid hys
      clear cO hVe hEe hown hpe hys
      go_wp2_with fail
      refine CO.out.mono ?_
      rintro e w1 ⟨rfl, hb⟩
      have e0 := d0.below hb l0
      go_wp2_with (refine wpList_store_row rfl 24 _ _ rfl _ rfl (hC V) rfl 24 (hC hZ) e0 (hist_size hV) (by rw [hC_size, hC_size, hV, hZ_len]) (hC_one _) ?_)
      exact bodyPost_ret (v := .tuple #[.agg (hC V), .int .i64 E]) (results_hist (p := 4) (u := 5) rfl _ _ w.heap.size V hV rfl (e0.put V)) rfl ⟨by rw [← HYS.out, ← HVE.out, ← HEE.out], below_put (hbl.next hsz hb) (Nat.le_refl _) _⟩
end Go.Proofs.Ytmaehcecilnglaa
