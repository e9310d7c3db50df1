/-
  Sets of bits: what they are as lists, and the walks of the reference (vergeref05): List, one, Has.
-/
import Derived.Test.YtcchmkpodfjhcaaDoorVi
namespace Go.Proofs.YtcchmkpodfjhcaaDoor
open Go.RowKit
set_option linter.unusedVariables false

/-- The bits of a number below k, rising. -/
def lb (k b : Nat) : List Int := ((List.range k).filter fun i => b.testBit i).map fun i : Nat => (i : Int)
theorem lb_succ (k b : Nat) : lb (k + 1) b = lb k b ++ if b.testBit k then [(k : Int)] else [] := by
  unfold lb
  rw [List.range_succ, List.filter_append, List.map_append]
  by_cases h : b.testBit k
  · simp [h]
  · simp [h]
theorem lb_len (k b : Nat) : (lb k b).length ≤ k := by
  unfold lb
  have := List.length_filter_le (fun i => b.testBit i) (List.range k)
  simpa using this
theorem bit_div (b k : Nat) : b.testBit k = decide (b / 2 ^ k % 2 = 1) := Nat.testBit_eq_decide_div_mod_eq
theorem div_step (b k : Nat) : b / 2 ^ (k + 1) = b / 2 ^ k / 2 := by rw [Nat.pow_succ, Nat.div_div_eq_div_mul]

def IntRes (w : World) (L : List Int) (e : Ending) (w' : World) : Prop :=
  ∃ A c, e = .returned (.slice A L.length c) ∧ Ints w' w'.heap.size A L ∧ Below w.heap.size w w'
theorem IntRes.own {w w' : World} {L : List Int} {v : Value} {base : Nat} {t : TypeId} {n : Nat} (hn : n = L.length) (h : w'.ownsRow base t 1 v n (L.map (Value.int .i64))) (hb : Below w.heap.size w w') : IntRes w L (.returned v) w' := by
  subst hn
  obtain ⟨A, c, rfl⟩ := own_slice h
  exact ⟨A, c, rfl, (Ints.of_own h).2, hb⟩
theorem info_int : (Tryd.prog.info? 3).map (fun i => (i.zero, i.size, i.bytes)) = some (some (.int .i64 0), 1, 8) := by kernel_rfl

set_option maxHeartbeats 1000000 in
theorem rlist_any (b : Nat) (hb : b < 18446744073709551616) (w : World) :
    Calls Tryd.prog 28 #[.int .u64 (b : Int)] w (IntRes w (lb 64 b)) := by
  obtain ⟨i0, hi, hz0, hz1, hz2⟩ := info_parts info_int
  go_enter Tryd.func28, Tryd.ntmps28
  go_wp2_with fail
  go_loopw [0, 3, 4] (fun t u i wr => ∃ (k : Nat) (d : Nat) (v : Value), k ≤ 64 ∧ t = .int .u64 (d : Int) ∧ u = v ∧ i = .int .i64 k ∧ d < 18446744073709551616 ∧ Hid (d = b / 2 ^ k) ∧ wr.ownsRow w.heap.size 3 1 v (lb k b).length ((lb k b).map (Value.int .i64)) ∧ Below w.heap.size w wr) (fun _ _ i _ => 64 - (intOf i).toNat)
  case atStart => exact ⟨0, b, _, by omega, rfl, rfl, rfl, hb, by simp [Hid], by simpa [lb] using World.ownsRow_nil _ _ _ _, Below.refl _ _⟩
  case round =>
    obtain ⟨k, d, v, hk, rfl, rfl, rfl, hd, hD, hown, hbl⟩ := hrel
    obtain ⟨A0, cp, rfl⟩ := own_slice hown
    have hkl := lb_len k b
    have hsz := hbl.size
    by_cases hlt : k < 64
    · have hsn := lb_succ k b
      rw [bit_div, ← hD.out] at hsn
      have hds := div_step b k
      rw [← hD.out] at hds
      have HDS := Lib.hid hds
      clear hds hD
      by_cases hbit : d % 2 = 1
      · simp only [hbit, decide_true, if_true] at hsn
        have hbi : (d : Int) % 2 = 1 := by omega
        have HS := Lib.hid hsn
        clear hsn hbit
        go_wp2_with (at_builtin; refine wpList_append_own _ rfl _ _ 22 rfl w.heap.size 3 i0 (.int .i64 0) 1 8 Tryd.underlying22 hi hz0 hz1 hz2 rfl (by decide) _ _ _ rfl (hown.alloc _) ⟨wr.heap.size, 0, none⟩ 1 1 [.int .i64 (k : Int)] rfl rfl (cell_one_new _ _ _) (by simp [Value.oneCell']) (by simp only [maxLen]; omega) (by omega) (by simp; omega) ?_; intro v' w4 hown' hgrow _; have HB4 := below_grown (hbl.alloc hbl.size _) hgrow (hown.alloc _) (Nat.le_refl _) (by simp; omega))
        go_roundw
        case rel => exact ⟨k + 1, d / 2, v', by omega, by go_num, rfl, by go_num, by omega, HDS.out.symm, by rw [HS.out, List.length_append, List.map_append]; exact hown', HB4⟩
        case measure => simp [intOf]; omega
      · have hbi : ¬ (d : Int) % 2 = 1 := by omega
        simp only [hbit, decide_false, Bool.false_eq_true, if_false, List.append_nil] at hsn
        have HS := Lib.hid hsn
        clear hsn hbit
        go_wp2
        go_roundw
        case rel => exact ⟨k + 1, d / 2, _, by omega, by go_num, rfl, by go_num, by omega, HDS.out.symm, by rw [HS.out]; exact hown, hbl⟩
        case measure => simp [intOf]; omega
    · have e : k = 64 := by omega
      subst e
      go_wp2
      go_ret
      exact IntRes.own rfl hown hbl
end Go.Proofs.YtcchmkpodfjhcaaDoor
