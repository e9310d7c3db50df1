/-
  The walk of intc.Check.
-/
import Derived.Test.YtcchmkpodfjhcaaDoorT3
namespace Go.Proofs.YtcchmkpodfjhcaaDoor
open Go.RowKit
set_option linter.unusedVariables false
/-- The lines that are being served: at most one. -/
def StOk (xs st : List Int) : Prop := st.length ≤ 1 ∧ ∀ n, st[0]? = some n → 0 ≤ n ∧ n < (xs.length : Int)
theorem odd_range {xs : List Int} (h : xs.any oddP = false) (k : Nat) (hk : k < xs.length) : 1 ≤ xs[k]?.getD 0 ∧ xs[k]?.getD 0 ≤ 15 := by
  rw [List.getElem?_eq_getElem hk]
  have := List.any_eq_false.1 h _ (List.getElem_mem hk)
  simp [oddP] at this
  simp only [Option.getD_some]
  omega
structure MF (P M : Int) : Prop where
  or : bits .or .u64 (bits .or .u64 (bits .or .u64 P M) 0) M = M
  an : bits .andNot .u64 M M = 0
  z : bits .and .u64 0 M = 0
set_option maxHeartbeats 2000000 in
theorem check_any (P M : Int) (hm : MF P M) (A : Option Addr) (xs : List Int) (cap : Nat) (hM : M = (mk xs : Int)) (B : Option Addr) (st : List Int) (cap2 : Nat) (w : World)
    (h : Ints w w.heap.size A xs) (k : Ints w w.heap.size B st) (h1 : 1 ≤ xs.length) (h2 : xs.length ≤ 64) (hx : xs.any oddP = false) (hst : StOk xs st) :
    Calls Tryd.prog 35 #[.agg (iC P M 0 M (.slice A xs.length cap) 0 (.slice B st.length cap2))] w fun e w' => e = .returned (.int .i64 0) ∧ Below w.heap.size w w' := by
  have li : (xs.length : Int) ≤ 64 := by omega
  have l0 : ((xs.length : Int) == 0) = false := by rw [beq_eq_false_iff_ne]; omega
  have ls : (st.length : Int) ≤ 1 := by have := hst.1; omega
  obtain ⟨m1, m2, m3⟩ := hm
  have HM := Kept.mk hM
  have HX := Kept.mk hx
  have HS := Kept.mk hst
  clear hM hx hst
  have hh := h.below ((Below.refl _ _).alloc (Nat.le_refl _) (.cells (iC P M 0 M (.slice A xs.length cap) 0 (.slice B st.length cap2)) 27))
  unfold iC at *
  go_enter Tryd.func35, Tryd.ntmps35
  go_wp2_with (first
    | (go_at_call 48; refine (contains_any A xs cap _ (hh.mono (by simp)) (by omega)).mono ?_; rintro e w' ⟨rfl, rfl⟩; rw [HX.out])
    | (go_at_call 34; refine (lines_any _ _ _ _ _ _ _ _ _ _ (by omega)).mono ?_; rintro e w' ⟨rfl, hb⟩; rw [← HM.out]; have c2 := box_cell hb 2 _ rfl; have c3 := box_cell hb 3 _ rfl; have c4 := box_cell hb 4 _ rfl; have c5 := box_cell hb 5 _ rfl; have c6 := box_cell hb 6 _ rfl))
  go_loop [5, 63] (fun q i => ∃ (k : Nat) (z : Int), k ≤ st.length ∧ i = .int .i64 k ∧ q = .int .i64 z ∧ (k = 0 → z = 0)) (fun q i => st.length - (intOf i).toNat)
  case atStart => exact ⟨0, 0, by omega, rfl, rfl, fun _ => rfl⟩
  case round =>
    obtain ⟨j, z, hj, rfl, rfl, hz⟩ := hrel
    have hbw := hb.box (Nat.le_refl _)
    by_cases hlt : j < st.length
    · have J := Kept.mk (show j = 0 by omega)
      obtain rfl := hz J.out
      obtain ⟨b, off, rfl, hb1, hc1⟩ := (k.below hbw) (by omega)
      obtain ⟨n, hn⟩ : ∃ n, st[j]? = some n := ⟨st[j], List.getElem?_eq_getElem hlt⟩
      have hcx := hc1 j hlt
      rw [hn, Option.getD_some] at hcx
      have nb := HS.out.2 n (by rw [← hn, J.out])
      obtain ⟨m, rfl⟩ : ∃ m : Nat, n = m := ⟨n.toNat, by omega⟩
      obtain ⟨b2, off2, rfl, hb2, hc2⟩ := (h.below hbw) (by omega)
      have hcy := hc2 m (by omega)
      have hy := odd_range HX.out m (by omega)
      obtain ⟨y, hyy⟩ : ∃ y, y = xs[m]?.getD 0 := ⟨_, rfl⟩
      rw [← hyy] at hcy hy
      have ik : (j : Int) < (st.length : Int) := by omega
      clear hc1 hc2 hn hyy h k hh hz
      go_wp2
      go_round
      case rel => exact ⟨j + 1, y, by omega, by go_num, rfl, fun h => by omega⟩
      case measure => simp [intOf]; omega
    · have ik : ¬ ((j : Int) < (st.length : Int)) := by omega
      clear h k hh
      go_wp2
      go_ret
      exact ⟨rfl, hbw⟩
def Bad (xs : List Int) : Prop := xs.length = 0 ∨ 64 < xs.length ∨ xs.any oddP = true
set_option maxHeartbeats 2000000 in
theorem check_bad (P E R D : Int) (A : Option Addr) (xs : List Int) (cap : Nat) (s : Value) (w : World)
    (h : Ints w w.heap.size A xs) (hl : xs.length ≤ 17592186044416) (hB : Bad xs) :
    Calls Tryd.prog 35 #[.agg (iC P E R D (.slice A xs.length cap) 0 s)] w fun e w' => e = .returned (.int .i64 2) ∧ Below w.heap.size w w' := by
  have li : (xs.length : Int) ≤ 17592186044416 := by omega
  have HB := Kept.mk hB
  have hh := h.below ((Below.refl _ _).alloc (Nat.le_refl _) (.cells (iC P E R D (.slice A xs.length cap) 0 s) 27))
  unfold iC at *
  by_cases h0 : xs.length = 0
  · have l0 : ((xs.length : Int) == 0) = true := by rw [beq_iff_eq]; omega
    clear hB h0
    go_enter Tryd.func35, Tryd.ntmps35
    go_wp2
    go_ret
    exact ⟨rfl, below_box _ _⟩
  · have l0 : ((xs.length : Int) == 0) = false := by rw [beq_eq_false_iff_ne]; omega
    by_cases h64 : 64 < xs.length
    · have l1 : 64 < (xs.length : Int) := by omega
      clear hB h0 h64
      go_enter Tryd.func35, Tryd.ntmps35
      go_wp2
      go_ret
      exact ⟨rfl, below_box _ _⟩
    · have l1 : ¬ 64 < (xs.length : Int) := by omega
      have HX : Kept (xs.any oddP = true) := ⟨by rcases HB.out with h | h | h <;> first | exact h | omega⟩
      clear hB h0 h64
      go_enter Tryd.func35, Tryd.ntmps35
      go_wp2_with ((go_at_call 48; refine (contains_any A xs cap _ (hh.mono (by simp)) (by omega)).mono ?_; rintro e w' ⟨rfl, rfl⟩; rw [HX.out]))
      go_ret
      exact ⟨rfl, below_box _ _⟩
end Go.Proofs.YtcchmkpodfjhcaaDoor
