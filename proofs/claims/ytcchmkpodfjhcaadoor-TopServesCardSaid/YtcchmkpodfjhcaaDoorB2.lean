/-
  The walks of the reference (vergeref05), part 2: First, Last, After, Around.
-/
import Derived.Test.YtcchmkpodfjhcaaDoorB1
namespace Go.Proofs.YtcchmkpodfjhcaaDoor
open Go.RowKit
set_option linter.unusedVariables false

def op2 (o : Option Int) : Ending := .returned (.tuple #[.int .i64 (o.getD 0), .bool o.isSome])
theorem find_drop {p : Int → Bool} {L : List Int} {k : Nat} {x : Int} (hx : L[k]? = some x) : (L.drop k).find? p = if p x = true then some x else (L.drop (k + 1)).find? p := by
  obtain ⟨h, e⟩ := List.getElem?_eq_some_iff.1 hx
  rw [List.drop_eq_getElem_cons h, e, List.find?_cons]
  split <;> simp_all
theorem lb_mem {k b : Nat} {x : Int} (h : x ∈ lb k b) : ∃ i : Nat, x = i ∧ i < k ∧ b.testBit i = true := by
  unfold lb at h
  obtain ⟨i, hi, rfl⟩ := List.mem_map.1 h
  have := List.mem_filter.1 hi
  exact ⟨i, rfl, by simpa using this.1, this.2⟩

set_option maxHeartbeats 400000 in
theorem rfirst_any (b : Nat) (hb : b < 18446744073709551616) (w : World) :
    Calls Tryd.prog 17 #[.int .u64 (b : Int)] w fun e w' => e = op2 (lb 64 b).head? ∧ Below w.heap.size w w' := by
  have hlen := lb_len 64 b
  go_enter Tryd.func17, Tryd.ntmps17
  go_wp2_with fail
  refine (rlist_any b hb _).mono ?_
  rintro e w1 ⟨A, c, rfl, hI, HB⟩
  obtain ⟨L, eL⟩ : ∃ L, L = lb 64 b := ⟨_, rfl⟩
  rw [← eL] at hI hlen ⊢
  have EL := Lib.hid eL
  clear eL
  go_wp2_with fail
  go_loop [9] (fun i => i = .int .i64 0) (fun _ => 0)
  case atStart => rfl
  case round =>
    obtain rfl := hrel
    cases L with
    | nil =>
      go_wp2
      go_ret2
      exact ⟨by rw [← EL.out]; rfl, HB⟩
    | cons x r =>
      obtain ⟨b2, off, rfl, hlt, hc⟩ := hI (by simp)
      have c0 := hc 0 (by simp)
      simp only [Nat.add_zero, List.getElem?_cons_zero, Option.getD_some] at c0
      clear hc
      have hl : 0 < ((x :: r).length : Int) := by simp
      go_wp2
      go_ret2
      exact ⟨by rw [← EL.out]; rfl, HB⟩

set_option maxHeartbeats 400000 in
theorem rlast_any (b : Nat) (hb : b < 18446744073709551616) (w : World) :
    Calls Tryd.prog 19 #[.int .u64 (b : Int)] w fun e w' => e = op2 (lb 64 b).getLast? ∧ Below w.heap.size w w' := by
  have hlen := lb_len 64 b
  go_enter Tryd.func19, Tryd.ntmps19
  go_wp2_with fail
  refine (rlist_any b hb _).mono ?_
  rintro e w1 ⟨A, c, rfl, hI, HB⟩
  obtain ⟨L, eL⟩ : ∃ L, L = lb 64 b := ⟨_, rfl⟩
  rw [← eL] at hI hlen ⊢
  have EL := Lib.hid eL
  clear eL
  by_cases hL : L = []
  · subst hL
    go_wp2
    go_ret2
    exact ⟨by rw [← EL.out]; rfl, HB⟩
  · obtain ⟨m, hm⟩ : ∃ m, L.length = m + 1 := ⟨L.length - 1, by have := List.length_pos_iff.2 hL; omega⟩
    obtain ⟨b2, off, rfl, hlt, hc⟩ := hI (by omega)
    have c0 := hc m (by omega)
    have e : L.getLast? = some (L[m]?.getD 0) := by
      rw [List.getLast?_eq_getElem?, hm, Nat.add_sub_cancel, List.getElem?_eq_getElem (by omega)]; rfl
    obtain ⟨y, ey⟩ : ∃ y, y = L[m]?.getD 0 := ⟨_, rfl⟩
    rw [← ey] at c0 e
    have E := Lib.hid e
    rw [hm]
    have hm2 : IntKind.i64.wrap (((m + 1 : Nat) : Int) - 1) = (m : Int) := by rw [IntWalk.i64_in _ (by omega)]; omega
    clear hc e ey
    go_wp2
    go_ret2
    exact ⟨by rw [← EL.out, E.out]; rfl, HB⟩

set_option maxHeartbeats 400000 in
theorem rafter_any (b : Nat) (hb : b < 18446744073709551616) (n : Int) (w : World) :
    Calls Tryd.prog 21 #[.int .u64 (b : Int), .int .i64 n] w fun e w' => e = op2 ((lb 64 b).find? fun m => decide (n < m)) ∧ Below w.heap.size w w' := by
  have hlen := lb_len 64 b
  go_enter Tryd.func21, Tryd.ntmps21
  go_wp2_with fail
  refine (rlist_any b hb _).mono ?_
  rintro e w1 ⟨A, c, rfl, hI, HB⟩
  obtain ⟨L, eL⟩ : ∃ L, L = lb 64 b := ⟨_, rfl⟩
  rw [← eL] at hI hlen ⊢
  have EL := Lib.hid eL
  clear eL
  go_wp2_with fail
  go_loop [11] (fun i => ∃ k : Nat, k ≤ L.length ∧ i = .int .i64 k ∧ Hid (L.find? (fun m => decide (n < m)) = (L.drop k).find? fun m => decide (n < m))) (fun i => L.length - (intOf i).toNat)
  case atStart => exact ⟨0, by omega, rfl, rfl⟩
  case round =>
    obtain ⟨k, hk, rfl, hs⟩ := hrel
    by_cases hlt : k < L.length
    · obtain ⟨b2, off, rfl, hlt2, hc⟩ := hI (by omega)
      have c0 := hc k hlt
      obtain ⟨x, hx⟩ : ∃ x, L[k]? = some x := ⟨L[k], List.getElem?_eq_getElem hlt⟩
      rw [hx] at c0
      simp only [Option.getD_some] at c0
      have hf := find_drop (p := fun m => decide (n < m)) hx
      have HF := Lib.hid (hs.out.trans hf)
      clear hc hx hf hs
      by_cases hn : n < x
      · have h2 := HF.out
        simp only [hn, decide_true, if_true] at h2
        have H2 := Lib.hid h2
        clear h2
        go_wp2
        go_ret2
        exact ⟨by rw [← EL.out, H2.out]; rfl, HB⟩
      · have h2 := HF.out
        simp only [hn, decide_false, Bool.false_eq_true, if_false] at h2
        have H2 := Lib.hid h2
        clear h2
        go_wp2
        go_round
        case rel => exact ⟨k + 1, by omega, by go_num, H2.out⟩
        case measure => simp [intOf]; omega
    · have h2 := hs.out
      rw [List.drop_eq_nil_of_le (by omega)] at h2
      have H2 := Lib.hid h2
      clear h2 hs
      go_wp2
      go_ret2
      exact ⟨by rw [← EL.out, H2.out]; rfl, HB⟩
def arO (n : Int) (L : List Int) : Option Int := (L.find? fun m => decide (n ≤ m)).or L.head?
set_option maxHeartbeats 400000 in
theorem raround_any (b : Nat) (hb : b < 18446744073709551616) (n : Int) (w : World) :
    Calls Tryd.prog 23 #[.int .u64 (b : Int), .int .i64 n] w fun e w' => e = op2 (arO n (lb 64 b)) ∧ Below w.heap.size w w' := by
  have hlen := lb_len 64 b
  go_enter Tryd.func23, Tryd.ntmps23
  go_wp2_with fail
  refine (rlist_any b hb _).mono ?_
  rintro e w1 ⟨A, c, rfl, hI, HB⟩
  obtain ⟨L, eL⟩ : ∃ L, L = lb 64 b := ⟨_, rfl⟩
  rw [← eL] at hI hlen ⊢
  have EL := Lib.hid eL
  clear eL
  go_wp2_with fail
  go_loop [11] (fun i => ∃ k : Nat, k ≤ L.length ∧ i = .int .i64 k ∧ Hid (L.find? (fun m => decide (n ≤ m)) = (L.drop k).find? fun m => decide (n ≤ m))) (fun i => L.length - (intOf i).toNat)
  case atStart => exact ⟨0, by omega, rfl, rfl⟩
  case round =>
    obtain ⟨k, hk, rfl, hs⟩ := hrel
    by_cases hlt : k < L.length
    · obtain ⟨b2, off, rfl, hlt2, hc⟩ := hI (by omega)
      have c0 := hc k hlt
      obtain ⟨x, hx⟩ : ∃ x, L[k]? = some x := ⟨L[k], List.getElem?_eq_getElem hlt⟩
      rw [hx] at c0
      simp only [Option.getD_some] at c0
      have hf := find_drop (p := fun m => decide (n ≤ m)) hx
      have HF := Lib.hid (hs.out.trans hf)
      clear hc hx hf hs
      by_cases hn : n ≤ x
      · have h2 := HF.out
        simp only [hn, decide_true, if_true] at h2
        have H2 := Lib.hid h2
        clear h2
        go_wp2
        go_ret2
        exact ⟨by unfold arO; rw [← EL.out, H2.out]; rfl, HB⟩
      · have h2 := HF.out
        simp only [hn, decide_false, Bool.false_eq_true, if_false] at h2
        have H2 := Lib.hid h2
        clear h2
        go_wp2
        go_round
        case rel => exact ⟨k + 1, by omega, by go_num, H2.out⟩
        case measure => simp [intOf]; omega
    · have h2 := hs.out
      rw [List.drop_eq_nil_of_le (by omega)] at h2
      have H2 := Lib.hid h2
      clear h2 hs
      go_wp2_with fail
      refine (rfirst_any b hb _).mono ?_
      rintro e w2 ⟨rfl, hb2⟩
      unfold op2
      go_wp2
      go_ret2
      exact ⟨by unfold arO op2; rw [← EL.out, H2.out]; rfl, HB.next HB.size hb2⟩
end Go.Proofs.YtcchmkpodfjhcaaDoor
