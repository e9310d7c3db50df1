/-
  The walks of hist.share, Below and of the reference's Below.
-/
import Derived.Test.YtmaehcecilnglaaH8
import Derived.Test.YtmaehcecilnglaaD64
namespace Go.Proofs.Ytmaehcecilnglaa
open Go.RowKit
set_option linter.unusedVariables false

/-- A part of a number, rounded up. -/
def ndN (a p o : Nat) : Nat := (a * p + o - 1) / o
theorem nd_split {a p o : Nat} (ho : 0 < o) : ndN a p o = if a * p % o = 0 then a * p / o else a * p / o + 1 := by
  unfold ndN
  have d := Nat.div_add_mod (a * p) o
  have l := Nat.mod_lt (a * p) ho
  generalize hq : a * p / o = q at d ⊢
  generalize hr : a * p % o = r at d l ⊢
  split
  · rename_i h
    rw [← d, h, show o * q + 0 + o - 1 = o * q + (o - 1) by omega, Nat.mul_add_div ho, Nat.div_eq_of_lt (by omega)]; try omega
  · rename_i h
    have : a * p + o - 1 = o * (q + 1) + (r - 1) := by rw [Nat.mul_add]; omega
    rw [this, Nat.mul_add_div ho, Nat.div_eq_of_lt (by omega)]; try omega
theorem nd_le {a p o : Nat} (ho : 0 < o) (hp : p ≤ o) : ndN a p o ≤ a ∧ a * p / o ≤ a := by
  have h1 : a * p ≤ a * o := Nat.mul_le_mul_left _ hp
  constructor
  · unfold ndN
    have : a * p + o - 1 < (a + 1) * o := by rw [Nat.add_mul]; omega
    have := (Nat.div_lt_iff_lt_mul ho).2 this
    omega
  · exact Nat.div_le_of_le_mul (by rw [Nat.mul_comm o]; exact h1)
theorem nd_ref {a p o : Nat} (ho : 0 < o) : a / o * p + (a % o * p + o - 1) / o = ndN a p o := by
  unfold ndN
  have d := Nat.div_add_mod a o
  have e : a * p + o - 1 = o * (a / o * p) + (a % o * p + o - 1) := by
    have : a * p = o * (a / o * p) + a % o * p := by
      conv => lhs; rw [← d]
      rw [Nat.add_mul, Nat.mul_assoc]
    omega
  rw [e, Nat.mul_add_div ho]
theorem hi_lt {a p o : Nat} (ha : a ≤ 4503599627370496) (hp : p ≤ o) (ho : 0 < o) : a * p / 18446744073709551616 < o := by
  have h1 : a * p ≤ 4503599627370496 * o := Nat.mul_le_mul ha hp
  rw [Nat.div_lt_iff_lt_mul (by omega)]
  omega
set_option maxRecDepth 100000 in
set_option maxHeartbeats 1000000 in
theorem share_any (a p o : Nat) (ha : a ≤ 4503599627370496) (ho : 0 < o) (ho2 : o ≤ 1000000) (hp : p ≤ o) (w : World) :
    Calls Try.prog 29 #[.int .i64 (a : Int), .int .i64 (p : Int), .int .i64 (o : Int)] w fun e w' => e = .returned (.int .i64 (ndN a p o : Int)) ∧ Below w.heap.size w w' := by
  have c1 := fun w => bits_Mul64 a p (by omega) (by omega) w
  have hlt := hi_lt ha hp ho
  have hlo : a * p % 18446744073709551616 < 18446744073709551616 := Nat.mod_lt _ (by omega)
  have c2 := fun w => div64_any (a * p / 18446744073709551616) (a * p % 18446744073709551616) o hlo hlt (by omega) w
  have e : a * p / 18446744073709551616 * 2 ^ 64 + a * p % 18446744073709551616 = a * p := by
    rw [Nat.mul_comm]; exact Nat.div_add_mod _ _
  rw [e] at c2
  have hsp := nd_split (a := a) (p := p) ho
  obtain ⟨l1, l2⟩ := nd_le (a := a) ho hp
  generalize a * p / 18446744073709551616 = hi at c1 c2
  generalize a * p % 18446744073709551616 = lo at c1 c2
  obtain ⟨q, hq⟩ : ∃ q, q = a * p / o := ⟨_, rfl⟩
  obtain ⟨r, hr⟩ : ∃ q, q = a * p % o := ⟨_, rfl⟩
  rw [← hq] at l2
  rw [← hq, ← hr] at hsp
  simp only [← hq, ← hr] at c2
  clear hq
  obtain ⟨N, hN⟩ : ∃ N : Int, N = (q : Int) := ⟨_, rfl⟩
  obtain ⟨R, hR⟩ : ∃ N : Int, N = (r : Int) := ⟨_, rfl⟩
  simp only [← hN, ← hR] at c2
  have n0 : 0 ≤ N := by omega
  have n1 : N ≤ 4503599627370496 := by omega
  have C1 := Kept.mk c1
  have C2 := Kept.mk c2
  have a0 : (a : Int) ≤ 4503599627370496 := by omega
  have o0 : (o : Int) ≤ 1000000 := by omega
  have p0 : (p : Int) ≤ 1000000 := by omega
  by_cases h0 : r = 0
  · have r0 : R = 0 := by omega
    subst r0
    rw [if_pos h0] at hsp
    have HS := Kept.mk (show ((ndN a p o : Nat) : Int) = N by omega)
    clear hsp h0 hN hR hr c1 c2 e hlt hlo l1 l2 ha ho2 hp
    go_enter Try.func29, Try.ntmps29
    go_wp2_with fail
    refine (C1.out _).mono ?_
    rintro e w' ⟨rfl, rfl⟩
    go_wp2_with fail
    refine (C2.out _).mono ?_
    rintro e w2 ⟨rfl, hb⟩
    go_wp2
    go_ret
    exact ⟨ret_i HS.out.symm, hb⟩
  · have r0 : 0 < R := by omega
    rw [if_neg h0] at hsp
    have HS := Kept.mk (show ((ndN a p o : Nat) : Int) = N + 1 by omega)
    clear hsp h0 hN hR hr c1 c2 e hlt hlo l1 l2 ha ho2 hp
    go_enter Try.func29, Try.ntmps29
    go_wp2_with fail
    refine (C1.out _).mono ?_
    rintro e w' ⟨rfl, rfl⟩
    go_wp2_with fail
    refine (C2.out _).mono ?_
    rintro e w2 ⟨rfl, hb⟩
    go_wp2
    go_ret
    exact ⟨ret_i HS.out.symm, hb⟩

/-! ### the place -/
def psum (V : List Int) (k : Nat) : Int := (V.take k).foldl (· + ·) 0
theorem psum_step {V : List Int} {k : Nat} {x : Int} (h : V[k]? = some x) : psum V (k + 1) = psum V k + x := by
  unfold psum
  rw [List.take_add_one, h, List.foldl_append]; rfl
def plc (V : List Int) (need : Int) : Nat := ((List.range 54).find? fun j => decide (need ≤ psum V (j + 1))).getD 0
theorem plc_eq {V : List Int} {need : Int} {j : Nat} (hj : j < 54) (h : need ≤ psum V (j + 1)) (hl : ∀ i, i < j → psum V (i + 1) < need) : plc V need = j := by
  unfold plc
  have : (List.range 54).find? (fun j => decide (need ≤ psum V (j + 1))) = some j := by
    rw [List.find?_range_eq_some]
    refine ⟨by simpa using h, by simpa using hj, fun i hi => ?_⟩
    have := hl i hi
    simp; omega
  rw [this]; rfl
def beE (V : List Int) (p o : Int) : Int := if totE V ≠ 0 then 2 else if o < 1 ∨ 1000000 < o ∨ p < 0 ∨ o < p then 1 else if totV V = 0 then 3 else 0
def beV (V : List Int) (p o : Int) : Int := if beE V p o ≠ 0 then 0 else 2 ^ plc V (ndN (totV V).toNat p.toNat o.toNat) - 1
theorem psum_end {V : List Int} (hV : V.length = 54) : psum V 54 = V.foldl (· + ·) 0 := by unfold psum; rw [List.take_of_length_le (by omega)]
theorem psum_le {V : List Int} (h : ∀ x ∈ V, 0 ≤ x ∧ x ≤ 4503599627370496) (k : Nat) : 0 ≤ psum V k ∧ psum V k ≤ V.foldl (· + ·) 0 := by
  have base : ∀ (L : List Int) (s : Int), (∀ x ∈ L, 0 ≤ x) → s ≤ L.foldl (· + ·) s := by
    intro L
    induction L with
    | nil => intro s _; exact Int.le_refl _
    | cons x r ih =>
      intro s hs
      have := ih (s + x) (fun y hy => hs y (by simp [hy]))
      have := hs x (by simp)
      simp only [List.foldl_cons]; omega
  constructor
  · exact base _ 0 fun x hx => (h x (List.mem_of_mem_take hx)).1
  · have e : V = V.take k ++ V.drop k := (List.take_append_drop k V).symm
    have : V.foldl (· + ·) 0 = (V.drop k).foldl (· + ·) (psum V k) := by
      conv => lhs; rw [e]
      rw [List.foldl_append]; rfl
    rw [this]
    exact base _ _ fun x hx => (h x (List.mem_of_mem_drop hx)).1
end Go.Proofs.Ytmaehcecilnglaa
