/-
  The walks of package bits: from, First, Last, After, Around.
-/
import Derived.Test.YtakkfgkogomjbaaDoorBL
import Derived.Test.YtakkfgkogomjbaaDoorBC
import Derived.Test.YtakkfgkogomjbaaDoorBShf
namespace Go.Proofs.YtakkfgkogomjbaaDoor
open Go.RowKit Go.Shelf
set_option linter.unusedVariables false

abbrev Tab (w : World) : Prop := TabAt 0 Lib.deBruijn64tab w
theorem Tab.below {w w' : World} {B : Nat} (h : Tab w) (hb : Below B w w') (hB : 0 < B) : Tab w' := fun j hj => (hb.cell (p := ⟨0, j, none⟩) hB).trans (h j hj)
theorem wf_bounds {n : Int} (h : (Lit.int .i64 n).wf = true) : -9223372036854775808 ≤ n ∧ n ≤ 9223372036854775807 := by
  simp [Lit.wf, IntKind.min, IntKind.max, IntKind.signed, IntKind.bits] at h
  omega
theorem ret_u {a b : Int} (h : a = b) : Ending.returned (.int .u64 a) = .returned (.int .u64 b) := by rw [h]
theorem u64_in (a : Nat) (h : a < 18446744073709551616) : IntKind.u64.wrap (a : Int) = a := by rw [IntKind.wrap_u64]; omega
theorem from_any (b : Nat) (hb : b < 18446744073709551616) (n : Int) (w : World) :
    Calls Tryd.prog 78 #[.int .u64 (b : Int), .int .i64 n] w fun e w' => e = .returned (.int .u64 ((frN b n : Nat) : Int)) ∧ w = w' := by
  by_cases h1 : n ≤ 0
  · have e : frN b n = b := by unfold frN; rw [if_pos h1]
    rw [e]
    go_enter Tryd.func78, Tryd.ntmps78
    go_wp2
    go_ret
    exact ⟨rfl, rfl⟩
  · by_cases h2 : 63 < n
    · have e : frN b n = 0 := by unfold frN; rw [if_neg h1, if_pos h2]
      rw [e]
      go_enter Tryd.func78, Tryd.ntmps78
      go_wp2
      go_ret
      exact ⟨rfl, rfl⟩
    · obtain ⟨m, rfl⟩ := Int.eq_ofNat_of_zero_le (show 0 ≤ n by omega)
      have e : frN b m = b / 2 ^ m * 2 ^ m := by unfold frN; rw [if_neg h1, if_neg h2]; rfl
      rw [e]
      have h3 : 1 ≤ m := by omega
      have h4 : m ≤ 63 := by omega
      have hle : b / 2 ^ m * 2 ^ m ≤ b := Nat.div_mul_le_self _ _
      have hw := u64_in (b / 2 ^ m * 2 ^ m) (by omega)
      have HW := Lib.hid hw
      clear hw hle e
      go_enter Tryd.func78, Tryd.ntmps78
      go_wp2
      go_ret
      exact ⟨ret_u (by have := HW.out; simpa using this), rfl⟩
theorem bfirst_any (b : Nat) (hb : b < 18446744073709551616) (w : World) (hT : Tab w) :
    Calls Tryd.prog 77 #[.int .u64 (b : Int)] w fun e w' => e = op2 (lb 64 b).head? ∧ w = w' := by
  rw [first_eq hb]
  by_cases h0 : b = 0
  · subst h0
    rw [if_pos rfl]
    go_enter Tryd.func77, Tryd.ntmps77
    go_wp2
    go_ret2
    exact ⟨rfl, rfl⟩
  · rw [if_neg h0]
    have hz : ((b : Int) == 0) = false := by simp [h0]
    clear h0
    go_enter Tryd.func77, Tryd.ntmps77
    go_wp2_with (go_at_call 94; refine (bits_tz b hb _ fun _ => hT).mono ?_; rintro e w' ⟨rfl, rfl⟩)
    go_ret2
    exact ⟨rfl, rfl⟩
theorem after_any (b : Nat) (hb : b < 18446744073709551616) (n : Int) (w : World) (hT : Tab w) (hn : (Lit.int .i64 n).wf = true) :
    Calls Tryd.prog 62 #[.int .u64 (b : Int), .int .i64 n] w fun e w' => e = op2 ((lb 64 b).find? fun m => decide (n < m)) ∧ w = w' := by
  have hwf := wf_bounds hn
  by_cases h1 : 63 ≤ n
  · have e : (lb 64 b).find? (fun m => decide (n < m)) = none := by
      rw [List.find?_eq_none]
      intro x hx
      obtain ⟨i, rfl, hi, _⟩ := lb_mem hx
      simp; omega
    rw [e]
    go_enter Tryd.func62, Tryd.ntmps62
    go_wp2
    go_ret2
    exact ⟨rfl, rfl⟩
  · have hf := frN_le b (n + 1)
    have e : (lb 64 (frN b (n + 1))).head? = (lb 64 b).find? fun m => decide (n < m) := by
      rw [fr_head]; congr 1
    rw [← e]
    clear e
    go_enter Tryd.func62, Tryd.ntmps62
    go_wp2_with (first | (go_at_call 78; refine (from_any b hb _ _).mono ?_; rintro e w' ⟨rfl, rfl⟩) | (go_at_call 77; refine (bfirst_any _ (by omega) _ hT).mono ?_; rintro e w' ⟨rfl, rfl⟩; unfold op2))
    go_ret2
    exact ⟨rfl, rfl⟩
end Go.Proofs.YtakkfgkogomjbaaDoor
