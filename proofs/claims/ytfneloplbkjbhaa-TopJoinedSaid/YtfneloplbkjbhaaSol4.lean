/-
  The reference's Steps; Solve of both; vergelaw25.each, vergelaw25.lives.
-/
import Derived.Test.YtfneloplbkjbhaaSol3
import Derived.Test.YtfneloplbkjbhaaCur4
namespace Go.Proofs.Ytfneloplbkjbhaa
open Go.RowKit
set_option linter.unusedVariables false

def slLen : Value → Nat
  | .slice _ n _ => n
  | _ => 0
/-! ### Solve -/
def soV (b : Int) (xs : List Q4) (lim : Int) : Int := if stE b xs lim ≠ 0 then 0 else (stL b xs lim)[(stL b xs lim).length - 1]?.getD 0
theorem run_ne {b : Int} {xs : List Q4} {lim : Int} : ∀ (k : Nat) (w : Int) (out : List Int), (run b xs lim k w out).2 = 0 → (run b xs lim k w out).1 ≠ []
  | 0, w, out, h => by simp [run] at h
  | k + 1, w, out, h => by
    unfold run at h ⊢
    by_cases hx : lim < w
    · rw [if_pos hx] at h; simp at h
    · rw [if_neg hx] at h ⊢
      by_cases he : roE b xs w ≠ 0
      · rw [if_pos he] at h; exact absurd h he
      · rw [if_neg he] at h ⊢
        by_cases hv : roV b xs w = w
        · rw [if_pos hv]; simp
        · rw [if_neg hv] at h ⊢; exact run_ne k _ _ h
theorem run_len {b : Int} {xs : List Q4} {lim : Int} : ∀ (k : Nat) (w : Int) (out : List Int), (run b xs lim k w out).1.length ≤ out.length + k
  | 0, w, out => by simp [run]
  | k + 1, w, out => by
    unfold run
    have ih := run_len (b := b) (xs := xs) (lim := lim) k (roV b xs w) (out ++ [w])
    simp only [List.length_append, List.length_cons, List.length_nil] at ih
    repeat' split
    all_goals first | (simp; omega) | (simp; done) | omega
theorem st_ne {b : Int} {xs : List Q4} {lim : Int} (h : stE b xs lim = 0) : ∃ m, (stL b xs lim).length = m + 1 ∧ m < 4096 := by
  unfold stE at h
  unfold stL
  split at h
  · omega
  · split at h
    · omega
    · rename_i h1 h2
      rw [if_neg h1, if_neg h2]
      have := run_ne 4096 b [] h
      have hl := run_len (b := b) (xs := xs) (lim := lim) 4096 b []
      cases e : (run b xs lim 4096 b []).1 with
      | nil => exact absurd e this
      | cons a r => rw [e] at hl; exact ⟨r.length, by simp, by simp at hl; omega⟩
theorem stL_len (b : Int) (xs : List Q4) (lim : Int) : (stL b xs lim).length ≤ 4096 := by
  unfold stL
  have hl := run_len (b := b) (xs := xs) (lim := lim) 4096 b []
  simp only [List.length_nil, Nat.zero_add] at hl
  repeat' split
  all_goals first | (simp; done) | exact hl

set_option maxHeartbeats 1000000 in
theorem solve_any (b : Int) (A : Option Addr) (xs : List Q4) (cap : Nat) (lim : Int) (w : World) (h : R4 w w.heap.size A xs) (hl : xs.length ≤ 9223372036854775807) :
    Calls Try.prog 12 #[.int .i64 b, .slice A xs.length cap, .int .i64 lim] w fun e w' => e = .returned (.tuple #[.int .i64 (soV b xs lim), .int .i64 (stE b xs lim)]) ∧ Below w.heap.size w w' := by
  by_cases he : stE b xs lim = 0
  · obtain ⟨m, hm, hm1⟩ := st_ne he
    have hv : soV b xs lim = (stL b xs lim)[m]?.getD 0 := by unfold soV; rw [if_neg (by omega), hm]; rfl
    have HV := Lib.hid hv
    have HM := Lib.hid hm
    clear hv hm
    go_enter Try.func12, Try.ntmps12
    go_wp2_with fail
    refine (sts_any _ A xs _ _ _ h hl).mono ?_
    rintro e w1 ⟨A2, c2, rfl, hI, hb⟩
    obtain ⟨b2, off, rfl, hlt, hc⟩ := hI (by rw [HM.out]; omega)
    replace hc := hc m (by rw [HM.out]; omega)
    rw [HM.out]
    have hm2 : IntKind.i64.wrap (((m + 1 : Nat) : Int) - 1) = (m : Int) := by rw [IntWalk.i64_in _ (by omega)]; omega
    go_wp2
    go_ret2
    exact ⟨ret_ii HV.out.symm he.symm, hb⟩
  · have hv : soV b xs lim = 0 := by unfold soV; rw [if_pos he]
    have HV := Lib.hid hv
    clear hv
    go_enter Try.func12, Try.ntmps12
    go_wp2_with fail
    refine (sts_any _ A xs _ _ _ h hl).mono ?_
    rintro e w1 ⟨A2, c2, rfl, hI, hb⟩
    go_wp2
    go_ret2
    exact ⟨ret_ii HV.out.symm rfl, hb⟩
end Go.Proofs.Ytfneloplbkjbhaa
