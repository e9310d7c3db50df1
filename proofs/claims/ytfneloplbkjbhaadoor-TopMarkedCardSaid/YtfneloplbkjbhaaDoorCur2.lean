/-
  The walks of package curve and of its reference (vergeref22), part 2: sorted, Fits, Dense.
-/
import Derived.Test.YtfneloplbkjbhaaDoorCur
import Derived.Test.YtfneloplbkjbhaaDoorVi
namespace Go.Proofs.YtfneloplbkjbhaaDoor
open Go.RowKit
set_option linter.unusedVariables false

/-- Times, none ahead of the one before. -/
def srt : Int → List Int → Bool
  | _, [] => true
  | a, x :: r => decide (a ≤ x) && timeB x && srt x r

set_option maxHeartbeats 400000 in
theorem sorted_any (A : Option Addr) (xs : List Int) (cap : Nat) (w : World) (h : Ints w w.heap.size A xs) (hl : xs.length ≤ 9223372036854775807) :
    Calls Tryd.prog 24 #[.slice A xs.length cap] w fun e w' => e = .returned (.bool (srt 0 xs)) ∧ w = w' := by
  go_enter Tryd.func24, Tryd.ntmps24
  go_wp2
  go_loop [3, 8] (fun u i => ∃ (k : Nat) (a : Int), k ≤ xs.length ∧ i = .int .i64 k ∧ u = .int .i64 a ∧ srt 0 xs = srt a (xs.drop k)) (fun _ i => xs.length - (intOf i).toNat)
  case atStart => exact ⟨0, 0, by omega, rfl, rfl, by simp⟩
  case round =>
    obtain ⟨k, a, hk, rfl, rfl, hs⟩ := hrel
    by_cases hlt : k < xs.length
    · obtain ⟨b, off, rfl, hbB, hc⟩ := h (by omega)
      have hcell := hc k hlt
      rw [drop_cons hlt] at hs
      simp only [srt] at hs
      obtain ⟨x, hx⟩ : ∃ x, x = xs[k]?.getD 0 := ⟨_, rfl⟩
      rw [← hx] at hs hcell
      by_cases hax : a ≤ x
      · by_cases htx : 0 ≤ x ∧ x ≤ 4503599627370496
        · have ht : timeB x = true := by simp [timeB, htx]
          have HS := Lib.hid hs
          clear hs hx hc
          go_wp2_with (first | (go_at_call 25; refine (ctime_any _ _).mono ?_; rintro e w' ⟨rfl, rfl⟩))
          go_round
          case rel => exact ⟨k + 1, x, by omega, by go_num, rfl, by rw [HS.out]; simp [hax, ht]⟩
          case measure => simp [intOf]; omega
        · have ht : timeB x = false := by simpa [timeB] using htx
          have HS := Lib.hid hs
          clear hs hx hc
          go_wp2_with (first | (go_at_call 25; refine (ctime_any _ _).mono ?_; rintro e w' ⟨rfl, rfl⟩))
          go_ret
          exact ⟨ret_bool (by rw [HS.out]; simp [ht]), rfl⟩
      · have hax' : x < a := by omega
        have HS := Lib.hid hs
        clear hs hx hc hax
        go_wp2_with (first | (go_at_call 25; refine (ctime_any _ _).mono ?_; rintro e w' ⟨rfl, rfl⟩))
        go_ret
        exact ⟨ret_bool (by rw [HS.out]; simp; omega), rfl⟩
    · have HS := Lib.hid hs
      clear hs
      go_wp2
      go_ret
      exact ⟨ret_bool (by rw [HS.out, List.drop_eq_nil_of_le (by omega)]; rfl), rfl⟩

theorem srt_at : ∀ (a : Int) (xs : List Int), srt a xs = true → ∀ j, j < xs.length → a ≤ xs[j]?.getD 0 ∧ 0 ≤ xs[j]?.getD 0 ∧ xs[j]?.getD 0 ≤ 4503599627370496
  | a, [], _, j, hj => by simp at hj
  | a, x :: r, h, j, hj => by
    simp only [srt, timeB, Bool.and_eq_true, decide_eq_true_eq] at h
    obtain ⟨⟨h1, h2⟩, h3⟩ := h
    cases j with
    | zero => simpa using ⟨h1, h2⟩
    | succ j =>
      have := srt_at x r h3 j (by simpa using hj)
      simp only [List.getElem?_cons_succ]
      omega

def fitsL (p j a : Int) : Nat → Int → Int → List Int → Nat
  | i, _, _, [] => i
  | i, la, pr, t :: r =>
    if 0 < i ∧ (t - i * p < la - j ∨ t - pr < a) then i
    else fitsL p j a (i + 1) (if i = 0 ∨ la < t - i * p then t - i * p else la) t r

def fiE (p j a : Int) (xs : List Int) : Int := if curE p j a ≠ 0 then 2 else if 1048576 < xs.length ∨ srt 0 xs = false then 1 else 0
def fiV (p j a : Int) (xs : List Int) : Int := if fiE p j a xs ≠ 0 then 0 else fitsL p j a 0 0 0 xs

set_option maxHeartbeats 1000000 in
theorem fits_any (p j a : Int) (A : Option Addr) (xs : List Int) (cap : Nat) (w : World) (h : Ints w w.heap.size A xs) (hl : xs.length ≤ 9223372036854775807) :
    Calls Tryd.prog 9 #[.agg #[.int .i64 p, .int .i64 j, .int .i64 a], .slice A xs.length cap] w fun e w' => e = .returned (.tuple #[.int .i64 (fiV p j a xs), .int .i64 (fiE p j a xs)]) ∧ Below w.heap.size w w' := by
  by_cases hcu : 1 ≤ p ∧ p ≤ 1099511627776 ∧ 0 ≤ j ∧ j ≤ 1099511627776 ∧ 1 ≤ a ∧ a ≤ p
  · have hE : curE p j a = 0 := by unfold curE; rw [if_pos hcu]
    have hI : ∀ W, Below w.heap.size w W → Ints W W.heap.size A xs := fun W hb => (h.below hb).mono hb.size
    have HI := Lib.hid hI
    clear hI
    by_cases hn : xs.length ≤ 1048576
    · by_cases hs : srt 0 xs = true
      · have hat := srt_at 0 xs hs
        have HAT := Lib.hid hat
        clear hat
        obtain ⟨p1, p2, j1, j2, a1, a2⟩ := hcu
        go_enter Tryd.func9, Tryd.ntmps9
        go_wp2_with (first | (go_at_call 23; refine (ccheck_any _ _ _ _).mono ?_; rintro e w1 ⟨rfl, hb⟩; have hb' := hb.box (Nat.le_refl _); have q0 := box_cell hb 0 _ rfl; have q1 := box_cell hb 1 _ rfl; have q2 := box_cell hb 2 _ rfl) | (go_at_call 24; refine (sorted_any A xs cap _ (HI.out _ hb') hl).mono ?_; rintro e w' ⟨rfl, rfl⟩))
        go_loopw [7, 26] (fun u i wr => ∃ (k : Nat) (la : Int) (n : Nat), k ≤ xs.length ∧ i = .int .i64 k ∧ u = .int .i64 la ∧ -1152921504606846976 ≤ la ∧ la ≤ 4503599627370496 ∧ wr = w1.drewN n ∧ fitsL p j a 0 0 0 xs = fitsL p j a k la (xs[k-1]?.getD 0) (xs.drop k)) (fun _ i _ => xs.length - (intOf i).toNat)
        case atStart => exact ⟨0, 0, 0, by omega, rfl, rfl, by omega, by omega, rfl, by cases xs <;> simp [fitsL]⟩
        case round =>
          obtain ⟨k, la, n, hk, rfl, rfl, l1, l2, rfl, hf⟩ := hrel
          by_cases hlt : k < xs.length
          · obtain ⟨b, off, rfl, hbB, hc⟩ := h (by omega)
            have hcell : w1.cell? ⟨b, off + k, none⟩ = some (.int .i64 (xs[k]?.getD 0)) := (hb'.cell (p := ⟨b, off + k, none⟩) hbB).trans (hc k hlt)
            obtain ⟨_, t1, t2⟩ := HAT.out k hlt
            have m1 : 0 ≤ (k : Int) * p := Int.mul_nonneg (by omega) (by omega)
            have m2 : (k : Int) * p ≤ 1048576 * 1099511627776 := Int.mul_le_mul (by omega) (by omega) (by omega) (by omega)
            rw [drop_cons hlt] at hf
            simp only [fitsL] at hf
            have hxk : xs[k + 1 - 1]?.getD 0 = xs[k]?.getD 0 := rfl
            have HN := Lib.hid hn
            obtain ⟨t, ht⟩ : ∃ t, t = xs[k]?.getD 0 := ⟨_, rfl⟩
            rw [← ht] at hf hcell t1 t2
            have hxk' : xs[k + 1 - 1]?.getD 0 = t := by rw [hxk, ht]
            have HX := Lib.hid hxk'
            clear hxk hxk' ht
            by_cases hk0 : k = 0
            · subst hk0
              have hcell0 : w1.cell? ⟨b, off, none⟩ = some (.int .i64 t) := hcell
              have hf' : fitsL p j a 0 0 0 xs = fitsL p j a 1 t t (xs.drop 1) := by simpa using hf
              have HF := Lib.hid hf'
              clear hf hf' hc
              go_wp2
              go_quiet (fail)
              go_wp2
              go_roundw
              case rel => exact ⟨1, t, _, by omega, rfl, rfl, by omega, by omega, rfl, by rw [HX.out]; exact HF.out⟩
              case measure => simp [intOf]; omega
            · have hcp : w1.cell? ⟨b, off + (k - 1), none⟩ = some (.int .i64 (xs[k-1]?.getD 0)) := (hb'.cell (p := ⟨b, off + (k - 1), none⟩) hbB).trans (hc (k - 1) (by omega))
              obtain ⟨_, t3, t4⟩ := HAT.out (k - 1) (by omega)
              obtain ⟨q, hq⟩ : ∃ t, t = xs[k-1]?.getD 0 := ⟨_, rfl⟩
              rw [← hq] at hf hcp t3 t4
              have w1' : IntKind.i64.wrap (la - j) = la - j := IntWalk.i64_in _ (by omega)
              have w2' : IntKind.i64.wrap (t - q) = t - q := IntWalk.i64_in _ (by omega)
              have w3' : IntKind.i64.wrap ((k : Int) - 1) = (k : Int) - 1 := IntWalk.i64_in _ (by omega)
              have w4' : ((k : Int) - 1).toNat = k - 1 := by omega
              have w5' : (0 : Int) ≤ (k : Int) - 1 := by omega
              have k0 : 0 < k := by omega
              have k0' : ((k : Int) == 0) = false := by simp; omega
              have k1 : (k : Int) - 1 < (xs.length : Int) := by omega
              have HK := Lib.hid hk0
              clear hc hq hk0
              by_cases b1 : t - k * p < la - j
              · have b1' : decide (t - k * p < la - j) = true := by simp; omega
                rw [if_pos ⟨by omega, .inl b1⟩] at hf
                have HF := Lib.hid hf
                clear hf b1
                go_wp2
                go_quiet (fail)
                go_wp2
                go_ret2
                exact ⟨ret_ii (by unfold fiV fiE; rw [HF.out]; have := HN.out; simp [hE, hs]; omega) (by unfold fiE; have := HN.out; simp [hE, hs]; omega), (hb'.drewN _).drewN _⟩
              · have b1' : decide (t - k * p < la - j) = false := by simp; omega
                by_cases b2 : t - q < a
                · have b2' : decide (t - q < a) = true := by simp; omega
                  rw [if_pos ⟨by omega, .inr b2⟩] at hf
                  have HF := Lib.hid hf
                  clear hf b1 b2
                  go_wp2
                  go_quiet (fail)
                  go_wp2
                  go_ret2
                  exact ⟨ret_ii (by unfold fiV fiE; rw [HF.out]; have := HN.out; simp [hE, hs]; omega) (by unfold fiE; have := HN.out; simp [hE, hs]; omega), (hb'.drewN _).drewN _⟩
                · have b2' : decide (t - q < a) = false := by simp; omega
                  rw [if_neg (by omega)] at hf
                  by_cases b3 : la < t - k * p
                  · rw [if_pos (.inr b3)] at hf
                    have HF := Lib.hid hf
                    clear hf b1 b2
                    go_wp2
                    go_quiet (fail)
                    go_wp2
                    go_roundw
                    case rel => exact ⟨k + 1, t - k * p, _, by omega, by go_num, rfl, by omega, by omega, rfl, by rw [HX.out]; exact HF.out⟩
                    case measure => simp [intOf]; omega
                  · rw [if_neg (by omega)] at hf
                    have HF := Lib.hid hf
                    clear hf b1 b2
                    go_wp2
                    go_quiet (fail)
                    go_wp2
                    go_roundw
                    case rel => exact ⟨k + 1, la, _, by omega, by go_num, rfl, by omega, by omega, rfl, by rw [HX.out]; exact HF.out⟩
                    case measure => simp [intOf]; omega
          · rw [List.drop_eq_nil_of_le (by omega)] at hf
            have hk' : k = xs.length := by omega
            subst hk'
            have HF := Lib.hid hf
            clear hf
            go_wp2
            go_ret2
            exact ⟨ret_ii (by unfold fiV fiE; rw [HF.out]; simp [hE, hs, fitsL]; omega) (by unfold fiE; simp [hE, hs]; omega), hb'.drewN _⟩
      · have hs' : srt 0 xs = false := by simpa using hs
        clear hs
        go_enter Tryd.func9, Tryd.ntmps9
        go_wp2_with (first | (go_at_call 23; refine (ccheck_any _ _ _ _).mono ?_; rintro e w1 ⟨rfl, hb⟩; have hb' := hb.box (Nat.le_refl _)) | (go_at_call 24; refine (sorted_any A xs cap _ (HI.out _ hb') hl).mono ?_; rintro e w' ⟨rfl, rfl⟩))
        all_goals go_ret2
        all_goals exact ⟨ret_ii (by unfold fiV fiE; simp [hE, hs']) (by unfold fiE; simp [hE, hs']), hb'⟩
    · go_enter Tryd.func9, Tryd.ntmps9
      go_wp2_with (first | (go_at_call 23; refine (ccheck_any _ _ _ _).mono ?_; rintro e w1 ⟨rfl, hb⟩; have hb' := hb.box (Nat.le_refl _)) | (go_at_call 24; refine (sorted_any A xs cap _ (HI.out _ hb') hl).mono ?_; rintro e w' ⟨rfl, rfl⟩))
      all_goals go_ret2
      all_goals exact ⟨ret_ii (by unfold fiV fiE; rw [if_pos]; simp [hE]; omega) (by unfold fiE; simp [hE]; omega), hb'⟩
  · have hE : curE p j a = 2 := by unfold curE; rw [if_neg hcu]
    go_enter Tryd.func9, Tryd.ntmps9
    go_wp2_with (first | (go_at_call 23; refine (ccheck_any _ _ _ _).mono ?_; rintro e w' ⟨rfl, hb⟩; obtain ⟨hc1, hf1⟩ := bcell hb))
    all_goals go_ret2
    all_goals exact ⟨ret_ii (by unfold fiV fiE; rw [if_pos (by omega)]) (by unfold fiE; omega), hb.box (Nat.le_refl _)⟩
end Go.Proofs.YtfneloplbkjbhaaDoor
