/-
  The walks of package curve and of its reference (vergeref22), part 2: sorted, Fits, Dense.
-/
import Derived.Test.YtfneloplbkjbhaaDoorCur
import Derived.Test.YtfneloplbkjbhaaDoorVi
import Derived.Deep.RegionHeld3
import Derived.StillTailTactics
namespace Go.Proofs.YtfneloplbkjbhaaDoor
open Go.RowKit
set_option linter.unusedVariables false

/-- Times, none ahead of the one before. -/
def srt : Int → List Int → Bool
  | _, [] => true
  | a, x :: r => decide (a ≤ x) && timeB x && srt x r

set_option maxHeartbeats 400000 in
theorem sorted_any (A : Option Addr) (xs : List Int) (cap : Nat) (w : World) (h : Ints w w.heap.size A xs) (hl : xs.length ≤ 9223372036854775807) :
    Calls Tryd.prog 24 #[.slice A xs.length cap] w fun e w' => e = .returned (.bool (srt 0 xs)) ∧ w = w' := by
  go_enter Tryd.func24, Tryd.ntmps24
  go_wp2
  go_loop [3, 8] (fun u i => ∃ (k : Nat) (a : Int), k ≤ xs.length ∧ i = .int .i64 k ∧ u = .int .i64 a ∧ srt 0 xs = srt a (xs.drop k)) (fun _ i => xs.length - (intOf i).toNat)
  case atStart => exact ⟨0, 0, by omega, rfl, rfl, by simp⟩
  case round =>
    obtain ⟨k, a, hk, rfl, rfl, hs⟩ := hrel
    by_cases hlt : k < xs.length
    · obtain ⟨b, off, rfl, hbB, hc⟩ := h (by omega)
      have hcell := hc k hlt
      rw [drop_cons hlt] at hs
      simp only [srt] at hs
      obtain ⟨x, hx⟩ : ∃ x, x = xs[k]?.getD 0 := ⟨_, rfl⟩
      rw [← hx] at hs hcell
      by_cases hax : a ≤ x
      · by_cases htx : 0 ≤ x ∧ x ≤ 4503599627370496
        · have ht : timeB x = true := by simp [timeB, htx]
          have HS := Lib.hid hs
          clear hs hx hc
          go_wp2_with (first | (go_at_call 25; refine (ctime_any _ _).mono ?_; rintro e w' ⟨rfl, rfl⟩))
          go_round
          case rel => exact ⟨k + 1, x, by omega, by go_num, rfl, by rw [HS.out]; simp [hax, ht]⟩
          case measure => simp [intOf]; omega
        · have ht : timeB x = false := by simpa [timeB] using htx
          have HS := Lib.hid hs
          clear hs hx hc
          go_wp2_with (first | (go_at_call 25; refine (ctime_any _ _).mono ?_; rintro e w' ⟨rfl, rfl⟩))
          go_ret
          exact ⟨ret_bool (by rw [HS.out]; simp [ht]), rfl⟩
      · have hax' : x < a := by omega
        have HS := Lib.hid hs
        clear hs hx hc hax
        go_wp2_with (first | (go_at_call 25; refine (ctime_any _ _).mono ?_; rintro e w' ⟨rfl, rfl⟩))
        go_ret
        exact ⟨ret_bool (by rw [HS.out]; simp; omega), rfl⟩
    · have HS := Lib.hid hs
      clear hs
      go_wp2
      go_ret
      exact ⟨ret_bool (by rw [HS.out, List.drop_eq_nil_of_le (by omega)]; rfl), rfl⟩

theorem srt_at : ∀ (a : Int) (xs : List Int), srt a xs = true → ∀ j, j < xs.length → a ≤ xs[j]?.getD 0 ∧ 0 ≤ xs[j]?.getD 0 ∧ xs[j]?.getD 0 ≤ 4503599627370496
  | a, [], _, j, hj => by simp at hj
  | a, x :: r, h, j, hj => by
    simp only [srt, timeB, Bool.and_eq_true, decide_eq_true_eq] at h
    obtain ⟨⟨h1, h2⟩, h3⟩ := h
    cases j with
    | zero => simpa using ⟨h1, h2⟩
    | succ j =>
      have := srt_at x r h3 j (by simpa using hj)
      simp only [List.getElem?_cons_succ]
      omega

def fitsL (p j a : Int) : Nat → Int → Int → List Int → Nat
  | i, _, _, [] => i
  | i, la, pr, t :: r =>
    if 0 < i ∧ (t - i * p < la - j ∨ t - pr < a) then i
    else fitsL p j a (i + 1) (if i = 0 ∨ la < t - i * p then t - i * p else la) t r

def fiE (p j a : Int) (xs : List Int) : Int := if curE p j a ≠ 0 then 2 else if 1048576 < xs.length ∨ srt 0 xs = false then 1 else 0
def fiV (p j a : Int) (xs : List Int) : Int := if fiE p j a xs ≠ 0 then 0 else fitsL p j a 0 0 0 xs

set_option maxHeartbeats 1000000 in
theorem fits_any (p j a : Int) (A : Option Addr) (xs : List Int) (cap : Nat) (w : World) (h : Ints w w.heap.size A xs) (hl : xs.length ≤ 9223372036854775807) :
    Calls Tryd.prog 9 #[.agg #[.int .i64 p, .int .i64 j, .int .i64 a], .slice A xs.length cap] w fun e w' => e = .returned (.tuple #[.int .i64 (fiV p j a xs), .int .i64 (fiE p j a xs)]) ∧ Below w.heap.size w w' := by
  by_cases hcu : 1 ≤ p ∧ p ≤ 1099511627776 ∧ 0 ≤ j ∧ j ≤ 1099511627776 ∧ 1 ≤ a ∧ a ≤ p
  · have hE : curE p j a = 0 := by unfold curE; rw [if_pos hcu]
    have hI : ∀ W, Below w.heap.size w W → Ints W W.heap.size A xs := fun W hb => (h.below hb).mono hb.size
    have HI := Lib.hid hI
    clear hI
    by_cases hn : xs.length ≤ 1048576
    · by_cases hs : srt 0 xs = true
      · have hat := srt_at 0 xs hs
        have HAT := Lib.hid hat
        clear hat
        obtain ⟨p1, p2, j1, j2, a1, a2⟩ := hcu
        go_enter Tryd.func9, Tryd.ntmps9
        go_wp2_with (first | (go_at_call 23; refine (ccheck_any _ _ _ _).mono ?_; rintro e w1 ⟨rfl, hb⟩; have hb' := hb.box (Nat.le_refl _); have q0 := box_cell hb 0 _ rfl; have q1 := box_cell hb 1 _ rfl; have q2 := box_cell hb 2 _ rfl) | (go_at_call 24; refine (sorted_any A xs cap _ (HI.out _ hb') hl).mono ?_; rintro e w' ⟨rfl, rfl⟩))
        go_loopw [7, 26] (fun u i wr => ∃ (k : Nat) (la : Int) (n : Nat), k ≤ xs.length ∧ i = .int .i64 k ∧ u = .int .i64 la ∧ -1152921504606846976 ≤ la ∧ la ≤ 4503599627370496 ∧ wr = w1.drewN n ∧ fitsL p j a 0 0 0 xs = fitsL p j a k la (xs[k-1]?.getD 0) (xs.drop k)) (fun _ i _ => xs.length - (intOf i).toNat)
        case atStart => exact ⟨0, 0, 0, by omega, rfl, rfl, by omega, by omega, rfl, by cases xs <;> simp [fitsL]⟩
        case round =>
          obtain ⟨k, la, n, hk, rfl, rfl, l1, l2, rfl, hf⟩ := hrel
          by_cases hlt : k < xs.length
          · obtain ⟨b, off, rfl, hbB, hc⟩ := h (by omega)
            have hcell : w1.cell? ⟨b, off + k, none⟩ = some (.int .i64 (xs[k]?.getD 0)) := (hb'.cell (p := ⟨b, off + k, none⟩) hbB).trans (hc k hlt)
            obtain ⟨_, t1, t2⟩ := HAT.out k hlt
            have m1 : 0 ≤ (k : Int) * p := Int.mul_nonneg (by omega) (by omega)
            have m2 : (k : Int) * p ≤ 1048576 * 1099511627776 := Int.mul_le_mul (by omega) (by omega) (by omega) (by omega)
            rw [drop_cons hlt] at hf
            simp only [fitsL] at hf
            have hxk : xs[k + 1 - 1]?.getD 0 = xs[k]?.getD 0 := rfl
            have HN := Lib.hid hn
            obtain ⟨t, ht⟩ : ∃ t, t = xs[k]?.getD 0 := ⟨_, rfl⟩
            rw [← ht] at hf hcell t1 t2
            have hxk' : xs[k + 1 - 1]?.getD 0 = t := by rw [hxk, ht]
            have HX := Lib.hid hxk'
            clear hxk hxk' ht
            by_cases hk0 : k = 0
            · subst hk0
              have hcell0 : w1.cell? ⟨b, off, none⟩ = some (.int .i64 t) := hcell
              have hf' : fitsL p j a 0 0 0 xs = fitsL p j a 1 t t (xs.drop 1) := by simpa using hf
              have HF := Lib.hid hf'
              clear hf hf' hc
              go_wp2
              go_quiet (fail)
              go_wp2
              go_roundw
              case rel => exact ⟨1, t, _, by omega, rfl, rfl, by omega, by omega, rfl, by rw [HX.out]; exact HF.out⟩
              case measure => simp [intOf]; omega
            · have hcp : w1.cell? ⟨b, off + (k - 1), none⟩ = some (.int .i64 (xs[k-1]?.getD 0)) := (hb'.cell (p := ⟨b, off + (k - 1), none⟩) hbB).trans (hc (k - 1) (by omega))
              obtain ⟨_, t3, t4⟩ := HAT.out (k - 1) (by omega)
              obtain ⟨q, hq⟩ : ∃ t, t = xs[k-1]?.getD 0 := ⟨_, rfl⟩
              rw [← hq] at hf hcp t3 t4
              have w1' : IntKind.i64.wrap (la - j) = la - j := IntWalk.i64_in _ (by omega)
              have w2' : IntKind.i64.wrap (t - q) = t - q := IntWalk.i64_in _ (by omega)
              have w3' : IntKind.i64.wrap ((k : Int) - 1) = (k : Int) - 1 := IntWalk.i64_in _ (by omega)
              have w4' : ((k : Int) - 1).toNat = k - 1 := by omega
              have w5' : (0 : Int) ≤ (k : Int) - 1 := by omega
              have k0 : 0 < k := by omega
              have k0' : ((k : Int) == 0) = false := by simp; omega
              have k1 : (k : Int) - 1 < (xs.length : Int) := by omega
              have HK := Lib.hid hk0
              clear hc hq hk0
              by_cases b1 : t - k * p < la - j
              · have b1' : decide (t - k * p < la - j) = true := by simp; omega
                rw [if_pos ⟨by omega, .inl b1⟩] at hf
                have HF := Lib.hid hf
                clear hf b1
                go_wp2
                go_quiet (fail)
                go_wp2
                go_ret2
                exact ⟨ret_ii (by unfold fiV fiE; rw [HF.out]; have := HN.out; simp [hE, hs]; omega) (by unfold fiE; have := HN.out; simp [hE, hs]; omega), (hb'.drewN _).drewN _⟩
              · have b1' : decide (t - k * p < la - j) = false := by simp; omega
                by_cases b2 : t - q < a
                · have b2' : decide (t - q < a) = true := by simp; omega
                  rw [if_pos ⟨by omega, .inr b2⟩] at hf
                  have HF := Lib.hid hf
                  clear hf b1 b2
                  go_wp2
                  go_quiet (fail)
                  go_wp2
                  go_ret2
                  exact ⟨ret_ii (by unfold fiV fiE; rw [HF.out]; have := HN.out; simp [hE, hs]; omega) (by unfold fiE; have := HN.out; simp [hE, hs]; omega), (hb'.drewN _).drewN _⟩
                · have b2' : decide (t - q < a) = false := by simp; omega
                  rw [if_neg (by omega)] at hf
                  by_cases b3 : la < t - k * p
                  · rw [if_pos (.inr b3)] at hf
                    have HF := Lib.hid hf
                    clear hf b1 b2
                    go_wp2
                    go_quiet (fail)
                    go_wp2
                    go_roundw
                    case rel => exact ⟨k + 1, t - k * p, _, by omega, by go_num, rfl, by omega, by omega, rfl, by rw [HX.out]; exact HF.out⟩
                    case measure => simp [intOf]; omega
                  · rw [if_neg (by omega)] at hf
                    have HF := Lib.hid hf
                    clear hf b1 b2
                    go_wp2
                    go_quiet (fail)
                    go_wp2
                    go_roundw
                    case rel => exact ⟨k + 1, la, _, by omega, by go_num, rfl, by omega, by omega, rfl, by rw [HX.out]; exact HF.out⟩
                    case measure => simp [intOf]; omega
          · rw [List.drop_eq_nil_of_le (by omega)] at hf
            have hk' : k = xs.length := by omega
            subst hk'
            have HF := Lib.hid hf
            clear hf
            go_wp2
            go_ret2
            exact ⟨ret_ii (by unfold fiV fiE; rw [HF.out]; simp [hE, hs, fitsL]; omega) (by unfold fiE; simp [hE, hs]; omega), hb'.drewN _⟩
      · have hs' : srt 0 xs = false := by simpa using hs
        clear hs
        go_enter Tryd.func9, Tryd.ntmps9
        go_wp2_with (first | (go_at_call 23; refine (ccheck_any _ _ _ _).mono ?_; rintro e w1 ⟨rfl, hb⟩; have hb' := hb.box (Nat.le_refl _)) | (go_at_call 24; refine (sorted_any A xs cap _ (HI.out _ hb') hl).mono ?_; rintro e w' ⟨rfl, rfl⟩))
        all_goals go_ret2
        all_goals exact ⟨ret_ii (by unfold fiV fiE; simp [hE, hs']) (by unfold fiE; simp [hE, hs']), hb'⟩
    · go_enter Tryd.func9, Tryd.ntmps9
      go_wp2_with (first | (go_at_call 23; refine (ccheck_any _ _ _ _).mono ?_; rintro e w1 ⟨rfl, hb⟩; have hb' := hb.box (Nat.le_refl _)) | (go_at_call 24; refine (sorted_any A xs cap _ (HI.out _ hb') hl).mono ?_; rintro e w' ⟨rfl, rfl⟩))
      all_goals go_ret2
      all_goals exact ⟨ret_ii (by unfold fiV fiE; rw [if_pos]; simp [hE]; omega) (by unfold fiE; simp [hE]; omega), hb'⟩
  · have hE : curE p j a = 2 := by unfold curE; rw [if_neg hcu]
    go_enter Tryd.func9, Tryd.ntmps9
    go_wp2_with (first | (go_at_call 23; refine (ccheck_any _ _ _ _).mono ?_; rintro e w' ⟨rfl, hb⟩; obtain ⟨hc1, hf1⟩ := bcell hb))
    all_goals go_ret2
    all_goals exact ⟨ret_ii (by unfold fiV fiE; rw [if_pos (by omega)]) (by unfold fiE; omega), hb.box (Nat.le_refl _)⟩
end Go.Proofs.YtfneloplbkjbhaaDoor
namespace Go.Proofs.YtfneloplbkjbhaaDoor
open Go.RowKit
set_option linter.unusedVariables false

theorem info_i64 : (Tryd.prog.info? 2).map (fun i => (i.zero, i.size, i.bytes)) = some (some (.int .i64 0), 1, 8) := by kernel_rfl

def deE (p j a n : Int) : Int := if curE p j a ≠ 0 then 2 else if n < 0 ∨ 1048576 < n then 1 else if 0 < n ∧ ¬ (0 ≤ gapV p j a n ∧ gapV p j a n ≤ 4503599627370496) then 10 else 0
def dens (p j a : Int) (k : Nat) : List Int := (List.range k).map fun i : Nat => gapV p j a ((i : Int) + 1)
def deL (p j a n : Int) : List Int := if deE p j a n = 0 then dens p j a n.toNat else []
theorem dens_succ (p j a : Int) (k : Nat) : dens p j a (k + 1) = dens p j a k ++ [gapV p j a ((k : Int) + 1)] := by simp [dens, List.range_succ]
theorem dens_length (p j a : Int) (k : Nat) : (dens p j a k).length = k := by simp [dens]

def IntsRes (w : World) (L : List Int) (E : Int) (e : Ending) (w' : World) : Prop :=
  ∃ A c, e = .returned (.tuple #[.slice A L.length c, .int .i64 E]) ∧ Ints w' w'.heap.size A L ∧ Below w.heap.size w w'
theorem IntsRes.nil {w w' : World} {E E' : Int} (h : E' = E) (hb : Below w.heap.size w w') : IntsRes w [] E (.returned (.tuple #[.slice none 0 0, .int .i64 E'])) w' :=
  ⟨none, 0, by rw [h]; rfl, Ints.nil _ _ _, hb⟩
theorem IntsRes.own {w w' : World} {L : List Int} {E : Int} {v : Value} {base : Nat} {t : TypeId} {n : Nat} (hn : n = L.length) (h : w'.ownsRow base t 1 v n (L.map (Value.int .i64))) (hb : Below w.heap.size w w') : IntsRes w L E (.returned (.tuple #[v, .int .i64 E])) w' := by
  subst hn
  obtain ⟨A, c, rfl⟩ := own_slice h
  exact ⟨A, c, rfl, (Ints.of_own h).2, hb⟩

theorem dens_app {w : World} {base : Nat} {t : TypeId} {v : Value} {p j a : Int} {k : Nat} (h : w.ownsRow base t 1 v (k + 1) ((dens p j a k).map (Value.int .i64) ++ [.int .i64 (gapV p j a ((k : Int) + 1))])) : w.ownsRow base t 1 v (k + 1) ((dens p j a (k + 1)).map (Value.int .i64)) := by
  rw [dens_succ]; simpa using h
/-- The world behind the box. -/
def bxW (w : World) (p j a : Int) (t : TypeId) : World := w.alloc (.cells #[.int .i64 p, .int .i64 j, .int .i64 a] t)

theorem den_end {w wr : World} {p j a n : Int} {k : Nat} {v : Value} {t : TypeId} (hL : deE p j a n = 0) (hk : (k : Int) = n) (hown : wr.ownsRow (w.heap.size + 1) t 1 v k ((dens p j a k).map (Value.int .i64))) {T : TypeId}
    (hbl : Below (bxW w p j a T).heap.size (bxW w p j a T) wr) : IntsRes w (deL p j a n) (deE p j a n) (.returned (.tuple #[v, .int .i64 0])) wr := by
  subst hk
  have e : deL p j a k = dens p j a k := by unfold deL; rw [if_pos hL, Int.toNat_natCast]
  rw [e, hL]
  exact IntsRes.own (dens_length p j a k).symm hown (hbl.box (Nat.le_refl _))
end Go.Proofs.YtfneloplbkjbhaaDoor
namespace Go.Proofs.YtfneloplbkjbhaaDoor
open Go.RowKit
set_option linter.unusedVariables false

/-- The arrival k is too near to one before it. -/
def badAt (p j a : Int) (xs : List Int) (k : Nat) : Prop := ∃ i, i < k ∧ xs[k]?.getD 0 - xs[i]?.getD 0 < gapV p j a ((k : Int) - i + 1)

/-- What the reference's search gives. -/
def FitRes (w : World) (p j a : Int) (xs : List Int) (e : Ending) (w' : World) : Prop :=
  Below w.heap.size w w' ∧ ∃ (r : Int) (E : Int), e = .returned (.tuple #[.int .i64 r, .int .i64 E]) ∧ E = fiE p j a xs ∧ (E ≠ 0 → r = 0) ∧
    (E = 0 → ∃ k : Nat, r = k ∧ k ≤ xs.length ∧ (∀ m, m < k → ¬ badAt p j a xs m) ∧ (k < xs.length → badAt p j a xs k))
theorem FitRes.dead {w w' : World} {p j a : Int} {xs : List Int} {E : Int} (hE : E = fiE p j a xs) (h0 : E ≠ 0) (hb : Below w.heap.size w w') : FitRes w p j a xs (.returned (.tuple #[.int .i64 0, .int .i64 E])) w' :=
  ⟨hb, 0, E, rfl, hE, fun _ => rfl, fun h => absurd h h0⟩
theorem FitRes.found {w w' : World} {p j a : Int} {xs : List Int} {k : Nat} (hE : fiE p j a xs = 0) (hb : Below w.heap.size w w') (hk : k ≤ xs.length) (h1 : ∀ m, m < k → ¬ badAt p j a xs m) (h2 : k < xs.length → badAt p j a xs k) :
    FitRes w p j a xs (.returned (.tuple #[.int .i64 (k : Int), .int .i64 0])) w' :=
  ⟨hb, k, 0, rfl, hE.symm, fun h => absurd rfl h, fun _ => ⟨k, rfl, hk, h1, h2⟩⟩

end Go.Proofs.YtfneloplbkjbhaaDoor
namespace Go.Proofs.YtfneloplbkjbhaaDoor
open Go.RowKit
set_option linter.unusedVariables false

/-- What the search knows of the first k arrivals. -/
structure FInv (p j a : Int) (x : Nat → Int) (k : Nat) (la : Int) : Prop where
  top : 0 < k → ∃ i, i < k ∧ la = x i - i * p
  all : ∀ i, i < k → x i - i * p ≤ la
  near : ∀ i, i + 1 < k → a ≤ x (i + 1) - x i

theorem far {a : Int} {x : Nat → Int} {k : Nat} (h : ∀ i, i + 1 < k + 1 → a ≤ x (i + 1) - x i) : ∀ (d i : Nat), i + d = k → (d : Int) * a ≤ x k - x i
  | 0, i, e => by obtain rfl : i = k := by omega
                  simp
  | d + 1, i, e => by
    have h1 := far h d (i + 1) (by omega)
    have h2 := h i (by omega)
    have e3 : ((d + 1 : Nat) : Int) * a = d * a + a := by rw [Int.natCast_add, Int.add_mul]; simp
    omega

theorem gap_ge (p j a : Int) (n : Int) : (n - 1) * p - j ≤ gapV p j a n ∧ (n - 1) * a ≤ gapV p j a n := by unfold gapV; omega
theorem gap_lt {p j a n d : Int} (h1 : (n - 1) * p - j ≤ d) (h2 : (n - 1) * a ≤ d) : ¬ d < gapV p j a n := by unfold gapV; omega

theorem badAt_of {p j a : Int} {xs : List Int} {k : Nat} {la : Int} (hI : FInv p j a (fun i => xs[i]?.getD 0) k la) (hk : 0 < k)
    (h : xs[k]?.getD 0 - k * p < la - j ∨ xs[k]?.getD 0 - xs[k-1]?.getD 0 < a) : badAt p j a xs k := by
  rcases h with h | h
  · obtain ⟨i, hi, rfl⟩ := hI.top hk
    refine ⟨i, hi, ?_⟩
    have := (gap_ge p j a ((k : Int) - i + 1)).1
    have e : ((k : Int) - i + 1 - 1) * p = k * p - i * p := by rw [show (k : Int) - i + 1 - 1 = k - i by omega, Int.sub_mul]
    try simp only at h
    omega
  · refine ⟨k - 1, by omega, ?_⟩
    have := (gap_ge p j a ((k : Int) - ((k - 1 : Nat) : Int) + 1)).2
    have e : ((k : Int) - ((k - 1 : Nat) : Int) + 1 - 1) * a = a := by rw [show (k : Int) - ((k - 1 : Nat) : Int) + 1 - 1 = 1 by omega, Int.one_mul]
    omega

theorem not_bad_of {p j a : Int} {xs : List Int} {k : Nat} {la : Int} (hI : FInv p j a (fun i => xs[i]?.getD 0) k la)
    (h : ¬ (0 < k ∧ (xs[k]?.getD 0 - k * p < la - j ∨ xs[k]?.getD 0 - xs[k-1]?.getD 0 < a))) : ¬ badAt p j a xs k := by
  rintro ⟨i, hi, hb⟩
  have h1 : la - j ≤ xs[k]?.getD 0 - k * p := by omega
  have h2 : a ≤ xs[k]?.getD 0 - xs[k-1]?.getD 0 := by omega
  refine gap_lt ?_ ?_ hb
  · have := hI.all i hi
    try simp only at this
    rw [show (k : Int) - i + 1 - 1 = k - i by omega, Int.sub_mul]
    omega
  · have := far (a := a) (x := fun i => xs[i]?.getD 0) (k := k) (fun i hi => by
      by_cases e : i + 1 = k
      · subst e; simpa using h2
      · exact hI.near i (by omega)) (k - i) i (by omega)
    rw [show (k : Int) - i + 1 - 1 = ((k - i : Nat) : Int) by omega]
    exact this

theorem FInv.step {p j a : Int} {xs : List Int} {k : Nat} {la : Int} (hI : FInv p j a (fun i => xs[i]?.getD 0) k la)
    (h : ¬ (0 < k ∧ (xs[k]?.getD 0 - k * p < la - j ∨ xs[k]?.getD 0 - xs[k-1]?.getD 0 < a))) :
    FInv p j a (fun i => xs[i]?.getD 0) (k + 1) (if k = 0 ∨ la < xs[k]?.getD 0 - k * p then xs[k]?.getD 0 - k * p else la) := by
  refine ⟨fun _ => ?_, fun i hi => ?_, fun i hi => ?_⟩
  · split
    · exact ⟨k, by omega, rfl⟩
    · obtain ⟨i, hi, e⟩ := hI.top (by omega)
      exact ⟨i, by omega, e⟩
  · by_cases e : i = k
    · subst e; try simp only
      split <;> omega
    · have := hI.all i (by omega)
      try simp only at this ⊢
      split <;> omega
  · by_cases e : i + 1 = k
    · subst e
      simp only [Nat.add_sub_cancel] at h ⊢
      omega
    · exact hI.near i (by omega)

theorem fitsL_found {p j a : Int} {xs : List Int} : ∀ (n k : Nat) (la : Int), k + n = xs.length → FInv p j a (fun i => xs[i]?.getD 0) k la → (∀ m, m < k → ¬ badAt p j a xs m) →
    let f := fitsL p j a k la (xs[k-1]?.getD 0) (xs.drop k); f ≤ xs.length ∧ (∀ m, m < f → ¬ badAt p j a xs m) ∧ (f < xs.length → badAt p j a xs f)
  | 0, k, la, hn, hI, hb => by
    rw [List.drop_eq_nil_of_le (by omega)]
    simp only [fitsL]
    exact ⟨by omega, hb, fun h => by omega⟩
  | n + 1, k, la, hn, hI, hb => by
    rw [drop_cons (by omega)]
    simp only [fitsL]
    by_cases h : 0 < k ∧ (xs[k]?.getD 0 - k * p < la - j ∨ xs[k]?.getD 0 - xs[k-1]?.getD 0 < a)
    · rw [if_pos h]
      exact ⟨by omega, hb, fun _ => badAt_of hI h.1 h.2⟩
    · rw [if_neg h]
      have := fitsL_found n (k + 1) _ (by omega) (hI.step h) (fun m hm => by
        by_cases e : m = k
        · subst e; exact not_bad_of hI h
        · exact hb m (by omega))
      exact this

theorem fits_found (p j a : Int) (xs : List Int) : fitsL p j a 0 0 0 xs ≤ xs.length ∧ (∀ m, m < fitsL p j a 0 0 0 xs → ¬ badAt p j a xs m) ∧ (fitsL p j a 0 0 0 xs < xs.length → badAt p j a xs (fitsL p j a 0 0 0 xs)) := by
  have := fitsL_found (p := p) (j := j) (a := a) (xs := xs) xs.length 0 0 (by omega) ⟨fun h => by omega, fun i hi => by omega, fun i hi => by omega⟩ (fun m hm => by omega)
  have e : fitsL p j a 0 0 (xs[0-1]?.getD 0) (xs.drop 0) = fitsL p j a 0 0 0 xs := by
    rw [List.drop_zero]
    cases xs <;> simp [fitsL]
  rw [e] at this
  exact this

theorem first_one {n f k : Nat} {B : Nat → Prop} (hf : f ≤ n) (f1 : ∀ m, m < f → ¬ B m) (f2 : f < n → B f) (hk : k ≤ n) (k1 : ∀ m, m < k → ¬ B m) (k2 : k < n → B k) : f = k := by
  rcases Nat.lt_trichotomy f k with h | h | h
  · exact absurd (f2 (by omega)) (k1 f h)
  · exact h
  · exact absurd (k2 (by omega)) (f1 k h)

/-- The reference finds what the search finds. -/
theorem FitRes.value {w w' : World} {p j a : Int} {xs : List Int} {e : Ending} (h : FitRes w p j a xs e w') : e = .returned (.tuple #[.int .i64 (fiV p j a xs), .int .i64 (fiE p j a xs)]) ∧ Below w.heap.size w w' := by
  obtain ⟨hb, r, E, rfl, rfl, h0, h1⟩ := h
  refine ⟨?_, hb⟩
  by_cases hE : fiE p j a xs = 0
  · obtain ⟨k, rfl, hk, k1, k2⟩ := h1 hE
    obtain ⟨f0, f1, f2⟩ := fits_found p j a xs
    rw [show fiV p j a xs = (k : Int) by unfold fiV; rw [if_neg (by omega), first_one f0 f1 f2 hk k1 k2]]
  · rw [h0 hE, show fiV p j a xs = 0 by unfold fiV; rw [if_pos hE]]

end Go.Proofs.YtfneloplbkjbhaaDoor
namespace Go.Proofs.YtfneloplbkjbhaaDoor
open Go.RowKit
set_option linter.unusedVariables false

theorem up_lt_iff {x q m : Int} (hq : 1 ≤ q) : upD x q < m ↔ x ≤ (m - 1) * q := by
  unfold upD
  rw [Int.ediv_lt_iff_lt_mul (by omega), Int.sub_mul]
  omega
theorem up_mono {x y q : Int} (hq : 1 ≤ q) (h : x ≤ y) : upD x q ≤ upD y q := Int.ediv_le_ediv (by omega) (by omega)
theorem up_nonneg {x q : Int} (hq : 1 ≤ q) (h : 0 ≤ x) : 0 ≤ upD x q := Int.ediv_nonneg (by omega) (by omega)
theorem up_ge {x q : Int} (hq : 1 ≤ q) : x ≤ upD x q * q := by
  have := (up_lt_iff (x := x) (m := upD x q + 1) hq).1 (by omega)
  rwa [Int.add_sub_cancel] at this
theorem up_le_of {x q m : Int} (hq : 1 ≤ q) (h : x ≤ m * q) : upD x q ≤ m := by
  have := (up_lt_iff (x := x) (m := m + 1) hq).2 (by rwa [Int.add_sub_cancel])
  omega
theorem up_add {x y q : Int} (hq : 1 ≤ q) : upD (x + y) q ≤ upD x q + upD y q := up_le_of hq (by
  have h1 := up_ge (x := x) hq
  have h2 := up_ge (x := y) hq
  rw [Int.add_mul]; omega)
theorem up_anti {x q r : Int} (hq : 1 ≤ q) (h : q ≤ r) (hx : 0 ≤ x) : upD x r ≤ upD x q := up_le_of (by omega) (by
  have h1 := up_ge (x := x) hq
  have h2 : upD x q * q ≤ upD x q * r := Int.mul_le_mul_of_nonneg_left h (up_nonneg hq hx)
  omega)

theorem most_lt_iff {p j a d m : Int} (hc : curE p j a = 0) (hp : 1 ≤ p) (ha : 1 ≤ a) (h0 : 0 ≤ d) (h1 : d < 4503599627370496) : moV p j a (d + 1) < m ↔ d < gapV p j a m := by
  have e : moV p j a (d + 1) = min (upD (d + 1 + j) p) (upD (d + 1) a) := by unfold moV; rw [if_neg (by omega), if_pos (by omega)]
  have e1 := up_lt_iff (x := d + 1 + j) (m := m) hp
  have e2 := up_lt_iff (x := d + 1) (m := m) ha
  rw [e]
  unfold gapV
  omega

theorem gap_mono {p j a n m : Int} (hp : 0 ≤ p) (ha : 0 ≤ a) (h : n ≤ m) : gapV p j a n ≤ gapV p j a m := by
  have h1 : (n - 1) * p ≤ (m - 1) * p := Int.mul_le_mul_of_nonneg_right (by omega) hp
  have h2 : (n - 1) * a ≤ (m - 1) * a := Int.mul_le_mul_of_nonneg_right (by omega) ha
  unfold gapV; omega
theorem gap_one {p j a : Int} (hj : 0 ≤ j) : gapV p j a 1 = 0 := by unfold gapV; simp; omega

/-- Dense arrivals are never too near. -/
theorem gap_apart {p j a : Int} {k i : Nat} (hj : 0 ≤ j) (ha : 1 ≤ a) (hap : a ≤ p) (h : i ≤ k) : gapV p j a ((k : Int) - i + 1) ≤ gapV p j a ((k : Int) + 1) - gapV p j a ((i : Int) + 1) := by
  have e1 : ((k : Int) - i + 1 - 1) * p = k * p - i * p := by rw [show (k : Int) - i + 1 - 1 = k - i by omega, Int.sub_mul]
  have e2 : ((k : Int) - i + 1 - 1) * a = k * a - i * a := by rw [show (k : Int) - i + 1 - 1 = k - i by omega, Int.sub_mul]
  have e3 : ((k : Int) + 1 - 1) * p = k * p := by rw [Int.add_sub_cancel]
  have e4 : ((k : Int) + 1 - 1) * a = k * a := by rw [Int.add_sub_cancel]
  have e5 : ((i : Int) + 1 - 1) * p = i * p := by rw [Int.add_sub_cancel]
  have e6 : ((i : Int) + 1 - 1) * a = i * a := by rw [Int.add_sub_cancel]
  have g1 : ((k : Int) - i) * a ≤ ((k : Int) - i) * p := Int.mul_le_mul_of_nonneg_left hap (by omega)
  have g2 : (i : Int) * a ≤ (i : Int) * p := Int.mul_le_mul_of_nonneg_left hap (by omega)
  rw [Int.sub_mul, Int.sub_mul] at g1
  unfold gapV
  rw [e1, e2, e3, e4, e5, e6]
  omega

theorem dens_at {p j a : Int} {n i : Nat} (h : i < n) : (dens p j a n)[i]?.getD 0 = gapV p j a ((i : Int) + 1) := by simp [dens, h]

theorem srt_of : ∀ (xs : List Int) (b : Int), (∀ i, i < xs.length → b ≤ xs[i]?.getD 0 ∧ 0 ≤ xs[i]?.getD 0 ∧ xs[i]?.getD 0 ≤ 4503599627370496) → (∀ i, i + 1 < xs.length → xs[i]?.getD 0 ≤ xs[i+1]?.getD 0) → srt b xs = true
  | [], b, _, _ => rfl
  | x :: r, b, h1, h2 => by
    have h0 := h1 0 (by simp)
    simp only [List.getElem?_cons_zero, Option.getD_some] at h0
    simp only [srt, Bool.and_eq_true, decide_eq_true_eq, timeB]
    have mono : ∀ i, i < r.length → x ≤ r[i]?.getD 0 := by
      intro i hi
      induction i with
      | zero =>
        have := h2 0 (by simp; omega)
        simpa using this
      | succ i ih =>
        have := h2 (i + 1) (by simp; omega)
        simp only [List.getElem?_cons_succ] at this
        have := ih (by omega)
        omega
    refine ⟨⟨h0.1, h0.2⟩, srt_of r x (fun i hi => ?_) (fun i hi => ?_)⟩
    · have := h1 (i + 1) (by simp; omega)
      simp only [List.getElem?_cons_succ] at this
      exact ⟨mono i hi, this.2⟩
    · have := h2 (i + 1) (by simp; omega)
      simpa using this

theorem dens_fits {p j a : Int} {n : Nat} (hc : curE p j a = 0) (hj : 0 ≤ j) (ha : 1 ≤ a) (hap : a ≤ p) (hn : n ≤ 1048576) (hg : n = 0 ∨ gapV p j a n ≤ 4503599627370496) :
    fiE p j a (dens p j a n) = 0 ∧ fiV p j a (dens p j a n) = n := by
  have hl := dens_length p j a n
  have hs : srt 0 (dens p j a n) = true := by
    apply srt_of
    · intro i hi
      rw [hl] at hi
      rw [dens_at hi]
      have h1 := gap_mono (p := p) (j := j) (a := a) (n := 1) (m := (i : Int) + 1) (by omega) (by omega) (by omega)
      have h2 := gap_mono (p := p) (j := j) (a := a) (n := (i : Int) + 1) (m := n) (by omega) (by omega) (by omega)
      rw [gap_one hj] at h1
      omega
    · intro i hi
      rw [hl] at hi
      rw [dens_at (by omega), dens_at hi]
      exact gap_mono (by omega) (by omega) (by omega)
  have hE : fiE p j a (dens p j a n) = 0 := by unfold fiE; simp [hc, hs, hl]; omega
  refine ⟨hE, ?_⟩
  obtain ⟨f0, f1, f2⟩ := fits_found p j a (dens p j a n)
  have := first_one f0 f1 f2 (k := n) (by omega) (fun m hm => by
    rintro ⟨i, hi, hb⟩
    rw [dens_at (by omega), dens_at (by omega)] at hb
    have := gap_apart (p := p) (j := j) (a := a) (k := m) (i := i) hj ha hap (by omega)
    omega) (fun h => by omega)
  unfold fiV
  rw [if_neg (by omega), this]

/-- How many are below a length. -/
def belowN (w : Int) (l : List Int) : Int := (l.filter fun t => decide (t < w)).length
theorem belowN_nil (w : Int) : belowN w [] = 0 := rfl
theorem belowN_snoc (w : Int) (l : List Int) (t : Int) : belowN w (l ++ [t]) = belowN w l + if t < w then 1 else 0 := by
  unfold belowN
  rw [List.filter_append]
  by_cases h : t < w <;> simp [h]
theorem dens_below {p j a x : Int} (hc : curE p j a = 0) (hp : 1 ≤ p) (ha : 1 ≤ a) (hj : 0 ≤ j) (h0 : 0 ≤ x) (h1 : x ≤ 4503599627370496) : ∀ n : Nat, belowN x (dens p j a n) = min (moV p j a x) n
  | 0 => by
    have : 0 ≤ moV p j a x := by unfold moV; split; omega; split; have := up_nonneg (x := x + j) hp (by omega); have := up_nonneg (x := x) ha h0; omega; omega
    simp [dens, belowN_nil]; omega
  | n + 1 => by
    rw [dens_succ, belowN_snoc, dens_below hc hp ha hj h0 h1 n]
    have hge : 0 ≤ gapV p j a ((n : Int) + 1) := by
      have h1 := gap_mono (p := p) (j := j) (a := a) (n := 1) (m := (n : Int) + 1) (by omega) (by omega) (by omega)
      rw [gap_one hj] at h1; exact h1
    by_cases hx : x = 0
    · subst hx
      have : moV p j a 0 = 0 := by unfold moV; rw [if_neg (by omega), if_neg (by omega)]
      rw [this, if_neg (by omega)]; omega
    · have := most_lt_iff (p := p) (j := j) (a := a) (d := x - 1) (m := (n : Int) + 1) hc hp ha (by omega) (by omega)
      rw [Int.sub_add_cancel] at this
      split <;> omega

theorem most_more {p j a x y : Int} (hc : curE p j a = 0) (hp : 1 ≤ p) (ha : 1 ≤ a) (hap : a ≤ p) (hj : 0 ≤ j) (x0 : 0 ≤ x) (x1 : x ≤ 2251799813685248) (y0 : 0 ≤ y) (y1 : y ≤ 2251799813685248) :
    moV p j a x ≤ moV p j a (x + y) ∧ moV p j a y ≤ moV p j a (x + y) ∧ moV p j a (x + y) ≤ moV p j a x + moV p j a y := by
  by_cases hx : x = 0
  · subst hx
    have : moV p j a 0 = 0 := by unfold moV; rw [if_neg (by omega), if_neg (by omega)]
    rw [this, Int.zero_add]
    have : 0 ≤ moV p j a y := by unfold moV; split; omega; split; have := up_nonneg (x := y + j) hp (by omega); have := up_nonneg (x := y) ha y0; omega; omega
    omega
  by_cases hy : y = 0
  · subst hy
    have : moV p j a 0 = 0 := by unfold moV; rw [if_neg (by omega), if_neg (by omega)]
    rw [this, Int.add_zero]
    have : 0 ≤ moV p j a x := by unfold moV; split; omega; split; have := up_nonneg (x := x + j) hp (by omega); have := up_nonneg (x := x) ha x0; omega; omega
    omega
  have e : ∀ z, 1 ≤ z → z ≤ 4503599627370496 → moV p j a z = min (upD (z + j) p) (upD z a) := fun z z0 z1 => by unfold moV; rw [if_neg (by omega), if_pos (by omega)]
  rw [e x (by omega) (by omega), e y (by omega) (by omega), e (x + y) (by omega) (by omega)]
  have m1 := up_mono (x := x + j) (y := x + y + j) hp (by omega)
  have m2 := up_mono (x := y + j) (y := x + y + j) hp (by omega)
  have m3 := up_mono (x := x) (y := x + y) ha (by omega)
  have m4 := up_mono (x := y) (y := x + y) ha (by omega)
  have s1 := up_add (x := x) (y := y) ha
  have s2 := up_add (x := x + j) (y := y) hp
  have s3 := up_add (x := x) (y := y + j) hp
  have s4 := up_mono (x := y) (y := y + j) hp (by omega)
  have a1 := up_anti (x := x) ha hap x0
  have a2 := up_anti (x := y) ha hap y0
  rw [show x + j + y = x + y + j by omega] at s2
  rw [show x + (y + j) = x + y + j by omega] at s3
  omega
end Go.Proofs.YtfneloplbkjbhaaDoor
