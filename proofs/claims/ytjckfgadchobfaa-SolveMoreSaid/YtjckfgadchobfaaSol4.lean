/-
  The reference's Steps; Solve of both; vergelaw25.each, vergelaw25.lives.
-/
import Derived.Test.YtjckfgadchobfaaSol3
import Derived.Test.YtjckfgadchobfaaCur4
namespace Go.Proofs.Ytjckfgadchobfaa
open Go.RowKit
set_option linter.unusedVariables false

def slLen : Value → Nat
  | .slice _ n _ => n
  | _ => 0
set_option maxRecDepth 100000 in
set_option maxHeartbeats 2000000 in
theorem rsts_any (b : Int) (A : Option Addr) (xs : List Q4) (cap : Nat) (lim : Int) (w : World) (h : R4 w w.heap.size A xs) (hl : xs.length ≤ 9223372036854775807) :
    Calls Try.prog 46 #[.int .i64 b, .slice A xs.length cap, .int .i64 lim] w (IntsRes w (stL b xs lim) (stE b xs lim)) := by
  have ht : timeB lim = decide (0 ≤ lim ∧ lim ≤ 4503599627370496) := rfl
  by_cases hE : ldsE xs = 0
  · by_cases hwd : b < 1 ∨ 4503599627370496 < b ∨ lim < 0 ∨ 4503599627370496 < lim
    · have A1 := Lib.hid (show stL b xs lim = [] by unfold stL; rw [if_neg (by omega), if_pos hwd])
      have A2 := Lib.hid (show stE b xs lim = 1 by unfold stE; rw [if_neg (by omega), if_pos hwd])
      by_cases hw : 0 ≤ lim ∧ lim ≤ 4503599627370496
      · have htb : timeB lim = true := by rw [ht]; exact decide_eq_true hw
        clear ht
        go_enter Try.func46, Try.ntmps46
        go_wp2_with (first | (go_at_call 44; refine (rdcheck_any A xs _ _ h hl).mono ?_; rintro e w1 ⟨rfl, HB⟩) | (go_at_call 61; refine (crtime_any _ _).mono ?_; rintro e w' ⟨rfl, rfl⟩))
        all_goals first | (exfalso; omega) | skip
        all_goals go_ret2
        all_goals (rw [A1.out, A2.out]; exact IntsRes.nil rfl HB)
      · have htb : timeB lim = false := by rw [ht]; exact decide_eq_false hw
        clear ht
        go_enter Try.func46, Try.ntmps46
        go_wp2_with (first | (go_at_call 44; refine (rdcheck_any A xs _ _ h hl).mono ?_; rintro e w1 ⟨rfl, HB⟩) | (go_at_call 61; refine (crtime_any _ _).mono ?_; rintro e w' ⟨rfl, rfl⟩))
        all_goals first | (exfalso; omega) | skip
        all_goals go_ret2
        all_goals (rw [A1.out, A2.out]; exact IntsRes.nil rfl HB)
    · have b1 : 1 ≤ b := by omega
      have b2 : b ≤ 4503599627370496 := by omega
      have l1 : 0 ≤ lim := by omega
      have l2 : lim ≤ 4503599627370496 := by omega
      have htb : timeB lim = true := by rw [ht]; exact decide_eq_true ⟨l1, l2⟩
      have hst : stL b xs lim = (run b xs lim 4096 b []).1 ∧ stE b xs lim = (run b xs lim 4096 b []).2 := by
        unfold stL stE
        rw [if_neg (by omega), if_neg (by omega), if_neg (by omega), if_neg (by omega)]
        exact ⟨rfl, rfl⟩
      have HST := Lib.hid hst
      clear hst ht hwd
      obtain ⟨i0, hi, hz0, hz1, hz2⟩ := info_parts info_i64
      go_enter Try.func46, Try.ntmps46
      go_wp2_with (first | (go_at_call 44; refine (rdcheck_any A xs _ _ h hl).mono ?_; rintro e w1 ⟨rfl, HB⟩) | (go_at_call 61; refine (crtime_any _ _).mono ?_; rintro e w' ⟨rfl, rfl⟩))
      go_loopw [8, 9] (fun u i wr => ∃ (out : List Int) (v : Value) (x : Int), u = v ∧ i = .int .i64 x ∧ wr.ownsRow w.heap.size 2 1 v out.length (out.map (Value.int .i64)) ∧ out.length ≤ 4096 ∧ 0 ≤ x ∧ x ≤ 4503599627370496 ∧ Below w.heap.size w wr ∧
        Hid (stL b xs lim = (run b xs lim (4096 - out.length) x out).1 ∧ stE b xs lim = (run b xs lim (4096 - out.length) x out).2)) (fun u _ _ => 4096 - slLen u)
      case atStart => exact ⟨[], _, b, rfl, rfl, World.ownsRow_nil _ _ _ _, by simp, by omega, b2, HB, HST.out⟩
      case round =>
        obtain ⟨out, v, x, rfl, rfl, hown, ho, x0, x1, hbl, hH⟩ := hrel
        obtain ⟨A0, cp, rfl⟩ := own_slice hown
        obtain ⟨g1, g2⟩ := hH.out
        clear hH
        by_cases hlt : out.length < 4096
        · obtain ⟨k, hk⟩ : ∃ k, 4096 - out.length = k + 1 := ⟨4095 - out.length, by omega⟩
          rw [hk] at g1 g2
          unfold run at g1 g2
          have hlt' : (out.length : Int) < 4096 := by omega
          by_cases hx : lim < x
          · rw [if_pos hx] at g1 g2
            have G1 := Lib.hid g1
            have G2 := Lib.hid g2
            clear g1 g2
            go_wp2
            go_ret2
            rw [G1.out, G2.out]
            exact IntsRes.nil rfl hbl
          · rw [if_neg hx] at g1 g2
            have vb := roV_bd b xs x
            by_cases he : roE b xs x = 0
            · have he' : ¬ roE b xs x ≠ 0 := fun h => h he
              rw [if_neg he'] at g1 g2
              by_cases hv : roV b xs x = x
              · rw [if_pos hv] at g1 g2
                have G1 := Lib.hid g1
                have G2 := Lib.hid g2
                clear g1 g2 he'
                go_wp2_with (first
                  | (at_builtin; refine wpList_append_own _ rfl _ _ 39 rfl w.heap.size 2 i0 (.int .i64 0) 1 8 Try.underlying39 hi hz0 hz1 hz2 rfl (by decide) _ _ _ rfl (hown.alloc _) ⟨wr.heap.size, 0, none⟩ 1 1 [.int .i64 x] rfl rfl (cell_one_new _ _ _) (by simp [Value.oneCell']) (by simp only [maxLen]; omega) (by omega) (by have := hbl.size; simp; omega) ?_; intro v' w4 hown' hgrow _; obtain ⟨A4, cp4, rfl⟩ := own_slice hown'; have HB4 := below_grown (hbl.alloc hbl.size _) hgrow (hown.alloc _) (Nat.le_refl _) (by have := hbl.size; simp; omega))
                  | (go_at_call 50; refine (rround_any _ A xs _ _ _ ((h.below HB4).mono HB4.size) hl).mono ?_; rintro e w5 ⟨rfl, hb5⟩; have own5 := own_below hown' hb5; have HB5 := HB4.next HB4.size hb5))
                go_ret2
                rw [G1.out, G2.out]
                exact IntsRes.own (n := out.length + 1) (by simp) (by rw [List.map_append]; exact own5) HB5
              · rw [if_neg hv] at g1 g2
                have G1 := Lib.hid g1
                have G2 := Lib.hid g2
                have hkk : 4096 - (out ++ [x]).length = k := by simp; omega
                have HK := Lib.hid hkk
                clear g1 g2 he' hkk
                go_wp2_with (first
                  | (at_builtin; refine wpList_append_own _ rfl _ _ 39 rfl w.heap.size 2 i0 (.int .i64 0) 1 8 Try.underlying39 hi hz0 hz1 hz2 rfl (by decide) _ _ _ rfl (hown.alloc _) ⟨wr.heap.size, 0, none⟩ 1 1 [.int .i64 x] rfl rfl (cell_one_new _ _ _) (by simp [Value.oneCell']) (by simp only [maxLen]; omega) (by omega) (by have := hbl.size; simp; omega) ?_; intro v' w4 hown' hgrow _; obtain ⟨A4, cp4, rfl⟩ := own_slice hown'; have HB4 := below_grown (hbl.alloc hbl.size _) hgrow (hown.alloc _) (Nat.le_refl _) (by have := hbl.size; simp; omega))
                  | (go_at_call 50; refine (rround_any _ A xs _ _ _ ((h.below HB4).mono HB4.size) hl).mono ?_; rintro e w5 ⟨rfl, hb5⟩; have own5 := own_below hown' hb5; have HB5 := HB4.next HB4.size hb5))
                go_roundw
                case rel => exact ⟨out ++ [x], _, _, rfl, rfl, by rw [List.length_append, List.map_append]; exact own5, by simp; omega, vb.1, vb.2, HB5, by unfold Hid; rw [HK.out]; exact ⟨G1.out, G2.out⟩⟩
                case measure => simp [slLen]; omega
            · rw [if_pos he] at g1 g2
              have G1 := Lib.hid g1
              have G2 := Lib.hid g2
              clear g1 g2
              go_wp2_with (first
                | (at_builtin; refine wpList_append_own _ rfl _ _ 39 rfl w.heap.size 2 i0 (.int .i64 0) 1 8 Try.underlying39 hi hz0 hz1 hz2 rfl (by decide) _ _ _ rfl (hown.alloc _) ⟨wr.heap.size, 0, none⟩ 1 1 [.int .i64 x] rfl rfl (cell_one_new _ _ _) (by simp [Value.oneCell']) (by simp only [maxLen]; omega) (by omega) (by have := hbl.size; simp; omega) ?_; intro v' w4 hown' hgrow _; obtain ⟨A4, cp4, rfl⟩ := own_slice hown'; have HB4 := below_grown (hbl.alloc hbl.size _) hgrow (hown.alloc _) (Nat.le_refl _) (by have := hbl.size; simp; omega))
                | (go_at_call 50; refine (rround_any _ A xs _ _ _ ((h.below HB4).mono HB4.size) hl).mono ?_; rintro e w5 ⟨rfl, hb5⟩; have own5 := own_below hown' hb5; have HB5 := HB4.next HB4.size hb5))
              go_ret2
              rw [G1.out, G2.out]
              exact IntsRes.nil rfl HB5
        · have hk : 4096 - out.length = 0 := by omega
          rw [hk] at g1 g2
          unfold run at g1 g2
          have G1 := Lib.hid g1
          have G2 := Lib.hid g2
          have hlt' : ¬ (out.length : Int) < 4096 := by omega
          clear g1 g2
          go_wp2
          go_ret2
          rw [G1.out, G2.out]
          exact IntsRes.nil rfl hbl
  · have hE2 : ldsE xs = 2 := lds_two hE
    have A1 := Lib.hid (show stL b xs lim = [] by unfold stL; rw [if_pos hE])
    have A2 := Lib.hid (show stE b xs lim = 2 by unfold stE; rw [if_pos hE])
    clear hE ht
    go_enter Try.func46, Try.ntmps46
    go_wp2_with (first | (go_at_call 44; refine (rdcheck_any A xs _ _ h hl).mono ?_; rintro e w1 ⟨rfl, HB⟩) | (go_at_call 61; refine (crtime_any _ _).mono ?_; rintro e w' ⟨rfl, rfl⟩))
    all_goals go_ret2
    all_goals (rw [A1.out, A2.out]; exact IntsRes.nil rfl HB)

/-! ### Solve -/
def soV (b : Int) (xs : List Q4) (lim : Int) : Int := if stE b xs lim ≠ 0 then 0 else (stL b xs lim)[(stL b xs lim).length - 1]?.getD 0
theorem run_ne {b : Int} {xs : List Q4} {lim : Int} : ∀ (k : Nat) (w : Int) (out : List Int), (run b xs lim k w out).2 = 0 → (run b xs lim k w out).1 ≠ []
  | 0, w, out, h => by simp [run] at h
  | k + 1, w, out, h => by
    unfold run at h ⊢
    by_cases hx : lim < w
    · rw [if_pos hx] at h; simp at h
    · rw [if_neg hx] at h ⊢
      by_cases he : roE b xs w ≠ 0
      · rw [if_pos he] at h; exact absurd h he
      · rw [if_neg he] at h ⊢
        by_cases hv : roV b xs w = w
        · rw [if_pos hv]; simp
        · rw [if_neg hv] at h ⊢; exact run_ne k _ _ h
theorem run_len {b : Int} {xs : List Q4} {lim : Int} : ∀ (k : Nat) (w : Int) (out : List Int), (run b xs lim k w out).1.length ≤ out.length + k
  | 0, w, out => by simp [run]
  | k + 1, w, out => by
    unfold run
    have ih := run_len (b := b) (xs := xs) (lim := lim) k (roV b xs w) (out ++ [w])
    simp only [List.length_append, List.length_cons, List.length_nil] at ih
    repeat' split
    all_goals first | (simp; omega) | (simp; done) | omega
theorem st_ne {b : Int} {xs : List Q4} {lim : Int} (h : stE b xs lim = 0) : ∃ m, (stL b xs lim).length = m + 1 ∧ m < 4096 := by
  unfold stE at h
  unfold stL
  split at h
  · omega
  · split at h
    · omega
    · rename_i h1 h2
      rw [if_neg h1, if_neg h2]
      have := run_ne 4096 b [] h
      have hl := run_len (b := b) (xs := xs) (lim := lim) 4096 b []
      cases e : (run b xs lim 4096 b []).1 with
      | nil => exact absurd e this
      | cons a r => rw [e] at hl; exact ⟨r.length, by simp, by simp at hl; omega⟩
theorem stL_len (b : Int) (xs : List Q4) (lim : Int) : (stL b xs lim).length ≤ 4096 := by
  unfold stL
  have hl := run_len (b := b) (xs := xs) (lim := lim) 4096 b []
  simp only [List.length_nil, Nat.zero_add] at hl
  repeat' split
  all_goals first | (simp; done) | exact hl

set_option maxHeartbeats 1000000 in
theorem solve_any (b : Int) (A : Option Addr) (xs : List Q4) (cap : Nat) (lim : Int) (w : World) (h : R4 w w.heap.size A xs) (hl : xs.length ≤ 9223372036854775807) :
    Calls Try.prog 47 #[.int .i64 b, .slice A xs.length cap, .int .i64 lim] w fun e w' => e = .returned (.tuple #[.int .i64 (soV b xs lim), .int .i64 (stE b xs lim)]) ∧ Below w.heap.size w w' := by
  by_cases he : stE b xs lim = 0
  · obtain ⟨m, hm, hm1⟩ := st_ne he
    have hv : soV b xs lim = (stL b xs lim)[m]?.getD 0 := by unfold soV; rw [if_neg (by omega), hm]; rfl
    have HV := Lib.hid hv
    have HM := Lib.hid hm
    clear hv hm
    go_enter Try.func47, Try.ntmps47
    go_wp2_with fail
    refine (sts_any _ A xs _ _ _ h hl).mono ?_
    rintro e w1 ⟨A2, c2, rfl, hI, hb⟩
    obtain ⟨b2, off, rfl, hlt, hc⟩ := hI (by rw [HM.out]; omega)
    replace hc := hc m (by rw [HM.out]; omega)
    rw [HM.out]
    have hm2 : IntKind.i64.wrap (((m + 1 : Nat) : Int) - 1) = (m : Int) := by rw [IntWalk.i64_in _ (by omega)]; omega
    go_wp2
    go_ret2
    exact ⟨ret_ii HV.out.symm he.symm, hb⟩
  · have hv : soV b xs lim = 0 := by unfold soV; rw [if_pos he]
    have HV := Lib.hid hv
    clear hv
    go_enter Try.func47, Try.ntmps47
    go_wp2_with fail
    refine (sts_any _ A xs _ _ _ h hl).mono ?_
    rintro e w1 ⟨A2, c2, rfl, hI, hb⟩
    go_wp2
    go_ret2
    exact ⟨ret_ii HV.out.symm rfl, hb⟩
set_option maxHeartbeats 1000000 in
theorem rsolve_any (b : Int) (A : Option Addr) (xs : List Q4) (cap : Nat) (lim : Int) (w : World) (h : R4 w w.heap.size A xs) (hl : xs.length ≤ 9223372036854775807) :
    Calls Try.prog 48 #[.int .i64 b, .slice A xs.length cap, .int .i64 lim] w fun e w' => e = .returned (.tuple #[.int .i64 (soV b xs lim), .int .i64 (stE b xs lim)]) ∧ Below w.heap.size w w' := by
  by_cases he : stE b xs lim = 0
  · obtain ⟨m, hm, hm1⟩ := st_ne he
    have hv : soV b xs lim = (stL b xs lim)[m]?.getD 0 := by unfold soV; rw [if_neg (by omega), hm]; rfl
    have HV := Lib.hid hv
    have HM := Lib.hid hm
    clear hv hm
    go_enter Try.func48, Try.ntmps48
    go_wp2_with fail
    refine (rsts_any _ A xs _ _ _ h hl).mono ?_
    rintro e w1 ⟨A2, c2, rfl, hI, hb⟩
    obtain ⟨b2, off, rfl, hlt, hc⟩ := hI (by rw [HM.out]; omega)
    replace hc := hc m (by rw [HM.out]; omega)
    rw [HM.out]
    have hm2 : IntKind.i64.wrap (((m + 1 : Nat) : Int) - 1) = (m : Int) := by rw [IntWalk.i64_in _ (by omega)]; omega
    go_wp2
    go_ret2
    exact ⟨ret_ii HV.out.symm he.symm, hb⟩
  · have hv : soV b xs lim = 0 := by unfold soV; rw [if_pos he]
    have HV := Lib.hid hv
    clear hv
    go_enter Try.func48, Try.ntmps48
    go_wp2_with fail
    refine (rsts_any _ A xs _ _ _ h hl).mono ?_
    rintro e w1 ⟨A2, c2, rfl, hI, hb⟩
    go_wp2
    go_ret2
    exact ⟨ret_ii HV.out.symm rfl, hb⟩
end Go.Proofs.Ytjckfgadchobfaa
