/-
  The walks of package curve and of its reference (vergeref22), part 3: Dense.
-/
import Derived.Test.YtjckfgadchobfaaCur
import Derived.Test.YtjckfgadchobfaaVi
namespace Go.Proofs.Ytjckfgadchobfaa
open Go.RowKit
set_option linter.unusedVariables false

theorem info_i64 : (Try.prog.info? 2).map (fun i => (i.zero, i.size, i.bytes)) = some (some (.int .i64 0), 1, 8) := by kernel_rfl

def deE (p j a n : Int) : Int := if curE p j a ≠ 0 then 2 else if n < 0 ∨ 1048576 < n then 1 else if 0 < n ∧ ¬ (0 ≤ gapV p j a n ∧ gapV p j a n ≤ 4503599627370496) then 10 else 0
def dens (p j a : Int) (k : Nat) : List Int := (List.range k).map fun i : Nat => gapV p j a ((i : Int) + 1)
def deL (p j a n : Int) : List Int := if deE p j a n = 0 then dens p j a n.toNat else []
theorem dens_succ (p j a : Int) (k : Nat) : dens p j a (k + 1) = dens p j a k ++ [gapV p j a ((k : Int) + 1)] := by simp [dens, List.range_succ]
theorem dens_length (p j a : Int) (k : Nat) : (dens p j a k).length = k := by simp [dens]

def IntsRes (w : World) (L : List Int) (E : Int) (e : Ending) (w' : World) : Prop :=
  ∃ A c, e = .returned (.tuple #[.slice A L.length c, .int .i64 E]) ∧ Ints w' w'.heap.size A L ∧ Below w.heap.size w w'
theorem IntsRes.nil {w w' : World} {E E' : Int} (h : E' = E) (hb : Below w.heap.size w w') : IntsRes w [] E (.returned (.tuple #[.slice none 0 0, .int .i64 E'])) w' :=
  ⟨none, 0, by rw [h]; rfl, Ints.nil _ _ _, hb⟩
theorem IntsRes.own {w w' : World} {L : List Int} {E : Int} {v : Value} {base : Nat} {t : TypeId} {n : Nat} (hn : n = L.length) (h : w'.ownsRow base t 1 v n (L.map (Value.int .i64))) (hb : Below w.heap.size w w') : IntsRes w L E (.returned (.tuple #[v, .int .i64 E])) w' := by
  subst hn
  obtain ⟨A, c, rfl⟩ := own_slice h
  exact ⟨A, c, rfl, (Ints.of_own h).2, hb⟩

theorem dens_app {w : World} {base : Nat} {t : TypeId} {v : Value} {p j a : Int} {k : Nat} (h : w.ownsRow base t 1 v (k + 1) ((dens p j a k).map (Value.int .i64) ++ [.int .i64 (gapV p j a ((k : Int) + 1))])) : w.ownsRow base t 1 v (k + 1) ((dens p j a (k + 1)).map (Value.int .i64)) := by
  rw [dens_succ]; simpa using h
/-- The world behind the box. -/
def bxW (w : World) (p j a : Int) (t : TypeId) : World := w.alloc (.cells #[.int .i64 p, .int .i64 j, .int .i64 a] t)

theorem den_end {w wr : World} {p j a n : Int} {k : Nat} {v : Value} {t : TypeId} (hL : deE p j a n = 0) (hk : (k : Int) = n) (hown : wr.ownsRow (w.heap.size + 1) t 1 v k ((dens p j a k).map (Value.int .i64))) {T : TypeId}
    (hbl : Below (bxW w p j a T).heap.size (bxW w p j a T) wr) : IntsRes w (deL p j a n) (deE p j a n) (.returned (.tuple #[v, .int .i64 0])) wr := by
  subst hk
  have e : deL p j a k = dens p j a k := by unfold deL; rw [if_pos hL, Int.toNat_natCast]
  rw [e, hL]
  exact IntsRes.own (dens_length p j a k).symm hown (hbl.box (Nat.le_refl _))
set_option maxHeartbeats 1000000 in
theorem dense_any (p j a n : Int) (w : World) :
    Calls Try.prog 33 #[.agg #[.int .i64 p, .int .i64 j, .int .i64 a], .int .i64 n] w (IntsRes w (deL p j a n) (deE p j a n)) := by
  by_cases hcu : 1 ≤ p ∧ p ≤ 1099511627776 ∧ 0 ≤ j ∧ j ≤ 1099511627776 ∧ 1 ≤ a ∧ a ≤ p
  · have hE : curE p j a = 0 := by unfold curE; rw [if_pos hcu]
    obtain ⟨p1, p2, j1, j2, a1, a2⟩ := hcu
    by_cases hn : n < 0 ∨ 1048576 < n
    · have hL : deL p j a n = [] := by unfold deL deE; rw [if_neg (by omega)]
      rw [hL]
      go_enter Try.func33, Try.ntmps33
      go_wp2_with (first | (go_at_call 29; refine (ccheck_any _ _ _ _).mono ?_; rintro e w1 ⟨rfl, hb⟩; have q0 := box_cell hb 0 _ rfl; have q1 := box_cell hb 1 _ rfl; have q2 := box_cell hb 2 _ rfl) | (go_at_call 65; refine (gap_any _ _ _ _ p1 p2 j1 j2 a1 a2 (by omega) (by omega) _).mono ?_; rintro e w2 ⟨rfl, hb2⟩) | (go_at_call 62; refine (ctime_any _ _).mono ?_; rintro e w' ⟨rfl, rfl⟩))
      all_goals go_ret2
      all_goals first
        | exact IntsRes.nil (by unfold deE; omega) (hb.box (Nat.le_refl _))
        | exact IntsRes.nil (by have := HG.out; unfold deE; omega) ((hb.trans (hb2.mono hb.size)).box (Nat.le_refl _))
    · by_cases hg : 0 < n ∧ ¬ (0 ≤ gapV p j a n ∧ gapV p j a n ≤ 4503599627370496)
      · have ht : timeB (gapV p j a n) = false := by simp [timeB]; omega
        have hL : deL p j a n = [] := by unfold deL deE; rw [if_neg (by omega)]
        rw [hL]
        obtain ⟨hg1, hg2⟩ := hg
        have HG := Lib.hid hg2
        clear hg2 hL
        go_enter Try.func33, Try.ntmps33
        go_wp2_with (first | (go_at_call 29; refine (ccheck_any _ _ _ _).mono ?_; rintro e w1 ⟨rfl, hb⟩; have q0 := box_cell hb 0 _ rfl; have q1 := box_cell hb 1 _ rfl; have q2 := box_cell hb 2 _ rfl) | (go_at_call 65; refine (gap_any _ _ _ _ p1 p2 j1 j2 a1 a2 (by omega) (by omega) _).mono ?_; rintro e w2 ⟨rfl, hb2⟩) | (go_at_call 62; refine (ctime_any _ _).mono ?_; rintro e w' ⟨rfl, rfl⟩))
        all_goals go_ret2
        all_goals first
          | exact IntsRes.nil (by unfold deE; omega) (hb.box (Nat.le_refl _))
          | exact IntsRes.nil (by have := HG.out; unfold deE; omega) ((hb.trans (hb2.mono hb.size)).box (Nat.le_refl _))
      · have hL : deE p j a n = 0 := by unfold deE; omega
        by_cases hn0 : n = 0
        · subst hn0
          have HL := Lib.hid hL
          clear hg hL
          go_enter Try.func33, Try.ntmps33
          go_wp2_with (first | (go_at_call 29; refine (ccheck_any _ _ _ _).mono ?_; rintro e w1 ⟨rfl, hb⟩; have q0 := box_cell hb 0 _ rfl; have q1 := box_cell hb 1 _ rfl; have q2 := box_cell hb 2 _ rfl) | (go_at_call 65; refine (gap_any _ _ _ _ p1 p2 j1 j2 a1 a2 (by omega) (by omega) _).mono ?_; rintro e w2 ⟨rfl, hb2⟩) | (go_at_call 62; refine (ctime_any _ _).mono ?_; rintro e w' ⟨rfl, rfl⟩))
          go_loopw [7, 33] (fun u i wr => i = .int .i64 0 ∧ u = .slice none 0 0 ∧ wr = w1) (fun _ i _ => 0)
          case atStart => exact ⟨rfl, rfl, rfl⟩
          case round =>
            obtain ⟨rfl, rfl, rfl⟩ := hrel
            go_wp2
            go_ret2
            exact den_end (t := 2) (k := 0) HL.out (by rfl) (by simpa [dens] using World.ownsRow_nil _ _ _ _) hb
        · have ht : timeB (gapV p j a n) = true := by simp [timeB]; omega
          have HG := Lib.hid hg
          have HL := Lib.hid hL
          have n1 : 1 ≤ n := by omega
          have n2 : n ≤ 1048576 := by omega
          clear hg hL hn hn0
          go_enter Try.func33, Try.ntmps33
          go_wp2_with (first | (go_at_call 29; refine (ccheck_any _ _ _ _).mono ?_; rintro e w1 ⟨rfl, hb⟩; have q0 := box_cell hb 0 _ rfl; have q1 := box_cell hb 1 _ rfl; have q2 := box_cell hb 2 _ rfl) | (go_at_call 65; refine (gap_any _ _ _ _ p1 p2 j1 j2 a1 a2 (by omega) (by omega) _).mono ?_; rintro e w2 ⟨rfl, hb2⟩) | (go_at_call 62; refine (ctime_any _ _).mono ?_; rintro e w' ⟨rfl, rfl⟩))
          have hst : Below (bxW w p j a 34).heap.size (bxW w p j a 34) w2 := hb.trans (hb2.mono hb.size)
          clear q0 q1 q2
          obtain ⟨i0, hi, hz0, hz1, hz2⟩ := info_parts info_i64
          go_loopw [7, 33] (fun u i wr => ∃ (k : Nat) (v : Value), (k : Int) ≤ n ∧ i = .int .i64 (k : Int) ∧ u = v ∧ wr.ownsRow (w.heap.size + 1) 2 1 v k ((dens p j a k).map (Value.int .i64)) ∧ Below (bxW w p j a 34).heap.size (bxW w p j a 34) wr) (fun _ i _ => (n + 1 - intOf i).toNat)
          case atStart => exact ⟨0, _, by omega, rfl, rfl, by simpa [dens] using World.ownsRow_nil _ _ _ _, hst⟩
          case round =>
            obtain ⟨k, v, hk, rfl, rfl, hown, hbl⟩ := hrel
            by_cases hlt : (k : Int) < n
            · have q0 := box_cell hbl 0 _ rfl
              have q1 := box_cell hbl 1 _ rfl
              have q2 := box_cell hbl 2 _ rfl
              have hsz : w.heap.size + 1 ≤ wr.heap.size := by have := hbl.size; simpa [bxW] using this
              go_wp2_with (first | (go_at_call 65; refine (gap_any _ _ _ _ p1 p2 j1 j2 a1 a2 (by omega) (by omega) _).mono ?_; rintro e w3 ⟨rfl, hb3⟩; have own3 := own_below hown hb3; have hsz3 := hb3.size) | (at_builtin; refine wpList_append_own _ rfl _ _ 39 rfl (w.heap.size + 1) 2 i0 (.int .i64 0) 1 8 Try.underlying39 hi hz0 hz1 hz2 rfl (by decide) _ _ _ rfl (own3.alloc _) ⟨w3.heap.size, 0, none⟩ 1 1 [.int .i64 (gapV p j a ((k : Int) + 1))] rfl rfl (cell_one_new _ _ _) (by simp [Value.oneCell']) (by simp only [maxLen]; omega) (by omega) (by simp; omega) ?_; intro v' w4 hown' hgrow _))
              go_roundw
              case rel => exact ⟨k + 1, v', by omega, by go_num, rfl, dens_app hown', (below_grown (((hbl.trans (hb3.mono (by simp [bxW]; omega))).alloc (by simp [bxW]; omega) _)) hgrow (own3.alloc _) (by simp [bxW]) (by simp [bxW]; omega))⟩
              case measure => simp [intOf]; omega
            · have hk' : (k : Int) = n := by omega
              have HK := Lib.hid hk'
              clear hk'
              go_wp2
              go_ret2
              exact den_end HL.out HK.out hown hbl
  · have hE : curE p j a = 2 := by unfold curE; rw [if_neg hcu]
    have hL : deL p j a n = [] := by unfold deL deE; rw [if_neg (by omega)]
    rw [hL]
    go_enter Try.func33, Try.ntmps33
    go_wp2_with (first | (go_at_call 29; refine (ccheck_any _ _ _ _).mono ?_; rintro e w1 ⟨rfl, hb⟩))
    all_goals go_ret2
    all_goals exact IntsRes.nil (by unfold deE; omega) (hb.box (Nat.le_refl _))
set_option maxHeartbeats 1000000 in
theorem rdense_any (p j a n : Int) (w : World) :
    Calls Try.prog 34 #[.agg #[.int .i64 p, .int .i64 j, .int .i64 a], .int .i64 n] w (IntsRes w (deL p j a n) (deE p j a n)) := by
  by_cases hcu : 1 ≤ p ∧ p ≤ 1099511627776 ∧ 0 ≤ j ∧ j ≤ 1099511627776 ∧ 1 ≤ a ∧ a ≤ p
  · have hE : curE p j a = 0 := by unfold curE; rw [if_pos hcu]
    obtain ⟨p1, p2, j1, j2, a1, a2⟩ := hcu
    by_cases hn : n < 0 ∨ 1048576 < n
    · have hL : deL p j a n = [] := by unfold deL deE; rw [if_neg (by omega)]
      rw [hL]
      go_enter Try.func34, Try.ntmps34
      go_wp2_with (first | (go_at_call 30; refine (rccheck_any _ _ _ _).mono ?_; rintro e w1 ⟨rfl, hb⟩; have q0 := box_cell hb 0 _ rfl; have q1 := box_cell hb 1 _ rfl; have q2 := box_cell hb 2 _ rfl) | (go_at_call 66; refine (rgap_any _ _ _ _ p1 p2 j1 j2 a1 a2 (by omega) (by omega) _).mono ?_; rintro e w2 ⟨rfl, hb2⟩) | (go_at_call 61; refine (crtime_any _ _).mono ?_; rintro e w' ⟨rfl, rfl⟩))
      all_goals go_ret2
      all_goals first
        | exact IntsRes.nil (by unfold deE; omega) (hb.box (Nat.le_refl _))
        | exact IntsRes.nil (by have := HG.out; unfold deE; omega) ((hb.trans (hb2.mono hb.size)).box (Nat.le_refl _))
    · by_cases hg : 0 < n ∧ ¬ (0 ≤ gapV p j a n ∧ gapV p j a n ≤ 4503599627370496)
      · have ht : timeB (gapV p j a n) = false := by simp [timeB]; omega
        have hL : deL p j a n = [] := by unfold deL deE; rw [if_neg (by omega)]
        rw [hL]
        obtain ⟨hg1, hg2⟩ := hg
        have HG := Lib.hid hg2
        clear hg2 hL
        go_enter Try.func34, Try.ntmps34
        go_wp2_with (first | (go_at_call 30; refine (rccheck_any _ _ _ _).mono ?_; rintro e w1 ⟨rfl, hb⟩; have q0 := box_cell hb 0 _ rfl; have q1 := box_cell hb 1 _ rfl; have q2 := box_cell hb 2 _ rfl) | (go_at_call 66; refine (rgap_any _ _ _ _ p1 p2 j1 j2 a1 a2 (by omega) (by omega) _).mono ?_; rintro e w2 ⟨rfl, hb2⟩) | (go_at_call 61; refine (crtime_any _ _).mono ?_; rintro e w' ⟨rfl, rfl⟩))
        all_goals go_ret2
        all_goals first
          | exact IntsRes.nil (by unfold deE; omega) (hb.box (Nat.le_refl _))
          | exact IntsRes.nil (by have := HG.out; unfold deE; omega) ((hb.trans (hb2.mono hb.size)).box (Nat.le_refl _))
      · have hL : deE p j a n = 0 := by unfold deE; omega
        by_cases hn0 : n = 0
        · subst hn0
          have HL := Lib.hid hL
          clear hg hL
          go_enter Try.func34, Try.ntmps34
          go_wp2_with (first | (go_at_call 30; refine (rccheck_any _ _ _ _).mono ?_; rintro e w1 ⟨rfl, hb⟩; have q0 := box_cell hb 0 _ rfl; have q1 := box_cell hb 1 _ rfl; have q2 := box_cell hb 2 _ rfl) | (go_at_call 66; refine (rgap_any _ _ _ _ p1 p2 j1 j2 a1 a2 (by omega) (by omega) _).mono ?_; rintro e w2 ⟨rfl, hb2⟩) | (go_at_call 61; refine (crtime_any _ _).mono ?_; rintro e w' ⟨rfl, rfl⟩))
          go_loopw [6, 7] (fun u i wr => i = .int .i64 1 ∧ u = .slice none 0 0 ∧ wr = w1) (fun _ i _ => 0)
          case atStart => exact ⟨rfl, rfl, rfl⟩
          case round =>
            obtain ⟨rfl, rfl, rfl⟩ := hrel
            go_wp2
            go_ret2
            exact den_end (t := 2) (k := 0) HL.out (by rfl) (by simpa [dens] using World.ownsRow_nil _ _ _ _) hb
        · have ht : timeB (gapV p j a n) = true := by simp [timeB]; omega
          have HG := Lib.hid hg
          have HL := Lib.hid hL
          have n1 : 1 ≤ n := by omega
          have n2 : n ≤ 1048576 := by omega
          clear hg hL hn hn0
          go_enter Try.func34, Try.ntmps34
          go_wp2_with (first | (go_at_call 30; refine (rccheck_any _ _ _ _).mono ?_; rintro e w1 ⟨rfl, hb⟩; have q0 := box_cell hb 0 _ rfl; have q1 := box_cell hb 1 _ rfl; have q2 := box_cell hb 2 _ rfl) | (go_at_call 66; refine (rgap_any _ _ _ _ p1 p2 j1 j2 a1 a2 (by omega) (by omega) _).mono ?_; rintro e w2 ⟨rfl, hb2⟩) | (go_at_call 61; refine (crtime_any _ _).mono ?_; rintro e w' ⟨rfl, rfl⟩))
          have hst : Below (bxW w p j a 34).heap.size (bxW w p j a 34) w2 := hb.trans (hb2.mono hb.size)
          clear q0 q1 q2
          obtain ⟨i0, hi, hz0, hz1, hz2⟩ := info_parts info_i64
          go_loopw [6, 7] (fun u i wr => ∃ (k : Nat) (v : Value), (k : Int) ≤ n ∧ i = .int .i64 ((k : Int) + 1) ∧ u = v ∧ wr.ownsRow (w.heap.size + 1) 2 1 v k ((dens p j a k).map (Value.int .i64)) ∧ Below (bxW w p j a 34).heap.size (bxW w p j a 34) wr) (fun _ i _ => (n + 1 - intOf i).toNat)
          case atStart => exact ⟨0, _, by omega, rfl, rfl, by simpa [dens] using World.ownsRow_nil _ _ _ _, hst⟩
          case round =>
            obtain ⟨k, v, hk, rfl, rfl, hown, hbl⟩ := hrel
            by_cases hlt : (k : Int) < n
            · have q0 := box_cell hbl 0 _ rfl
              have q1 := box_cell hbl 1 _ rfl
              have q2 := box_cell hbl 2 _ rfl
              have hsz : w.heap.size + 1 ≤ wr.heap.size := by have := hbl.size; simpa [bxW] using this
              go_wp2_with (first | (go_at_call 66; refine (rgap_any _ _ _ _ p1 p2 j1 j2 a1 a2 (by omega) (by omega) _).mono ?_; rintro e w3 ⟨rfl, hb3⟩; have own3 := own_below hown hb3; have hsz3 := hb3.size) | (at_builtin; refine wpList_append_own _ rfl _ _ 39 rfl (w.heap.size + 1) 2 i0 (.int .i64 0) 1 8 Try.underlying39 hi hz0 hz1 hz2 rfl (by decide) _ _ _ rfl (own3.alloc _) ⟨w3.heap.size, 0, none⟩ 1 1 [.int .i64 (gapV p j a ((k : Int) + 1))] rfl rfl (cell_one_new _ _ _) (by simp [Value.oneCell']) (by simp only [maxLen]; omega) (by omega) (by simp; omega) ?_; intro v' w4 hown' hgrow _))
              go_roundw
              case rel => exact ⟨k + 1, v', by omega, by go_num, rfl, dens_app hown', (below_grown (((hbl.trans (hb3.mono (by simp [bxW]; omega))).alloc (by simp [bxW]; omega) _)) hgrow (own3.alloc _) (by simp [bxW]) (by simp [bxW]; omega))⟩
              case measure => simp [intOf]; omega
            · have hk' : (k : Int) = n := by omega
              have HK := Lib.hid hk'
              clear hk'
              go_wp2
              go_ret2
              exact den_end HL.out HK.out hown hbl
  · have hE : curE p j a = 2 := by unfold curE; rw [if_neg hcu]
    have hL : deL p j a n = [] := by unfold deL deE; rw [if_neg (by omega)]
    rw [hL]
    go_enter Try.func34, Try.ntmps34
    go_wp2_with (first | (go_at_call 30; refine (rccheck_any _ _ _ _).mono ?_; rintro e w1 ⟨rfl, hb⟩))
    all_goals go_ret2
    all_goals exact IntsRes.nil (by unfold deE; omega) (hb.box (Nat.le_refl _))
end Go.Proofs.Ytjckfgadchobfaa
