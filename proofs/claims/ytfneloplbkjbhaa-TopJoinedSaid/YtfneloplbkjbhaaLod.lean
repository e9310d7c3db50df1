/-
  The walk of supply.odd; what supply.Loads makes.
-/
import Derived.Test.YtfneloplbkjbhaaSup2
import Derived.Test.YtfneloplbkjbhaaApp
namespace Go.Proofs.Ytfneloplbkjbhaa
open Go.RowKit
set_option linter.unusedVariables false

def thB (x : Q4) : Bool := threadB x.b x.c
def lnB (x : Q4) : Bool := lineB x.c x.d && costB x.b
def oddB (ts ls : List Q4) : Bool := !(ts.all thB) || !(ls.all lnB)
theorem all_false {f : Q4 → Bool} {xs : List Q4} {k : Nat} {x : Q4} (hx : xs[k]? = some x) (h : f x = false) : xs.all f = false := by
  rw [List.all_eq_false]
  exact ⟨x, List.mem_of_getElem? hx, by simp [h]⟩
theorem all_take {f : Q4 → Bool} {xs : List Q4} {k : Nat} {x : Q4} (hx : xs[k]? = some x) (h : (xs.take k).all f = true) (hf : f x = true) : (xs.take (k + 1)).all f = true := by
  rw [takeR_snoc hx, List.all_append, h]; simp [hf]

set_option maxHeartbeats 1000000 in
theorem odd_any (A1 A2 : Option Addr) (ts ls : List Q4) (c1 c2 : Nat) (w : World) (h1 : R4 w w.heap.size A1 ts) (h2 : R4 w w.heap.size A2 ls) (hl1 : ts.length ≤ 9223372036854775807) (hl2 : ls.length ≤ 9223372036854775807) :
    Calls Try.prog 21 #[.slice A1 ts.length c1, .slice A2 ls.length c2] w fun e w' => e = .returned (.bool (oddB ts ls)) ∧ Below w.heap.size w w' := by
  go_enter Try.func21, Try.ntmps21
  go_wp2_with fail
  go_loopw [11] (fun i wr => ∃ (k : Nat), k ≤ ts.length ∧ i = .int .i64 k ∧ Below w.heap.size w wr ∧ Hid ((ts.take k).all thB = true)) (fun i _ => ts.length - (intOf i).toNat)
  case atStart => exact ⟨0, by omega, rfl, Below.refl _ _, by simp [Hid]⟩
  case round =>
    obtain ⟨k, hk, rfl, hbl, hs⟩ := hrel
    by_cases hlt : k < ts.length
    · obtain ⟨b, off, rfl, hbB, hc⟩ := h1 (by omega)
      obtain ⟨x, hx⟩ := some_at hlt
      obtain ⟨c1, c2, c3, c4⟩ := hc k x hx
      replace c1 := (hbl.cell (p := ⟨b, off + k * 4, none⟩) hbB).trans c1
      replace c2 := (hbl.cell (p := ⟨b, off + k * 4 + 1, none⟩) hbB).trans c2
      replace c3 := (hbl.cell (p := ⟨b, off + k * 4 + 2, none⟩) hbB).trans c3
      replace c4 := (hbl.cell (p := ⟨b, off + k * 4 + 3, none⟩) hbB).trans c4
      have HX := Lib.hid hx
      clear hc hx
      obtain ⟨xa, xb, xc, xd⟩ := x
      simp only at c1 c2 c3 c4
      by_cases ht : threadB xb xc = true
      · have HT := Lib.hid (all_take HX.out hs.out (show thB ⟨xa, xb, xc, xd⟩ = true from ht))
        go_wp2_with (first | (go_at_call 36; refine (served_any _ _ _ _ _).mono ?_; rintro e w1 ⟨rfl, hb⟩))
        go_roundw
        case rel => exact ⟨k + 1, by omega, by go_num, hbl.next1 hbl.size hb, HT.out⟩
        case measure => simp [intOf]; omega
      · have ht : threadB xb xc = false := by simpa using ht
        have HT := Lib.hid (show oddB ts ls = true by unfold oddB; rw [all_false HX.out (show thB ⟨xa, xb, xc, xd⟩ = false from ht)]; rfl)
        go_wp2_with (first | (go_at_call 36; refine (served_any _ _ _ _ _).mono ?_; rintro e w1 ⟨rfl, hb⟩))
        go_ret
        exact ⟨by rw [HT.out]; rfl, hbl.next1 hbl.size hb⟩
    · have ha := hs.out
      rw [List.take_of_length_le (by omega)] at ha
      have HA := Lib.hid ha
      clear ha hs
      obtain ⟨wo, hwo⟩ : ∃ wo : World, wo = wr := ⟨_, rfl⟩
      subst hwo
      go_wp2_with fail
      go_loopw [21] (fun i wr => ∃ (k : Nat), k ≤ ls.length ∧ i = .int .i64 k ∧ Below w.heap.size w wr ∧ Hid ((ls.take k).all lnB = true)) (fun i _ => ls.length - (intOf i).toNat)
      case atStart => exact ⟨0, by omega, rfl, hbl, by simp [Hid]⟩
      case round =>
        clear hbl hk hlt
        obtain ⟨k, hk, rfl, hbl, hs⟩ := hrel
        by_cases hlt : k < ls.length
        · obtain ⟨b, off, rfl, hbB, hc⟩ := h2 (by omega)
          obtain ⟨x, hx⟩ := some_at hlt
          obtain ⟨c1, c2, c3, c4⟩ := hc k x hx
          replace c1 := (hbl.cell (p := ⟨b, off + k * 4, none⟩) hbB).trans c1
          replace c2 := (hbl.cell (p := ⟨b, off + k * 4 + 1, none⟩) hbB).trans c2
          replace c3 := (hbl.cell (p := ⟨b, off + k * 4 + 2, none⟩) hbB).trans c3
          replace c4 := (hbl.cell (p := ⟨b, off + k * 4 + 3, none⟩) hbB).trans c4
          have HX := Lib.hid hx
          clear hc hx
          obtain ⟨xa, xb, xc, xd⟩ := x
          simp only at c1 c2 c3 c4
          by_cases ht : lineB xc xd = true
          · by_cases hcb : costB xb = true
            · have HT := Lib.hid (all_take HX.out hs.out (show lnB ⟨xa, xb, xc, xd⟩ = true by unfold lnB; simp only [ht, hcb]; rfl))
              go_wp2_with (first | (go_at_call 37; refine (masked_any _ _ _ _ _).mono ?_; rintro e w1 ⟨rfl, hb⟩; have q1 := box_cell hb 1 _ rfl) | (go_at_call 23; refine (cost_any _ _).mono ?_; rintro e w' ⟨rfl, rfl⟩))
              go_roundw
              case rel => exact ⟨k + 1, by omega, by go_num, hbl.next1 hbl.size hb, HT.out⟩
              case measure => simp [intOf]; omega
            · have hcb : costB xb = false := by simpa using hcb
              have HT := Lib.hid (show oddB ts ls = true by unfold oddB; rw [all_false HX.out (show lnB ⟨xa, xb, xc, xd⟩ = false by unfold lnB; simp only [hcb, Bool.and_false])]; simp)
              go_wp2_with (first | (go_at_call 37; refine (masked_any _ _ _ _ _).mono ?_; rintro e w1 ⟨rfl, hb⟩; have q1 := box_cell hb 1 _ rfl) | (go_at_call 23; refine (cost_any _ _).mono ?_; rintro e w' ⟨rfl, rfl⟩))
              go_ret
              exact ⟨by rw [HT.out]; rfl, hbl.next1 hbl.size hb⟩
          · have ht : lineB xc xd = false := by simpa using ht
            have HT := Lib.hid (show oddB ts ls = true by unfold oddB; rw [all_false HX.out (show lnB ⟨xa, xb, xc, xd⟩ = false by unfold lnB; simp only [ht, Bool.false_and])]; simp)
            go_wp2_with (first | (go_at_call 37; refine (masked_any _ _ _ _ _).mono ?_; rintro e w1 ⟨rfl, hb⟩; have q1 := box_cell hb 1 _ rfl) | (go_at_call 23; refine (cost_any _ _).mono ?_; rintro e w' ⟨rfl, rfl⟩))
            go_ret
            exact ⟨by rw [HT.out]; rfl, hbl.next1 hbl.size hb⟩
        · have hb2 := hs.out
          rw [List.take_of_length_le (by omega)] at hb2
          have HT := Lib.hid (show oddB ts ls = false by unfold oddB; rw [HA.out, hb2]; rfl)
          clear hb2 hs
          go_wp2
          go_ret
          exact ⟨by rw [HT.out]; rfl, hbl⟩
end Go.Proofs.Ytfneloplbkjbhaa
