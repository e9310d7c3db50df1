/-
  supply.Loads once more: where no block is named, the room is zero.
-/
import Derived.Test.YtfneloplbkjbhaaLod3
namespace Go.Proofs.Ytfneloplbkjbhaa
open Go.RowKit
namespace Z
def LoadsRes (w : World) (L : List Q4) (E : Int) (e : Ending) (w' : World) : Prop :=
  ∃ A c, e = .returned (.tuple #[.slice A L.length c, .int .i64 E]) ∧ R4 w' w'.heap.size A L ∧ Below w.heap.size w w' ∧ (A = none → c = 0)
theorem LoadsRes.nil {w w' : World} {E E' : Int} (h : E' = E) (hb : Below w.heap.size w w') : LoadsRes w [] E (.returned (.tuple #[.slice none 0 0, .int .i64 E'])) w' :=
  ⟨none, 0, by rw [h]; rfl, R4.nil _ _ _, hb, fun _ => rfl⟩
theorem LoadsRes.own {w w' : World} {L : List Q4} {E : Int} {v : Value} {base : Nat} {t : TypeId} {n : Nat} (h : w'.ownsRow base t 4 v n (L.flatMap Q4.cells)) (hb : Below w.heap.size w w') : LoadsRes w L E (.returned (.tuple #[v, .int .i64 E])) w' := by
  have h2 := h.2
  obtain ⟨A, c, rfl, hR⟩ := ownR4 h
  refine ⟨A, c, rfl, hR, hb, fun hA => ?_⟩
  subst hA
  rcases h2 with e | ⟨g, cap', cur, e1, _⟩
  · injection e.1
  · injection e1 with e1; cases e1
set_option maxHeartbeats 2000000 in
theorem loads_any (A1 A2 : Option Addr) (ts ls : List Q4) (c1 c2 : Nat) (pr : Int) (w : World) (h1 : R4 w w.heap.size A1 ts) (h2 : R4 w w.heap.size A2 ls) (hl : ts.length + ls.length ≤ 2147483647) :
    Calls Try.prog 16 #[.slice A1 ts.length c1, .slice A2 ls.length c2, .int .i64 pr] w (LoadsRes w (loL ts ls pr) (loE ts ls pr)) := by
  have hl1 : ts.length ≤ 9223372036854775807 := by omega
  have hl2 : ls.length ≤ 9223372036854775807 := by omega
  by_cases ho : oddB ts ls = true
  · have R := Lib.hid (lo_odd (pr := pr) ho)
    go_enter Try.func16, Try.ntmps16
    go_wp2_with (first | (go_at_call 21; refine (odd_any A1 A2 ts ls _ _ _ h1 h2 hl1 hl2).mono ?_; rintro e w1 ⟨rfl, HB⟩))
    go_ret2
    rw [R.out.1, R.out.2]
    exact LoadsRes.nil rfl HB
  · have hp := odd_parts ho
    have HP := Lib.hid hp
    have HO := Lib.hid ho
    have ho' : oddB ts ls = false := by simpa using ho
    clear hp ho
    obtain ⟨i0, hi, hz0, hz1, hz2⟩ := info_parts info_load4
    go_enter Try.func16, Try.ntmps16
    go_wp2_with (first | (go_at_call 21; refine (odd_any A1 A2 ts ls _ _ _ h1 h2 hl1 hl2).mono ?_; rintro e w1 ⟨rfl, HB⟩))
    go_loopw [8, 19] (fun u i wr => ∃ (k : Nat) (v : Value), k ≤ ts.length ∧ i = .int .i64 k ∧ u = v ∧ wr.ownsRow w.heap.size 64 4 v (thS pr (ts.take k)).length ((thS pr (ts.take k)).flatMap Q4.cells) ∧ Below w.heap.size w wr) (fun _ i _ => ts.length - (intOf i).toNat)
    case atStart => exact ⟨0, _, by omega, rfl, rfl, by simpa [thS] using World.ownsRow_nil _ _ _ _, HB⟩
    case round =>
      obtain ⟨k, v, hk, rfl, rfl, hown, hbl⟩ := hrel
      obtain ⟨A0, cp, rfl⟩ := own_slice hown
      by_cases hlt : k < ts.length
      · obtain ⟨b, off, rfl, hbB, hc⟩ := h1 (by omega)
        obtain ⟨x, hx⟩ := some_at hlt
        obtain ⟨e1, e2, e3, e4⟩ := hc k x hx
        replace e1 := (hbl.cell (p := ⟨b, off + k * 4, none⟩) hbB).trans e1
        replace e2 := (hbl.cell (p := ⟨b, off + k * 4 + 1, none⟩) hbB).trans e2
        replace e3 := (hbl.cell (p := ⟨b, off + k * 4 + 2, none⟩) hbB).trans e3
        replace e4 := (hbl.cell (p := ⟨b, off + k * 4 + 3, none⟩) hbB).trans e4
        have hsn := thS_snoc pr (ts.take k) x
        rw [← takeR_snoc hx] at hsn
        have hkl := thS_len pr (ts.take k)
        simp only [List.length_take] at hkl
        clear hc hx
        obtain ⟨xa, xb, xc, xd⟩ := x
        simp only at e1 e2 e3 e4 hsn
        by_cases hpr : pr < xa
        · rw [if_pos hpr] at hsn
          have HS := Lib.hid hsn
          clear hsn
          go_wp2_with (first
            | (at_builtin; refine wpList_app4 rfl _ _ 47 rfl w.heap.size 64 i0 (.agg #[.int .i64 0, .int .i64 0, .int .i64 0, .int .i64 0]) 32 Try.underlying47 hi hz0 hz1 hz2 rfl (by decide) _ (thS pr (ts.take k)).length ((thS pr (ts.take k)).flatMap Q4.cells) rfl (ownw.alloc _) (some ⟨w2.heap.size, 0, none⟩) [⟨xc, 0, xc, xb⟩] 1 _ rfl (r4_new w2 [⟨xc, 0, xc, xb⟩] 64 (0, 0)) (by simp) (by simp only [List.length_cons, List.length_nil]; omega) (by have := HB2.size; simp; omega) ?_; intro v' w4 own4 hb4; have HB4 := (HB2.alloc HB2.size _).trans hb4)
            | (go_at_call 22; refine (steady_any _ _ _).mono ?_; rintro e w2 ⟨rfl, hb2⟩; have ownw := own_below (hown.alloc _) hb2; have HB2 := hbl.next1 hbl.size hb2)
            | (go_at_call 23; refine (cost_any _ _).mono ?_; rintro e w' ⟨rfl, rfl⟩))
          go_roundw
          case rel => exact ⟨k + 1, v', by omega, by go_num, rfl, by rw [HS.out, List.length_append, List.flatMap_append]; exact own4, HB4⟩
          case measure => simp [intOf]; omega
        · rw [if_neg hpr, List.append_nil] at hsn
          have HS := Lib.hid hsn
          clear hsn
          go_wp2
          go_roundw
          case rel => exact ⟨k + 1, _, by omega, by go_num, rfl, by rw [HS.out]; exact hown.alloc _, hbl.alloc hbl.size _⟩
          case measure => simp [intOf]; omega
      · have etk : ts.take k = ts := List.take_of_length_le (by omega)
        rw [etk] at hown ⊢
        clear etk
        obtain ⟨wo, hwo⟩ : ∃ wo : World, wo = wr := ⟨_, rfl⟩
        subst hwo
        have hkl0 := thS_len pr ts
        go_wp2_with fail
        go_loopw [8, 38] (fun u i wr => ∃ (k : Nat) (l : List Q4) (v : Value), k ≤ ls.length ∧ i = .int .i64 k ∧ u = v ∧ wr.ownsRow w.heap.size 64 4 v l.length (l.flatMap Q4.cells) ∧ l.length ≤ ts.length + k ∧ Hid (lnS (thS pr ts) (ls.take k) = some l) ∧ Below w.heap.size w wr) (fun _ i _ => ls.length - (intOf i).toNat)
        case atStart => exact ⟨0, thS pr ts, _, by omega, rfl, rfl, hown, by omega, rfl, hbl⟩
        case round =>
          clear hbl hk hlt hown
          obtain ⟨k, l, v, hk, rfl, rfl, hown, hll, hs, hbl⟩ := hrel
          obtain ⟨A0, cp, rfl⟩ := own_slice hown
          by_cases hlt : k < ls.length
          · obtain ⟨b, off, rfl, hbB, hc⟩ := h2 (by omega)
            obtain ⟨x, hx⟩ := some_at hlt
            obtain ⟨e1, e2, e3, e4⟩ := hc k x hx
            replace e1 := (hbl.cell (p := ⟨b, off + k * 4, none⟩) hbB).trans e1
            replace e2 := (hbl.cell (p := ⟨b, off + k * 4 + 1, none⟩) hbB).trans e2
            replace e3 := (hbl.cell (p := ⟨b, off + k * 4 + 2, none⟩) hbB).trans e3
            replace e4 := (hbl.cell (p := ⟨b, off + k * 4 + 3, none⟩) hbB).trans e4
            obtain ⟨p1, p2, p3, p4, p5, p6⟩ := lnB_parts (List.all_eq_true.1 HP.out.2 x (List.mem_of_getElem? hx))
            have hsn := lnS_snoc (thS pr ts) (ls.take k) x
            rw [← takeR_snoc hx, hs.out] at hsn
            clear hc hx
            obtain ⟨xa, xb, xc, xd⟩ := x
            simp only at e1 e2 e3 e4 p1 p2 p3 p4 p5 p6
            replace hsn : lnS (thS pr ts) (ls.take (k + 1)) = if 1099511627776 < xc * xb then none else some (l ++ [⟨xd, 0, xd, xc * xb⟩]) := hsn
            have m0 : 1 ≤ xc * xb := by have := Int.mul_le_mul p1 p5 (by omega) (by omega); omega
            have m1 : xc * xb ≤ 64 * 1099511627776 := Int.mul_le_mul p2 p6 (by omega) (by omega)
            by_cases hov : 1099511627776 < xc * xb
            · rw [if_pos hov] at hsn
              have R := Lib.hid (lo_over HO.out (lnS_none hsn))
              have hcb : costB (xc * xb) = false := by simp only [costB]; exact decide_eq_false (by omega)
              clear hsn
              go_wp2_with (first | (go_at_call 23; refine (cost_any _ _).mono ?_; rintro e w' ⟨rfl, rfl⟩))
              go_ret2
              rw [R.out.1, R.out.2]
              exact LoadsRes.nil rfl (hbl.alloc hbl.size _)
            · rw [if_neg hov] at hsn
              have HS := Lib.hid hsn
              have hcb : costB (xc * xb) = true := by simp only [costB]; exact decide_eq_true (by omega)
              clear hsn
              go_wp2_with (first
                | (at_builtin; refine wpList_app4 rfl _ _ 47 rfl w.heap.size 64 i0 (.agg #[.int .i64 0, .int .i64 0, .int .i64 0, .int .i64 0]) 32 Try.underlying47 hi hz0 hz1 hz2 rfl (by decide) _ l.length (l.flatMap Q4.cells) rfl (ownw.alloc _) (some ⟨w2.heap.size, 0, none⟩) [⟨xd, 0, xd, xc * xb⟩] 1 _ rfl (r4_new w2 [⟨xd, 0, xd, xc * xb⟩] 64 (0, 0)) (by simp) (by simp only [List.length_cons, List.length_nil]; omega) (by have := HB2.size; simp; omega) ?_; intro v' w4 own4 hb4; have HB4 := (HB2.alloc HB2.size _).trans hb4)
                | (go_at_call 22; refine (steady_any _ _ _).mono ?_; rintro e w2 ⟨rfl, hb2⟩; have ownw := own_below (hown.alloc _) hb2; have HB2 := hbl.next1 hbl.size hb2)
                | (go_at_call 23; refine (cost_any _ _).mono ?_; rintro e w' ⟨rfl, rfl⟩))
              go_roundw
              case rel => exact ⟨k + 1, l ++ [⟨xd, 0, xd, xc * xb⟩], v', by omega, by go_num, rfl, by rw [List.length_append, List.flatMap_append]; exact own4, by simp; omega, HS, HB4⟩
              case measure => simp [intOf]; omega
          · have hs' := hs.out
            rw [List.take_of_length_le (by omega)] at hs'
            have R := Lib.hid (lo_ok HO.out hs')
            clear hs hs'
            go_wp2
            go_ret2
            rw [R.out.1, R.out.2]
            exact LoadsRes.own hown hbl
end Z
end Go.Proofs.Ytfneloplbkjbhaa
