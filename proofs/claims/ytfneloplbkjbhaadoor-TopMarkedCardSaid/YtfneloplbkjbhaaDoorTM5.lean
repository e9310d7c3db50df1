/-
  A mark's line is read again: kind, count.
-/
import Derived.Test.YtfneloplbkjbhaaDoorTM4
import Derived.BigQuiet
namespace Go.Proofs.YtfneloplbkjbhaaDoor
open Go.RowKit Go.Shelf
open Go.Lib (byteCells itoa)
set_option linter.unusedVariables false
theorem own_conv {B : Nat} {w : World} {v : Value} {n : Int} {k : Nat} {ys : List Value} (h : w.ownsRow B 5 1 v k ys) (hk : k = 0 + (itoa n).length) (hy : ys = [] ++ byteCells (itoa n)) (h0 : 0 ≤ n) : ∃ g cap, v = .slice (some ⟨g, 0, none⟩) (itoa n).length cap ∧ (convert 62 9 (.slice (some ⟨g, 0, none⟩) (itoa n).length cap)).run Tryd.prog w = .ok (.string (BA (itoa n))) w := by
  subst hk hy
  have hO : OB B w v (itoa n) := by unfold OB; simpa using h
  rcases hO.cases with ⟨_, h2⟩ | ⟨g, cp, h1, hcell⟩
  · exact absurd h2 (by rw [itoa_nat h0]; exact dig_ne _)
  · exact ⟨g, cp, h1, run_convert_bytes_back (P := Tryd.prog) w 62 9 5 ⟨g, 0, none⟩ cp _ Tryd.underlying62 Tryd.underlying5 Tryd.underlying9 hcell⟩
set_option maxHeartbeats 1600000 in
theorem count_any (n most : Int) (w : World) (h0 : 0 ≤ n) (h1 : n ≤ most) (hm : most ≤ 4503599627370496) (hT : PowB w.heap.size w) :
    Calls Tryd.prog 39 #[.string (BA (itoa n)), .int .i64 most] w fun e w' => e = .returned (.tuple #[.int .i64 n, .bool true]) ∧ Below w.heap.size w w' := by
  have hp := parse_itoa h0 (show n ≤ 4503599627370496 by omega)
  have hsz : (BA (itoa n)).size ≤ 9223372036854775806 := by rw [BA_size]; have := Lib.itoa_length_le n (by omega) (by omega); omega
  have HP := Kept.mk (strconv_ParseInt_10_at64_ok (BA (itoa n)) hsz n (hp))
  clear hp
  go_enter Tryd.func39, Tryd.ntmps39
  go_wp2_with (first | (go_at_call 54; refine (HP.out _).mono ?_; rintro e w1 ⟨rfl, hw1⟩; have hb1 : Below w.heap.size w w1 := (by rcases hw1 with rfl | ⟨t, rfl⟩ <;> first | exact Below.refl _ _ | exact Lib.bytesWorld_below _ _ _)))
  have hsz1 := hb1.size
  have HT1 := Kept.mk (hT.on hb1)
  clear hw1
  have nlt : decide (n < 0) = false := decide_eq_false (by omega)
  have nle : decide (most < n) = false := decide_eq_false (by omega)
  go_region_with ((go_at_call 36; refine (strconv_AppendInt_10 w.heap.size 0 n (by omega) (by omega) (.slice none 0 0) [] _ (World.ownsRow_nil _ _ _ _) (by simpa using hsz1) (by omega) (HT1.out.on ((Below.refl _ _).drewN 1))).mono ?_; rintro e w2 ⟨v2, rfl, hown2, hb2, -⟩; obtain ⟨g2, c2, rfl, hcv⟩ := own_conv hown2 rfl rfl h0))
  all_goals go_wp2
  all_goals go_ret2
  all_goals exact ⟨by simp [Act.put], hb1.trans (((Below.refl _ _).drewN 1).trans hb2)⟩
end Go.Proofs.YtfneloplbkjbhaaDoor
