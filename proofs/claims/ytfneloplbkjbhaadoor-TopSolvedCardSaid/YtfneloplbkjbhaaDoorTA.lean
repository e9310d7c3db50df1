/-
  strconv.AppendInt at base 10 and numbers from 0 on, with a closer frame: of the old blocks only the row that grows may turn. (The shelf's contracts of small, numDigits and formatBase10 serve.)
-/
import Derived.Test.YtfneloplbkjbhaaDoorTM4
import Derived.Lib.Walk
import Derived.Lib.ItoaMem
import Derived.Lib.AppendIntMem
import Derived.OwnWalk
import Derived.BigGuard
namespace Go.Proofs.YtfneloplbkjbhaaDoor
open Go.Shelf Go.RowKit Go.Sort Go.Lib
set_option linter.unusedVariables false
theorem small_at (u : Nat) (h : u < 100) (w : World) : Calls Tryd.prog 69 #[.int .i64 u] w fun e w' => e = .returned (.string ⟨(decDigits u).toArray⟩) ∧ w' = w :=
  Any.internal_strconv_small (P := Tryd.prog) (ρ := laysM176_ren) { laysM176 with } u h w
theorem digits_at (u : Nat) (h1 : 1 ≤ u) (h2 : u < 18446744073709551616) (w : World) (htab : TabIs Tryd.prog w "internal/strconv.uint64pow10" .u64 pow10Tab) : Calls Tryd.prog 70 #[.int .u64 u] w fun e w' => e = .returned (.int .i64 (nDigits u)) ∧ w' = w :=
  Any.internal_strconv_numDigits (P := Tryd.prog) (ρ := laysM176_ren) { laysM176 with } u h1 h2 w htab
abbrev u8v : UInt8 → Value := fun b => Value.int .u8 (b.toNat : Int)
theorem format_at (blk off cap u : Nat) (d : Array UInt8) (w : World) (hH : Holds u8v w blk off d) (hu : u < 10 ^ d.size) (hu64 : u < 18446744073709551616) (hsz : d.size < 4611686018427387904) :
    Calls Tryd.prog 71 #[.slice (some ⟨blk, off, none⟩) d.size cap, .int .u64 u] w fun e w' => e = .returned (.tuple #[]) ∧ ∃ (n v' : Nat) (dk : Array UInt8), w' = (putRow u8v w blk off dk).drewN n ∧ FmtInv d.size u 0 v' dk :=
  Any.internal_strconv_formatBase10 (P := Tryd.prog) (ρ := laysM176_ren) { laysM176 with } blk off cap u d w hH hu hu64 hsz
theorem gb_row (w : World) (o : Obj) (dk : Array UInt8) (k : Nat) (r : Option Nat) : w.grownBy ((putRow u8v (w.alloc o) w.heap.size 0 dk).drewN k) r := by
  obtain ⟨os, e⟩ := fin_at w o dk k 0
  rw [e]
  have hb := below_grow w.heap.size w (Nat.le_refl _) k os
  exact ⟨hb.os, hb.tape, hb.output, hb.size, fun i hi _ => hb.block i hi⟩
theorem gb_tr {a b c : World} {r : Option Nat} (h : a.grownBy b r) (k : b.grownBy c r) : a.grownBy c r :=
  ⟨k.os.trans h.os, k.tape.trans h.tape, k.output.trans h.output, Nat.le_trans h.size k.size, fun i hi hn => (k.block i (Nat.lt_of_lt_of_le hi h.size) hn).trans (h.block i hi hn)⟩
def UintRes (B n u : Nat) (sv : Value) (xs : List Value) (w : World) (e : Ending) (w' : World) : Prop :=
  ∃ v', e = .returned v' ∧ w'.ownsRow B 5 1 v' (n + (decDigits u).length) (xs ++ byteCells (decDigits u)) ∧ w.grownBy w' sv.ownBlock
set_option maxHeartbeats 6400000 in
set_option maxRecDepth 100000 in
theorem uint_small (B n u : Nat) (hu : u < 100) (sv : Value) (xs : List Value) (w : World) (hown : w.ownsRow B 5 1 sv n xs) (hBw : B ≤ w.heap.size) (hlim : n ≤ 140737488355000) :
    Calls Tryd.prog 58 #[sv, .int .u64 u, .int .i64 10] w (UintRes B n u sv xs w) := by
  obtain ⟨i0, hi, hz0, hz1, hz2⟩ := info_parts byteInfo
  have hlen : (decDigits u).length ≤ 20 := by
    rw [decDigits_length]
    by_cases h10 : u < 10
    · rw [nDigits_small h10]; omega
    · rw [nDigits_big h10, nDigits_small (show u / 10 < 10 by omega)]; omega
  have hsz : (⟨(decDigits u).toArray⟩ : ByteArray).size = (decDigits u).length := by simp [ByteArray.size]
  have HS := Kept.mk (small_at u hu w)
  have iu : (u : Int) < 100 := by omega
  go_enter Tryd.func58, Tryd.ntmps58
  go_wp2_with (first | (go_at_call 69; refine HS.out.mono ?_; rintro e w1 ⟨rfl, rfl⟩) | (at_builtin; refine wpList_append_own_string _ rfl _ _ 62 9 rfl B 5 i0 Tryd.underlying62 Tryd.underlying9 hi hz0 hz1 hz2 _ _ _ rfl hown ⟨(decDigits u).toArray⟩ rfl (by rw [hsz]; simp only [maxLen]; omega) (by rw [hsz]; omega) hBw ?_; intro v1 w2 hown1 hg1 _; refine Hid.out ?_))
  refine Lib.hid ?_
  go_wp2
  go_ret
  rw [hsz] at hown1
  exact ⟨v1, rfl, hown1, hg1⟩
set_option maxHeartbeats 12800000 in
set_option maxRecDepth 100000 in
theorem uint_big (B n u : Nat) (hu : 100 ≤ u) (hu64 : u < 18446744073709551616) (sv : Value) (xs : List Value) (w : World) (hown : w.ownsRow B 5 1 sv n xs) (hBw : B ≤ w.heap.size) (hlim : n ≤ 140737488355000) (htab : TabIs Tryd.prog w "internal/strconv.uint64pow10" .u64 pow10Tab) :
    Calls Tryd.prog 58 #[sv, .int .u64 u, .int .i64 10] w (UintRes B n u sv xs w) := by
  obtain ⟨i0, hi, hz0, hz1, hz2⟩ := info_parts byteInfo
  have hnd : nDigits u ≤ 20 := by have := numDigits_eq u (by omega) hu64; split at this <;> omega
  have hal : Tryd.prog.arrayLen 131 = 24 := by kernel_rfl
  have hcut : ∀ W, (Instr.sliceAt 131 (.pointer (some ⟨w.heap.size, 0, none⟩)) none (some (.int .i64 (nDigits u : Int))) none).run Tryd.prog W = .ok (.slice (some ⟨w.heap.size, 0, none⟩) (nDigits u) 24) W := fun W => by
    rw [run_sliceAt_array_h W 131 ⟨w.heap.size, 0, none⟩ (by kernel_rfl) .i64 (nDigits u : Int) (by omega) (by rw [hal]; omega)]
    go_simp
  have hH := holds_zero0 w 131 (nDigits u) (by omega)
  have hf := format_at w.heap.size 0 24 u (Array.replicate (nDigits u) 0) (w.alloc (.cells zeros24 131)) hH (by rw [Array.size_replicate]; exact lt_pow_nDigits u) hu64 (by rw [Array.size_replicate]; omega)
  rw [Array.size_replicate] at hf
  have HH := Kept.mk hH
  have HF := Kept.mk hf
  have HD := Kept.mk (digits_at u (by omega) hu64 (w.alloc (.cells zeros24 131)) (tabIs_alloc htab _))
  have iu : (100 : Int) ≤ (u : Int) := by omega
  clear hH hf hal htab
  go_enter Tryd.func58, Tryd.ntmps58
  go_wp2_with (first | (go_at_call 70; refine HD.out.mono ?_; rintro e w1 ⟨rfl, rfl⟩) | (go_at_call 71; refine HF.out.mono ?_; rintro e w2 ⟨rfl, k, v', dk, hw2, hF⟩; refine Hid.out ?_))
  refine Lib.hid ?_
  have hcells : ∀ j u', (byteCells (decDigits u))[j]? = some u' → w2.cell? ((⟨w.heap.size, 0, none⟩ : Addr).add j) = some u' := by
    intro j u' hj
    have hjl : j < (decDigits u).length := by
      have := (List.getElem?_eq_some_iff.1 hj).1
      rwa [byteCells_length] at this
    have hv : u' = u8v (decDigits u)[j] := by
      have : (byteCells (decDigits u))[j]? = some (u8v (decDigits u)[j]) := by simp [byteCells, hjl]
      rw [this] at hj
      exact (Option.some.inj hj).symm
    have hjd : j < dk.size := by rw [hF.size]; rw [decDigits_length] at hjl; exact hjl
    rw [hv, row_is_numeral hF j hjl, add_plain, hw2, World.cell?_drewN]
    exact cell?_putRow u8v _ w.heap.size 0 _ dk HH.out (by rw [hF.size, Array.size_replicate]) j hjd
  have gb2 : ∀ r, w.grownBy w2 r := fun r => by rw [hw2]; exact gb_row w _ dk k r
  have hb2 : Below w.heap.size w w2 := ⟨(gb2 none).os, (gb2 none).tape, (gb2 none).output, (gb2 none).size, fun i hi => (gb2 none).block i hi (by simp)⟩
  have own2 := own_below hown hb2
  have G2 := Kept.mk (gb2 sv.ownBlock)
  have s2 := hb2.size
  rw [← hw2]
  have HC := Kept.mk hcells
  have HL := Kept.mk (show (decDigits u).length = nDigits u from decDigits_length u)
  clear hw2 hF hb2 gb2 HF HD HH hcells hown
  go_wp2_with (at_builtin; (refine wpList_append_own _ rfl _ _ 62 rfl B 5 i0 (.int .u8 0) 1 1 Tryd.underlying62 hi hz0 hz1 hz2 rfl (by decide) _ _ _ rfl own2 ⟨w.heap.size, 0, none⟩ (nDigits u) 24 (byteCells (decDigits u)) rfl ?c0 HC.out ?c2 ?c3 ?c4 ?c5 ?_))
  case c0 => rw [byteCells_length, HL.out, Nat.mul_one]
  case c2 =>
    intro u' hu'
    simp only [byteCells, List.mem_map] at hu'
    obtain ⟨b, _, rfl⟩ := hu'
    rfl
  case c3 => simp only [maxLen]; omega
  case c4 => omega
  case c5 => omega
  intro v3 w3 hown3 hg3 _
  go_wp2
  go_ret
  rw [← HL.out] at hown3
  exact ⟨v3, rfl, hown3, gb_tr G2.out hg3⟩
theorem uint_any (B n u : Nat) (hu64 : u < 18446744073709551616) (sv : Value) (xs : List Value) (w : World) (hown : w.ownsRow B 5 1 sv n xs) (hBw : B ≤ w.heap.size) (hlim : n ≤ 140737488355000) (htab : TabIs Tryd.prog w "internal/strconv.uint64pow10" .u64 pow10Tab) :
    Calls Tryd.prog 58 #[sv, .int .u64 u, .int .i64 10] w (UintRes B n u sv xs w) := by
  by_cases h : u < 100
  · exact uint_small B n u h sv xs w hown hBw hlim
  · exact uint_big B n u (by omega) hu64 sv xs w hown hBw hlim htab
def IntRes (B n : Nat) (i : Int) (sv : Value) (xs : List Value) (w : World) (e : Ending) (w' : World) : Prop :=
  ∃ v', e = .returned v' ∧ w'.ownsRow B 5 1 v' (n + (itoa i).length) (xs ++ byteCells (itoa i)) ∧ w.grownBy w' sv.ownBlock
theorem int_in (B n : Nat) (i : Int) (h0 : 0 ≤ i) (h1 : i ≤ 4503599627370496) (sv : Value) (xs : List Value) (w : World) (hown : w.ownsRow B 5 1 sv n xs) (hBw : B ≤ w.heap.size) (hlim : n ≤ 140737488355000) (htab : TabIs Tryd.prog w "internal/strconv.uint64pow10" .u64 pow10Tab) :
    Calls Tryd.prog 51 #[sv, .int .i64 i, .int .i64 10] w (IntRes B n i sv xs w) := by
  obtain ⟨u, rfl⟩ : ∃ u : Nat, i = u := ⟨i.toNat, by omega⟩
  have HU := Kept.mk (uint_any B n u (by omega) sv xs w hown hBw hlim htab)
  have hi0 := Kept.mk (itoa_nonneg u)
  clear hown htab
  go_enter Tryd.func51, Tryd.ntmps51
  go_wp2_with (go_at_call 58; refine HU.out.mono ?_; rintro e w1 ⟨v1, rfl, h2, h3⟩)
  all_goals go_ret
  exact ⟨v1, rfl, by rw [hi0.out]; exact h2, h3⟩
/-- strconv.AppendInt. -/
theorem int_any (B n : Nat) (i : Int) (h0 : 0 ≤ i) (h1 : i ≤ 4503599627370496) (sv : Value) (xs : List Value) (w : World) (hown : w.ownsRow B 5 1 sv n xs) (hBw : B ≤ w.heap.size) (hlim : n ≤ 140737488355000) (htab : TabIs Tryd.prog w "internal/strconv.uint64pow10" .u64 pow10Tab) :
    Calls Tryd.prog 36 #[sv, .int .i64 i, .int .i64 10] w (IntRes B n i sv xs w) := by
  have HU := Kept.mk (int_in B n i h0 h1 sv xs w hown hBw hlim htab)
  clear hown htab
  go_enter Tryd.func36, Tryd.ntmps36
  go_wp2_with (go_at_call 51; refine HU.out.mono ?_; rintro e w1 ⟨v1, rfl, h2, h3⟩)
  all_goals go_ret
  exact ⟨v1, rfl, h2, h3⟩
end Go.Proofs.YtfneloplbkjbhaaDoor
