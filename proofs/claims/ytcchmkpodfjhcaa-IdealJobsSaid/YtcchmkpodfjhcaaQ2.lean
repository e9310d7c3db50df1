/-
  The queue of package ready: its own cells; has, note, bits.Last.
-/
import Derived.Test.YtcchmkpodfjhcaaP4
import Derived.Test.YtcchmkpodfjhcaaQPL
import Derived.Test.YtcchmkpodfjhcaaQ0
import Derived.Shelf.Strconv.Itoa0
import Derived.Lib.BitFns
import Derived.Lib.ItoaNum
namespace Go.Proofs.Ytcchmkpodfjhcaa
open Go.RowKit Go.Shelf
set_option linter.unusedVariables false
def lays129_ren : Go.Shelf.Ren := ⟨fun | 129 => 98 | n => n, fun | 53 => 133 | 3 => 3 | 4 => 4 | 46 => 183 | 5 => 5 | 9 => 9 | n => n, fun | n => n⟩
theorem lays129 : Go.Proofs.Lays.n129 Try.prog lays129_ren := {
  mixed := by kernel_rfl
  f129 := Try.func98.trans (congrArg some (by kernel_rfl))
  t3 := Try.underlying3
  a3 := Try.isAgg3
  z3 := Try.sizeOf3
  v3 := Try.zeroValue3
  t4 := Try.underlying4
  a4 := Try.isAgg4
  z4 := Try.sizeOf4
  v4 := Try.zeroValue4
  t5 := Try.underlying5
  a5 := Try.isAgg5
  z5 := Try.sizeOf5
  v5 := Try.zeroValue5
  t9 := Try.underlying9
  a9 := Try.isAgg9
  z9 := Try.sizeOf9
  v9 := Try.zeroValue9
  t46 := Try.underlying183
  a46 := Try.isAgg183
  z46 := Try.sizeOf183
  v46 := Try.zeroValue183
  t53 := Try.underlying133
  a53 := Try.isAgg133
  z53 := Try.sizeOf133
  v53 := Try.zeroValue133 }
theorem bits_Len64 (x : Int) (w : World) (h0 : 0 ≤ x) (h1 : x ≤ 18446744073709551615) :
    Calls Try.prog 98 #[.int .u64 x] w fun e w' => e = .returned (.int .i64 (Lib.bitLen x.toNat)) ∧ w' = w := Any.bits_Len64 lays129 x w h0 h1
theorem len_bits {b : Nat} (h0 : b ≠ 0) (h : b < 2 ^ 64) : 1 ≤ Lib.bitLen b ∧ Lib.bitLen b ≤ 64 ∧ b.testBit (Lib.bitLen b - 1) = true ∧ ∀ j, Lib.bitLen b - 1 < j → b.testBit j = false := by
  obtain ⟨h1, h2, h3⟩ := Lib.bitLenAux_bounds 64 b h h0
  have hle := Lib.bitLen_le b 64 (by omega) h
  have e : Lib.bitLen b = Lib.bitLenAux 64 b := rfl
  rw [← e] at h1 h2 h3
  obtain ⟨l, hl⟩ : ∃ l, Lib.bitLen b = l + 1 := ⟨Lib.bitLen b - 1, by omega⟩
  rw [hl] at h1 h2 h3 hle ⊢
  simp only [Nat.add_sub_cancel] at h2 ⊢
  refine ⟨h1, hle, ?_, fun j hj => ?_⟩
  · rw [Nat.testBit_eq_decide_div_mod_eq]
    have hp : 0 < 2 ^ l := Nat.two_pow_pos l
    have : b / 2 ^ l = 1 := by
      have a1 : 1 ≤ b / 2 ^ l := (Nat.le_div_iff_mul_le hp).2 (by omega)
      have a2 : b / 2 ^ l < 2 := (Nat.div_lt_iff_lt_mul hp).2 (by rw [Nat.pow_succ] at h3; omega)
      omega
    simp [this]
  · exact Nat.testBit_lt_two_pow (Nat.lt_of_lt_of_le h3 (Nat.pow_le_pow_right (by omega) (by omega)))
/-- The greatest bit. -/
def lastV (b : Nat) : Value := if b = 0 then .tuple #[.int .i64 0, .bool false] else .tuple #[.int .i64 ((Lib.bitLen b : Int) - 1), .bool true]
theorem last_any (b : Nat) (hb : b < 18446744073709551616) (w : World) :
    Calls Try.prog 83 #[.int .u64 (b : Int)] w fun e w' => e = .returned (lastV b) ∧ w = w' := by
  unfold lastV
  by_cases h0 : b = 0
  · subst h0
    rw [if_pos rfl]
    go_enter Try.func83, Try.ntmps83
    go_wp2
    go_ret2
    exact ⟨rfl, rfl⟩
  · rw [if_neg h0]
    obtain ⟨l1, l2, _⟩ := len_bits h0 hb
    have hz : ((b : Int) == 0) = false := by simp [h0]
    clear h0
    go_enter Try.func83, Try.ntmps83
    go_wp2_with (go_at_call 98; refine (bits_Len64 (b : Int) _ (by omega) (by omega)).mono ?_; rintro e w' ⟨rfl, rfl⟩; simp only [Int.toNat_natCast])
    go_ret2
    exact ⟨rfl, rfl⟩
theorem qhas_any (k : Int) (w : World) :
    Calls Try.prog 79 #[.int .i64 k] w fun e w' => e = .returned (.bool (decide (0 ≤ k ∧ k < 64))) ∧ w = w' := by
  by_cases h1 : 0 ≤ k
  · by_cases h2 : k ≤ 63
    · rw [decide_eq_true ⟨h1, by omega⟩]
      go_enter Try.func79, Try.ntmps79
      go_wp2
      go_ret
      exact ⟨rfl, rfl⟩
    · rw [decide_eq_false (by omega)]
      go_enter Try.func79, Try.ntmps79
      go_wp2
      go_ret
      exact ⟨rfl, rfl⟩
  · rw [decide_eq_false (by omega)]
    go_enter Try.func79, Try.ntmps79
    go_wp2
    go_ret
    exact ⟨rfl, rfl⟩
/-- The queue's own cells. -/
structure QC (w : World) (qb p I M n b : Nat) : Prop where
  c0 : w.cell? ⟨qb, 0, none⟩ = some (.pointer (some ⟨p, 0, none⟩))
  c1 : w.cell? ⟨qb, 1, none⟩ = some (.slice (some ⟨I, 0, none⟩) n n)
  c2 : w.cell? ⟨qb, 2, none⟩ = some (.map (some M))
  c3 : w.cell? ⟨qb, 3, none⟩ = some (.int .u64 (b : Int))
  qf : ∀ i, w.frozen? ⟨qb, i, none⟩ = false
theorem QC.kept {w w' : World} {qb p I M n b : Nat} (h : QC w qb p I M n b) (h1 : w'.heap[qb]? = w.heap[qb]?) : QC w' qb p I M n b :=
  ⟨(World.cell?_of_block (a := ⟨qb, 0, none⟩) h1).trans h.c0, (World.cell?_of_block (a := ⟨qb, 1, none⟩) h1).trans h.c1, (World.cell?_of_block (a := ⟨qb, 2, none⟩) h1).trans h.c2, (World.cell?_of_block (a := ⟨qb, 3, none⟩) h1).trans h.c3, fun i => (World.frozen?_of_block (a := ⟨qb, i, none⟩) h1).trans (h.qf i)⟩
theorem QC.drew {w : World} {qb p I M n b : Nat} (h : QC w qb p I M n b) : QC w.drew qb p I M n b := ⟨h.c0, h.c1, h.c2, h.c3, h.qf⟩
theorem QC.set3 {w : World} {qb p I M n b : Nat} (h : QC w qb p I M n b) (c : Nat) : QC (w.setCell ⟨qb, 3, none⟩ (.int .u64 (c : Int))) qb p I M n c :=
  ⟨by rw [World.cell?_setCell_other _ _ _ _ (by simp)]; exact h.c0, by rw [World.cell?_setCell_other _ _ _ _ (by simp)]; exact h.c1, by rw [World.cell?_setCell_other _ _ _ _ (by simp)]; exact h.c2, World.cell?_setCell_same' _ _ _ (by rw [h.c3]; rfl), fun i => by simpa using h.qf i⟩
end Go.Proofs.Ytcchmkpodfjhcaa
