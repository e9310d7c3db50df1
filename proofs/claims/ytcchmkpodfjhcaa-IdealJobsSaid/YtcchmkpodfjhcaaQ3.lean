/-
  The walk of the queue's note.
-/
import Derived.Test.YtcchmkpodfjhcaaQ2
namespace Go.Proofs.Ytcchmkpodfjhcaa
open Go.RowKit Go.Shelf
set_option linter.unusedVariables false
theorem bv_of {b : Nat} (hb : b < 18446744073709551616) : (BitVec.ofInt 64 (b : Int)).toNat = b := by
  rw [BitVec.ofInt_natCast, BitVec.toNat_ofNat]
  exact Nat.mod_eq_of_lt (by omega)
theorem wrap_lt {b : Nat} (hb : b < 18446744073709551616) : IntKind.u64.wrap (b : Int) = b := by rw [IntKind.wrap_u64]; omega
theorem two_lt {k : Nat} (hk : k < 64) : 2 ^ k < 18446744073709551616 := Nat.lt_of_lt_of_le (Nat.pow_lt_pow_right (by omega) hk) (Nat.le_refl (2 ^ 64))
theorem two_wrap {k : Nat} (hk : k < 64) : IntKind.u64.wrap ((2 : Int) ^ k) = ((2 ^ k : Nat) : Int) := by
  have h := wrap_lt (two_lt hk)
  rw [← h]; congr 1
theorem clear_bit {b k : Nat} (hb : b < 18446744073709551616) (hk : k < 64) : ∃ c : Nat, bits BinOp.andNot IntKind.u64 (b : Int) (IntKind.u64.wrap ((2 : Int) ^ k)) = (c : Int) ∧ c < 18446744073709551616 ∧ ∀ i, i < 64 → c.testBit i = if i = k then false else b.testBit i := by
  have e : bits BinOp.andNot IntKind.u64 (b : Int) (IntKind.u64.wrap ((2 : Int) ^ k)) = IntKind.u64.wrap ((BitVec.ofInt 64 (b : Int) &&& ~~~ BitVec.ofInt 64 ((2 ^ k : Nat) : Int)).toNat : Int) := by
    rw [two_wrap hk]; rfl
  refine ⟨(BitVec.ofInt 64 (b : Int) &&& ~~~ BitVec.ofInt 64 ((2 ^ k : Nat) : Int)).toNat, ?_, BitVec.isLt _, fun i hi => ?_⟩
  · rw [e]; exact wrap_lt (BitVec.isLt _)
  · rw [BitVec.testBit_toNat, BitVec.getLsbD_and, BitVec.getLsbD_not, ← BitVec.testBit_toNat, ← BitVec.testBit_toNat, bv_of hb, bv_of (two_lt hk), Nat.testBit_two_pow]
    by_cases e : i = k
    · subst e; simp
    · have : ¬ k = i := fun h => e h.symm
      simp [e, this, hi]
theorem set_bit {b k : Nat} (hb : b < 18446744073709551616) (hk : k < 64) : ∃ c : Nat, bits BinOp.or IntKind.u64 (b : Int) (IntKind.u64.wrap ((2 : Int) ^ k)) = (c : Int) ∧ c < 18446744073709551616 ∧ ∀ i, i < 64 → c.testBit i = if i = k then true else b.testBit i := by
  have e : bits BinOp.or IntKind.u64 (b : Int) (IntKind.u64.wrap ((2 : Int) ^ k)) = IntKind.u64.wrap ((BitVec.ofInt 64 (b : Int) ||| BitVec.ofInt 64 ((2 ^ k : Nat) : Int)).toNat : Int) := by
    rw [two_wrap hk]; rfl
  refine ⟨(BitVec.ofInt 64 (b : Int) ||| BitVec.ofInt 64 ((2 ^ k : Nat) : Int)).toNat, ?_, BitVec.isLt _, fun i hi => ?_⟩
  · rw [e]; exact wrap_lt (BitVec.isLt _)
  · rw [BitVec.testBit_toNat, BitVec.getLsbD_or, ← BitVec.testBit_toNat, ← BitVec.testBit_toNat, bv_of hb, bv_of (two_lt hk), Nat.testBit_two_pow]
    by_cases e : i = k
    · subst e; simp
    · have : ¬ k = i := fun h => e h.symm
      simp [e, this]
def NoteRes (w : World) (qb p I M n b k : Nat) (S : PS) (e : Ending) (w' : World) : Prop :=
  e = .returned (.tuple #[]) ∧ ∃ c, QC w' qb p I M n c ∧ c < 18446744073709551616 ∧ Kp qb (qb + 1) w w' ∧ ∀ i, i < 64 → c.testBit i = if i = k then decide (S.list (k : Int) ≠ []) else b.testBit i
theorem note_any {w : World} {lo hi p L K N : Nat} {S : PS} (hP : PoolAt w lo hi p L K N 64 S) {qb I M n b : Nat} (hC : QC w qb p I M n b) (hq : hi ≤ qb) (hb : b < 18446744073709551616) (k : Nat) (hk : k < 64) :
    Calls Try.prog 80 #[.pointer (some ⟨qb, 0, none⟩), .int .i64 (k : Int)] w (NoteRes w qb p I M n b k S) := by
  obtain ⟨d, hd, hdl, hdb⟩ := clear_bit hb hk
  have HQ := Kept.mk hC
  have HP := Kept.mk hP
  have HD := Kept.mk hd
  have HB := Kept.mk hdb
  have q2 := (hC.set3 d).drew
  have kp := ((Kp.refl qb (qb + 1) w).set (p := ⟨qb, 3, none⟩) (by simp) (by simp) (.int .u64 (d : Int))).drew
  have pp : PoolAt ((w.setCell ⟨qb, 3, none⟩ (.int .u64 (d : Int))).drew) lo hi p L K N 64 S := hP.below_hi ⟨rfl, rfl, rfl, by simp, fun i hi' => Below.heap_setCell _ _ _ _ (by show i ≠ qb; omega)⟩
  obtain ⟨c0, c1, c2, c3, qf⟩ := hC
  have k0 : ¬ ((k : Int) < 0) := by omega
  clear hP hd hdb
  go_enter Try.func80, Try.ntmps80
  go_wp2_with fail
  go_region
  rw [HD.out]
  obtain ⟨W1, hW1⟩ : ∃ W1, W1 = (w.setCell ⟨qb, 3, none⟩ (.int .u64 (d : Int))).drew := ⟨_, rfl⟩
  rw [← hW1] at q2 kp pp ⊢
  clear hW1 c0 c1 c2 c3 qf
  have HF := pfirst pp (k : Int)
  have HQ2 := Kept.mk q2
  have HK := Kept.mk kp
  obtain ⟨c0, c1, c2, c3, qf⟩ := q2
  clear pp kp
  cases hl : (S.list (k : Int)).head? with
  | none =>
    rw [hl] at HF
    simp only [optV] at HF
    have hnil : S.list (k : Int) = [] := List.head?_eq_none_iff.1 hl
    have HN := Kept.mk hnil
    clear hl hnil
    go_wp2_with ((go_at_call 31; refine (HF).mono ?_; rintro e w' ⟨rfl, rfl⟩))
    refine bodyPost_ret (results_none rfl _ _ _) rfl ⟨rfl, d, HQ2.out, hdl, HK.out, fun i hi => ?_⟩
    rw [HB.out i hi, HN.out]; simp
  | some x =>
    rw [hl] at HF
    simp only [optV] at HF
    have hnil : S.list (k : Int) ≠ [] := fun e => by rw [e] at hl; cases hl
    have HN := Kept.mk hnil
    obtain ⟨c, hc, hcl, hcb⟩ := set_bit hdl hk
    have HCB := Kept.mk hcb
    have HCC := Kept.mk hc
    have HQ3 := Kept.mk (HQ2.out.set3 c).drew
    have HK3 := Kept.mk (HK.out.set (p := ⟨qb, 3, none⟩) (by simp) (by simp) (.int .u64 (c : Int))).drew
    clear hl hnil hc hcb
    go_wp2_with ((go_at_call 31; refine (HF).mono ?_; rintro e w' ⟨rfl, rfl⟩))
    go_region
    rw [HCC.out]
    go_wp2
    refine bodyPost_ret (results_none rfl _ _ _) rfl ⟨rfl, c, HQ3.out, hcl, HK3.out, fun i hi => ?_⟩
    rw [HCB.out i hi, HB.out i hi]
    by_cases e : i = k
    · rw [if_pos e, if_pos e, decide_eq_true HN.out]
    · rw [if_neg e, if_neg e, if_neg e]
end Go.Proofs.Ytcchmkpodfjhcaa
