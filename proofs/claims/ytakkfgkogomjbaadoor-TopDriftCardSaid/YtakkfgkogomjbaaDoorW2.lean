/-
  The wheel in memory: its own cells; the walk of note.
-/
import Derived.Test.YtakkfgkogomjbaaDoorW1
import Derived.Test.YtakkfgkogomjbaaDoorP8
import Derived.Test.YtakkfgkogomjbaaDoorGA
import Derived.StillTailTactics
import Derived.Test.YtakkfgkogomjbaaDoorQ0
namespace Go.Proofs.YtakkfgkogomjbaaDoor
open Go.RowKit Go.Shelf
set_option linter.unusedVariables false
theorem bv_of {b : Nat} (hb : b < 18446744073709551616) : (BitVec.ofInt 64 (b : Int)).toNat = b := by
  rw [BitVec.ofInt_natCast, BitVec.toNat_ofNat]
  exact Nat.mod_eq_of_lt (by omega)
theorem wrap_lt {b : Nat} (hb : b < 18446744073709551616) : IntKind.u64.wrap (b : Int) = b := by rw [IntKind.wrap_u64]; omega
theorem two_lt {k : Nat} (hk : k < 64) : 2 ^ k < 18446744073709551616 := Nat.lt_of_lt_of_le (Nat.pow_lt_pow_right (by omega) hk) (Nat.le_refl (2 ^ 64))
theorem two_wrap {k : Nat} (hk : k < 64) : IntKind.u64.wrap ((2 : Int) ^ k) = ((2 ^ k : Nat) : Int) := by
  have h := wrap_lt (two_lt hk)
  rw [← h]; congr 1
theorem clear_bit {b k : Nat} (hb : b < 18446744073709551616) (hk : k < 64) : ∃ c : Nat, bits BinOp.andNot IntKind.u64 (b : Int) (IntKind.u64.wrap ((2 : Int) ^ k)) = (c : Int) ∧ c < 18446744073709551616 ∧ ∀ i, i < 64 → c.testBit i = if i = k then false else b.testBit i := by
  have e : bits BinOp.andNot IntKind.u64 (b : Int) (IntKind.u64.wrap ((2 : Int) ^ k)) = IntKind.u64.wrap ((BitVec.ofInt 64 (b : Int) &&& ~~~ BitVec.ofInt 64 ((2 ^ k : Nat) : Int)).toNat : Int) := by
    rw [two_wrap hk]; rfl
  refine ⟨(BitVec.ofInt 64 (b : Int) &&& ~~~ BitVec.ofInt 64 ((2 ^ k : Nat) : Int)).toNat, ?_, BitVec.isLt _, fun i hi => ?_⟩
  · rw [e]; exact wrap_lt (BitVec.isLt _)
  · rw [BitVec.testBit_toNat, BitVec.getLsbD_and, BitVec.getLsbD_not, ← BitVec.testBit_toNat, ← BitVec.testBit_toNat, bv_of hb, bv_of (two_lt hk), Nat.testBit_two_pow]
    by_cases e : i = k
    · subst e; simp
    · have : ¬ k = i := fun h => e h.symm
      simp [e, this, hi]
theorem set_bit {b k : Nat} (hb : b < 18446744073709551616) (hk : k < 64) : ∃ c : Nat, bits BinOp.or IntKind.u64 (b : Int) (IntKind.u64.wrap ((2 : Int) ^ k)) = (c : Int) ∧ c < 18446744073709551616 ∧ ∀ i, i < 64 → c.testBit i = if i = k then true else b.testBit i := by
  have e : bits BinOp.or IntKind.u64 (b : Int) (IntKind.u64.wrap ((2 : Int) ^ k)) = IntKind.u64.wrap ((BitVec.ofInt 64 (b : Int) ||| BitVec.ofInt 64 ((2 ^ k : Nat) : Int)).toNat : Int) := by
    rw [two_wrap hk]; rfl
  refine ⟨(BitVec.ofInt 64 (b : Int) ||| BitVec.ofInt 64 ((2 ^ k : Nat) : Int)).toNat, ?_, BitVec.isLt _, fun i hi => ?_⟩
  · rw [e]; exact wrap_lt (BitVec.isLt _)
  · rw [BitVec.testBit_toNat, BitVec.getLsbD_or, ← BitVec.testBit_toNat, ← BitVec.testBit_toNat, bv_of hb, bv_of (two_lt hk), Nat.testBit_two_pow]
    by_cases e : i = k
    · subst e; simp
    · have : ¬ k = i := fun h => e h.symm
      simp [e, this]

/-- The wheel's own cells. -/
structure WC (w : World) (wb : Nat) (now tu : Int) (p I M n : Nat) (F : Nat → Nat) : Prop where
  c0 : w.cell? ⟨wb, 0, none⟩ = some (.int .i64 now)
  c1 : w.cell? ⟨wb, 1, none⟩ = some (.int .i64 tu)
  c2 : w.cell? ⟨wb, 2, none⟩ = some (.pointer (some ⟨p, 0, none⟩))
  c3 : w.cell? ⟨wb, 3, none⟩ = some (.slice (some ⟨I, 0, none⟩) n n)
  c4 : w.cell? ⟨wb, 4, none⟩ = some (.map (some M))
  c5 : w.cell? ⟨wb, 5, none⟩ = some (.int .u64 (F 0 : Int))
  c6 : w.cell? ⟨wb, 6, none⟩ = some (.int .u64 (F 1 : Int))
  c7 : w.cell? ⟨wb, 7, none⟩ = some (.int .u64 (F 2 : Int))
  c8 : w.cell? ⟨wb, 8, none⟩ = some (.int .u64 (F 3 : Int))
  wf : ∀ i, w.frozen? ⟨wb, i, none⟩ = false
theorem WC.kept {w w' : World} {wb : Nat} {now tu : Int} {p I M n : Nat} {F : Nat → Nat} (h : WC w wb now tu p I M n F) (h1 : w'.heap[wb]? = w.heap[wb]?) : WC w' wb now tu p I M n F :=
  ⟨(World.cell?_of_block (a := ⟨wb, 0, none⟩) h1).trans h.c0, (World.cell?_of_block (a := ⟨wb, 1, none⟩) h1).trans h.c1, (World.cell?_of_block (a := ⟨wb, 2, none⟩) h1).trans h.c2, (World.cell?_of_block (a := ⟨wb, 3, none⟩) h1).trans h.c3, (World.cell?_of_block (a := ⟨wb, 4, none⟩) h1).trans h.c4, (World.cell?_of_block (a := ⟨wb, 5, none⟩) h1).trans h.c5, (World.cell?_of_block (a := ⟨wb, 6, none⟩) h1).trans h.c6, (World.cell?_of_block (a := ⟨wb, 7, none⟩) h1).trans h.c7, (World.cell?_of_block (a := ⟨wb, 8, none⟩) h1).trans h.c8, fun i => (World.frozen?_of_block (a := ⟨wb, i, none⟩) h1).trans (h.wf i)⟩
theorem WC.drewN {w : World} {wb : Nat} {now tu : Int} {p I M n : Nat} {F : Nat → Nat} (h : WC w wb now tu p I M n F) (k : Nat) : WC (w.drewN k) wb now tu p I M n F := ⟨h.c0, h.c1, h.c2, h.c3, h.c4, h.c5, h.c6, h.c7, h.c8, h.wf⟩
def updN (F : Nat → Nat) (l c : Nat) (j : Nat) : Nat := if j = l then c else F j
theorem WC.setNow {w : World} {wb : Nat} {now tu : Int} {p I M n : Nat} {F : Nat → Nat} (h : WC w wb now tu p I M n F) (v : Int) : WC (w.setCell ⟨wb, 0, none⟩ (.int .i64 v)) wb v tu p I M n F :=
  ⟨World.cell?_setCell_same' _ _ _ (by rw [h.c0]; rfl), by rw [World.cell?_setCell_other _ _ _ _ (by simp)]; exact h.c1, by rw [World.cell?_setCell_other _ _ _ _ (by simp)]; exact h.c2, by rw [World.cell?_setCell_other _ _ _ _ (by simp)]; exact h.c3, by rw [World.cell?_setCell_other _ _ _ _ (by simp)]; exact h.c4, by rw [World.cell?_setCell_other _ _ _ _ (by simp)]; exact h.c5, by rw [World.cell?_setCell_other _ _ _ _ (by simp)]; exact h.c6, by rw [World.cell?_setCell_other _ _ _ _ (by simp)]; exact h.c7, by rw [World.cell?_setCell_other _ _ _ _ (by simp)]; exact h.c8, fun i => by simpa using h.wf i⟩
theorem WC.setTu {w : World} {wb : Nat} {now tu : Int} {p I M n : Nat} {F : Nat → Nat} (h : WC w wb now tu p I M n F) (v : Int) : WC (w.setCell ⟨wb, 1, none⟩ (.int .i64 v)) wb now v p I M n F :=
  ⟨by rw [World.cell?_setCell_other _ _ _ _ (by simp)]; exact h.c0, World.cell?_setCell_same' _ _ _ (by rw [h.c1]; rfl), by rw [World.cell?_setCell_other _ _ _ _ (by simp)]; exact h.c2, by rw [World.cell?_setCell_other _ _ _ _ (by simp)]; exact h.c3, by rw [World.cell?_setCell_other _ _ _ _ (by simp)]; exact h.c4, by rw [World.cell?_setCell_other _ _ _ _ (by simp)]; exact h.c5, by rw [World.cell?_setCell_other _ _ _ _ (by simp)]; exact h.c6, by rw [World.cell?_setCell_other _ _ _ _ (by simp)]; exact h.c7, by rw [World.cell?_setCell_other _ _ _ _ (by simp)]; exact h.c8, fun i => by simpa using h.wf i⟩
theorem WC.setF0 {w : World} {wb : Nat} {now tu : Int} {p I M n : Nat} {F : Nat → Nat} (h : WC w wb now tu p I M n F) (c : Nat) : WC (w.setCell ⟨wb, 5, none⟩ (.int .u64 (c : Int))) wb now tu p I M n (updN F 0 c) :=
  ⟨by rw [World.cell?_setCell_other _ _ _ _ (by simp)]; exact h.c0, by rw [World.cell?_setCell_other _ _ _ _ (by simp)]; exact h.c1, by rw [World.cell?_setCell_other _ _ _ _ (by simp)]; exact h.c2, by rw [World.cell?_setCell_other _ _ _ _ (by simp)]; exact h.c3, by rw [World.cell?_setCell_other _ _ _ _ (by simp)]; exact h.c4, World.cell?_setCell_same' _ _ _ (by rw [h.c5]; rfl), by rw [World.cell?_setCell_other _ _ _ _ (by simp)]; exact h.c6, by rw [World.cell?_setCell_other _ _ _ _ (by simp)]; exact h.c7, by rw [World.cell?_setCell_other _ _ _ _ (by simp)]; exact h.c8, fun i => by simpa using h.wf i⟩
theorem WC.setF1 {w : World} {wb : Nat} {now tu : Int} {p I M n : Nat} {F : Nat → Nat} (h : WC w wb now tu p I M n F) (c : Nat) : WC (w.setCell ⟨wb, 6, none⟩ (.int .u64 (c : Int))) wb now tu p I M n (updN F 1 c) :=
  ⟨by rw [World.cell?_setCell_other _ _ _ _ (by simp)]; exact h.c0, by rw [World.cell?_setCell_other _ _ _ _ (by simp)]; exact h.c1, by rw [World.cell?_setCell_other _ _ _ _ (by simp)]; exact h.c2, by rw [World.cell?_setCell_other _ _ _ _ (by simp)]; exact h.c3, by rw [World.cell?_setCell_other _ _ _ _ (by simp)]; exact h.c4, by rw [World.cell?_setCell_other _ _ _ _ (by simp)]; exact h.c5, World.cell?_setCell_same' _ _ _ (by rw [h.c6]; rfl), by rw [World.cell?_setCell_other _ _ _ _ (by simp)]; exact h.c7, by rw [World.cell?_setCell_other _ _ _ _ (by simp)]; exact h.c8, fun i => by simpa using h.wf i⟩
theorem WC.setF2 {w : World} {wb : Nat} {now tu : Int} {p I M n : Nat} {F : Nat → Nat} (h : WC w wb now tu p I M n F) (c : Nat) : WC (w.setCell ⟨wb, 7, none⟩ (.int .u64 (c : Int))) wb now tu p I M n (updN F 2 c) :=
  ⟨by rw [World.cell?_setCell_other _ _ _ _ (by simp)]; exact h.c0, by rw [World.cell?_setCell_other _ _ _ _ (by simp)]; exact h.c1, by rw [World.cell?_setCell_other _ _ _ _ (by simp)]; exact h.c2, by rw [World.cell?_setCell_other _ _ _ _ (by simp)]; exact h.c3, by rw [World.cell?_setCell_other _ _ _ _ (by simp)]; exact h.c4, by rw [World.cell?_setCell_other _ _ _ _ (by simp)]; exact h.c5, by rw [World.cell?_setCell_other _ _ _ _ (by simp)]; exact h.c6, World.cell?_setCell_same' _ _ _ (by rw [h.c7]; rfl), by rw [World.cell?_setCell_other _ _ _ _ (by simp)]; exact h.c8, fun i => by simpa using h.wf i⟩
theorem WC.setF3 {w : World} {wb : Nat} {now tu : Int} {p I M n : Nat} {F : Nat → Nat} (h : WC w wb now tu p I M n F) (c : Nat) : WC (w.setCell ⟨wb, 8, none⟩ (.int .u64 (c : Int))) wb now tu p I M n (updN F 3 c) :=
  ⟨by rw [World.cell?_setCell_other _ _ _ _ (by simp)]; exact h.c0, by rw [World.cell?_setCell_other _ _ _ _ (by simp)]; exact h.c1, by rw [World.cell?_setCell_other _ _ _ _ (by simp)]; exact h.c2, by rw [World.cell?_setCell_other _ _ _ _ (by simp)]; exact h.c3, by rw [World.cell?_setCell_other _ _ _ _ (by simp)]; exact h.c4, by rw [World.cell?_setCell_other _ _ _ _ (by simp)]; exact h.c5, by rw [World.cell?_setCell_other _ _ _ _ (by simp)]; exact h.c6, by rw [World.cell?_setCell_other _ _ _ _ (by simp)]; exact h.c7, World.cell?_setCell_same' _ _ _ (by rw [h.c8]; rfl), fun i => by simpa using h.wf i⟩
/-- What note leaves. -/
def WNote (w : World) (wb : Nat) (now tu : Int) (p I M n : Nat) (F : Nat → Nat) (k : Nat) (S : PS) (e : Ending) (w' : World) : Prop :=
  e = .returned (.tuple #[]) ∧ ∃ F', WC w' wb now tu p I M n F' ∧ Kp wb (wb + 1) w w' ∧ ∀ l, l < 4 → F' l < 18446744073709551616 ∧ ∀ i, i < 64 → (F' l).testBit i = if l * 64 + i = k then decide (S.list (k : Int) ≠ []) else (F l).testBit i
theorem note_bits {F : Nat → Nat} {l i c : Nat} {b : Bool} (hF : ∀ l, l < 4 → F l < 18446744073709551616) (hl : l < 4) (hi : i < 64) (hc : c < 18446744073709551616) (hb : ∀ j, j < 64 → c.testBit j = if j = i then b else (F l).testBit j) {k : Nat} (hk : k = l * 64 + i) :
    ∀ m, m < 4 → updN F l c m < 18446744073709551616 ∧ ∀ j, j < 64 → (updN F l c m).testBit j = if m * 64 + j = k then b else (F m).testBit j := by
  intro m hm
  unfold updN
  by_cases e : m = l
  · subst e
    rw [if_pos rfl]
    refine ⟨hc, fun j hj => ?_⟩
    rw [hb j hj]
    by_cases e2 : j = i
    · subst e2; rw [if_pos rfl, if_pos hk.symm]
    · rw [if_neg e2, if_neg (by omega)]
  · rw [if_neg e]
    exact ⟨hF m hm, fun j hj => by rw [if_neg (by omega)]⟩
set_option maxHeartbeats 2000000 in
theorem wnote_0 {w : World} {lo hi p L K N : Nat} {S : PS} (hP : PoolAt w lo hi p L K N 258 S) {wb I M n : Nat} {now tu : Int} {F : Nat → Nat} (hC : WC w wb now tu p I M n F) (hF : ∀ l, l < 4 → F l < 18446744073709551616) (k i : Nat) (hi : i < 64) (hk : k = 0 * 64 + i) :
    Calls Tryd.prog 32 #[.pointer (some ⟨wb, 0, none⟩), .int .i64 (k : Int)] w (WNote w wb now tu p I M n F k S) := by
  have e1 : decide ((256 : Int) ≤ (k : Int)) = false := decide_eq_false (by omega)
  have e2 : (k : Int) / 64 = 0 := by omega
  have e3 : (k : Int) % 64 = (i : Int) := by omega
  have hil : (i : Int) < 64 := by omega
  have hkl : (k : Int) < 256 := by omega
  have hb := hF 0 (by omega)
  have HF := pfirst hP (k : Int)
  have HC := Kept.mk hC
  have HK := Kept.mk hk
  have HHF := Kept.mk hF
  have K0 := Kept.mk (Kp.refl wb (wb + 1) w)
  obtain ⟨c0, c1, c2, c3, c4, c5, c6, c7, c8, wf⟩ := hC
  clear hk hP hF
  cases hl : (S.list (k : Int)).head? with
  | none =>
    rw [hl] at HF
    simp only [optV] at HF
    have HN := Kept.mk (show S.list (k : Int) = [] from List.head?_eq_none_iff.1 hl)
    obtain ⟨c, hc, hcl, hcb⟩ := clear_bit hb hi
    have HCB := Kept.mk hcb
    have HCC := Kept.mk hc
    clear hl hc hcb hb
    go_enter Tryd.func32, Tryd.ntmps32
    go_wp2_with ((go_at_call 44; refine (HF).mono ?_; rintro e w' ⟨rfl, rfl⟩))
    go_region
    rw [HCC.out]
    go_wp2
    refine bodyPost_ret (results_none rfl _ _ _) rfl ⟨rfl, updN F 0 c, (HC.out.setF0 c).drewN 1, (K0.out.set (p := ⟨wb, 5, none⟩) (by simp) (by simp) (.int .u64 (c : Int))).drewN 1, ?_⟩
    refine note_bits HHF.out (by omega) hi hcl (fun j hj => ?_) HK.out
    rw [HCB.out j hj, HN.out]; simp
  | some x =>
    rw [hl] at HF
    simp only [optV] at HF
    have HN := Kept.mk (show S.list (k : Int) ≠ [] from fun e => by rw [e] at hl; cases hl)
    obtain ⟨c, hc, hcl, hcb⟩ := set_bit hb hi
    have HCB := Kept.mk hcb
    have HCC := Kept.mk hc
    clear hl hc hcb hb
    go_enter Tryd.func32, Tryd.ntmps32
    go_wp2_with ((go_at_call 44; refine (HF).mono ?_; rintro e w' ⟨rfl, rfl⟩))
    go_region
    rw [HCC.out]
    go_wp2
    refine bodyPost_ret (results_none rfl _ _ _) rfl ⟨rfl, updN F 0 c, (HC.out.setF0 c).drewN 1, (K0.out.set (p := ⟨wb, 5, none⟩) (by simp) (by simp) (.int .u64 (c : Int))).drewN 1, ?_⟩
    refine note_bits HHF.out (by omega) hi hcl (fun j hj => ?_) HK.out
    rw [HCB.out j hj, decide_eq_true HN.out]
set_option maxHeartbeats 2000000 in
theorem wnote_1 {w : World} {lo hi p L K N : Nat} {S : PS} (hP : PoolAt w lo hi p L K N 258 S) {wb I M n : Nat} {now tu : Int} {F : Nat → Nat} (hC : WC w wb now tu p I M n F) (hF : ∀ l, l < 4 → F l < 18446744073709551616) (k i : Nat) (hi : i < 64) (hk : k = 1 * 64 + i) :
    Calls Tryd.prog 32 #[.pointer (some ⟨wb, 0, none⟩), .int .i64 (k : Int)] w (WNote w wb now tu p I M n F k S) := by
  have e1 : decide ((256 : Int) ≤ (k : Int)) = false := decide_eq_false (by omega)
  have e2 : (k : Int) / 64 = 1 := by omega
  have e3 : (k : Int) % 64 = (i : Int) := by omega
  have hil : (i : Int) < 64 := by omega
  have hkl : (k : Int) < 256 := by omega
  have hb := hF 1 (by omega)
  have HF := pfirst hP (k : Int)
  have HC := Kept.mk hC
  have HK := Kept.mk hk
  have HHF := Kept.mk hF
  have K0 := Kept.mk (Kp.refl wb (wb + 1) w)
  obtain ⟨c0, c1, c2, c3, c4, c5, c6, c7, c8, wf⟩ := hC
  clear hk hP hF
  cases hl : (S.list (k : Int)).head? with
  | none =>
    rw [hl] at HF
    simp only [optV] at HF
    have HN := Kept.mk (show S.list (k : Int) = [] from List.head?_eq_none_iff.1 hl)
    obtain ⟨c, hc, hcl, hcb⟩ := clear_bit hb hi
    have HCB := Kept.mk hcb
    have HCC := Kept.mk hc
    clear hl hc hcb hb
    go_enter Tryd.func32, Tryd.ntmps32
    go_wp2_with ((go_at_call 44; refine (HF).mono ?_; rintro e w' ⟨rfl, rfl⟩))
    go_region
    rw [HCC.out]
    go_wp2
    refine bodyPost_ret (results_none rfl _ _ _) rfl ⟨rfl, updN F 1 c, (HC.out.setF1 c).drewN 1, (K0.out.set (p := ⟨wb, 6, none⟩) (by simp) (by simp) (.int .u64 (c : Int))).drewN 1, ?_⟩
    refine note_bits HHF.out (by omega) hi hcl (fun j hj => ?_) HK.out
    rw [HCB.out j hj, HN.out]; simp
  | some x =>
    rw [hl] at HF
    simp only [optV] at HF
    have HN := Kept.mk (show S.list (k : Int) ≠ [] from fun e => by rw [e] at hl; cases hl)
    obtain ⟨c, hc, hcl, hcb⟩ := set_bit hb hi
    have HCB := Kept.mk hcb
    have HCC := Kept.mk hc
    clear hl hc hcb hb
    go_enter Tryd.func32, Tryd.ntmps32
    go_wp2_with ((go_at_call 44; refine (HF).mono ?_; rintro e w' ⟨rfl, rfl⟩))
    go_region
    rw [HCC.out]
    go_wp2
    refine bodyPost_ret (results_none rfl _ _ _) rfl ⟨rfl, updN F 1 c, (HC.out.setF1 c).drewN 1, (K0.out.set (p := ⟨wb, 6, none⟩) (by simp) (by simp) (.int .u64 (c : Int))).drewN 1, ?_⟩
    refine note_bits HHF.out (by omega) hi hcl (fun j hj => ?_) HK.out
    rw [HCB.out j hj, decide_eq_true HN.out]
set_option maxHeartbeats 2000000 in
theorem wnote_2 {w : World} {lo hi p L K N : Nat} {S : PS} (hP : PoolAt w lo hi p L K N 258 S) {wb I M n : Nat} {now tu : Int} {F : Nat → Nat} (hC : WC w wb now tu p I M n F) (hF : ∀ l, l < 4 → F l < 18446744073709551616) (k i : Nat) (hi : i < 64) (hk : k = 2 * 64 + i) :
    Calls Tryd.prog 32 #[.pointer (some ⟨wb, 0, none⟩), .int .i64 (k : Int)] w (WNote w wb now tu p I M n F k S) := by
  have e1 : decide ((256 : Int) ≤ (k : Int)) = false := decide_eq_false (by omega)
  have e2 : (k : Int) / 64 = 2 := by omega
  have e3 : (k : Int) % 64 = (i : Int) := by omega
  have hil : (i : Int) < 64 := by omega
  have hkl : (k : Int) < 256 := by omega
  have hb := hF 2 (by omega)
  have HF := pfirst hP (k : Int)
  have HC := Kept.mk hC
  have HK := Kept.mk hk
  have HHF := Kept.mk hF
  have K0 := Kept.mk (Kp.refl wb (wb + 1) w)
  obtain ⟨c0, c1, c2, c3, c4, c5, c6, c7, c8, wf⟩ := hC
  clear hk hP hF
  cases hl : (S.list (k : Int)).head? with
  | none =>
    rw [hl] at HF
    simp only [optV] at HF
    have HN := Kept.mk (show S.list (k : Int) = [] from List.head?_eq_none_iff.1 hl)
    obtain ⟨c, hc, hcl, hcb⟩ := clear_bit hb hi
    have HCB := Kept.mk hcb
    have HCC := Kept.mk hc
    clear hl hc hcb hb
    go_enter Tryd.func32, Tryd.ntmps32
    go_wp2_with ((go_at_call 44; refine (HF).mono ?_; rintro e w' ⟨rfl, rfl⟩))
    go_region
    rw [HCC.out]
    go_wp2
    refine bodyPost_ret (results_none rfl _ _ _) rfl ⟨rfl, updN F 2 c, (HC.out.setF2 c).drewN 1, (K0.out.set (p := ⟨wb, 7, none⟩) (by simp) (by simp) (.int .u64 (c : Int))).drewN 1, ?_⟩
    refine note_bits HHF.out (by omega) hi hcl (fun j hj => ?_) HK.out
    rw [HCB.out j hj, HN.out]; simp
  | some x =>
    rw [hl] at HF
    simp only [optV] at HF
    have HN := Kept.mk (show S.list (k : Int) ≠ [] from fun e => by rw [e] at hl; cases hl)
    obtain ⟨c, hc, hcl, hcb⟩ := set_bit hb hi
    have HCB := Kept.mk hcb
    have HCC := Kept.mk hc
    clear hl hc hcb hb
    go_enter Tryd.func32, Tryd.ntmps32
    go_wp2_with ((go_at_call 44; refine (HF).mono ?_; rintro e w' ⟨rfl, rfl⟩))
    go_region
    rw [HCC.out]
    go_wp2
    refine bodyPost_ret (results_none rfl _ _ _) rfl ⟨rfl, updN F 2 c, (HC.out.setF2 c).drewN 1, (K0.out.set (p := ⟨wb, 7, none⟩) (by simp) (by simp) (.int .u64 (c : Int))).drewN 1, ?_⟩
    refine note_bits HHF.out (by omega) hi hcl (fun j hj => ?_) HK.out
    rw [HCB.out j hj, decide_eq_true HN.out]
set_option maxHeartbeats 2000000 in
theorem wnote_3 {w : World} {lo hi p L K N : Nat} {S : PS} (hP : PoolAt w lo hi p L K N 258 S) {wb I M n : Nat} {now tu : Int} {F : Nat → Nat} (hC : WC w wb now tu p I M n F) (hF : ∀ l, l < 4 → F l < 18446744073709551616) (k i : Nat) (hi : i < 64) (hk : k = 3 * 64 + i) :
    Calls Tryd.prog 32 #[.pointer (some ⟨wb, 0, none⟩), .int .i64 (k : Int)] w (WNote w wb now tu p I M n F k S) := by
  have e1 : decide ((256 : Int) ≤ (k : Int)) = false := decide_eq_false (by omega)
  have e2 : (k : Int) / 64 = 3 := by omega
  have e3 : (k : Int) % 64 = (i : Int) := by omega
  have hil : (i : Int) < 64 := by omega
  have hkl : (k : Int) < 256 := by omega
  have hb := hF 3 (by omega)
  have HF := pfirst hP (k : Int)
  have HC := Kept.mk hC
  have HK := Kept.mk hk
  have HHF := Kept.mk hF
  have K0 := Kept.mk (Kp.refl wb (wb + 1) w)
  obtain ⟨c0, c1, c2, c3, c4, c5, c6, c7, c8, wf⟩ := hC
  clear hk hP hF
  cases hl : (S.list (k : Int)).head? with
  | none =>
    rw [hl] at HF
    simp only [optV] at HF
    have HN := Kept.mk (show S.list (k : Int) = [] from List.head?_eq_none_iff.1 hl)
    obtain ⟨c, hc, hcl, hcb⟩ := clear_bit hb hi
    have HCB := Kept.mk hcb
    have HCC := Kept.mk hc
    clear hl hc hcb hb
    go_enter Tryd.func32, Tryd.ntmps32
    go_wp2_with ((go_at_call 44; refine (HF).mono ?_; rintro e w' ⟨rfl, rfl⟩))
    go_region
    rw [HCC.out]
    go_wp2
    refine bodyPost_ret (results_none rfl _ _ _) rfl ⟨rfl, updN F 3 c, (HC.out.setF3 c).drewN 1, (K0.out.set (p := ⟨wb, 8, none⟩) (by simp) (by simp) (.int .u64 (c : Int))).drewN 1, ?_⟩
    refine note_bits HHF.out (by omega) hi hcl (fun j hj => ?_) HK.out
    rw [HCB.out j hj, HN.out]; simp
  | some x =>
    rw [hl] at HF
    simp only [optV] at HF
    have HN := Kept.mk (show S.list (k : Int) ≠ [] from fun e => by rw [e] at hl; cases hl)
    obtain ⟨c, hc, hcl, hcb⟩ := set_bit hb hi
    have HCB := Kept.mk hcb
    have HCC := Kept.mk hc
    clear hl hc hcb hb
    go_enter Tryd.func32, Tryd.ntmps32
    go_wp2_with ((go_at_call 44; refine (HF).mono ?_; rintro e w' ⟨rfl, rfl⟩))
    go_region
    rw [HCC.out]
    go_wp2
    refine bodyPost_ret (results_none rfl _ _ _) rfl ⟨rfl, updN F 3 c, (HC.out.setF3 c).drewN 1, (K0.out.set (p := ⟨wb, 8, none⟩) (by simp) (by simp) (.int .u64 (c : Int))).drewN 1, ?_⟩
    refine note_bits HHF.out (by omega) hi hcl (fun j hj => ?_) HK.out
    rw [HCB.out j hj, decide_eq_true HN.out]
theorem wnote_any {w : World} {lo hi p L K N : Nat} {S : PS} (hP : PoolAt w lo hi p L K N 258 S) {wb I M n : Nat} {now tu : Int} {F : Nat → Nat} (hC : WC w wb now tu p I M n F) (hF : ∀ l, l < 4 → F l < 18446744073709551616) (k : Nat) :
    Calls Tryd.prog 32 #[.pointer (some ⟨wb, 0, none⟩), .int .i64 (k : Int)] w (WNote w wb now tu p I M n F k S) := by
  by_cases hk : k < 256
  · have e : k / 64 = 0 ∨ k / 64 = 1 ∨ k / 64 = 2 ∨ k / 64 = 3 := by omega
    rcases e with e | e | e | e
    · exact wnote_0 hP hC hF k (k % 64) (by omega) (by omega)
    · exact wnote_1 hP hC hF k (k % 64) (by omega) (by omega)
    · exact wnote_2 hP hC hF k (k % 64) (by omega) (by omega)
    · exact wnote_3 hP hC hF k (k % 64) (by omega) (by omega)
  · have e1 : decide ((256 : Int) ≤ (k : Int)) = true := decide_eq_true (by omega)
    have HK := Kept.mk hk
    have HC := Kept.mk hC
    have HF := Kept.mk hF
    clear hk hC hF hP
    go_enter Tryd.func32, Tryd.ntmps32
    go_wp2
    refine bodyPost_ret (results_none rfl _ _ _) rfl ⟨rfl, F, HC.out, Kp.refl _ _ _, fun l hl => ⟨HF.out l hl, fun i hi => ?_⟩⟩
    rw [if_neg (by have := HK.out; omega)]
end Go.Proofs.YtakkfgkogomjbaaDoor
