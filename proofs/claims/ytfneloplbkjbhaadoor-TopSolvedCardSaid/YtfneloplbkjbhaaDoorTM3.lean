/-
  A mark's line behind bytes.
-/
import Derived.Test.YtfneloplbkjbhaaDoorTM2
namespace Go.Proofs.YtfneloplbkjbhaaDoor
open Go.RowKit Go.Shelf
open Go.Lib (byteCells itoa)
set_option linter.unusedVariables false
/-- The table of powers of ten. -/
def PowB (B : Nat) (w : World) : Prop := Lib.TabBelow Tryd.prog B w "internal/strconv.uint64pow10" .u64 Lib.pow10Tab
/-- An own row of bytes. -/
def OB (B : Nat) (w : World) (v : Value) (l : List UInt8) : Prop := w.ownsRow B 5 1 v l.length (byteCells l)
theorem own_ne {w : World} {B n : Nat} {e : TypeId} {v : Value} {xs : List Value} (h : w.ownsRow B e 1 v n xs) {K : Nat} {cs : Array Value} {t : TypeId} {fr : Nat × Nat} (hK : w.heap[K]? = some (.cells cs t fr)) (ht : t ≠ e) : some K ≠ v.ownBlock := by
  intro e1
  rcases h.2 with ⟨rfl, _⟩ | ⟨g, cap, cur, rfl, _, h3, _⟩
  · cases e1
  · simp only [Value.ownBlock, Option.some.injEq] at e1
    subst e1
    rw [hK] at h3
    injection h3 with h3
    injection h3 with _ h4
    exact ht h4
/-- A row that grows, a mark's box beside it. -/
structure PSt (B K : Nat) (q : QM) (w0 w : World) (v : Value) (l : List UInt8) : Prop where
  own : OB B w v l
  bel : Below B w0 w
  box : w.heap[K]? = some (.cells q.cells.toArray 34 (0, 0))
theorem PSt.pow {B K : Nat} {q : QM} {w0 w : World} {v : Value} {l : List UInt8} (h : PSt B K q w0 w v l) (hT : PowB B w0) : PowB B w := hT.on h.bel
theorem PSt.int {B K : Nat} {q : QM} {w0 w w1 : World} {v v1 : Value} {l m : List UInt8} (h : PSt B K q w0 w v l) {n : Nat} {ys : List Value} (h1 : w1.ownsRow B 5 1 v1 n ys) (hn : n = l.length + m.length) (hy : ys = byteCells l ++ byteCells m) (hb : Below B w w1) (hk : Lib.OthersKept 5 none w w1) : PSt B K q w0 w1 v1 (l ++ m) :=
  ⟨by subst hn hy; unfold OB; rw [List.length_append, Lib.byteCells_append]; exact h1, h.bel.trans hb, hk K _ h.box (by simp) (fun c fz e => by injection e with _ e; cases e)⟩
theorem PSt.str {B K : Nat} {q : QM} {w0 w w1 : World} {v v1 : Value} {l m : List UInt8} (h : PSt B K q w0 w v l) (hB : B ≤ w0.heap.size) {n : Nat} {ys : List Value} (h1 : w1.ownsRow B 5 1 v1 n ys) (hn : n = l.length + (BA m).size) (hy : ys = byteCells l ++ Lib.strCells (BA m)) (hg : w.grownBy w1 v.ownBlock) : PSt B K q w0 w1 v1 (l ++ m) := by
  subst hn hy
  have hs := h.bel.size
  have hlt : K < w.heap.size := (Array.getElem?_eq_some_iff.1 h.box).1
  refine ⟨by unfold OB; rw [List.length_append, Lib.byteCells_append, ← BA_size m, ← strCells_BA]; exact h1, h.bel.grown hg (by omega) (fun k hk => (World.ownsRow.lt h.own k hk).1), (hg.block K hlt (own_ne h.own h.box (by decide))).trans h.box⟩
theorem PSt.snoc {B K : Nat} {q : QM} {w0 w w1 : World} {v v1 : Value} {l : List UInt8} (h : PSt B K q w0 w v l) (hB : B ≤ w0.heap.size) {o : Obj} {x : UInt8} {n : Nat} {ys : List Value} (h1 : w1.ownsRow B 5 1 v1 n ys) (hn : n = l.length + 1) (hy : ys = byteCells l ++ [.int .u8 x.toNat]) (hg : (w.alloc o).grownBy w1 v.ownBlock) : PSt B K q w0 w1 v1 (l ++ [x]) := by
  subst hn hy
  have hs := h.bel.size
  have hlt : K < w.heap.size := (Array.getElem?_eq_some_iff.1 h.box).1
  have ha : (w.alloc o).heap[K]? = w.heap[K]? := heap_alloc_old w o hlt
  refine ⟨by unfold OB; rw [List.length_append, Lib.byteCells_append]; exact h1, (h.bel.alloc (by omega) o).grown hg (by simp; omega) (fun k hk => (World.ownsRow.lt h.own k hk).1), (hg.block K (by simp; omega) (own_ne h.own h.box (by decide))).trans (ha.trans h.box)⟩
theorem PSt.at {B K : Nat} {q : QM} {w0 w : World} {v : Value} {l : List UInt8} (h : PSt B K q w0 w v l) {i : Nat} {c : Value} (hi : q.cells[i]? = some c) : w.cell? ⟨K, i, none⟩ = some c := by
  rw [cell_of_row _ K i _ _ _ h.box]
  simpa using hi
set_option maxHeartbeats 6400000 in
set_option maxRecDepth 100000 in
theorem put_any (B : Nat) (sv : Value) (xs : List UInt8) (q : QM) (w : World) (hq : okM q) (hown : OB B w sv xs) (hB0 : 0 < B) (hB : B ≤ w.heap.size) (hlim : xs.length ≤ 1099511627776) (hT : PowB B w) (hW : Wrd w) :
    Calls Tryd.prog 17 #[sv, q.v] w fun e w' => ∃ v', e = .returned v' ∧ OB B w' v' (xs ++ lineL q) ∧ Below B w w' := by
  obtain ⟨a, b, c, d⟩ := q
  obtain ⟨q1, q2, q3, q4, q5, q6, q7, q8⟩ := hq
  simp only at q1 q2 q3 q4 q5 q6 q7 q8
  obtain ⟨i0, hi, hz0, hz1, hz2⟩ := info_parts byteInfo
  have la := Lib.itoa_length_le a (by omega) (by omega)
  have lc := Lib.itoa_length_le c (by omega) (by omega)
  have ld := Lib.itoa_length_le d (by omega) (by omega)
  have lw := word_len b.toNat
  unfold OB at hown
  unfold QM.v
  simp only
  have S0 : PSt B w.heap.size ⟨a, b, c, d⟩ w (w.alloc (.cells #[.int .i64 a, .int .u8 b, .int .i64 c, .int .i64 d] 34)) sv xs :=
    ⟨hown.alloc _, (Below.refl B w).alloc hB _, heap_alloc_new w _⟩
  go_enter Tryd.func17, Tryd.ntmps17
  go_wp2_with (go_at_call 36; refine (strconv_AppendInt_10 B _ a (by omega) (by omega) sv _ _ S0.own (by have := S0.bel.size; omega) (by omega) (S0.pow hT)).mono ?_; rintro e w1 ⟨v1, rfl, hown1, hnx1, hk1⟩; refine Hid.out ?_)
  refine Lib.hid ?_
  have S1 := S0.int hown1 rfl rfl hnx1 hk1
  clear hown1 hnx1 hk1
  have n1 : (xs ++ itoa a).length ≤ 1099511627797 := by rw [List.length_append]; omega
  go_wp2_with (at_builtin; refine wpList_append_own _ rfl _ _ 62 rfl B 5 i0 (.int .u8 0) 1 1 Tryd.underlying62 hi hz0 hz1 hz2 rfl (by decide) _ _ _ rfl (World.ownsRow.alloc S1.own _) ⟨_, 0, none⟩ 1 1 [Value.int .u8 32] rfl rfl (by intro j u' hj; match j, hj with | 0, hj => simp at hj; subst hj; simp [Addr.add]) (by intro u' hu'; simp at hu'; subst hu'; rfl) (by simp only [maxLen]; omega) (by omega) (by have := S1.bel.size; simp; omega) ?_)
  intro v2 w2 hown2 hg2 _
  have S2 := S1.snoc hB (x := 32) hown2 (by simp <;> omega) (by first | rfl | simp) hg2
  clear hown2 hg2
  have n2 : (xs ++ itoa a ++ [32]).length ≤ 1099511627798 := by rw [List.length_append]; simp only [List.length_singleton]; omega
  have c21 := S2.at (i := 1) rfl
  have c22 := hW.below hB0 S2.bel b.toNat (by omega)
  go_wp2_with (at_builtin; (refine Lib.wpList_append_own_string _ rfl _ _ 62 9 rfl B 5 i0 Tryd.underlying62 Tryd.underlying9 hi hz0 hz1 hz2 _ _ _ rfl S2.own (BA (wordL b.toNat)) rfl (by rw [BA_size]; simp only [maxLen]; omega) (by rw [BA_size]; omega) (by have := S2.bel.size; omega) ?_; intro v3 w3 hown3 hg3 _; refine Hid.out ?_))
  refine Lib.hid ?_
  have S3 := S2.str hB (m := wordL b.toNat) hown3 (by simp [BA_size] <;> omega) (by first | rfl | simp) hg3
  clear hown3 hg3 c21 c22
  have n3 : (xs ++ itoa a ++ [32] ++ wordL b.toNat).length ≤ 1099511627806 := by rw [List.length_append]; omega
  go_wp2_with (at_builtin; refine wpList_append_own _ rfl _ _ 62 rfl B 5 i0 (.int .u8 0) 1 1 Tryd.underlying62 hi hz0 hz1 hz2 rfl (by decide) _ _ _ rfl (World.ownsRow.alloc S3.own _) ⟨_, 0, none⟩ 1 1 [Value.int .u8 32] rfl rfl (by intro j u' hj; match j, hj with | 0, hj => simp at hj; subst hj; simp [Addr.add]) (by intro u' hu'; simp at hu'; subst hu'; rfl) (by simp only [maxLen]; omega) (by omega) (by have := S3.bel.size; simp; omega) ?_)
  intro v4 w4 hown4 hg4 _
  have S4 := S3.snoc hB (x := 32) hown4 (by simp <;> omega) (by first | rfl | simp) hg4
  clear hown4 hg4
  have n4 : (xs ++ itoa a ++ [32] ++ wordL b.toNat ++ [32]).length ≤ 1099511627807 := by rw [List.length_append]; simp only [List.length_singleton]; omega
  have c41 := S4.at (i := 2) rfl
  go_wp2_with (go_at_call 36; refine (strconv_AppendInt_10 B _ c (by omega) (by omega) v4 _ w4 S4.own (by have := S4.bel.size; omega) (by omega) (S4.pow hT)).mono ?_; rintro e w5 ⟨v5, rfl, hown5, hnx5, hk5⟩; refine Hid.out ?_)
  refine Lib.hid ?_
  have S5 := S4.int (m := itoa c) hown5 (by simp <;> omega) (by first | rfl | simp) hnx5 hk5
  clear hown5 hnx5 hk5 c41
  have n5 : (xs ++ itoa a ++ [32] ++ wordL b.toNat ++ [32] ++ itoa c).length ≤ 1099511627828 := by rw [List.length_append]; omega
  go_wp2_with (at_builtin; refine wpList_append_own _ rfl _ _ 62 rfl B 5 i0 (.int .u8 0) 1 1 Tryd.underlying62 hi hz0 hz1 hz2 rfl (by decide) _ _ _ rfl (World.ownsRow.alloc S5.own _) ⟨_, 0, none⟩ 1 1 [Value.int .u8 32] rfl rfl (by intro j u' hj; match j, hj with | 0, hj => simp at hj; subst hj; simp [Addr.add]) (by intro u' hu'; simp at hu'; subst hu'; rfl) (by simp only [maxLen]; omega) (by omega) (by have := S5.bel.size; simp; omega) ?_)
  intro v6 w6 hown6 hg6 _
  have S6 := S5.snoc hB (x := 32) hown6 (by simp <;> omega) (by first | rfl | simp) hg6
  clear hown6 hg6
  have n6 : (xs ++ itoa a ++ [32] ++ wordL b.toNat ++ [32] ++ itoa c ++ [32]).length ≤ 1099511627829 := by rw [List.length_append]; simp only [List.length_singleton]; omega
  have c61 := S6.at (i := 3) rfl
  go_wp2_with (go_at_call 36; refine (strconv_AppendInt_10 B _ d (by omega) (by omega) v6 _ w6 S6.own (by have := S6.bel.size; omega) (by omega) (S6.pow hT)).mono ?_; rintro e w7 ⟨v7, rfl, hown7, hnx7, hk7⟩; refine Hid.out ?_)
  refine Lib.hid ?_
  have S7 := S6.int (m := itoa d) hown7 (by simp <;> omega) (by first | rfl | simp) hnx7 hk7
  clear hown7 hnx7 hk7 c61
  have HL : Hid (xs ++ itoa a ++ [32] ++ wordL b.toNat ++ [32] ++ itoa c ++ [32] ++ itoa d = xs ++ lineL ⟨a, b, c, d⟩) := Lib.hid (by unfold lineL; simp)
  go_wp2
  go_ret
  have e1 := HL.out
  rw [e1] at S7
  exact ⟨v7, rfl, S7.own, S7.bel⟩
end Go.Proofs.YtfneloplbkjbhaaDoor
