/-
  Marks are read again: Read.
-/
import Derived.Test.YtfneloplbkjbhaaDoorTM7
namespace Go.Proofs.YtfneloplbkjbhaaDoor
open Go.RowKit Go.Shelf
open Go.Lib (byteCells itoa)
set_option linter.unusedVariables false
theorem info_mark : (Tryd.prog.info? 34).map (fun i => (i.zero, i.size, i.bytes)) = some (some (.agg #[.int .i64 0, .int .u8 0, .int .i64 0, .int .i64 0]), 4, 32) := by kernel_rfl
def lenOf : Value → Nat
  | .string s => s.size
  | _ => 0
theorem lenOf_str (l : List UInt8) : lenOf (.string (BA l)) = l.length := BA_size l
theorem cut_any (q : QM) (l : List QM) (w : World) (hq : okM q) (hl : okL l) (hn : l.length ≤ 65536) (hm : ∃ m, w.cell? ⟨1, 0, none⟩ = some (.int .i64 m)) :
    Calls Tryd.prog 18 #[.string (BA (textL (q :: l))), .string ⟨#[10]⟩] w fun e w' => e = .returned (.tuple #[.string (BA (lineL q)), .string (BA (textL l)), .bool true]) ∧ ∃ n, w' = w.drewN n := by
  obtain ⟨m, hm⟩ := hm
  have hlen : (textL (q :: l)).length ≤ 75 * (l.length + 1) := text_len (l := q :: l) (fun x hx => by
    rcases List.mem_cons.1 hx with rfl | hx
    · exact hq
    · exact hl x hx)
  have h := strings_Cut (BA (textL (q :: l))) (BA [10]) m w (by rw [BA_size]; omega) hm
  have e : Lib.cut (BA (textL (q :: l))).data.toList (BA [10]).data.toList = (lineL q, textL l, true) := text_cut hq l
  rw [e] at h
  exact h
theorem cellsM_new (w : World) (q : QM) (t : TypeId) : ∀ (j : Nat) (u' : Value), q.cells[j]? = some u' → (w.alloc (.cells q.cells.toArray t)).cell? ((⟨w.heap.size, 0, none⟩ : Addr).add j) = some u' := by
  intro j u' hj
  have e : (⟨w.heap.size, 0, none⟩ : Addr).add j = ⟨w.heap.size, j, none⟩ := by
    have := add_at w.heap.size 0 j
    rwa [Nat.zero_add] at this
  rw [e, cell_of_row _ _ j _ t _ (heap_alloc_new w _)]
  simpa using hj
theorem cellsM_new4 (w : World) (a b c d : Int) (t : TypeId) : ∀ (j : Nat) (u' : Value), [Value.int .i64 a, .int .u8 b, .int .i64 c, .int .i64 d][j]? = some u' → (w.alloc (.cells #[.int .i64 a, .int .u8 b, .int .i64 c, .int .i64 d] t)).cell? ((⟨w.heap.size, 0, none⟩ : Addr).add j) = some u' := cellsM_new w ⟨a, b, c, d⟩ t
theorem textL_ne (q : QM) (l : List QM) : (textL (q :: l) == []) = false ∧ ¬ textL (q :: l) = [] := by
  rw [text_cons]
  unfold lineL
  constructor
  · simp
  · simp
/-- The marks that were read lie in an own row. -/
def OM (B : Nat) (w : World) (v : Value) (l : List QM) : Prop := w.ownsRow B 34 4 v l.length (l.flatMap QM.cells)
set_option maxHeartbeats 6400000 in
set_option maxRecDepth 100000 in
theorem read_any (ms : List QM) (w : World) (hok : okL ms) (hl : ms.length ≤ 300) (EN : Env w.heap.size w) :
    Calls Tryd.prog 7 #[.string (BA (textL ms))] w fun e w' => ∃ v, e = .returned (.tuple #[v, .int .i64 0, .int .i64 0]) ∧ OM w.heap.size w' v ms ∧ Below w.heap.size w w' := by
  obtain ⟨i0, hi, hz0, hz1, hz2⟩ := info_parts info_mark
  go_enter Tryd.func7, Tryd.ntmps7
  go_wp2
  go_loopw [0, 5] (fun s u wr => ∃ (k : Nat) (A : Option Addr) (cp : Nat), k ≤ ms.length ∧ s = .string (BA (textL (ms.drop k))) ∧ u = .slice A k cp ∧ wr.ownsRow w.heap.size 34 4 (.slice A k cp) k ((ms.take k).flatMap QM.cells) ∧ Below w.heap.size w wr) (fun s _ _ => lenOf s)
  case atStart => exact ⟨0, none, 0, by omega, rfl, rfl, World.ownsRow_nil _ _ _ _, Below.refl _ _⟩
  case round =>
    obtain ⟨k, A, cp, hk, rfl, rfl, hO, hb⟩ := hrel
    have hsz := hb.size
    have EW := (EN.on hb).mono hsz
    by_cases hlt : k < ms.length
    · obtain ⟨m, hm⟩ := some_atM hlt
      have HM := Kept.mk hm
      have hok1 : okM m := hok m (List.mem_of_getElem? hm)
      have hdr : ms.drop k = m :: ms.drop (k + 1) := dropM_cons hm
      have hok2 : okL (ms.drop (k + 1)) := fun x hx => hok x (List.mem_of_mem_drop hx)
      have HC := Kept.mk (cut_any m (ms.drop (k + 1)) wr hok1 hok2 (by rw [List.length_drop]; omega) EW.mx)
      have hne := textL_ne m (ms.drop (k + 1))
      have HP := Kept.mk (fun (W : World) (h : Env W.heap.size W) => parse_any m W hok1 h)
      have hlen : lenOf (.string (BA (textL (ms.drop (k + 1))))) < lenOf (.string (BA (textL (m :: ms.drop (k + 1))))) := by
        rw [lenOf_str, lenOf_str, text_cons, List.length_append, List.length_cons]
        omega
      have HL := Kept.mk hlen
      rw [hdr]
      obtain ⟨tx, htx⟩ : ∃ tx, tx = textL (m :: ms.drop (k + 1)) := ⟨_, rfl⟩
      rw [← htx] at HC hne HL
      rw [← htx]
      obtain ⟨ne1, ne2⟩ := hne
      have kb : (k : Int) < 65536 := by omega
      have kb2 : ((k : Int) == 65536) = false := beq_eq_false_iff_ne.2 (by omega)
      clear htx hm hok1 hok2 hdr hlen
      obtain ⟨a, b, c, d⟩ := m
      unfold QM.v at HP
      simp only at HP
      go_wp2_with (go_at_call 18; refine HC.out.mono ?_; rintro e w1 ⟨rfl, n1, hw1⟩; refine Hid.out ?_)
      refine Lib.hid ?_
      have hb1 : Below wr.heap.size wr w1 := by subst hw1; exact (Below.refl _ _).drewN n1
      rw [← hw1]
      clear hw1 HC
      have O1 := own_below hO hb1
      have B1 := hb.trans (hb1.mono hsz)
      have E1 := (EN.on B1).mono B1.size
      go_wp2_with (go_at_call 19; refine (HP.out _ E1).mono ?_; rintro e w2 ⟨rfl, hb2⟩; refine Hid.out ?_)
      refine Lib.hid ?_
      have O2 := own_below O1 hb2
      have B2 := B1.trans (hb2.mono B1.size)
      have s2 := B2.size
      have O3 := World.ownsRow.alloc O2 (.cells #[.int .i64 a, .int .u8 b, .int .i64 c, .int .i64 d] 34)
      have B3 := B2.alloc s2 (.cells #[.int .i64 a, .int .u8 b, .int .i64 c, .int .i64 d] 34)
      have hc9 := cellsM_new4 (w2.alloc (.cells #[.int .i64 a, .int .u8 b, .int .i64 c, .int .i64 d] 34)) a b c d 34
      rw [show (w2.alloc (.cells #[.int .i64 a, .int .u8 b, .int .i64 c, .int .i64 d] 34)).heap.size = w2.heap.size + 1 from by simp] at hc9
      clear hb1 hb2 O1 O2 B1 E1 hO hb EW HP
      go_wp2_with (at_builtin; (refine wpList_append_own _ rfl _ _ 22 rfl w.heap.size 34 i0 (.agg #[.int .i64 0, .int .u8 0, .int .i64 0, .int .i64 0]) 4 32 Tryd.underlying22 hi hz0 hz1 hz2 rfl (by decide) _ _ _ rfl (World.ownsRow.alloc O3 _) ⟨_, 0, none⟩ 1 1 [.int .i64 a, .int .u8 b, .int .i64 c, .int .i64 d] rfl rfl hc9 (by intro u' hu'; simp at hu'; rcases hu' with rfl | rfl | rfl | rfl <;> rfl) (by simp only [maxLen]; omega) (by omega) (by have := B3.size; simp; omega) ?_; intro v4 w4 hown4 hg4 _; refine Hid.out ?_))
      refine Lib.hid ?_
      have ek : (ms.take (k + 1)).flatMap QM.cells = (ms.take k).flatMap QM.cells ++ [Value.int .i64 a, Value.int .u8 b, Value.int .i64 c, Value.int .i64 d] := by
        rw [List.take_add_one, HM.out, List.flatMap_append]
        simp [QM.cells]
      have B4 := (B3.alloc B3.size (.cells #[.int .i64 a, .int .u8 b, .int .i64 c, .int .i64 d] 34)).grown hg4 (by simp; omega) (fun k hk => (World.ownsRow.lt O3 k hk).1)
      rw [← ek] at hown4
      obtain ⟨A4, c4, rfl⟩ := own_slice hown4
      clear hg4 ek O3 B3 hc9
      go_wp2
      go_roundw
      case rel => exact ⟨k + 1, A4, c4, by omega, rfl, rfl, hown4, B4⟩
      case measure => exact HL.out
    · have e0 : ms.take k = ms := List.take_of_length_le (by omega)
      have e1 : ms.drop k = [] := List.drop_eq_nil_of_le (by omega)
      have e2 : k = ms.length := by omega
      rw [e1]
      rw [e0] at hO
      have e3 : textL ([] : List QM) = [] := rfl
      rw [e3]
      have HE := Kept.mk e2
      clear e0 e1 e2 e3
      go_wp2
      go_ret3
      have e2 := HE.out
      subst e2
      exact ⟨_, rfl, hO, hb⟩
end Go.Proofs.YtfneloplbkjbhaaDoor
