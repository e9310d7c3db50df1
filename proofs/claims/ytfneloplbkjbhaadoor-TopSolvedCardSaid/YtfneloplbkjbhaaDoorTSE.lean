/-
  A configuration is read again: its text's lines, one by one: the iterator each.
-/
import Derived.Test.YtfneloplbkjbhaaDoorTSD
import Derived.RangeFuncBound
import Derived.RangeFuncBox
import Derived.RangeFuncCalls
import Derived.RangeFuncNested
import Derived.RangeFuncLeaves
import Derived.Shelf.Abstract
import Derived.Shelf.RegionOpen
import Derived.OwnWalkIn
import Derived.TacticsInMore
import Derived.LoopNIn
import Derived.LoopIn
namespace Go.Proofs.YtfneloplbkjbhaaDoor
open Go.RowKit Go.Shelf
set_option linter.unusedVariables false
attribute [local go_sem] Oper.semAt_some
/-- A line of a text. -/
abbrev Ln (L : List (List UInt8)) := { l : List UInt8 // l ∈ L }
abbrev encLn {L : List (List UInt8)} (x : Ln L) : Array Value := #[.string (BA x.1), .bool true]
/-- What a round keeps: the one variable that is read between two rounds. -/
def KpL (W W' : World) : Prop := ∀ v, W.cell? ⟨1, 0, none⟩ = some v → W'.cell? ⟨1, 0, none⟩ = some v
theorem KpL.trans {A B C : World} (h : KpL A B) (k : KpL B C) : KpL A C := fun v hv => k v (h v hv)
theorem KpL.book (W : World) (l : Nat) (o o' : Obj) (h : W.heap[l]? = some o) (hc : o.isCells = false) : KpL W (W.putObj l o') :=
  fun v hv => cell_kept hv (grownBy_putObj' W l o') fun r e => by cases e; exact ⟨o, h, hc⟩
theorem line_cut {l : List UInt8} (h : (10 : UInt8) ∉ l) (r : List (List UInt8)) (w : World) (hl : (linesT (l :: r)).length ≤ 100000) (hm : ∃ m, w.cell? ⟨1, 0, none⟩ = some (.int .i64 m)) :
    Calls Tryd.prog 18 #[.string (BA (linesT (l :: r))), .string ⟨#[10]⟩] w fun e w' => e = .returned (.tuple #[.string (BA l), .string (BA (linesT r)), .bool true]) ∧ ∃ n, w' = w.drewN n := by
  obtain ⟨m, hm⟩ := hm
  have h1 := strings_Cut (BA (linesT (l :: r))) (BA [10]) m w (by rw [BA_size]; omega) hm
  have e : Lib.cut (BA (linesT (l :: r))).data.toList (BA [10]).data.toList = (l, linesT r, true) := by
    show Lib.cut (linesT (l :: r)) [10] = _
    rw [lines_cons, List.append_assoc]
    exact cut_at h
  rw [e] at h1
  exact h1
theorem linesT_ne (l : List UInt8) (r : List (List UInt8)) : (linesT (l :: r) == []) = false ∧ ¬ linesT (l :: r) = [] := by
  rw [lines_cons]
  constructor
  · cases l <;> rfl
  · simp
def lenS : Value → Nat
  | .string s => s.size
  | _ => 0
theorem lenS_str (l : List UInt8) : lenS (.string (BA l)) = l.length := BA_size l
theorem lines_len_le (l : List UInt8) (r : List (List UInt8)) : lenS (.string (BA (linesT r))) < lenS (.string (BA (linesT (l :: r)))) := by
  rw [lenS_str, lenS_str, lines_cons, List.length_append, List.length_append, List.length_singleton]
  omega
set_option maxHeartbeats 1600000 in
theorem each_in (n : Nat) (hn : 1 ≤ n) (l B1 : Nat) (L : List (List UInt8)) (ys : List (Ln L)) (hys : ys.map (·.1) = L) (hno : ∀ x ∈ L, (10 : UInt8) ∉ x) (hlen : (linesT L).length ≤ 100000)
    (J Jx : List (Ln L) → World → Prop) (B0 : Nat) (hJ : AbidesFrom B0 J)
    (hY : ∀ pre x W, J pre W → pre.length < ys.length → YieldAt Fence.wide (n - 1) Tryd.prog l (encLn x) W fun e W' =>
      (e = .returned (.bool true) ∧ J (pre ++ [x]) W' ∧ KpL W W') ∨ (e = .returned (.bool false) ∧ Jx (pre ++ [x]) W'))
    (W : World) (hB1 : W.cell? ⟨B1, 0, none⟩ = some (.string (BA (linesT L)))) (hm : ∃ m, W.cell? ⟨1, 0, none⟩ = some (.int .i64 m)) (h0 : J [] W) :
    CallsIn Fence.wide n Tryd.prog 44 #[.func (.yield l) #[] #[], .pointer (some ⟨B1, 0, none⟩)] W fun e W' => (∃ v, e = .returned v) ∧
      ((∃ l, l = ys ∧ J l W') ∨ (∃ pre, pre <+: ys ∧ Jx pre W')) := by
  refine callsIn_of_wp Tryd.func44 rfl trivial ?_ rfl
  simp only [Tryd.ntmps44, List.size_toArray, List.length_cons, List.length_nil, Nat.reduceAdd, Nat.reduceSub, Array.replicate_succ, Array.replicate_zero, List.push_toArray, List.append_toArray, List.nil_append, List.cons_append]
  have HYS := Kept.mk hys
  have HM := Kept.mk hm
  have HLN := Kept.mk hlen
  clear hys hlen hm
  gi_wp2_with fail
  gi_loopw [3] (fun u wr => ∃ (pre rest : List (Ln L)), u = .string (BA (linesT (rest.map (·.1)))) ∧ Kept (ys = pre ++ rest) ∧ J pre wr ∧ Kept (∃ m, wr.cell? ⟨1, 0, none⟩ = some (.int .i64 m)) ∧ Kept ((linesT (rest.map (·.1))).length ≤ 100000)) (fun u _ => lenS u)
  case atStart => exact ⟨[], ys, by rw [HYS.out], ⟨rfl⟩, h0, HM, ⟨by rw [HYS.out]; exact HLN.out⟩⟩
  case round =>
    obtain ⟨pre, rest, rfl, HH, hj, HM, HLN⟩ := hrel
    cases rest with
    | nil =>
      rw [List.append_nil] at HH
      have e3 : linesT (([] : List (Ln L)).map (·.1)) = [] := rfl
      rw [e3]
      gi_wp2
      first | go_end0 | refine bodyPost_ret (results_none rfl _ _ _) rfl ?_
      exact ⟨⟨_, rfl⟩, .inl ⟨_, HH.out.symm, hj⟩⟩
    | cons y rest =>
      have hpl : pre.length < ys.length := by rw [HH.out]; simp
      have HP := Kept.mk (show pre ++ [y] <+: ys from ⟨rest, by rw [HH.out]; simp⟩)
      have hln0 : (linesT (y.1 :: rest.map (·.1))).length ≤ 100000 := HLN.out
      have HC := Kept.mk (line_cut (hno y.1 y.2) (rest.map (·.1)) wr hln0 HM.out)
      have HL := Kept.mk (lines_len_le y.1 (rest.map (·.1)))
      have HL2 := Kept.mk (show (linesT (rest.map (·.1))).length ≤ 100000 from by
        have h1 := HL.out
        rw [lenS_str, lenS_str] at h1
        omega)
      have hne := linesT_ne y.1 (rest.map (·.1))
      rw [List.map_cons]
      obtain ⟨tx, htx⟩ : ∃ tx, tx = linesT (y.1 :: rest.map (·.1)) := ⟨_, rfl⟩
      rw [← htx] at HC hne HL
      rw [← htx]
      obtain ⟨ne1, ne2⟩ := hne
      clear htx hln0
      gi_wp2_with fail
      refine ⟨trivial, ?_⟩
      refine (callsIn_wide.2 HC.out).mono ?_
      rintro e w1 ⟨rfl, n1, hw1⟩
      have hb1 : Below wr.heap.size wr w1 := by subst hw1; exact (Below.refl _ _).drewN n1
      have hj1 := hJ _ wr w1 none hj ⟨hb1.os, hb1.tape, hb1.output, hb1.size, fun i hi _ => hb1.block i hi⟩ (fun r e => by cases e)
      have HM1 := Kept.mk (show ∃ m, w1.cell? ⟨1, 0, none⟩ = some (.int .i64 m) from by subst hw1; exact HM.out)
      clear hw1 hb1 HC hj
      obtain ⟨fn, tmps, assign, body, hy, hRd⟩ := hY _ y w1 hj1 hpl
      dsimp only [encLn] at hy
      gi_wp2
      refine hRd.mono ?_
      rintro e W3 (⟨rfl, hJ3, hk3⟩ | ⟨rfl, hJx3⟩)
      · have HM3 := Kept.mk (show ∃ m, W3.cell? ⟨1, 0, none⟩ = some (.int .i64 m) from by obtain ⟨m, hm⟩ := HM1.out; exact ⟨m, hk3 _ hm⟩)
        gi_wp2
        go_roundw
        case rel => exact ⟨pre ++ [y], rest, rfl, ⟨by rw [HH.out]; simp⟩, hJ3, HM3, HL2⟩
        case measure => exact HL.out
      · gi_wp2
        first | go_end0 | refine bodyPost_ret (results_none rfl _ _ _) rfl ?_
        exact ⟨⟨_, rfl⟩, .inr ⟨_, HP.out, hJx3⟩⟩
theorem each_stops (n : Nat) (hn : 1 ≤ n) (B1 : Nat) (L : List (List UInt8)) (ys : List (Ln L)) (hys : ys.map (·.1) = L) (hno : ∀ x ∈ L, (10 : UInt8) ∉ x) (hlen : (linesT L).length ≤ 100000) (w : World)
    (hB1 : w.cell? ⟨B1, 0, none⟩ = some (.string (BA (linesT L)))) (hB1l : B1 < w.heap.size) (hm : ∃ m, w.cell? ⟨1, 0, none⟩ = some (.int .i64 m)) (h1 : 1 < w.heap.size) :
    SeqStopsK Fence.wide n Tryd.prog 44 #[.pointer (some ⟨B1, 0, none⟩)] encLn KpL (fun l => l = ys) (fun pre => pre <+: ys) ys.length w := fun l J Jx W hW hJ hJx hY h0 =>
  each_in n hn l B1 L ys hys hno hlen J Jx W.heap.size hJ hY W ((hW.cell (p := ⟨B1, 0, none⟩) hB1l).trans hB1) (by obtain ⟨m, hm⟩ := hm; exact ⟨m, (hW.cell (p := ⟨1, 0, none⟩) h1).trans hm⟩) h0
/-- each: the function that makes the iterator. -/
theorem each_any (s : ByteArray) (w : World) :
    Calls Tryd.prog 32 #[.string s] w fun e w' => e = .returned (.func (.func 44) #[] #[.pointer (some ⟨w.heap.size, 0, none⟩)]) ∧ w' = w.alloc (.cells #[.string s] 9) := by
  go_enter Tryd.func32, Tryd.ntmps32
  go_wp2
  go_ret
  exact ⟨rfl, rfl⟩
end Go.Proofs.YtfneloplbkjbhaaDoor
