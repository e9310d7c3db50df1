/-
  The walk of demand.arrivals' function: an iterator over loads.
-/
import Derived.Test.YtfneloplbkjbhaaDemS
import Derived.RangeFuncNested
import Derived.RangeFuncBound
import Derived.RangeFuncCalls
import Derived.RangeFuncLeaves
import Derived.RangeFuncBox
import Derived.Shelf.Abstract
import Derived.Shelf.RegionOpen
import Derived.OwnWalkIn
import Derived.TacticsInMore
import Derived.LoopNIn
import Derived.LoopIn
namespace Go.Proofs.Ytfneloplbkjbhaa
open Go.RowKit Go.Shelf
set_option linter.unusedVariables false
attribute [local go_sem] Oper.semAt_some

/-- What a round of such a loop keeps: what lies below n₀, and one captured cell. -/
def KpC (n₀ : Nat) (p : Addr) (W W' : World) : Prop := Below n₀ W W' ∧ ∀ v, W.cell? p = some v → W'.cell? p = some v
theorem KpC.trans {n₀ : Nat} {p : Addr} {A B C : World} (h : KpC n₀ p A B) (k : KpC n₀ p B C) : KpC n₀ p A C := ⟨h.1.trans k.1, fun v hv => k.2 v (h.2 v hv)⟩
theorem KpC.book {n₀ : Nat} {p : Addr} {w : World} (hn : n₀ ≤ w.heap.size) (W : World) (l : Nat) (o o' : Obj) (hl : w.heap.size ≤ l) (h : W.heap[l]? = some o) (hc : o.isCells = false) (hw : o.isWalk = false) : KpC n₀ p W (W.putObj l o') :=
  ⟨belowK_b hn W l o o' hl h hc hw, fun v hv => cell_kept hv (grownBy_putObj' W l o') fun r e => by cases e; exact ⟨o, h, hc⟩⟩

/-- What comes of a right load. -/
abbrev Ap := { p : Int × Int // 0 ≤ p.1 ∧ p.1 ≤ 4503599627370496 ∧ 0 ≤ p.2 ∧ p.2 ≤ 1099511627776 }
abbrev encAp (x : Ap) : Array Value := #[.int .i64 x.1.1, .int .i64 x.1.2]

set_option maxHeartbeats 1000000 in
theorem arr_in (n : Nat) (hn : 1 ≤ n) (l B1 B2 n₀ : Nat) (A : Option Addr) (xs : List Q4) (cap : Nat) (wd : Int) (ys : List Ap) (hys : ys.map (·.1) = xs.map (arrOf wd)) (J Jx : List Ap → World → Prop) (B0 : Nat) (hJ : AbidesFrom B0 J) (hlen : xs.length ≤ 9223372036854775807)
    (hY : ∀ pre x W, J pre W → pre.length < xs.length → YieldAt Fence.wide (n - 1) Try.prog l (encAp x) W fun e W' =>
      (e = .returned (.bool true) ∧ J (pre ++ [x]) W' ∧ KpC n₀ ⟨B2, 0, none⟩ W W') ∨ (e = .returned (.bool false) ∧ Jx (pre ++ [x]) W'))
    (W : World) (hB1 : W.cell? ⟨B1, 0, none⟩ = some (.slice A xs.length cap)) (hB2 : W.cell? ⟨B2, 0, none⟩ = some (.int .i64 wd)) (hB2l : B2 < W.heap.size) (hR : R4 W n₀ A xs) (hn0 : n₀ ≤ W.heap.size) (h0 : J [] W) :
    CallsIn Fence.wide n Try.prog 60 #[.func (.yield l) #[] #[], .pointer (some ⟨B1, 0, none⟩), .pointer (some ⟨B2, 0, none⟩)] W fun e W' => (∃ v, e = .returned v) ∧
      ((∃ l, l = ys ∧ J l W') ∨ (∃ pre, pre <+: ys ∧ Jx pre W')) := by
  refine callsIn_of_wp Try.func60 rfl trivial ?_ rfl
  simp only [Try.ntmps60, List.size_toArray, List.length_cons, List.length_nil, Nat.reduceAdd, Nat.reduceSub, Array.replicate_succ, Array.replicate_zero, List.push_toArray, List.append_toArray, List.nil_append, List.cons_append]
  gi_wp2
  gi_loopw [10] (fun i wr => ∃ (k : Nat), k ≤ xs.length ∧ i = .int .i64 k ∧ wr.cell? ⟨B2, 0, none⟩ = some (.int .i64 wd) ∧ B2 < wr.heap.size ∧ R4 wr n₀ A xs ∧ n₀ ≤ wr.heap.size ∧ J (ys.take k) wr)
    (fun i _ => xs.length - (intOf i).toNat)
  case atStart => exact ⟨0, by omega, rfl, hB2, hB2l, hR, hn0, by simpa using h0⟩
  case round =>
    obtain ⟨k, hk, rfl, hw2, hl2, hr, hnr, hj⟩ := hrel
    by_cases hlt : k < xs.length
    · obtain ⟨b, off, rfl, hbB, hc⟩ := hr (by omega)
      obtain ⟨x, hx⟩ := some_at hlt
      obtain ⟨c1, c2, c3, c4⟩ := hc k x hx
      have hyl : ys.length = xs.length := by have := congrArg List.length hys; simpa using this
      obtain ⟨y, hy0⟩ : ∃ y, ys[k]? = some y := ⟨ys[k], List.getElem?_eq_getElem (by omega)⟩
      have hyx : y.1 = arrOf wd x := by
        have := congrArg (fun l => l[k]?) hys
        simp only [List.getElem?_map, hy0, hx, Option.map_some, Option.some.injEq] at this
        exact this
      have htk : ys.take (k + 1) = (ys.take k) ++ [y] := by rw [List.take_add_one, hy0]; rfl
      have HTK := Lib.hid htk
      have hpl : (ys.take k).length < xs.length := by simp; omega
      clear hc hx hy0 htk hyl
      have HYS := Lib.hid hys
      clear hys
      obtain ⟨xa, xb, xc, xd⟩ := x
      obtain ⟨⟨yn, yc⟩, hyb⟩ := y
      simp only [arrOf, Prod.mk.injEq] at hyx
      obtain ⟨rfl, rfl⟩ := hyx
      simp only at c1 c2 c3 c4
      gi_wp2_with fail
      refine ⟨trivial, ?_⟩
      refine (callsIn_wide.2 (most_any _ _ _ _ _)).mono ?_
      rintro e w1 ⟨rfl, hb⟩
      have q3 := box_cell hb 3 _ rfl
      have hbx : Below wr.heap.size wr w1 := (below_box wr _).trans (hb.mono (by simp))
      have hj1 := hJ _ wr w1 none hj ⟨hbx.os, hbx.tape, hbx.output, hbx.size, fun i hi _ => hbx.block i hi⟩ (fun r e => by cases e)
      have hw3 : w1.cell? ⟨B2, 0, none⟩ = some (.int .i64 wd) := (hbx.cell (p := ⟨B2, 0, none⟩) hl2).trans hw2
      have hs1 := hbx.size
      obtain ⟨fn, tmps, assign, body, hy, hRd⟩ := hY _ ⟨(moV xa xb xc wd, yc), hyb⟩ w1 hj1 hpl
      dsimp only [encAp] at hy
      gi_wp2
      refine hRd.mono ?_
      rintro e W3 (⟨rfl, hJ3, hk3⟩ | ⟨rfl, hJx3⟩)
      · gi_wp2
        go_roundw
        case rel => exact ⟨k + 1, by omega, by go_num, hk3.2 _ hw3, Nat.lt_of_lt_of_le hl2 (Nat.le_trans hs1 hk3.1.size), (hr.below (hbx.mono hnr)).below hk3.1, Nat.le_trans hnr (Nat.le_trans hs1 hk3.1.size), by rw [HTK.out]; exact hJ3⟩
        case measure => simp [intOf]; omega
      · gi_wp2
        refine bodyPost_ret (results_none rfl _ _ _) rfl ?_
        exact ⟨⟨_, rfl⟩, .inr ⟨_, by rw [← HTK.out]; exact List.take_prefix _ _, hJx3⟩⟩
    · have hyl : ys.length = xs.length := by have := congrArg List.length hys; simpa using this
      have hpe : ys.take k = ys := List.take_of_length_le (by omega)
      rw [hpe] at hj
      clear hpe hys hyl
      gi_wp2
      go_end0
      exact ⟨⟨_, rfl⟩, .inl ⟨_, rfl, hj⟩⟩

theorem arr_stops (n : Nat) (hn : 1 ≤ n) (B1 B2 n₀ : Nat) (A : Option Addr) (xs : List Q4) (cap : Nat) (wd : Int) (ys : List Ap) (hys : ys.map (·.1) = xs.map (arrOf wd)) (hlen : xs.length ≤ 9223372036854775807) (w : World)
    (hB1 : w.cell? ⟨B1, 0, none⟩ = some (.slice A xs.length cap)) (hB2 : w.cell? ⟨B2, 0, none⟩ = some (.int .i64 wd)) (hB1l : B1 < w.heap.size) (hB2l : B2 < w.heap.size) (hR : R4 w n₀ A xs) (hn0 : n₀ ≤ w.heap.size) :
    SeqStopsK Fence.wide n Try.prog 60 #[.pointer (some ⟨B1, 0, none⟩), .pointer (some ⟨B2, 0, none⟩)] encAp (KpC n₀ ⟨B2, 0, none⟩) (fun l => l = ys) (fun pre => pre <+: ys) xs.length w := fun l J Jx W hW hJ hJx hY h0 =>
  arr_in n hn l B1 B2 n₀ A xs cap wd ys hys J Jx W.heap.size hJ hlen hY W ((hW.cell (p := ⟨B1, 0, none⟩) hB1l).trans hB1) ((hW.cell (p := ⟨B2, 0, none⟩) hB2l).trans hB2) (Nat.lt_of_lt_of_le hB2l hW.size) (hR.below (hW.mono hn0)) (Nat.le_trans hn0 hW.size) h0
theorem aps_of {xs : List Q4} (h : ldsE xs = 0) (wd : Int) : ∃ ys : List Ap, ys.map (·.1) = xs.map (arrOf wd) := by
  have hb := (lds_parts h).2
  have : ∀ l : List Q4, (∀ x ∈ l, ldB x = true) → ∃ ys : List Ap, ys.map (·.1) = l.map (arrOf wd) := by
    intro l
    induction l with
    | nil => intro _; exact ⟨[], rfl⟩
    | cons x r ih =>
      intro hl
      obtain ⟨ys, hys⟩ := ih fun y hy => hl y (by simp [hy])
      have h1 := moV_bd (hl x (by simp)) wd
      have h2 := ldB_parts (hl x (by simp))
      exact ⟨⟨arrOf wd x, h1.1, h1.2, h2.2.2.2.2.2.2.1, h2.2.2.2.2.2.2.2.1⟩ :: ys, by simp [hys]⟩
  exact this xs fun x hx => by
    obtain ⟨k, hk⟩ := List.getElem?_of_mem hx
    exact hb k x hk

/-- arrivals: the function that makes the iterator. -/
theorem arrivals_any (A : Option Addr) (n cap : Nat) (wd : Int) (w : World) :
    Calls Try.prog 52 #[.slice A n cap, .int .i64 wd] w fun e w' => e = .returned (.func (.func 60) #[] #[.pointer (some ⟨w.heap.size, 0, none⟩), .pointer (some ⟨w.heap.size + 1, 0, none⟩)]) ∧ w' = (w.alloc (.cells #[.slice A n cap] 47)).alloc (.cells #[.int .i64 wd] 2) := by
  go_enter Try.func52, Try.ntmps52
  go_wp2
  go_ret
  exact ⟨rfl, rfl⟩
end Go.Proofs.Ytfneloplbkjbhaa
