/-
  The walks of package demand and of its reference (vergeref23): right, Check, times.
-/
import Derived.Test.YtfneloplbkjbhaaDoorCur
import Derived.Test.YtfneloplbkjbhaaDoorVr
import Derived.RangeFuncNested
import Derived.RangeFuncBound
import Derived.RangeFuncCalls
import Derived.RangeFuncLeaves
import Derived.RangeFuncBox
import Derived.Shelf.Abstract
import Derived.Shelf.RegionOpen
import Derived.OwnWalkIn
import Derived.TacticsInMore
import Derived.LoopNIn
import Derived.LoopIn
namespace Go.Proofs.YtfneloplbkjbhaaDoor
open Go.RowKit
set_option linter.unusedVariables false

/-- A load: period, jitter, apart, cost. -/
def ldB (x : Q4) : Bool := decide (curE x.a x.b x.c = 0 ∧ 0 ≤ x.d ∧ x.d ≤ 1099511627776)

set_option maxHeartbeats 400000 in
theorem right_any (p j a c : Int) (w : World) :
    Calls Tryd.prog 55 #[.agg #[.int .i64 p, .int .i64 j, .int .i64 a, .int .i64 c]] w fun e w' => e = .returned (.bool (ldB ⟨p, j, a, c⟩)) ∧ Below w.heap.size w w' := by
  by_cases hE : curE p j a = 0
  · have hE1 : (curE p j a == 0) = true := by simpa using hE
    have HE := Lib.hid hE
    clear hE
    go_enter Tryd.func55, Tryd.ntmps55
    go_wp2_with (first | (go_at_call 23; refine (ccheck_any _ _ _ _).mono ?_; rintro e w1 ⟨rfl, hb⟩; have q3 := box_cell hb 3 _ rfl))
    all_goals go_ret
    all_goals exact ⟨ret_dec (by have := HE.out; simp [this] <;> omega), hb.box (Nat.le_refl _)⟩
  · have hE1 : (curE p j a == 0) = false := by simpa using hE
    have HE := Lib.hid hE
    clear hE
    go_enter Tryd.func55, Tryd.ntmps55
    go_wp2_with (first | (go_at_call 23; refine (ccheck_any _ _ _ _).mono ?_; rintro e w1 ⟨rfl, hb⟩; have q3 := box_cell hb 3 _ rfl))
    all_goals go_ret
    all_goals exact ⟨ret_dec (by have := HE.out; simp [this]), hb.box (Nat.le_refl _)⟩
def ldsE (xs : List Q4) : Int := if 256 < xs.length ∨ xs.all ldB = false then 2 else 0

set_option maxHeartbeats 400000 in
theorem dcheck_any (A : Option Addr) (xs : List Q4) (cap : Nat) (w : World) (h : R4 w w.heap.size A xs) (hl : xs.length ≤ 9223372036854775807) :
    Calls Tryd.prog 49 #[.slice A xs.length cap] w fun e w' => e = .returned (.int .i64 (ldsE xs)) ∧ Below w.heap.size w w' := by
  by_cases hn : 256 < xs.length
  · go_enter Tryd.func49, Tryd.ntmps49
    go_wp2
    go_ret
    exact ⟨ret_i (by unfold ldsE; rw [if_pos (.inl hn)]), Below.refl _ _⟩
  have hn' : xs.length ≤ 256 := by omega
  have HN := Lib.hid hn
  clear hn
  go_enter Tryd.func49, Tryd.ntmps49
  go_wp2
  go_loopw [10] (fun i wr => ∃ (k : Nat), k ≤ xs.length ∧ i = .int .i64 k ∧ Below w.heap.size w wr ∧ Hid (xs.all ldB = (xs.drop k).all ldB)) (fun i _ => xs.length - (intOf i).toNat)
  case atStart => exact ⟨0, by omega, rfl, Below.refl _ _, rfl⟩
  case round =>
    obtain ⟨k, hk, rfl, hbl, hs⟩ := hrel
    by_cases hlt : k < xs.length
    · obtain ⟨b, off, rfl, hbB, hc⟩ := h (by omega)
      obtain ⟨x, hx⟩ := some_at hlt
      obtain ⟨c1, c2, c3, c4⟩ := hc k x hx
      replace c1 := (hbl.cell (p := ⟨b, off + k * 4, none⟩) hbB).trans c1
      replace c2 := (hbl.cell (p := ⟨b, off + k * 4 + 1, none⟩) hbB).trans c2
      replace c3 := (hbl.cell (p := ⟨b, off + k * 4 + 2, none⟩) hbB).trans c3
      replace c4 := (hbl.cell (p := ⟨b, off + k * 4 + 3, none⟩) hbB).trans c4
      have hs' := hs.out
      rw [dropR_cons hx, List.all_cons] at hs'
      have HS := Lib.hid hs'
      clear hs' hs hc hx
      obtain ⟨xa, xb, xc, xd⟩ := x
      simp only at c1 c2 c3 c4
      cases hr : ldB ⟨xa, xb, xc, xd⟩
      · go_wp2_with (first | (go_at_call 55; refine (right_any _ _ _ _ _).mono ?_; rintro e w1 ⟨rfl, hb⟩))
        go_ret
        exact ⟨ret_i (by have := HS.out; unfold ldsE; rw [this, hr]; simp), hbl.next1 hbl.size hb⟩
      · go_wp2_with (first | (go_at_call 55; refine (right_any _ _ _ _ _).mono ?_; rintro e w1 ⟨rfl, hb⟩))
        go_roundw
        case rel => exact ⟨k + 1, by omega, by go_num, hbl.next1 hbl.size hb, by have := HS.out; unfold Hid; rw [this, hr]; simp⟩
        case measure => simp [intOf]; omega
    · go_wp2
      go_ret
      exact ⟨ret_i (by have := hs.out; rw [List.drop_eq_nil_of_le (by omega)] at this; unfold ldsE; rw [this]; simp; omega), hbl⟩
end Go.Proofs.YtfneloplbkjbhaaDoor
namespace Go.Proofs.YtfneloplbkjbhaaDoor
open Go.RowKit
set_option linter.unusedVariables false

theorem ldB_parts {x : Q4} (h : ldB x = true) : 1 ≤ x.a ∧ x.a ≤ 1099511627776 ∧ 0 ≤ x.b ∧ x.b ≤ 1099511627776 ∧ 1 ≤ x.c ∧ x.c ≤ x.a ∧ 0 ≤ x.d ∧ x.d ≤ 1099511627776 ∧ curE x.a x.b x.c = 0 := by
  unfold ldB at h
  simp only [decide_eq_true_eq] at h
  obtain ⟨h1, h2, h3⟩ := h
  have := h1
  unfold curE at this
  split at this <;> omega
theorem lds_parts {xs : List Q4} (h : ldsE xs = 0) : xs.length ≤ 256 ∧ ∀ (k : Nat) (x : Q4), xs[k]? = some x → ldB x = true := by
  unfold ldsE at h
  have h1 : ¬ (256 < xs.length ∨ xs.all ldB = false) := fun hh => by rw [if_pos hh] at h; omega
  refine ⟨by omega, fun k x hx => ?_⟩
  have h2 : xs.all ldB = true := by
    cases e : xs.all ldB
    · exact absurd (.inr e) h1
    · rfl
  exact List.all_eq_true.1 h2 x (List.mem_of_getElem? hx)

def addP : Option Int → Int × Int → Option Int
  | none, _ => none
  | some s, x => if 0 < x.2 ∧ (4503599627370496 - s) / x.2 < x.1 then none else some (s + x.1 * x.2)
theorem addP_some (s : Int) (x : Int × Int) : addP (some s) x = if 0 < x.2 ∧ (4503599627370496 - s) / x.2 < x.1 then none else some (s + x.1 * x.2) := rfl
def sumP (l : List (Int × Int)) : Option Int := l.foldl addP (some 0)
theorem sumP_snoc (l : List (Int × Int)) (x : Int × Int) : sumP (l ++ [x]) = addP (sumP l) x := by simp [sumP]
theorem foldP_none : ∀ l : List (Int × Int), l.foldl addP none = none
  | [] => rfl
  | x :: r => by rw [List.foldl_cons]; exact foldP_none r
theorem sumP_none {p l : List (Int × Int)} (h : p <+: l) (hn : sumP p = none) : sumP l = none := by
  obtain ⟨r, rfl⟩ := h
  unfold sumP at *
  rw [List.foldl_append, hn, foldP_none]
theorem addP_bd {s n c : Int} (s0 : 0 ≤ s) (s1 : s ≤ 4503599627370496) (n0 : 0 ≤ n) (c0 : 0 ≤ c) (h : ¬ (0 < c ∧ (4503599627370496 - s) / c < n)) : 0 ≤ n * c ∧ n * c ≤ 4503599627370496 - s := by
  refine ⟨Int.mul_nonneg n0 c0, ?_⟩
  by_cases hc : c = 0
  · subst hc; omega
  · exact mul_le_of_le_ediv (by omega) (by omega)
theorem foldP_bd : ∀ (l : List (Int × Int)) (s t : Int), (∀ x ∈ l, 0 ≤ x.1 ∧ 0 ≤ x.2) → 0 ≤ s → s ≤ 4503599627370496 → l.foldl addP (some s) = some t → 0 ≤ t ∧ t ≤ 4503599627370496
  | [], s, t, _, h0, h1, h => by simp only [List.foldl_nil, Option.some.injEq] at h; omega
  | x :: r, s, t, hl, h0, h1, h => by
    rw [List.foldl_cons, addP_some] at h
    by_cases hc : 0 < x.2 ∧ (4503599627370496 - s) / x.2 < x.1
    · rw [if_pos hc, foldP_none] at h; cases h
    · rw [if_neg hc] at h
      obtain ⟨b1, b2⟩ := addP_bd h0 h1 (hl x (by simp)).1 (hl x (by simp)).2 hc
      exact foldP_bd r (s + x.1 * x.2) t (fun y hy => hl y (by simp [hy])) (by omega) (by omega) h
theorem sumP_bd {l : List (Int × Int)} {t : Int} (hl : ∀ x ∈ l, 0 ≤ x.1 ∧ 0 ≤ x.2) (h : sumP l = some t) : 0 ≤ t ∧ t ≤ 4503599627370496 := foldP_bd l 0 t hl (by omega) (by omega) h

/-- How many of a load may arrive, and its cost. -/
def arrOf (wd : Int) (x : Q4) : Int × Int := (moV x.a x.b x.c wd, x.d)
theorem moV_bd {x : Q4} (h : ldB x = true) (wd : Int) : 0 ≤ moV x.a x.b x.c wd ∧ moV x.a x.b x.c wd ≤ 4503599627370496 := by
  obtain ⟨h1, h2, h3, h4, h5, h6, h7, h8, h9⟩ := ldB_parts h
  unfold moV
  split
  · omega
  · split
    · have g1 := up_le wd x.c (by omega) (by omega)
      have g2 := up_le (wd + x.b) x.a (by omega) (by omega)
      unfold upD
      omega
    · omega
theorem arr_nonneg {xs : List Q4} (h : ldsE xs = 0) (wd : Int) : ∀ y ∈ xs.map (arrOf wd), 0 ≤ y.1 ∧ 0 ≤ y.2 := by
  intro y hy
  obtain ⟨x, hx, rfl⟩ := List.mem_map.1 hy
  obtain ⟨k, hk⟩ := List.getElem?_of_mem hx
  have hb := (lds_parts h).2 k x hk
  have := ldB_parts hb
  exact ⟨(moV_bd hb wd).1, this.2.2.2.2.2.2.1⟩

def alE (xs : List Q4) (wd : Int) : Int := if ldsE xs ≠ 0 then 2 else if ¬ (0 ≤ wd ∧ wd ≤ 4503599627370496) then 1 else if (sumP (xs.map (arrOf wd))).isNone = true then 10 else 0
def alV (xs : List Q4) (wd : Int) : Int := if alE xs wd ≠ 0 then 0 else (sumP (xs.map (arrOf wd))).getD 0
theorem al_over {xs : List Q4} {wd : Int} (h : ldsE xs = 0) (h0 : 0 ≤ wd) (h1 : wd ≤ 4503599627370496) (hs : sumP (xs.map (arrOf wd)) = none) : alE xs wd = 10 ∧ alV xs wd = 0 := by
  have : alE xs wd = 10 := by unfold alE; rw [if_neg (by omega), if_neg (by omega), hs]; rfl
  exact ⟨this, by unfold alV; rw [if_pos (by omega)]⟩
theorem al_sum {xs : List Q4} {wd s : Int} (h : ldsE xs = 0) (h0 : 0 ≤ wd) (h1 : wd ≤ 4503599627370496) (hs : sumP (xs.map (arrOf wd)) = some s) : alE xs wd = 0 ∧ alV xs wd = s := by
  have : alE xs wd = 0 := by unfold alE; rw [if_neg (by omega), if_neg (by omega), hs]; rfl
  exact ⟨this, by unfold alV; rw [if_neg (by omega), hs]; rfl⟩

def addU : Option Int → Q4 → Option Int
  | none, _ => none
  | some s, x => if 4503599627370496 < s + upD (x.d * 1000000) x.a then none else some (s + upD (x.d * 1000000) x.a)
theorem addU_some (s : Int) (x : Q4) : addU (some s) x = if 4503599627370496 < s + upD (x.d * 1000000) x.a then none else some (s + upD (x.d * 1000000) x.a) := rfl
def sumU (l : List Q4) : Option Int := l.foldl addU (some 0)
theorem sumU_snoc (l : List Q4) (x : Q4) : sumU (l ++ [x]) = addU (sumU l) x := by simp [sumU]
theorem foldU_none : ∀ l : List Q4, l.foldl addU none = none
  | [] => rfl
  | x :: r => by rw [List.foldl_cons]; exact foldU_none r
theorem sumU_none {xs : List Q4} {k : Nat} (hn : sumU (xs.take k) = none) : sumU xs = none := by
  rw [← List.take_append_drop k xs]
  unfold sumU at *
  rw [List.foldl_append, hn, foldU_none]
def usE (xs : List Q4) : Int := if ldsE xs ≠ 0 then 2 else if (sumU xs).isNone = true then 10 else 0
def usV (xs : List Q4) : Int := if usE xs ≠ 0 then 0 else (sumU xs).getD 0
theorem us_over {xs : List Q4} (h : ldsE xs = 0) (hs : sumU xs = none) : usE xs = 10 ∧ usV xs = 0 := by
  have : usE xs = 10 := by unfold usE; rw [if_neg (by omega), hs]; rfl
  exact ⟨this, by unfold usV; rw [if_pos (by omega)]⟩
theorem us_sum {xs : List Q4} {s : Int} (h : ldsE xs = 0) (hs : sumU xs = some s) : usE xs = 0 ∧ usV xs = s := by
  have : usE xs = 0 := by unfold usE; rw [if_neg (by omega), hs]; rfl
  exact ⟨this, by unfold usV; rw [if_neg (by omega), hs]; rfl⟩
theorem takeR_snoc {xs : List Q4} {k : Nat} {x : Q4} (h : xs[k]? = some x) : xs.take (k + 1) = xs.take k ++ [x] := by
  rw [List.take_add_one, h]; rfl
theorem takeM_snoc {xs : List Q4} {k : Nat} {x : Q4} (wd : Int) (h : xs[k]? = some x) : (xs.map (arrOf wd)).take (k + 1) = (xs.map (arrOf wd)).take k ++ [arrOf wd x] := by
  rw [List.take_add_one, List.getElem?_map, h]; rfl
end Go.Proofs.YtfneloplbkjbhaaDoor
namespace Go.Proofs.YtfneloplbkjbhaaDoor
open Go.RowKit Go.Shelf
set_option linter.unusedVariables false
attribute [local go_sem] Oper.semAt_some

/-- What a round of such a loop keeps: what lies below n₀, and one captured cell. -/
def KpC (n₀ : Nat) (p : Addr) (W W' : World) : Prop := Below n₀ W W' ∧ ∀ v, W.cell? p = some v → W'.cell? p = some v
theorem KpC.trans {n₀ : Nat} {p : Addr} {A B C : World} (h : KpC n₀ p A B) (k : KpC n₀ p B C) : KpC n₀ p A C := ⟨h.1.trans k.1, fun v hv => k.2 v (h.2 v hv)⟩
theorem KpC.book {n₀ : Nat} {p : Addr} {w : World} (hn : n₀ ≤ w.heap.size) (W : World) (l : Nat) (o o' : Obj) (hl : w.heap.size ≤ l) (h : W.heap[l]? = some o) (hc : o.isCells = false) (hw : o.isWalk = false) : KpC n₀ p W (W.putObj l o') :=
  ⟨belowK_b hn W l o o' hl h hc hw, fun v hv => cell_kept hv (grownBy_putObj' W l o') fun r e => by cases e; exact ⟨o, h, hc⟩⟩

/-- What comes of a right load. -/
abbrev Ap := { p : Int × Int // 0 ≤ p.1 ∧ p.1 ≤ 4503599627370496 ∧ 0 ≤ p.2 ∧ p.2 ≤ 1099511627776 }
abbrev encAp (x : Ap) : Array Value := #[.int .i64 x.1.1, .int .i64 x.1.2]

set_option maxHeartbeats 1000000 in
theorem arr_in (n : Nat) (hn : 1 ≤ n) (l B1 B2 n₀ : Nat) (A : Option Addr) (xs : List Q4) (cap : Nat) (wd : Int) (ys : List Ap) (hys : ys.map (·.1) = xs.map (arrOf wd)) (J Jx : List Ap → World → Prop) (B0 : Nat) (hJ : AbidesFrom B0 J) (hlen : xs.length ≤ 9223372036854775807)
    (hY : ∀ pre x W, J pre W → pre.length < xs.length → YieldAt Fence.wide (n - 1) Tryd.prog l (encAp x) W fun e W' =>
      (e = .returned (.bool true) ∧ J (pre ++ [x]) W' ∧ KpC n₀ ⟨B2, 0, none⟩ W W') ∨ (e = .returned (.bool false) ∧ Jx (pre ++ [x]) W'))
    (W : World) (hB1 : W.cell? ⟨B1, 0, none⟩ = some (.slice A xs.length cap)) (hB2 : W.cell? ⟨B2, 0, none⟩ = some (.int .i64 wd)) (hB2l : B2 < W.heap.size) (hR : R4 W n₀ A xs) (hn0 : n₀ ≤ W.heap.size) (h0 : J [] W) :
    CallsIn Fence.wide n Tryd.prog 96 #[.func (.yield l) #[] #[], .pointer (some ⟨B1, 0, none⟩), .pointer (some ⟨B2, 0, none⟩)] W fun e W' => (∃ v, e = .returned v) ∧
      ((∃ l, l = ys ∧ J l W') ∨ (∃ pre, pre <+: ys ∧ Jx pre W')) := by
  refine callsIn_of_wp Tryd.func96 rfl trivial ?_ rfl
  simp only [Tryd.ntmps96, List.size_toArray, List.length_cons, List.length_nil, Nat.reduceAdd, Nat.reduceSub, Array.replicate_succ, Array.replicate_zero, List.push_toArray, List.append_toArray, List.nil_append, List.cons_append]
  gi_wp2
  gi_loopw [10] (fun i wr => ∃ (k : Nat), k ≤ xs.length ∧ i = .int .i64 k ∧ wr.cell? ⟨B2, 0, none⟩ = some (.int .i64 wd) ∧ B2 < wr.heap.size ∧ R4 wr n₀ A xs ∧ n₀ ≤ wr.heap.size ∧ J (ys.take k) wr)
    (fun i _ => xs.length - (intOf i).toNat)
  case atStart => exact ⟨0, by omega, rfl, hB2, hB2l, hR, hn0, by simpa using h0⟩
  case round =>
    obtain ⟨k, hk, rfl, hw2, hl2, hr, hnr, hj⟩ := hrel
    by_cases hlt : k < xs.length
    · obtain ⟨b, off, rfl, hbB, hc⟩ := hr (by omega)
      obtain ⟨x, hx⟩ := some_at hlt
      obtain ⟨c1, c2, c3, c4⟩ := hc k x hx
      have hyl : ys.length = xs.length := by have := congrArg List.length hys; simpa using this
      obtain ⟨y, hy0⟩ : ∃ y, ys[k]? = some y := ⟨ys[k], List.getElem?_eq_getElem (by omega)⟩
      have hyx : y.1 = arrOf wd x := by
        have := congrArg (fun l => l[k]?) hys
        simp only [List.getElem?_map, hy0, hx, Option.map_some, Option.some.injEq] at this
        exact this
      have htk : ys.take (k + 1) = (ys.take k) ++ [y] := by rw [List.take_add_one, hy0]; rfl
      have HTK := Lib.hid htk
      have hpl : (ys.take k).length < xs.length := by simp; omega
      clear hc hx hy0 htk hyl
      have HYS := Lib.hid hys
      clear hys
      obtain ⟨xa, xb, xc, xd⟩ := x
      obtain ⟨⟨yn, yc⟩, hyb⟩ := y
      simp only [arrOf, Prod.mk.injEq] at hyx
      obtain ⟨rfl, rfl⟩ := hyx
      simp only at c1 c2 c3 c4
      gi_wp2_with fail
      refine ⟨trivial, ?_⟩
      refine (callsIn_wide.2 (most_any _ _ _ _ _)).mono ?_
      rintro e w1 ⟨rfl, hb⟩
      have q3 := box_cell hb 3 _ rfl
      have hbx : Below wr.heap.size wr w1 := (below_box wr _).trans (hb.mono (by simp))
      have hj1 := hJ _ wr w1 none hj ⟨hbx.os, hbx.tape, hbx.output, hbx.size, fun i hi _ => hbx.block i hi⟩ (fun r e => by cases e)
      have hw3 : w1.cell? ⟨B2, 0, none⟩ = some (.int .i64 wd) := (hbx.cell (p := ⟨B2, 0, none⟩) hl2).trans hw2
      have hs1 := hbx.size
      obtain ⟨fn, tmps, assign, body, hy, hRd⟩ := hY _ ⟨(moV xa xb xc wd, yc), hyb⟩ w1 hj1 hpl
      dsimp only [encAp] at hy
      gi_wp2
      refine hRd.mono ?_
      rintro e W3 (⟨rfl, hJ3, hk3⟩ | ⟨rfl, hJx3⟩)
      · gi_wp2
        go_roundw
        case rel => exact ⟨k + 1, by omega, by go_num, hk3.2 _ hw3, Nat.lt_of_lt_of_le hl2 (Nat.le_trans hs1 hk3.1.size), (hr.below (hbx.mono hnr)).below hk3.1, Nat.le_trans hnr (Nat.le_trans hs1 hk3.1.size), by rw [HTK.out]; exact hJ3⟩
        case measure => simp [intOf]; omega
      · gi_wp2
        refine bodyPost_ret (results_none rfl _ _ _) rfl ?_
        exact ⟨⟨_, rfl⟩, .inr ⟨_, by rw [← HTK.out]; exact List.take_prefix _ _, hJx3⟩⟩
    · have hyl : ys.length = xs.length := by have := congrArg List.length hys; simpa using this
      have hpe : ys.take k = ys := List.take_of_length_le (by omega)
      rw [hpe] at hj
      clear hpe hys hyl
      gi_wp2
      go_end0
      exact ⟨⟨_, rfl⟩, .inl ⟨_, rfl, hj⟩⟩

theorem arr_stops (n : Nat) (hn : 1 ≤ n) (B1 B2 n₀ : Nat) (A : Option Addr) (xs : List Q4) (cap : Nat) (wd : Int) (ys : List Ap) (hys : ys.map (·.1) = xs.map (arrOf wd)) (hlen : xs.length ≤ 9223372036854775807) (w : World)
    (hB1 : w.cell? ⟨B1, 0, none⟩ = some (.slice A xs.length cap)) (hB2 : w.cell? ⟨B2, 0, none⟩ = some (.int .i64 wd)) (hB1l : B1 < w.heap.size) (hB2l : B2 < w.heap.size) (hR : R4 w n₀ A xs) (hn0 : n₀ ≤ w.heap.size) :
    SeqStopsK Fence.wide n Tryd.prog 96 #[.pointer (some ⟨B1, 0, none⟩), .pointer (some ⟨B2, 0, none⟩)] encAp (KpC n₀ ⟨B2, 0, none⟩) (fun l => l = ys) (fun pre => pre <+: ys) xs.length w := fun l J Jx W hW hJ hJx hY h0 =>
  arr_in n hn l B1 B2 n₀ A xs cap wd ys hys J Jx W.heap.size hJ hlen hY W ((hW.cell (p := ⟨B1, 0, none⟩) hB1l).trans hB1) ((hW.cell (p := ⟨B2, 0, none⟩) hB2l).trans hB2) (Nat.lt_of_lt_of_le hB2l hW.size) (hR.below (hW.mono hn0)) (Nat.le_trans hn0 hW.size) h0
theorem aps_of {xs : List Q4} (h : ldsE xs = 0) (wd : Int) : ∃ ys : List Ap, ys.map (·.1) = xs.map (arrOf wd) := by
  have hb := (lds_parts h).2
  have : ∀ l : List Q4, (∀ x ∈ l, ldB x = true) → ∃ ys : List Ap, ys.map (·.1) = l.map (arrOf wd) := by
    intro l
    induction l with
    | nil => intro _; exact ⟨[], rfl⟩
    | cons x r ih =>
      intro hl
      obtain ⟨ys, hys⟩ := ih fun y hy => hl y (by simp [hy])
      have h1 := moV_bd (hl x (by simp)) wd
      have h2 := ldB_parts (hl x (by simp))
      exact ⟨⟨arrOf wd x, h1.1, h1.2, h2.2.2.2.2.2.2.1, h2.2.2.2.2.2.2.2.1⟩ :: ys, by simp [hys]⟩
  exact this xs fun x hx => by
    obtain ⟨k, hk⟩ := List.getElem?_of_mem hx
    exact hb k x hk

/-- arrivals: the function that makes the iterator. -/
theorem arrivals_any (A : Option Addr) (n cap : Nat) (wd : Int) (w : World) :
    Calls Tryd.prog 83 #[.slice A n cap, .int .i64 wd] w fun e w' => e = .returned (.func (.func 96) #[] #[.pointer (some ⟨w.heap.size, 0, none⟩), .pointer (some ⟨w.heap.size + 1, 0, none⟩)]) ∧ w' = (w.alloc (.cells #[.slice A n cap] 51)).alloc (.cells #[.int .i64 wd] 2) := by
  go_enter Tryd.func83, Tryd.ntmps83
  go_wp2
  go_ret
  exact ⟨rfl, rfl⟩
end Go.Proofs.YtfneloplbkjbhaaDoor
namespace Go.Proofs.YtfneloplbkjbhaaDoor
open Go.RowKit
set_option linter.unusedVariables false

theorem lds_two {xs : List Q4} (h : ¬ ldsE xs = 0) : ldsE xs = 2 := by
  unfold ldsE at *
  split
  · rfl
  · rename_i hc; rw [if_neg hc] at h; exact absurd rfl h

/-- One number so many times, up to a limit. -/
theorem times_over (n c L : Int) (hc : 0 < c) (hc1 : c ≤ 1099511627776) (hL : 0 ≤ L) (hL1 : L ≤ 4503599627370496) (h : L / c < n) (w : World) :
    Calls Tryd.prog 84 #[.int .i64 n, .int .i64 c, .int .i64 L] w fun e w' => e = .returned (.tuple #[.int .i64 0, .bool false]) ∧ w = w' := by
  have q0 : 0 ≤ L / c := Int.ediv_nonneg hL (by omega)
  have q1 : L / c ≤ L := Int.ediv_le_self c hL
  go_enter Tryd.func84, Tryd.ntmps84
  go_wp2
  go_ret2
  exact ⟨rfl, rfl⟩
theorem times_fits (n c L : Int) (hc : 0 ≤ c) (hc1 : c ≤ 1099511627776) (hL : 0 ≤ L) (hL1 : L ≤ 4503599627370496) (h : ¬ (0 < c ∧ L / c < n)) (h1 : 0 ≤ n * c) (h2 : n * c ≤ L) (w : World) :
    Calls Tryd.prog 84 #[.int .i64 n, .int .i64 c, .int .i64 L] w fun e w' => e = .returned (.tuple #[.int .i64 (n * c), .bool true]) ∧ w = w' := by
  by_cases c0 : 0 < c
  · have q0 : 0 ≤ L / c := Int.ediv_nonneg hL (by omega)
    have q1 : L / c ≤ L := Int.ediv_le_self c hL
    have q2 : n ≤ L / c := by omega
    clear h
    go_enter Tryd.func84, Tryd.ntmps84
    go_wp2
    go_ret2
    exact ⟨rfl, rfl⟩
  · have c1 : c ≤ 0 := by omega
    clear h c0
    go_enter Tryd.func84, Tryd.ntmps84
    go_wp2
    go_ret2
    exact ⟨rfl, rfl⟩

end Go.Proofs.YtfneloplbkjbhaaDoor
namespace Go.Proofs.YtfneloplbkjbhaaDoor
open Go.RowKit Go.Shelf
set_option linter.unusedVariables false
attribute [local go_sem] Oper.semAt_some

/-- Two boxes of one cell each, and what lies behind. -/
theorem two_box {w w1 : World} {v0 v1 : Value} {t0 t1 : TypeId} (hb : Below ((w.alloc (.cells #[v0] t0)).alloc (.cells #[v1] t1)).heap.size ((w.alloc (.cells #[v0] t0)).alloc (.cells #[v1] t1)) w1) :
    w1.cell? ⟨w.heap.size, 0, none⟩ = some v0 ∧ w1.frozen? ⟨w.heap.size, 0, none⟩ = false ∧ w1.cell? ⟨w.heap.size + 1, 0, none⟩ = some v1 ∧ w1.frozen? ⟨w.heap.size + 1, 0, none⟩ = false ∧ w.heap.size + 2 ≤ w1.heap.size ∧ Below w.heap.size w w1 := by
  have h0 : Below (w.alloc (.cells #[v0] t0)).heap.size (w.alloc (.cells #[v0] t0)) w1 := hb.box (Nat.le_refl _)
  have c0 := box_cell h0 0 v0 rfl
  have f0 := box_free h0 0
  have c1 := box_cell hb 0 v1 rfl
  have f1 := box_free hb 0
  have e : (w.alloc (.cells #[v0] t0)).heap.size = w.heap.size + 1 := by simp
  rw [e] at c1 f1
  exact ⟨c0, f0, c1, f1, by have := hb.size; simp at this; omega, h0.box (Nat.le_refl _)⟩

theorem set2_first {W : World} {b b' : Nat} {u : Value} (hb : b ≠ b') (h : W.cell? ⟨b, 0, none⟩ = some u) (v v' : Value) : ((W.setCell ⟨b, 0, none⟩ v).setCell ⟨b', 0, none⟩ v').cell? ⟨b, 0, none⟩ = some v := by
  rw [World.cell?_setCell_other _ _ _ _ (by simp <;> omega)]
  exact World.cell?_setCell_same' _ _ _ (by rw [h]; rfl)
theorem set2_second {W : World} {b b' : Nat} {u : Value} (hb : b ≠ b') (h : W.cell? ⟨b', 0, none⟩ = some u) (v v' : Value) : ((W.setCell ⟨b, 0, none⟩ v).setCell ⟨b', 0, none⟩ v').cell? ⟨b', 0, none⟩ = some v' :=
  World.cell?_setCell_same' _ _ _ (by rw [World.cell?_setCell_other _ _ _ _ (by simp <;> omega), h]; rfl)

set_option maxRecDepth 100000 in
set_option maxHeartbeats 2000000 in
theorem all_any (A : Option Addr) (xs : List Q4) (cap : Nat) (wd : Int) (w : World) (h : R4 w w.heap.size A xs) (hl : xs.length ≤ 9223372036854775807) :
    Calls Tryd.prog 68 #[.slice A xs.length cap, .int .i64 wd] w fun e w' => e = .returned (.tuple #[.int .i64 (alV xs wd), .int .i64 (alE xs wd)]) ∧ Below w.heap.size w w' := by
  by_cases hE : ldsE xs = 0
  · by_cases hwd : 0 ≤ wd ∧ wd ≤ 4503599627370496
    · obtain ⟨wd0, wd1⟩ := hwd
      have hE1 := Lib.hid hE
      refine (callsIn_wide (n := 4)).1 ?_
      refine callsIn_of_wp_marks Tryd.func68 rfl trivial ?_ rfl
      simp only [Tryd.ntmps68, List.size_toArray, List.length_cons, List.length_nil, Nat.reduceAdd, Nat.reduceSub, Array.replicate_succ, Array.replicate_zero, List.push_toArray, List.append_toArray, List.nil_append, List.cons_append]
      gi_wp2_with fail
      refine ⟨trivial, ?_⟩
      refine (callsIn_wide.2 (dcheck_any A xs _ _ ((h.below (((Below.refl _ w).alloc (Nat.le_refl _) _).alloc (by simp) _)).mono (by simp; omega)) hl)).mono ?_
      rintro e w1 ⟨rfl, hb⟩
      obtain ⟨c0, f0, c1, f1, hsz, hbw⟩ := two_box hb
      clear hb
      gi_wp2_with fail
      refine ⟨trivial, ?_⟩
      refine (callsIn_wide.2 (arrivals_any A _ _ _ _)).mono ?_
      rintro e w2 ⟨rfl, rfl⟩
      gi_wp2_with fail
      obtain ⟨ys, hys⟩ := aps_of hE wd
      obtain ⟨W2, hW2⟩ : ∃ W2, ((w1.alloc (.cells #[.int .i64 0] 2)).alloc (.cells #[.slice A xs.length cap] 51)).alloc (.cells #[.int .i64 wd] 2) = W2 := ⟨_, rfl⟩
      have hst : Below (w1.alloc (.cells #[.int .i64 0] 2)).heap.size (w1.alloc (.cells #[.int .i64 0] 2)) W2 := by rw [← hW2]; exact ((Below.refl _ _).alloc (Nat.le_refl _) _).alloc (by simp) _
      have hst1 : Below w1.heap.size w1 W2 := hst.box (Nat.le_refl _)
      have k1 : Below ((w1.alloc (.cells #[.int .i64 0] 2)).alloc (.cells #[.slice A xs.length cap] 51)).heap.size ((w1.alloc (.cells #[.int .i64 0] 2)).alloc (.cells #[.slice A xs.length cap] 51)) W2 := by rw [← hW2]; exact (Below.refl _ _).alloc (Nat.le_refl _) _
      have k2 : Below (((w1.alloc (.cells #[.int .i64 0] 2)).alloc (.cells #[.slice A xs.length cap] 51)).alloc (.cells #[.int .i64 wd] 2)).heap.size (((w1.alloc (.cells #[.int .i64 0] 2)).alloc (.cells #[.slice A xs.length cap] 51)).alloc (.cells #[.int .i64 wd] 2)) W2 := by rw [← hW2]; exact Below.refl _ _
      have s0 := box_cell hst 0 _ rfl
      have sf := box_free hst 0
      have b1 := box_cell k1 0 _ rfl
      have b2 := box_cell k2 0 _ rfl
      simp only [World.size_alloc] at b1 b2
      have z2 : W2.heap.size = w1.heap.size + 3 := by rw [← hW2]; simp
      replace c0 := (hst1.cell (p := ⟨w.heap.size, 0, none⟩) (by simp; omega)).trans c0
      replace f0 := (hst1.frozen (p := ⟨w.heap.size, 0, none⟩) (by simp; omega)).trans f0
      replace c1 := (hst1.cell (p := ⟨w.heap.size + 1, 0, none⟩) (by simp; omega)).trans c1
      replace f1 := (hst1.frozen (p := ⟨w.heap.size + 1, 0, none⟩) (by simp; omega)).trans f1
      have hb2 := hbw.trans (hst1.mono (by omega))
      rw [hW2]
      clear hst hst1 k1 k2 hbw hW2
      have HYS := Lib.hid hys
      clear hys
      refine wpIn_rangeFunc_ownF rfl (by omega) (gf := 96) (lb := #[.pointer (some ⟨w1.heap.size + 1, 0, none⟩), .pointer (some ⟨w1.heap.size + 1 + 1, 0, none⟩)]) rfl trivial (enters_of Tryd.func96 (by kernel_rfl) rfl)
        (arr_stops (4 - 1) (by omega) (w1.heap.size + 1) (w1.heap.size + 1 + 1) w.heap.size A xs cap wd ys HYS.out hl W2 b1 b2 (by omega) (by omega) (h.below hb2) (by omega))
        KpC.trans (KpC.book (by omega)) (Below.refl _ _) (fun _ => rfl)
        (fun pre W => (∃ s, Hid (sumP (pre.map (·.1)) = some s) ∧ 0 ≤ s ∧ s ≤ 4503599627370496 ∧ W.cell? ⟨w1.heap.size, 0, none⟩ = some (.int .i64 s) ∧ W.frozen? ⟨w1.heap.size, 0, none⟩ = false ∧ W.cell? ⟨w.heap.size, 0, none⟩ = some (.int .i64 0) ∧ W.frozen? ⟨w.heap.size, 0, none⟩ = false ∧ W.cell? ⟨w.heap.size + 1, 0, none⟩ = some (.int .i64 0) ∧ W.frozen? ⟨w.heap.size + 1, 0, none⟩ = false) ∧ Below w.heap.size w W)
        (fun c pre W => (c = .ret ∧ Hid (sumP (pre.map (·.1)) = none) ∧ W.cell? ⟨w.heap.size, 0, none⟩ = some (.int .i64 0) ∧ W.cell? ⟨w.heap.size + 1, 0, none⟩ = some (.int .i64 10)) ∧ Below w.heap.size w W)
        (OwnFrom.and (Own.from (fun s A B row hs hg hr => by
          obtain ⟨q, g1, g2, g3, g4, g5, g6, g7, g8, g9⟩ := hs
          exact ⟨q, g1, g2, g3, cell_kept g4 hg hr, (frozen_kept g4 hg hr).trans g5, cell_kept g6 hg hr, (frozen_kept g6 hg hr).trans g7, cell_kept g8 hg hr, (frozen_kept g8 hg hr).trans g9⟩) _) (ownFrom_below (Nat.le_refl _) (by omega)))
        (fun c => OwnFrom.and (Own.from (fun s A B row hs hg hr => ⟨hs.1, hs.2.1, cell_kept hs.2.2.1 hg hr, cell_kept hs.2.2.2 hg hr⟩) _) (ownFrom_below (Nat.le_refl _) (by omega)))
        ⟨⟨0, rfl, by omega, by omega, s0, sf, c0, f0, c1, f1⟩, hb2⟩
        (fun x => { tmps := #[.slice A xs.length cap, .int .i64 wd, undef, undef, .pointer (some ⟨w.heap.size, 0, none⟩), .pointer (some ⟨w.heap.size + 1, 0, none⟩), .int .i64 0, .pointer (some ⟨w1.heap.size, 0, none⟩), .int .i64 x.1.1, .int .i64 x.1.2, undef, undef,
          .slice A xs.length cap, .int .i64 0, .bool false, .int .i64 0, .bool false, undef, .bool (decide (wd < 0) || decide (4503599627370496 < wd)), .int .i64 wd, .bool (decide (wd < 0)), .bool (decide (wd < 0)), .int .i64 wd, .bool (decide (4503599627370496 < wd)), .bool (decide (wd < 0) || decide (4503599627370496 < wd)), .slice A xs.length cap,
          .int .i64 wd, .func (.func 96) #[] #[.pointer (some ⟨w1.heap.size + 1, 0, none⟩), .pointer (some ⟨w1.heap.size + 1 + 1, 0, none⟩)], .int .i64 x.1.1, .int .i64 x.1.2, undef, undef, undef, undef, undef, undef, undef, undef, undef, undef, undef, undef, undef, undef], defers := [] }) ?assign ?body ?done ?stop
      case assign =>
        intro l x W K hK
        gi_wp2
        exact hK
      case body =>
        rintro l pre ⟨⟨n, c⟩, hx⟩ W ⟨⟨s, hs, s0, s1, d0, d1, d2, d3, d4, d5⟩, hbW⟩ _
        obtain ⟨x1, x2, x3, x4⟩ := hx
        simp only at x1 x2 x3 x4
        have hsn : sumP ((pre ++ [(⟨(n, c), ⟨x1, x2, x3, x4⟩⟩ : Ap)]).map (·.1)) = addP (some s) (n, c) := by
          rw [List.map_append, List.map_cons, List.map_nil, sumP_snoc, hs.out]
        rw [addP_some] at hsn
        by_cases ho : 0 < c ∧ (4503599627370496 - s) / c < n
        · rw [if_pos ho] at hsn
          obtain ⟨hc0, ho⟩ := ho
          have HS := Lib.hid hsn
          clear hsn hs
          gi_wp2_with (refine ⟨trivial, ?_⟩; gi_at_call 84; refine (CallsIn.inRound l (callsIn_wide.2 (times_over _ _ _ hc0 x4 (by omega) (by omega) ho _))).mono ?_; rintro e w' ⟨rfl, rfl⟩)
          exact ⟨(KeepsOthers.setCell _ _ _).trans (KeepsOthers.setCell _ _ _), ⟨rfl, HS, set2_first (by omega) d2 _ _, set2_second (by omega) d4 _ _⟩, (hbW.setCell (p := ⟨w.heap.size, 0, none⟩) (Nat.le_refl _) _).setCell (p := ⟨w.heap.size + 1, 0, none⟩) (by simp) _⟩
        · rw [if_neg ho] at hsn
          obtain ⟨m0, m1⟩ := addP_bd s0 s1 x1 x3 ho
          have HS := Lib.hid hsn
          clear hsn hs
          gi_wp2_with (refine ⟨trivial, ?_⟩; gi_at_call 84; refine (CallsIn.inRound l (callsIn_wide.2 (times_fits _ _ _ x3 x4 (by omega) (by omega) ho m0 m1 _))).mono ?_; rintro e w' ⟨rfl, rfl⟩)
          have e2 : (⟨w1.heap.size, 0, none⟩ : Addr) ≠ ⟨w1.heap.size + 1 + 1, 0, none⟩ := by simp
          exact ⟨KeepsOthers.setCell _ _ _, ⟨(Below.refl _ W).setCell (p := ⟨w1.heap.size, 0, none⟩) (by simp; omega) _, fun v hv => by rw [World.cell?_setCell_other _ _ _ _ (by simp)]; exact hv⟩,
            ⟨_, HS, by omega, by omega, World.cell?_setCell_same' _ _ _ (by rw [d0]; rfl), by rw [World.frozen?_setCell]; exact d1, by rw [World.cell?_setCell_other _ _ _ _ (by simp <;> omega)]; exact d2, by rw [World.frozen?_setCell]; exact d3, by rw [World.cell?_setCell_other _ _ _ _ (by simp <;> omega)]; exact d4, by rw [World.frozen?_setCell]; exact d5⟩,
            hbW.setCell (p := ⟨w1.heap.size, 0, none⟩) (by simp; omega) _⟩
      case done =>
        rintro D l W hD rfl ⟨⟨s, hs, s0, s1, d0, d1, d2, d3, d4, d5⟩, hbW⟩ hK
        have hsum : sumP (xs.map (arrOf wd)) = some s := by rw [← HYS.out]; exact hs.out
        obtain ⟨a1, a2⟩ := al_sum hE1.out wd0 wd1 hsum
        have A1 := Lib.hid a1
        have A2 := Lib.hid a2
        clear a1 a2 hsum hs hE
        gi_wp2
        have hK2 := ((KeepsOthers.setCell W ⟨w.heap.size, 0, none⟩ (.int .i64 s)).trans (KeepsOthers.setCell _ ⟨w.heap.size + 1, 0, none⟩ (.int .i64 0))).same D _ hK rfl
        refine ⟨by simp, .inl ⟨_, _, rfl, run_takeDeferred hK2, ?_⟩⟩
        have r0 := cell_kept (set2_first (b := w.heap.size) (b' := w.heap.size + 1) (by omega) d2 (.int .i64 s) (.int .i64 0)) (grownBy_putObj' _ D (.deferred none)) (fun r e => by cases e; exact ⟨_, hK2, rfl⟩)
        have r1 := cell_kept (set2_second (b := w.heap.size) (b' := w.heap.size + 1) (by omega) d4 (.int .i64 s) (.int .i64 0)) (grownBy_putObj' _ D (.deferred none)) (fun r e => by cases e; exact ⟨_, hK2, rfl⟩)
        refine ⟨.tuple #[.int .i64 s, .int .i64 0], ?_, by rw [A1.out, A2.out], ?_⟩
        · simp [results, Tryd.f68, go_sem, r0, r1]
        · exact ((hbW.setCell (p := ⟨w.heap.size, 0, none⟩) (Nat.le_refl _) _).setCell (p := ⟨w.heap.size + 1, 0, none⟩) (by simp) _).trans (belowK_b (w := W2) (by omega) _ D _ _ hD hK2 rfl rfl)
      case stop =>
        rintro D c pre W hD hpre ⟨⟨rfl, hs, d0, d1⟩, hbW⟩ hK
        have hsum : sumP (xs.map (arrOf wd)) = none := by
          rw [← HYS.out]
          exact sumP_none (List.IsPrefix.map _ hpre) hs.out
        obtain ⟨a1, a2⟩ := al_over hE1.out wd0 wd1 hsum
        have A1 := Lib.hid a1
        have A2 := Lib.hid a2
        clear a1 a2 hsum hs hE
        gi_wp2
        refine ⟨by simp, .inl ⟨_, _, rfl, run_takeDeferred hK, ?_⟩⟩
        have r0 := cell_kept d0 (grownBy_putObj' _ D (.deferred none)) (fun r e => by cases e; exact ⟨_, hK, rfl⟩)
        have r1 := cell_kept d1 (grownBy_putObj' _ D (.deferred none)) (fun r e => by cases e; exact ⟨_, hK, rfl⟩)
        refine ⟨.tuple #[.int .i64 0, .int .i64 10], ?_, by rw [A1.out, A2.out], ?_⟩
        · simp [results, Tryd.f68, go_sem, r0, r1]
        · exact hbW.trans (belowK_b (w := W2) (by omega) _ D _ _ hD hK rfl rfl)
    · have aE : alE xs wd = 1 := by unfold alE; rw [if_neg (by omega), if_pos hwd]
      have aV : alV xs wd = 0 := by unfold alV; rw [if_pos (by omega)]
      have A1 := Lib.hid aE
      have A2 := Lib.hid aV
      have hwd' : wd < 0 ∨ 4503599627370496 < wd := by omega
      clear aE aV hwd
      rcases hwd' with hwd' | hwd'
      all_goals
        refine (callsIn_wide (n := 4)).1 ?_
        refine callsIn_of_wp_marks Tryd.func68 rfl trivial ?_ rfl
        simp only [Tryd.ntmps68, List.size_toArray, List.length_cons, List.length_nil, Nat.reduceAdd, Nat.reduceSub, Array.replicate_succ, Array.replicate_zero, List.push_toArray, List.append_toArray, List.nil_append, List.cons_append]
        gi_wp2_with fail
        refine ⟨trivial, ?_⟩
        refine (callsIn_wide.2 (dcheck_any A xs _ _ ((h.below (((Below.refl _ w).alloc (Nat.le_refl _) _).alloc (by simp) _)).mono (by simp; omega)) hl)).mono ?_
        rintro e w1 ⟨rfl, hb⟩
        obtain ⟨c0, f0, c1, f1, hsz, hbw⟩ := two_box hb
        clear hb
        gi_wp2
        refine ⟨.tuple #[.int .i64 0, .int .i64 1], ?_, by rw [A1.out, A2.out], (hbw.setCell (p := ⟨w.heap.size, 0, none⟩) (Nat.le_refl _) _).setCell (p := ⟨w.heap.size + 1, 0, none⟩) (by simp) _⟩
        have r0 := set2_first (b := w.heap.size) (b' := w.heap.size + 1) (by omega) c0 (.int .i64 0) (.int .i64 1)
        have r1 := set2_second (b := w.heap.size) (b' := w.heap.size + 1) (by omega) c1 (.int .i64 0) (.int .i64 1)
        simp [results, Tryd.f68, go_sem, r0, r1]
  · have hE2 : ldsE xs = 2 := lds_two hE
    have aE : alE xs wd = 2 := by unfold alE; rw [if_pos hE]
    have aV : alV xs wd = 0 := by unfold alV; rw [if_pos (by omega)]
    have A1 := Lib.hid aE
    have A2 := Lib.hid aV
    clear aE aV hE
    refine (callsIn_wide (n := 4)).1 ?_
    refine callsIn_of_wp_marks Tryd.func68 rfl trivial ?_ rfl
    simp only [Tryd.ntmps68, List.size_toArray, List.length_cons, List.length_nil, Nat.reduceAdd, Nat.reduceSub, Array.replicate_succ, Array.replicate_zero, List.push_toArray, List.append_toArray, List.nil_append, List.cons_append]
    gi_wp2_with fail
    refine ⟨trivial, ?_⟩
    refine (callsIn_wide.2 (dcheck_any A xs _ _ ((h.below (((Below.refl _ w).alloc (Nat.le_refl _) _).alloc (by simp) _)).mono (by simp; omega)) hl)).mono ?_
    rintro e w1 ⟨rfl, hb⟩
    obtain ⟨c0, f0, c1, f1, hsz, hbw⟩ := two_box hb
    clear hb
    gi_wp2
    all_goals
      refine ⟨.tuple #[.int .i64 0, .int .i64 2], ?_, by rw [A1.out, A2.out], (hbw.setCell (p := ⟨w.heap.size, 0, none⟩) (Nat.le_refl _) _).setCell (p := ⟨w.heap.size + 1, 0, none⟩) (by simp) _⟩
      have r0 := set2_first (b := w.heap.size) (b' := w.heap.size + 1) (by omega) c0 (.int .i64 0) (.int .i64 2)
      have r1 := set2_second (b := w.heap.size) (b' := w.heap.size + 1) (by omega) c1 (.int .i64 0) (.int .i64 2)
      simp [results, Tryd.f68, go_sem, r0, r1]
end Go.Proofs.YtfneloplbkjbhaaDoor
namespace Go.Proofs.YtfneloplbkjbhaaDoor
open Go.RowKit
set_option linter.unusedVariables false

theorem r4_newn (w : World) (n : Nat) (hn : w.heap.size = n) (xs : List Q4) (T : TypeId) (fr : Nat × Nat) : R4 (w.alloc (.cells (xs.flatMap Q4.cells).toArray T fr)) (w.alloc (.cells (xs.flatMap Q4.cells).toArray T fr)).heap.size (some ⟨n, 0, none⟩) xs := by
  rw [← hn]; exact r4_new w xs T fr
end Go.Proofs.YtfneloplbkjbhaaDoor
