/-
  The law TopDrift: the parts of a number of cycles, one after another.
-/
import Derived.Test.YtakkfgkogomjbaaDoorP7
namespace Go.Proofs.YtakkfgkogomjbaaDoor
open Go.RowKit Go.Shelf
set_option linter.unusedVariables false
set_option linter.unusedSimpArgs false
attribute [local go_sem] Oper.semAt_some
/-- A part: from 1 to 2^30. -/
abbrev PK := {k : Int // 0 < k ∧ k ≤ 1073741824}
abbrev encU (x : PK) : Array Value := #[.int .u32 x.1]
def sumP (l : List PK) : Int := (l.map (·.1)).sum
theorem sumP_nil : sumP [] = 0 := rfl
theorem sumP_snoc (l : List PK) (x : PK) : sumP (l ++ [x]) = sumP l + x.1 := by simp [sumP]
theorem sumP_pos (l : List PK) : 0 ≤ sumP l := by
  induction l with
  | nil => exact Int.le_refl _
  | cons x r ih =>
    have : sumP (x :: r) = x.1 + sumP r := by simp [sumP]
    have := x.2
    omega
/-- What a round of such a loop keeps: what lies below n₀. -/
def KpB (n₀ : Nat) (W W' : World) : Prop := Below n₀ W W'
theorem KpB.trans {n₀ : Nat} {A B C : World} (h : KpB n₀ A B) (k : KpB n₀ B C) : KpB n₀ A C := Below.trans h k
theorem KpB.book {n₀ : Nat} {w : World} (hn : n₀ ≤ w.heap.size) (W : World) (l : Nat) (o o' : Obj) (hl : w.heap.size ≤ l) (h : W.heap[l]? = some o) (hc : o.isCells = false) (hw : o.isWalk = false) : KpB n₀ W (W.putObj l o') :=
  belowK_b hn W l o o' hl h hc hw
theorem parts_any (v : Int) (w : World) :
    Calls Tryd.prog 37 #[.int .i64 v] w fun e w' => e = .returned (.func (.func 59) #[] #[.pointer (some ⟨w.heap.size, 0, none⟩)]) ∧ w' = w.alloc (.cells #[.int .i64 v] 2) := by
  go_enter Tryd.func37, Tryd.ntmps37
  go_wp2
  go_ret
  exact ⟨rfl, rfl⟩
set_option maxHeartbeats 1000000 in
theorem parts_in (n : Nat) (hn : 1 ≤ n) (l B n₀ : Nat) (v : Int) (v0 : 0 ≤ v) (v1 : v ≤ 4503599627370496) (J Jx : List PK → World → Prop)
    (hY : ∀ pre x W, J pre W → pre.length < 4194305 → YieldAt Fence.wide (n - 1) Tryd.prog l (encU x) W fun e W' =>
      (e = .returned (.bool true) ∧ J (pre ++ [x]) W' ∧ KpB n₀ W W') ∨ (e = .returned (.bool false) ∧ Jx (pre ++ [x]) W'))
    (W : World) (hB : W.cell? ⟨B, 0, none⟩ = some (.int .i64 v)) (h0 : J [] W) :
    CallsIn Fence.wide n Tryd.prog 59 #[.func (.yield l) #[] #[], .pointer (some ⟨B, 0, none⟩)] W fun e W' => (∃ v, e = .returned v) ∧
      ((∃ xs, sumP xs = v ∧ J xs W') ∨ (∃ pre, True ∧ Jx pre W')) := by
  have HV := Kept.mk (And.intro v0 v1)
  clear v0 v1
  refine callsIn_of_wp Tryd.func59 rfl trivial ?_ rfl
  simp only [Tryd.ntmps59, List.size_toArray, List.length_cons, List.length_nil, Nat.reduceAdd, Nat.reduceSub, Array.replicate_succ, Array.replicate_zero, List.push_toArray, List.append_toArray, List.nil_append, List.cons_append]
  gi_wp2_with fail
  gi_loopw [3] (fun r wr => ∃ (pre : List PK) (rem : Int), Kept (0 ≤ rem ∧ sumP pre + rem = v ∧ (0 < rem → sumP pre = (pre.length : Int) * 1073741824)) ∧ r = .int .i64 rem ∧ J pre wr)
    (fun r _ => (intOf r).toNat)
  case atStart => exact ⟨[], v, ⟨HV.out.1, by rw [sumP_nil]; omega, fun _ => by simp [sumP_nil]⟩, rfl, h0⟩
  case round =>
    clear hB h0
    obtain ⟨pre, rem, hs, rfl, hj⟩ := hrel
    by_cases hp : 0 < rem
    · have d0 : decide (0 < rem) = true := decide_eq_true hp
      have hv := HV.out
      obtain ⟨h1, h2, h3⟩ := hs.out
      have h4 := h3 hp
      have hpl : pre.length < 4194305 := by omega
      clear hv h1 h2 h3 h4
      by_cases hle : rem ≤ 1073741824
      · have HP := Kept.mk hp
        have HL := Kept.mk hle
        obtain ⟨fn, tmps, assign, body, hy, hRd⟩ := hY _ ⟨rem, HP.out, HL.out⟩ _ hj hpl
        dsimp only [encU] at hy
        gi_wp2
        refine hRd.mono ?_
        rintro e W3 (⟨rfl, hJ3, hk3⟩ | ⟨rfl, hJx3⟩)
        · gi_wp2
          go_roundw
          case rel => exact ⟨_, 0, ⟨Int.le_refl _, by rw [sumP_snoc]; have := hs.out.2.1; simp only; omega, fun h => absurd h (by decide)⟩, by first | rfl | simp, hJ3⟩
          case measure => have := HP.out; simp [intOf]; omega
        · gi_wp2
          refine bodyPost_ret (results_none rfl _ _ _) rfl ?_
          exact ⟨⟨_, rfl⟩, .inr ⟨_, trivial, hJx3⟩⟩
      · obtain ⟨fn, tmps, assign, body, hy, hRd⟩ := hY _ ⟨1073741824, by decide, Int.le_refl _⟩ _ hj hpl
        dsimp only [encU] at hy
        have HL := Kept.mk hle
        have HV2 := HV.out.2
        have HS2 := hs.out.2.1
        have HSP := sumP_pos pre
        have hri : rem ≤ 4503599627370496 := by omega
        clear hp HV2 HS2 HSP
        gi_wp2
        refine hRd.mono ?_
        rintro e W3 (⟨rfl, hJ3, hk3⟩ | ⟨rfl, hJx3⟩)
        · gi_wp2
          go_roundw
          case rel =>
            have h0 := HL.out
            obtain ⟨q0, q1, q2⟩ := hs.out
            have q3 := q2 (by omega)
            exact ⟨_, rem - 1073741824, ⟨by omega, by rw [sumP_snoc]; simp only; omega, fun _ => by rw [sumP_snoc, List.length_append, List.length_singleton]; simp only; omega⟩, by first | rfl | go_num, hJ3⟩
          case measure => have := HL.out; simp [intOf]; omega
        · gi_wp2
          refine bodyPost_ret (results_none rfl _ _ _) rfl ?_
          exact ⟨⟨_, rfl⟩, .inr ⟨_, trivial, hJx3⟩⟩
    · obtain rfl : rem = 0 := by have := hs.out.1; omega
      have HS := Kept.mk (show sumP pre = v by have := hs.out.2.1; omega)
      clear hs hp
      gi_wp2
      go_end0
      exact ⟨⟨_, rfl⟩, .inl ⟨pre, HS.out, hj⟩⟩
theorem parts_stops (n : Nat) (hn : 1 ≤ n) (B n₀ : Nat) (v : Int) (v0 : 0 ≤ v) (v1 : v ≤ 4503599627370496) (w : World) (hB : w.cell? ⟨B, 0, none⟩ = some (.int .i64 v)) :
    SeqStopsK Fence.wide n Tryd.prog 59 #[.pointer (some ⟨B, 0, none⟩)] encU (KpB n₀) (fun l => sumP l = v) (fun pre => True) 4194305 w := fun l J Jx W hW hJ hJx hY h0 =>
  parts_in n hn l B n₀ v v0 v1 J Jx hY W ((hW.cell (p := ⟨B, 0, none⟩) (cell_lt hB)).trans hB) h0
end Go.Proofs.YtakkfgkogomjbaaDoor
