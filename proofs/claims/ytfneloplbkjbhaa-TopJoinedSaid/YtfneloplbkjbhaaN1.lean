/-
  Configurations: tasks, lines, threads in memory; what is looked at of each: the walks of shot.Check, vet.within, change, many, task.
-/
import Derived.Test.YtfneloplbkjbhaaGT
import Derived.Test.YtfneloplbkjbhaaLod3
namespace Go.Proofs.Ytfneloplbkjbhaa
open Go.RowKit
set_option linter.unusedVariables false
structure Tk where
  k : Int
  p : Int
  b : Int
  c : Int
  d : Int
  e : Int
  f : Int
  g : Int
  h : Int
  i : Int
instance : Inhabited Tk := ⟨⟨0, 0, 0, 0, 0, 0, 0, 0, 0, 0⟩⟩
def Tk.cells (t : Tk) : List Value := [.int .u8 t.k, .int .i64 t.p, .int .i64 t.b, .int .i64 t.c, .int .i64 t.d, .int .i64 t.e, .int .i64 t.f, .int .i64 t.g, .int .i64 t.h, .int .i64 t.i]
abbrev Tk.arr (t : Tk) : Array Value := #[.int .u8 t.k, .int .i64 t.p, .int .i64 t.b, .int .i64 t.c, .int .i64 t.d, .int .i64 t.e, .int .i64 t.f, .int .i64 t.g, .int .i64 t.h, .int .i64 t.i]
/-- Tasks in memory. -/
def RT (w : World) (B : Nat) (A : Option Addr) (ts : List Tk) : Prop :=
  0 < ts.length → ∃ b off, A = some ⟨b, off, none⟩ ∧ b < B ∧ ∀ j x o u, ts[j]? = some x → x.arr[o]? = some u → w.cell? ⟨b, off + j * 10 + o, none⟩ = some u
theorem RT.below {w w' : World} {B : Nat} {A : Option Addr} {ts : List Tk} (h : RT w B A ts) (hb : Below B w w') : RT w' B A ts := fun h0 => by
  obtain ⟨b, off, e, h1, h2⟩ := h h0
  exact ⟨b, off, e, h1, fun j x o u hj ho => (hb.cell (p := ⟨b, off + j * 10 + o, none⟩) h1).trans (h2 j x o u hj ho)⟩
theorem RT.mono {w : World} {B B' : Nat} {A : Option Addr} {ts : List Tk} (h : RT w B A ts) (hB : B ≤ B') : RT w B' A ts := fun h0 => by
  obtain ⟨b, off, e, h1, h2⟩ := h h0
  exact ⟨b, off, e, Nat.lt_of_lt_of_le h1 hB, h2⟩
/-- A configuration. -/
structure Cf where
  mn : Int
  mx : Int
  sw : Int
  ts : List Tk
  ls : List Q4
  hs : List Q4
/-- A configuration in memory: its value. -/
structure CV (w : World) (B : Nat) (c : Cf) (cs : Array Value) : Prop where
  of ::
  mx : -9223372036854775808 ≤ c.mx
  pw : ∀ t ∈ c.ts, (Lit.int .i64 t.p).wf = true
  hw : ∀ x ∈ c.hs, (Lit.int .i64 x.a).wf = true
  tl : c.ts.length ≤ 2199023255552
  ll : c.ls.length ≤ 8796093022208
  hl : c.hs.length ≤ 8796093022208
  x : ∃ At ct Al cl Ah ch, cs = #[.int .i64 c.mn, .int .i64 c.mx, .int .i64 c.sw, .slice At c.ts.length ct, .slice Al c.ls.length cl, .slice Ah c.hs.length ch] ∧ RT w B At c.ts ∧ R4 w B Al c.ls ∧ R4 w B Ah c.hs
theorem CV.below {w w' : World} {B : Nat} {c : Cf} {cs : Array Value} (h : CV w B c cs) (hb : Below B w w') : CV w' B c cs := by
  obtain ⟨At, ct, Al, cl, Ah, ch, e, h1, h2, h3⟩ := h.x
  exact ⟨h.mx, h.pw, h.hw, h.tl, h.ll, h.hl, At, ct, Al, cl, Ah, ch, e, h1.below hb, h2.below hb, h3.below hb⟩
theorem CV.mono {w : World} {B B' : Nat} {c : Cf} {cs : Array Value} (h : CV w B c cs) (hB : B ≤ B') : CV w B' c cs := by
  obtain ⟨At, ct, Al, cl, Ah, ch, e, h1, h2, h3⟩ := h.x
  exact ⟨h.mx, h.pw, h.hw, h.tl, h.ll, h.hl, At, ct, Al, cl, Ah, ch, e, h1.mono hB, h2.mono hB, h3.mono hB⟩
theorem CV.next {w w' : World} {c : Cf} {cs : Array Value} (h : CV w w.heap.size c cs) (hb : Below w.heap.size w w') : CV w' w'.heap.size c cs := (h.below hb).mono hb.size
/-! What is looked at. -/
def inB (n lo hi : Int) : Bool := decide (lo ≤ n ∧ n ≤ hi)
theorem within_any (n lo hi : Int) (w : World) : Calls Try.prog 41 #[.int .i64 n, .int .i64 lo, .int .i64 hi] w fun e w' => e = .returned (.bool (inB n lo hi)) ∧ w = w' := by
  go_enter Try.func41, Try.ntmps41
  go_wp2
  all_goals go_ret
  all_goals exact ⟨ret_dec (by simp <;> omega), rfl⟩
def tmE (mn mx : Int) : Int := if 1 ≤ mn ∧ mx < 2147483648 ∧ 2 * mn ≤ mx then 0 else 2
set_option maxHeartbeats 1000000 in
theorem tcheck_any (mn mx : Int) (hx : -9223372036854775808 ≤ mx) (w : World) : Calls Try.prog 29 #[.agg #[.int .i64 mn, .int .i64 mx]] w fun e w' => e = .returned (.int .i64 (tmE mn mx)) ∧ Below w.heap.size w w' := by
  by_cases h0 : 0 ≤ mx
  · go_enter Try.func29, Try.ntmps29
    go_wp2
    all_goals go_ret
    all_goals exact ⟨ret_i (by unfold tmE; omega), below_box _ _⟩
  · have ht : mx.tdiv 2 ≤ 0 := by
      have := Int.neg_tdiv (-mx) 2
      rw [Int.neg_neg] at this
      rw [this, Int.tdiv_eq_ediv_of_nonneg (by omega)]
      omega
    have ht2 : -9223372036854775808 ≤ mx.tdiv 2 := by
      have := Int.neg_tdiv (-mx) 2
      rw [Int.neg_neg] at this
      rw [this, Int.tdiv_eq_ediv_of_nonneg (by omega)]
      omega
    have hw := IntWalk.wrap64_in (mx.tdiv 2) (by omega)
    go_enter Try.func29, Try.ntmps29
    go_wp2
    all_goals go_ret
    all_goals exact ⟨ret_i (by unfold tmE; omega), below_box _ _⟩
def chE (sw : Int) : Int := if 0 ≤ sw ∧ sw ≤ 1099511627776 then 0 else 1
def maE (c : Cf) : Int := if 1 ≤ c.ts.length ∧ c.ts.length ≤ 32 ∧ c.ls.length ≤ 64 ∧ c.hs.length = c.ls.length then 0 else 1
theorem change_any (c : Cf) (cs : Array Value) (w : World) (B : Nat) (h : CV w B c cs) : Calls Try.prog 30 #[.agg cs] w fun e w' => e = .returned (.int .i64 (chE c.sw)) ∧ Below w.heap.size w w' := by
  obtain ⟨At, ct, Al, cl, Ah, ch, rfl, _⟩ := h.x
  obtain ⟨sw, hsw⟩ : ∃ sw, sw = c.sw := ⟨_, rfl⟩
  rw [← hsw]
  clear hsw h
  by_cases hc : 0 ≤ sw ∧ sw ≤ 1099511627776
  · have hb : inB sw 0 1099511627776 = true := decide_eq_true hc
    go_enter Try.func30, Try.ntmps30
    go_wp2_with ((go_at_call 41; refine (within_any _ _ _ _).mono ?_; rintro e w' ⟨rfl, rfl⟩))
    go_ret
    exact ⟨ret_i (by unfold chE; rw [if_pos hc]), below_box _ _⟩
  · have hb : inB sw 0 1099511627776 = false := decide_eq_false hc
    go_enter Try.func30, Try.ntmps30
    go_wp2_with ((go_at_call 41; refine (within_any _ _ _ _).mono ?_; rintro e w' ⟨rfl, rfl⟩))
    go_ret
    exact ⟨ret_i (by unfold chE; rw [if_neg hc]), below_box _ _⟩
set_option maxHeartbeats 1000000 in
theorem many_any (c : Cf) (cs : Array Value) (w : World) (B : Nat) (h : CV w B c cs) : Calls Try.prog 31 #[.agg cs] w fun e w' => e = .returned (.int .i64 (maE c)) ∧ Below w.heap.size w w' := by
  obtain ⟨At, ct, Al, cl, Ah, ch, rfl, _⟩ := h.x
  obtain ⟨n, hn⟩ : ∃ n, n = c.ts.length := ⟨_, rfl⟩
  obtain ⟨m, hm⟩ : ∃ m, m = c.ls.length := ⟨_, rfl⟩
  obtain ⟨k, hk⟩ : ∃ k, k = c.hs.length := ⟨_, rfl⟩
  have HE := Kept.mk (show maE c = if 1 ≤ n ∧ n ≤ 32 ∧ m ≤ 64 ∧ k = m then 0 else 1 by unfold maE; rw [hn, hm, hk])
  rw [← hn, ← hm, ← hk]
  clear hn hm hk h
  by_cases h1 : 1 ≤ n ∧ n ≤ 32
  · have hb : inB (n : Int) 1 32 = true := decide_eq_true (by omega)
    by_cases h2 : 64 < m
    · have d2 : decide ((64 : Int) < (m : Int)) = true := decide_eq_true (by omega)
      have HF := Kept.mk (HE.out.trans (if_neg (by omega)))
      clear h1 h2
      go_enter Try.func31, Try.ntmps31
      go_wp2_with ((go_at_call 41; refine (within_any _ _ _ _).mono ?_; rintro e w' ⟨rfl, rfl⟩))
      go_ret
      exact ⟨ret_i HF.out.symm, below_box _ _⟩
    · have d2 : decide ((64 : Int) < (m : Int)) = false := decide_eq_false (by omega)
      by_cases h3 : k = m
      · have HF := Kept.mk (HE.out.trans (if_pos (by omega)))
        subst h3
        have d3 : ((k : Int) != (k : Int)) = false := by simp
        clear h1 h2
        go_enter Try.func31, Try.ntmps31
        go_wp2_with ((go_at_call 41; refine (within_any _ _ _ _).mono ?_; rintro e w' ⟨rfl, rfl⟩))
        go_ret
        exact ⟨ret_i HF.out.symm, below_box _ _⟩
      · have HF := Kept.mk (HE.out.trans (if_neg (by omega)))
        have d3 : ((k : Int) != (m : Int)) = true := by simp; omega
        have d4 : (k != m) = true := by simp [h3]
        clear h1 h2 h3
        go_enter Try.func31, Try.ntmps31
        go_wp2_with ((go_at_call 41; refine (within_any _ _ _ _).mono ?_; rintro e w' ⟨rfl, rfl⟩))
        go_ret
        exact ⟨ret_i HF.out.symm, below_box _ _⟩
  · have hb : inB (n : Int) 1 32 = false := decide_eq_false (by omega)
    have HF := Kept.mk (HE.out.trans (if_neg (by omega)))
    clear h1
    go_enter Try.func31, Try.ntmps31
    go_wp2_with ((go_at_call 41; refine (within_any _ _ _ _).mono ?_; rintro e w' ⟨rfl, rfl⟩))
    go_ret
    exact ⟨ret_i HF.out.symm, below_box _ _⟩
/-- Why a task is not right. -/
def tkE (t : Tk) (sw : Int) : Int :=
  if ¬ (t.k = 1 ∨ t.k = 2) then 2
  else if ¬ (0 ≤ t.p ∧ t.p ≤ 63 ∧ 1 ≤ t.f ∧ t.f ≤ 16 ∧ t.g < 16) then 1
  else if ¬ (1 ≤ t.b ∧ t.b ≤ 1099511627776 ∧ 0 ≤ t.c ∧ t.c ≤ 1099511627776 ∧ 1 ≤ t.d ∧ t.d ≤ 1099511627776) then 1
  else if t.k = 2 ∧ 0 < t.c then 1
  else if t.b < t.d then 11
  else if ¬ (1 ≤ t.e ∧ t.e ≤ t.d ∧ sw ≤ t.d - t.e) then 14
  else if 0 ≤ t.g ∧ ¬ (0 ≤ t.h ∧ t.h < t.i ∧ t.i ≤ t.e) then 14 else 0
set_option maxRecDepth 100000 in
set_option maxHeartbeats 8000000 in
theorem task_any (t : Tk) (sw : Int) (w : World) : Calls Try.prog 32 #[.agg t.arr, .int .i64 sw] w fun e w' => e = .returned (.int .i64 (tkE t sw)) ∧ Below w.heap.size w w' := by
  obtain ⟨k, p, b, c, d, e, f, g, h, i⟩ := t
  by_cases hk : k = 1 ∨ k = 2
  · rcases hk with rfl | rfl
    · have H := Kept.mk trivial
      by_cases q0 : 0 ≤ p ∧ p ≤ 63
      · have r0 : inB p 0 63 = true := decide_eq_true q0
        replace H := Kept.mk (And.intro H.out q0)
        clear q0
        by_cases q1 : 1 ≤ f ∧ f ≤ 16
        · have r1 : inB f 1 16 = true := decide_eq_true q1
          replace H := Kept.mk (And.intro H.out q1)
          clear q1
          by_cases q2 : g < 16
          · have r2 : decide (16 ≤ g) = false := decide_eq_false (by omega)
            replace H := Kept.mk (And.intro H.out q2)
            clear q2
            by_cases q3 : 1 ≤ b ∧ b ≤ 1099511627776
            · have r3 : inB b 1 1099511627776 = true := decide_eq_true q3
              replace H := Kept.mk (And.intro H.out q3)
              clear q3
              by_cases q4 : 0 ≤ c ∧ c ≤ 1099511627776
              · have r4 : inB c 0 1099511627776 = true := decide_eq_true q4
                replace H := Kept.mk (And.intro H.out q4)
                clear q4
                by_cases q5 : 1 ≤ d ∧ d ≤ 1099511627776
                · have r5 : inB d 1 1099511627776 = true := decide_eq_true q5
                  replace H := Kept.mk (And.intro H.out q5)
                  clear q5
                  by_cases q6 : d ≤ b
                  · have r6 : decide (b < d) = false := decide_eq_false (by omega)
                    replace H := Kept.mk (And.intro H.out q6)
                    clear q6
                    by_cases q7 : 1 ≤ e ∧ e ≤ d
                    · have r7 : inB e 1 d = true := decide_eq_true q7
                      replace H := Kept.mk (And.intro H.out q7)
                      clear q7
                      have rw1 : wrap64 (d - e) = d - e := IntWalk.wrap64_in _ (by have := H.out; omega)
                      by_cases q8 : sw ≤ d - e
                      · have r8 : decide (d - e < sw) = false := decide_eq_false (by omega)
                        replace H := Kept.mk (And.intro H.out q8)
                        clear q8
                        by_cases q9 : 0 ≤ g
                        · have r9 : decide (0 ≤ g) = true := decide_eq_true q9
                          replace H := Kept.mk (And.intro H.out q9)
                          clear q9
                          by_cases q10 : 0 ≤ h
                          · have r10 : decide (h < 0) = false := decide_eq_false (by omega)
                            replace H := Kept.mk (And.intro H.out q10)
                            clear q10
                            by_cases q11 : h < i
                            · have r11 : decide (i ≤ h) = false := decide_eq_false (by omega)
                              replace H := Kept.mk (And.intro H.out q11)
                              clear q11
                              by_cases q12 : i ≤ e
                              · have r12 : decide (e < i) = false := decide_eq_false (by omega)
                                replace H := Kept.mk (And.intro H.out q12)
                                clear q12
                                have HF := Kept.mk (show tkE ⟨1, p, b, c, d, e, f, g, h, i⟩ sw = 0 by have := H.out; unfold tkE; dsimp only; omega)
                                clear H
                                go_enter Try.func32, Try.ntmps32
                                go_wp2_with ((go_at_call 41; refine (within_any _ _ _ _).mono ?_; rintro e w' ⟨rfl, rfl⟩))
                                go_ret
                                exact ⟨ret_i HF.out.symm, below_box _ _⟩
                              · have r12 : decide (e < i) = true := decide_eq_true (by omega)
                                replace H := Kept.mk (And.intro H.out q12)
                                clear q12
                                have HF := Kept.mk (show tkE ⟨1, p, b, c, d, e, f, g, h, i⟩ sw = 14 by have := H.out; unfold tkE; dsimp only; omega)
                                clear H
                                go_enter Try.func32, Try.ntmps32
                                go_wp2_with ((go_at_call 41; refine (within_any _ _ _ _).mono ?_; rintro e w' ⟨rfl, rfl⟩))
                                go_ret
                                exact ⟨ret_i HF.out.symm, below_box _ _⟩
                            · have r11 : decide (i ≤ h) = true := decide_eq_true (by omega)
                              replace H := Kept.mk (And.intro H.out q11)
                              clear q11
                              have HF := Kept.mk (show tkE ⟨1, p, b, c, d, e, f, g, h, i⟩ sw = 14 by have := H.out; unfold tkE; dsimp only; omega)
                              clear H
                              go_enter Try.func32, Try.ntmps32
                              go_wp2_with ((go_at_call 41; refine (within_any _ _ _ _).mono ?_; rintro e w' ⟨rfl, rfl⟩))
                              go_ret
                              exact ⟨ret_i HF.out.symm, below_box _ _⟩
                          · have r10 : decide (h < 0) = true := decide_eq_true (by omega)
                            replace H := Kept.mk (And.intro H.out q10)
                            clear q10
                            have HF := Kept.mk (show tkE ⟨1, p, b, c, d, e, f, g, h, i⟩ sw = 14 by have := H.out; unfold tkE; dsimp only; omega)
                            clear H
                            go_enter Try.func32, Try.ntmps32
                            go_wp2_with ((go_at_call 41; refine (within_any _ _ _ _).mono ?_; rintro e w' ⟨rfl, rfl⟩))
                            go_ret
                            exact ⟨ret_i HF.out.symm, below_box _ _⟩
                        · have r9 : decide (0 ≤ g) = false := decide_eq_false q9
                          replace H := Kept.mk (And.intro H.out q9)
                          clear q9
                          have HF := Kept.mk (show tkE ⟨1, p, b, c, d, e, f, g, h, i⟩ sw = 0 by have := H.out; unfold tkE; dsimp only; omega)
                          clear H
                          go_enter Try.func32, Try.ntmps32
                          go_wp2_with ((go_at_call 41; refine (within_any _ _ _ _).mono ?_; rintro e w' ⟨rfl, rfl⟩))
                          go_ret
                          exact ⟨ret_i HF.out.symm, below_box _ _⟩
                      · have r8 : decide (d - e < sw) = true := decide_eq_true (by omega)
                        replace H := Kept.mk (And.intro H.out q8)
                        clear q8
                        have HF := Kept.mk (show tkE ⟨1, p, b, c, d, e, f, g, h, i⟩ sw = 14 by have := H.out; unfold tkE; dsimp only; omega)
                        clear H
                        go_enter Try.func32, Try.ntmps32
                        go_wp2_with ((go_at_call 41; refine (within_any _ _ _ _).mono ?_; rintro e w' ⟨rfl, rfl⟩))
                        go_ret
                        exact ⟨ret_i HF.out.symm, below_box _ _⟩
                    · have r7 : inB e 1 d = false := decide_eq_false q7
                      replace H := Kept.mk (And.intro H.out q7)
                      clear q7
                      have HF := Kept.mk (show tkE ⟨1, p, b, c, d, e, f, g, h, i⟩ sw = 14 by have := H.out; unfold tkE; dsimp only; omega)
                      clear H
                      go_enter Try.func32, Try.ntmps32
                      go_wp2_with ((go_at_call 41; refine (within_any _ _ _ _).mono ?_; rintro e w' ⟨rfl, rfl⟩))
                      go_ret
                      exact ⟨ret_i HF.out.symm, below_box _ _⟩
                  · have r6 : decide (b < d) = true := decide_eq_true (by omega)
                    replace H := Kept.mk (And.intro H.out q6)
                    clear q6
                    have HF := Kept.mk (show tkE ⟨1, p, b, c, d, e, f, g, h, i⟩ sw = 11 by have := H.out; unfold tkE; dsimp only; omega)
                    clear H
                    go_enter Try.func32, Try.ntmps32
                    go_wp2_with ((go_at_call 41; refine (within_any _ _ _ _).mono ?_; rintro e w' ⟨rfl, rfl⟩))
                    go_ret
                    exact ⟨ret_i HF.out.symm, below_box _ _⟩
                · have r5 : inB d 1 1099511627776 = false := decide_eq_false q5
                  replace H := Kept.mk (And.intro H.out q5)
                  clear q5
                  have HF := Kept.mk (show tkE ⟨1, p, b, c, d, e, f, g, h, i⟩ sw = 1 by have := H.out; unfold tkE; dsimp only; omega)
                  clear H
                  go_enter Try.func32, Try.ntmps32
                  go_wp2_with ((go_at_call 41; refine (within_any _ _ _ _).mono ?_; rintro e w' ⟨rfl, rfl⟩))
                  go_ret
                  exact ⟨ret_i HF.out.symm, below_box _ _⟩
              · have r4 : inB c 0 1099511627776 = false := decide_eq_false q4
                replace H := Kept.mk (And.intro H.out q4)
                clear q4
                have HF := Kept.mk (show tkE ⟨1, p, b, c, d, e, f, g, h, i⟩ sw = 1 by have := H.out; unfold tkE; dsimp only; omega)
                clear H
                go_enter Try.func32, Try.ntmps32
                go_wp2_with ((go_at_call 41; refine (within_any _ _ _ _).mono ?_; rintro e w' ⟨rfl, rfl⟩))
                go_ret
                exact ⟨ret_i HF.out.symm, below_box _ _⟩
            · have r3 : inB b 1 1099511627776 = false := decide_eq_false q3
              replace H := Kept.mk (And.intro H.out q3)
              clear q3
              have HF := Kept.mk (show tkE ⟨1, p, b, c, d, e, f, g, h, i⟩ sw = 1 by have := H.out; unfold tkE; dsimp only; omega)
              clear H
              go_enter Try.func32, Try.ntmps32
              go_wp2_with ((go_at_call 41; refine (within_any _ _ _ _).mono ?_; rintro e w' ⟨rfl, rfl⟩))
              go_ret
              exact ⟨ret_i HF.out.symm, below_box _ _⟩
          · have r2 : decide (16 ≤ g) = true := decide_eq_true (by omega)
            replace H := Kept.mk (And.intro H.out q2)
            clear q2
            have HF := Kept.mk (show tkE ⟨1, p, b, c, d, e, f, g, h, i⟩ sw = 1 by have := H.out; unfold tkE; dsimp only; omega)
            clear H
            go_enter Try.func32, Try.ntmps32
            go_wp2_with ((go_at_call 41; refine (within_any _ _ _ _).mono ?_; rintro e w' ⟨rfl, rfl⟩))
            go_ret
            exact ⟨ret_i HF.out.symm, below_box _ _⟩
        · have r1 : inB f 1 16 = false := decide_eq_false q1
          replace H := Kept.mk (And.intro H.out q1)
          clear q1
          have HF := Kept.mk (show tkE ⟨1, p, b, c, d, e, f, g, h, i⟩ sw = 1 by have := H.out; unfold tkE; dsimp only; omega)
          clear H
          go_enter Try.func32, Try.ntmps32
          go_wp2_with ((go_at_call 41; refine (within_any _ _ _ _).mono ?_; rintro e w' ⟨rfl, rfl⟩))
          go_ret
          exact ⟨ret_i HF.out.symm, below_box _ _⟩
      · have r0 : inB p 0 63 = false := decide_eq_false q0
        replace H := Kept.mk (And.intro H.out q0)
        clear q0
        have HF := Kept.mk (show tkE ⟨1, p, b, c, d, e, f, g, h, i⟩ sw = 1 by have := H.out; unfold tkE; dsimp only; omega)
        clear H
        go_enter Try.func32, Try.ntmps32
        go_wp2_with ((go_at_call 41; refine (within_any _ _ _ _).mono ?_; rintro e w' ⟨rfl, rfl⟩))
        go_ret
        exact ⟨ret_i HF.out.symm, below_box _ _⟩
    · have H := Kept.mk trivial
      by_cases q0 : 0 ≤ p ∧ p ≤ 63
      · have r0 : inB p 0 63 = true := decide_eq_true q0
        replace H := Kept.mk (And.intro H.out q0)
        clear q0
        by_cases q1 : 1 ≤ f ∧ f ≤ 16
        · have r1 : inB f 1 16 = true := decide_eq_true q1
          replace H := Kept.mk (And.intro H.out q1)
          clear q1
          by_cases q2 : g < 16
          · have r2 : decide (16 ≤ g) = false := decide_eq_false (by omega)
            replace H := Kept.mk (And.intro H.out q2)
            clear q2
            by_cases q3 : 1 ≤ b ∧ b ≤ 1099511627776
            · have r3 : inB b 1 1099511627776 = true := decide_eq_true q3
              replace H := Kept.mk (And.intro H.out q3)
              clear q3
              by_cases q4 : 0 ≤ c ∧ c ≤ 1099511627776
              · have r4 : inB c 0 1099511627776 = true := decide_eq_true q4
                replace H := Kept.mk (And.intro H.out q4)
                clear q4
                by_cases q5 : 1 ≤ d ∧ d ≤ 1099511627776
                · have r5 : inB d 1 1099511627776 = true := decide_eq_true q5
                  replace H := Kept.mk (And.intro H.out q5)
                  clear q5
                  by_cases q6 : c ≤ 0
                  · have r6 : decide (0 < c) = false := decide_eq_false (by omega)
                    replace H := Kept.mk (And.intro H.out q6)
                    clear q6
                    by_cases q7 : d ≤ b
                    · have r7 : decide (b < d) = false := decide_eq_false (by omega)
                      replace H := Kept.mk (And.intro H.out q7)
                      clear q7
                      by_cases q8 : 1 ≤ e ∧ e ≤ d
                      · have r8 : inB e 1 d = true := decide_eq_true q8
                        replace H := Kept.mk (And.intro H.out q8)
                        clear q8
                        have rw1 : wrap64 (d - e) = d - e := IntWalk.wrap64_in _ (by have := H.out; omega)
                        by_cases q9 : sw ≤ d - e
                        · have r9 : decide (d - e < sw) = false := decide_eq_false (by omega)
                          replace H := Kept.mk (And.intro H.out q9)
                          clear q9
                          by_cases q10 : 0 ≤ g
                          · have r10 : decide (0 ≤ g) = true := decide_eq_true q10
                            replace H := Kept.mk (And.intro H.out q10)
                            clear q10
                            by_cases q11 : 0 ≤ h
                            · have r11 : decide (h < 0) = false := decide_eq_false (by omega)
                              replace H := Kept.mk (And.intro H.out q11)
                              clear q11
                              by_cases q12 : h < i
                              · have r12 : decide (i ≤ h) = false := decide_eq_false (by omega)
                                replace H := Kept.mk (And.intro H.out q12)
                                clear q12
                                by_cases q13 : i ≤ e
                                · have r13 : decide (e < i) = false := decide_eq_false (by omega)
                                  replace H := Kept.mk (And.intro H.out q13)
                                  clear q13
                                  have HF := Kept.mk (show tkE ⟨2, p, b, c, d, e, f, g, h, i⟩ sw = 0 by have := H.out; unfold tkE; dsimp only; omega)
                                  clear H
                                  go_enter Try.func32, Try.ntmps32
                                  go_wp2_with ((go_at_call 41; refine (within_any _ _ _ _).mono ?_; rintro e w' ⟨rfl, rfl⟩))
                                  go_ret
                                  exact ⟨ret_i HF.out.symm, below_box _ _⟩
                                · have r13 : decide (e < i) = true := decide_eq_true (by omega)
                                  replace H := Kept.mk (And.intro H.out q13)
                                  clear q13
                                  have HF := Kept.mk (show tkE ⟨2, p, b, c, d, e, f, g, h, i⟩ sw = 14 by have := H.out; unfold tkE; dsimp only; omega)
                                  clear H
                                  go_enter Try.func32, Try.ntmps32
                                  go_wp2_with ((go_at_call 41; refine (within_any _ _ _ _).mono ?_; rintro e w' ⟨rfl, rfl⟩))
                                  go_ret
                                  exact ⟨ret_i HF.out.symm, below_box _ _⟩
                              · have r12 : decide (i ≤ h) = true := decide_eq_true (by omega)
                                replace H := Kept.mk (And.intro H.out q12)
                                clear q12
                                have HF := Kept.mk (show tkE ⟨2, p, b, c, d, e, f, g, h, i⟩ sw = 14 by have := H.out; unfold tkE; dsimp only; omega)
                                clear H
                                go_enter Try.func32, Try.ntmps32
                                go_wp2_with ((go_at_call 41; refine (within_any _ _ _ _).mono ?_; rintro e w' ⟨rfl, rfl⟩))
                                go_ret
                                exact ⟨ret_i HF.out.symm, below_box _ _⟩
                            · have r11 : decide (h < 0) = true := decide_eq_true (by omega)
                              replace H := Kept.mk (And.intro H.out q11)
                              clear q11
                              have HF := Kept.mk (show tkE ⟨2, p, b, c, d, e, f, g, h, i⟩ sw = 14 by have := H.out; unfold tkE; dsimp only; omega)
                              clear H
                              go_enter Try.func32, Try.ntmps32
                              go_wp2_with ((go_at_call 41; refine (within_any _ _ _ _).mono ?_; rintro e w' ⟨rfl, rfl⟩))
                              go_ret
                              exact ⟨ret_i HF.out.symm, below_box _ _⟩
                          · have r10 : decide (0 ≤ g) = false := decide_eq_false q10
                            replace H := Kept.mk (And.intro H.out q10)
                            clear q10
                            have HF := Kept.mk (show tkE ⟨2, p, b, c, d, e, f, g, h, i⟩ sw = 0 by have := H.out; unfold tkE; dsimp only; omega)
                            clear H
                            go_enter Try.func32, Try.ntmps32
                            go_wp2_with ((go_at_call 41; refine (within_any _ _ _ _).mono ?_; rintro e w' ⟨rfl, rfl⟩))
                            go_ret
                            exact ⟨ret_i HF.out.symm, below_box _ _⟩
                        · have r9 : decide (d - e < sw) = true := decide_eq_true (by omega)
                          replace H := Kept.mk (And.intro H.out q9)
                          clear q9
                          have HF := Kept.mk (show tkE ⟨2, p, b, c, d, e, f, g, h, i⟩ sw = 14 by have := H.out; unfold tkE; dsimp only; omega)
                          clear H
                          go_enter Try.func32, Try.ntmps32
                          go_wp2_with ((go_at_call 41; refine (within_any _ _ _ _).mono ?_; rintro e w' ⟨rfl, rfl⟩))
                          go_ret
                          exact ⟨ret_i HF.out.symm, below_box _ _⟩
                      · have r8 : inB e 1 d = false := decide_eq_false q8
                        replace H := Kept.mk (And.intro H.out q8)
                        clear q8
                        have HF := Kept.mk (show tkE ⟨2, p, b, c, d, e, f, g, h, i⟩ sw = 14 by have := H.out; unfold tkE; dsimp only; omega)
                        clear H
                        go_enter Try.func32, Try.ntmps32
                        go_wp2_with ((go_at_call 41; refine (within_any _ _ _ _).mono ?_; rintro e w' ⟨rfl, rfl⟩))
                        go_ret
                        exact ⟨ret_i HF.out.symm, below_box _ _⟩
                    · have r7 : decide (b < d) = true := decide_eq_true (by omega)
                      replace H := Kept.mk (And.intro H.out q7)
                      clear q7
                      have HF := Kept.mk (show tkE ⟨2, p, b, c, d, e, f, g, h, i⟩ sw = 11 by have := H.out; unfold tkE; dsimp only; omega)
                      clear H
                      go_enter Try.func32, Try.ntmps32
                      go_wp2_with ((go_at_call 41; refine (within_any _ _ _ _).mono ?_; rintro e w' ⟨rfl, rfl⟩))
                      go_ret
                      exact ⟨ret_i HF.out.symm, below_box _ _⟩
                  · have r6 : decide (0 < c) = true := decide_eq_true (by omega)
                    replace H := Kept.mk (And.intro H.out q6)
                    clear q6
                    have HF := Kept.mk (show tkE ⟨2, p, b, c, d, e, f, g, h, i⟩ sw = 1 by have := H.out; unfold tkE; dsimp only; omega)
                    clear H
                    go_enter Try.func32, Try.ntmps32
                    go_wp2_with ((go_at_call 41; refine (within_any _ _ _ _).mono ?_; rintro e w' ⟨rfl, rfl⟩))
                    go_ret
                    exact ⟨ret_i HF.out.symm, below_box _ _⟩
                · have r5 : inB d 1 1099511627776 = false := decide_eq_false q5
                  replace H := Kept.mk (And.intro H.out q5)
                  clear q5
                  have HF := Kept.mk (show tkE ⟨2, p, b, c, d, e, f, g, h, i⟩ sw = 1 by have := H.out; unfold tkE; dsimp only; omega)
                  clear H
                  go_enter Try.func32, Try.ntmps32
                  go_wp2_with ((go_at_call 41; refine (within_any _ _ _ _).mono ?_; rintro e w' ⟨rfl, rfl⟩))
                  go_ret
                  exact ⟨ret_i HF.out.symm, below_box _ _⟩
              · have r4 : inB c 0 1099511627776 = false := decide_eq_false q4
                replace H := Kept.mk (And.intro H.out q4)
                clear q4
                have HF := Kept.mk (show tkE ⟨2, p, b, c, d, e, f, g, h, i⟩ sw = 1 by have := H.out; unfold tkE; dsimp only; omega)
                clear H
                go_enter Try.func32, Try.ntmps32
                go_wp2_with ((go_at_call 41; refine (within_any _ _ _ _).mono ?_; rintro e w' ⟨rfl, rfl⟩))
                go_ret
                exact ⟨ret_i HF.out.symm, below_box _ _⟩
            · have r3 : inB b 1 1099511627776 = false := decide_eq_false q3
              replace H := Kept.mk (And.intro H.out q3)
              clear q3
              have HF := Kept.mk (show tkE ⟨2, p, b, c, d, e, f, g, h, i⟩ sw = 1 by have := H.out; unfold tkE; dsimp only; omega)
              clear H
              go_enter Try.func32, Try.ntmps32
              go_wp2_with ((go_at_call 41; refine (within_any _ _ _ _).mono ?_; rintro e w' ⟨rfl, rfl⟩))
              go_ret
              exact ⟨ret_i HF.out.symm, below_box _ _⟩
          · have r2 : decide (16 ≤ g) = true := decide_eq_true (by omega)
            replace H := Kept.mk (And.intro H.out q2)
            clear q2
            have HF := Kept.mk (show tkE ⟨2, p, b, c, d, e, f, g, h, i⟩ sw = 1 by have := H.out; unfold tkE; dsimp only; omega)
            clear H
            go_enter Try.func32, Try.ntmps32
            go_wp2_with ((go_at_call 41; refine (within_any _ _ _ _).mono ?_; rintro e w' ⟨rfl, rfl⟩))
            go_ret
            exact ⟨ret_i HF.out.symm, below_box _ _⟩
        · have r1 : inB f 1 16 = false := decide_eq_false q1
          replace H := Kept.mk (And.intro H.out q1)
          clear q1
          have HF := Kept.mk (show tkE ⟨2, p, b, c, d, e, f, g, h, i⟩ sw = 1 by have := H.out; unfold tkE; dsimp only; omega)
          clear H
          go_enter Try.func32, Try.ntmps32
          go_wp2_with ((go_at_call 41; refine (within_any _ _ _ _).mono ?_; rintro e w' ⟨rfl, rfl⟩))
          go_ret
          exact ⟨ret_i HF.out.symm, below_box _ _⟩
      · have r0 : inB p 0 63 = false := decide_eq_false q0
        replace H := Kept.mk (And.intro H.out q0)
        clear q0
        have HF := Kept.mk (show tkE ⟨2, p, b, c, d, e, f, g, h, i⟩ sw = 1 by have := H.out; unfold tkE; dsimp only; omega)
        clear H
        go_enter Try.func32, Try.ntmps32
        go_wp2_with ((go_at_call 41; refine (within_any _ _ _ _).mono ?_; rintro e w' ⟨rfl, rfl⟩))
        go_ret
        exact ⟨ret_i HF.out.symm, below_box _ _⟩
  · have d1 : (k != 1) = true := by simp; omega
    have d2 : (k != 2) = true := by simp; omega
    have HF := Kept.mk (show tkE ⟨k, p, b, c, d, e, f, g, h, i⟩ sw = 2 by unfold tkE; rw [if_pos hk])
    clear hk
    go_enter Try.func32, Try.ntmps32
    go_wp2
    go_ret
    exact ⟨ret_i HF.out.symm, below_box _ _⟩
end Go.Proofs.Ytfneloplbkjbhaa
