/-
  slices.Clone, ContainsFunc with the one function that the controller's check hands it; the counter's two functions.
-/
import Derived.Test.YtfneloplbkjbhaaGA
import Derived.Laws.AppendOwnNone
import Derived.Lib.SliceRun
import Derived.Deep.RegionWith
import Derived.Deep.RegionHeld3
import Derived.BigQuiet
import Derived.Laws.ResultCell
import Derived.OneCell
namespace Go.Proofs.Ytfneloplbkjbhaa
open Go.RowKit
set_option linter.unusedVariables false

/-- A fact put by, which nothing opens. -/
structure Kept (p : Prop) : Prop where
  out : p
theorem wpList_appI {P : Program} {w : World} {ops : Array Oper} {rest : List Oper} {o : Oper} {a : Act} {Q : Exit → Act → World → Prop} (hgd : o.guard = none) (s x : Operand) (t : TypeId)
    (ho : o.op = .call { callee := .builtin .append, args := #[s, x], argTypes := #[t, t] })
    (base : Nat) (e : TypeId) (i : TypeInfo) (z : Value) (bytes : Nat) (ht : P.underlying t = some (.slice e)) (hi : P.info? e = some i) (hz : i.zero = some z)
    (hsize : i.size = 1) (hby : i.bytes = bytes) (hzs : z.cells.size = 1)
    (v : Value) (n : Nat) (ys : List Int) (hs : a.eval s = v) (hown : w.ownsRow base e 1 v n (ys.map (Value.int .i64)))
    (A : Option Addr) (xs : List Int) (c B : Nat) (hx : a.eval x = .slice A xs.length c) (hR : Ints w B A xs) (hn : A = none → c = 0) (hmax : n + xs.length ≤ maxLen) (hlen : (n + xs.length) * bytes ≤ 140737488355328) (hbase : base ≤ w.heap.size)
    (h : ∀ v' w', w'.ownsRow base e 1 v' (n + xs.length) ((ys ++ xs).map (Value.int .i64)) → Below base w w' → wpList P ops Q rest (a.put o.dst v') w') : wpList P ops Q (o :: rest) a w := by
  cases A with
  | none =>
    have h0 : xs.length = 0 := by
      rcases Nat.eq_zero_or_pos xs.length with h0 | h0
      · exact h0
      · obtain ⟨_, _, e, _⟩ := hR h0; cases e
    have : xs = [] := List.eq_nil_of_length_eq_zero h0
    subst this
    refine wpList_append_own_none hgd s x t ho base e i 1 ht hi v n _ hs hown (by rw [hx, hn rfl]; rfl) ?_
    exact h v w (by simpa using hown) (Below.refl _ _)
  | some ad =>
    obtain ⟨b, off, ic⟩ := ad
    refine wpList_append_own w hgd s x t ho base e i z 1 bytes ht hi hz hsize hby hzs (by omega) v n _ hs hown ⟨b, off, ic⟩ xs.length c (xs.map (Value.int .i64)) hx (by simp) ?_ ?_ hmax hlen hbase ?_
    · intro j u hu
      have hj : j < xs.length := by
        have := (List.getElem?_eq_some_iff.1 hu).1
        simpa using this
      obtain ⟨b', off', e', hb, hc⟩ := hR (by omega)
      cases e'
      have hcj := hc j hj
      rw [add_at, hcj]
      rw [List.getElem?_map, List.getElem?_eq_getElem hj] at hu
      rw [List.getElem?_eq_getElem hj]
      simpa using hu
    · intro u hu
      obtain ⟨x, _, rfl⟩ := List.mem_map.1 hu
      rfl
    · intro v' w' hw hg _
      exact h v' w' (by rw [List.map_append]; exact hw) ((Below.refl _ _).grown hg hbase fun k hk => (hown.lt k hk).1)
/-- A slice freshly made, empty. -/
theorem own_made {e : TypeId} {base : Nat} (w : World) (n : Nat) (hn : n = w.heap.size) (hb : base ≤ n) : (w.alloc (.cells #[] e)).ownsRow base e 1 (.slice (some ⟨n, 0, none⟩) 0 0) 0 (([] : List Int).map (Value.int .i64)) := by
  subst hn
  exact World.ownsRow_made w #[] 0 hb (by decide) rfl
/-- A slice of one's own, as a result. -/
def OwnRes (w : World) (xs : List Int) (e : Ending) (w' : World) : Prop := ∃ v, e = .returned v ∧ w'.ownsRow w.heap.size 3 1 v xs.length (xs.map (Value.int .i64)) ∧ Below w.heap.size w w'
set_option maxHeartbeats 1000000 in
theorem clone_any (A : Option Addr) (xs : List Int) (cap : Nat) (w : World) (h : Ints w w.heap.size A xs) (hn : A = none → cap = 0) (hl : xs.length ≤ 17592186044416) :
    Calls Try.prog 54 #[.slice A xs.length cap] w (OwnRes w xs) := by
  obtain ⟨i0, hi, hz0, hz1, hz2⟩ := info_parts info_int
  have q22 : ∀ (w : World) (a : Option Addr) (n c n' c' : Nat), (binOp .eql 103 (.slice a n c) (.slice none n' c')).run Try.prog w = .ok (.bool a.isNone) w := fun w a n c n' c' => Lib.run_eql_slice_nil w _ _ a n c n' c' Try.underlying103
  unfold OwnRes
  cases A with
  | none =>
    have h0 : xs.length = 0 := by
      rcases Nat.eq_zero_or_pos xs.length with h0 | h0
      · exact h0
      · obtain ⟨_, _, e, _⟩ := h h0; cases e
    have hx : xs = [] := List.eq_nil_of_length_eq_zero h0
    subst hx
    rw [hn rfl]
    go_enter Try.func54, Try.ntmps54
    go_wp2
    exact bodyPost_ret (results_tmp rfl _ _ _) rfl ⟨_, rfl, World.ownsRow_nil _ _ _ _, Below.refl _ _⟩
  | some ad =>
    go_enter Try.func54, Try.ntmps54
    go_wp2_with (at_builtin; refine wpList_appI rfl _ _ 103 rfl w.heap.size 3 i0 (.int .i64 0) 8 Try.underlying103 hi hz0 hz1 hz2 rfl _ 0 [] rfl (own_made _ _ rfl (Nat.le_refl _)) (some ad) xs cap w.heap.size rfl (h.below ((Below.refl _ _).alloc (Nat.le_refl _) _)) (by simp) (by simp only [maxLen]; omega) (by omega) (by simp) ?_; intro v1 wa own1 hb1)
    exact bodyPost_ret (results_tmp rfl _ _ _) rfl ⟨_, rfl, by simpa using own1, ((Below.refl _ _).alloc (Nat.le_refl _) _).trans hb1⟩
theorem low_any (t : Int) (h0 : 0 ≤ t) (h1 : t < 9223372036854775808) (w : World) : Calls Try.prog 7 #[.int .i64 t] w fun e w' => e = .returned (.int .u32 (t % 4294967296)) ∧ w = w' := by
  go_enter Try.func7, Try.ntmps7
  go_wp2
  go_ret
  exact ⟨by first | rfl | (simp [IntKind.wrap]; omega), rfl⟩
theorem diff35 (w : World) : Calls Try.prog 8 #[.int .u32 3, .int .u32 5] w fun e w' => e = .returned (.int .i64 (-2)) ∧ w = w' := by
  go_enter Try.func8, Try.ntmps8
  go_wp2
  go_ret
  exact ⟨by first | rfl | exact ret_i (by decide +kernel) | exact ret_i (by unfold wrap64 wrap32; decide +kernel), rfl⟩
theorem begins_any (w : World) : Calls Try.prog 4 #[] w fun e w' => e = .returned (.bool true) ∧ w = w' := by
  go_enter Try.func4, Try.ntmps4
  go_wp2_with (first | (go_at_call 7; refine (low_any _ (by decide) (by decide) _).mono ?_; rintro e w' ⟨rfl, rfl⟩) | (go_at_call 8; refine (diff35 _).mono ?_; rintro e w' ⟨rfl, rfl⟩))
  go_ret
  exact ⟨by first | rfl | decide, rfl⟩
def oddP (p : Int) : Bool := decide (p < 1) || decide (15 < p)
theorem codd_any (p : Int) (w : World) : Calls Try.prog 62 #[.int .i64 p] w fun e w' => e = .returned (.bool (oddP p)) ∧ w = w' := by
  by_cases h1 : p < 1
  · go_enter Try.func62, Try.ntmps62
    go_wp2
    go_ret
    exact ⟨by simp [oddP, h1], rfl⟩
  · go_enter Try.func62, Try.ntmps62
    go_wp2
    go_ret
    exact ⟨by simp [oddP] <;> omega, rfl⟩
end Go.Proofs.Ytfneloplbkjbhaa
namespace Go.Proofs.Ytfneloplbkjbhaa
open Go.RowKit
set_option linter.unusedVariables false
def idx (xs : List Int) : Int := if xs.any oddP then (xs.findIdx oddP : Nat) else -1
set_option maxHeartbeats 1000000 in
theorem index_any (A : Option Addr) (xs : List Int) (cap : Nat) (w : World) (h : Ints w w.heap.size A xs) (hl : xs.length ≤ 17592186044416) :
    Calls Try.prog 63 #[.slice A xs.length cap, .func (.func 62) #[] #[]] w fun e w' => (∃ i : Int, e = .returned (.int .i64 i) ∧ (0 ≤ i ↔ xs.any oddP = true)) ∧ w = w' := by
  have li : (xs.length : Int) ≤ 17592186044416 := by omega
  go_enter Try.func63, Try.ntmps63
  go_wp2
  go_loop [8] (fun i => ∃ (k : Nat), k ≤ xs.length ∧ i = .int .i64 k ∧ Hid ((xs.take k).any oddP = false)) (fun i => xs.length - (intOf i).toNat)
  case atStart => exact ⟨0, by omega, rfl, rfl⟩
  case round =>
    obtain ⟨k, hk, rfl, hp⟩ := hrel
    by_cases hlt : k < xs.length
    · obtain ⟨b, off, rfl, hb, hc⟩ := h (by omega)
      obtain ⟨x, hx⟩ : ∃ x, xs[k]? = some x := ⟨xs[k], List.getElem?_eq_getElem hlt⟩
      have hcx := hc k hlt
      rw [hx, Option.getD_some] at hcx
      have ik : (k : Int) < (xs.length : Int) := by omega
      cases hod : oddP x with
      | true =>
        have hany : xs.any oddP = true := List.any_eq_true.2 ⟨x, List.mem_of_getElem? hx, hod⟩
        have HA := Kept.mk hany
        clear hany hx hp hc
        go_wp2_with ((go_at_call 62; refine (codd_any _ _).mono ?_; rintro e w' ⟨rfl, rfl⟩))
        go_ret
        exact ⟨⟨k, rfl, fun _ => HA.out, fun _ => by omega⟩, rfl⟩
      | false =>
        have hst : (xs.take (k + 1)).any oddP = false := by
          rw [List.take_add_one, hx, List.any_append, hp.out]
          simp [hod]
        have HS := Kept.mk hst
        clear hst hx hp hc
        go_wp2_with ((go_at_call 62; refine (codd_any _ _).mono ?_; rintro e w' ⟨rfl, rfl⟩))
        go_round
        case rel => exact ⟨k + 1, by omega, by go_num, HS.out⟩
        case measure => simp [intOf]; omega
    · have hall : xs.any oddP = false := by
        have := hp.out
        rwa [List.take_of_length_le (by omega)] at this
      have HA := Kept.mk hall
      clear hall hp
      go_wp2
      go_ret
      exact ⟨⟨-1, rfl, fun h => absurd h (by decide), fun h => by have := List.any_eq_true.2 h; rw [HA.out] at this; cases this⟩, rfl⟩
theorem contains_any (A : Option Addr) (xs : List Int) (cap : Nat) (w : World) (h : Ints w w.heap.size A xs) (hl : xs.length ≤ 17592186044416) :
    Calls Try.prog 59 #[.slice A xs.length cap, .func (.func 62) #[] #[]] w fun e w' => e = .returned (.bool (xs.any oddP)) ∧ w = w' := by
  have c := index_any A xs cap w h hl
  obtain ⟨a, ha⟩ : ∃ a, a = xs.any oddP := ⟨_, rfl⟩
  rw [← ha] at c ⊢
  go_enter Try.func59, Try.ntmps59
  go_wp2_with fail
  refine c.mono ?_
  rintro e w1 ⟨⟨i, rfl, hi⟩, rfl⟩
  clear c
  cases a with
  | true =>
    have h0 : 0 ≤ i := hi.2 rfl
    clear hi ha
    go_wp2
    go_ret
    refine ⟨?_, rfl⟩
    first | rfl | exact ret_bool (by simp <;> omega)
  | false =>
    have h0 : i < 0 := by
      rcases Int.lt_or_le i 0 with h | h
      · exact h
      · have := hi.1 h; cases this
    clear hi ha
    go_wp2
    go_ret
    refine ⟨?_, rfl⟩
    first | rfl | exact ret_bool (by simp <;> omega)
end Go.Proofs.Ytfneloplbkjbhaa
namespace Go.Proofs.Ytfneloplbkjbhaa
open Go.RowKit
set_option linter.unusedVariables false
/-- A controller's cells. -/
def iC (P E R D : Int) (v : Value) (t : Int) (s : Value) : Array Value := #[.int .u64 P, .int .u64 E, .int .u64 R, .int .u64 D, v, .int .i64 t, s]
def mk (xs : List Int) : Nat := btN 0 ((xs.length : Int) - 1)
theorem wf_i64 {x : Int} (h1 : -9223372036854775808 ≤ x) (h2 : x ≤ 9223372036854775807) : (Lit.int .i64 x).wf = true := by
  simp [Lit.wf, IntKind.min, IntKind.max, IntKind.signed, IntKind.bits]; omega
set_option maxHeartbeats 1000000 in
theorem lines_any (P E R D : Int) (A : Option Addr) (xs : List Int) (cap : Nat) (t : Int) (s : Value) (w : World) (hl : xs.length ≤ 17592186044416) :
    Calls Try.prog 55 #[.agg #[.int .u64 P, .int .u64 E, .int .u64 R, .int .u64 D, .slice A xs.length cap, .int .i64 t, s]] w fun e w' => e = .returned (.int .u64 (mk xs : Int)) ∧ Below w.heap.size w w' := by
  have li : (xs.length : Int) ≤ 17592186044416 := by omega
  go_enter Try.func55, Try.ntmps55
  go_wp2_with ((go_at_call 49; refine (between_any _ _ _ (wf_i64 (by omega) (by omega))).mono ?_; rintro e w' ⟨rfl, rfl⟩))
  go_ret
  exact ⟨rfl, below_box _ _⟩
end Go.Proofs.Ytfneloplbkjbhaa
namespace Go.Proofs.Ytfneloplbkjbhaa
open Go.RowKit
set_option linter.unusedVariables false
/-- The lines that are being served: at most one. -/
def StOk (xs st : List Int) : Prop := st.length ≤ 1 ∧ ∀ n, st[0]? = some n → 0 ≤ n ∧ n < (xs.length : Int)
theorem odd_range {xs : List Int} (h : xs.any oddP = false) (k : Nat) (hk : k < xs.length) : 1 ≤ xs[k]?.getD 0 ∧ xs[k]?.getD 0 ≤ 15 := by
  rw [List.getElem?_eq_getElem hk]
  have := List.any_eq_false.1 h _ (List.getElem_mem hk)
  simp [oddP] at this
  simp only [Option.getD_some]
  omega
structure MF (P M : Int) : Prop where
  or : bits .or .u64 (bits .or .u64 (bits .or .u64 P M) 0) M = M
  an : bits .andNot .u64 M M = 0
  z : bits .and .u64 0 M = 0
set_option maxHeartbeats 2000000 in
theorem check_any (P M : Int) (hm : MF P M) (A : Option Addr) (xs : List Int) (cap : Nat) (hM : M = (mk xs : Int)) (B : Option Addr) (st : List Int) (cap2 : Nat) (w : World)
    (h : Ints w w.heap.size A xs) (k : Ints w w.heap.size B st) (h1 : 1 ≤ xs.length) (h2 : xs.length ≤ 64) (hx : xs.any oddP = false) (hst : StOk xs st) :
    Calls Try.prog 56 #[.agg (iC P M 0 M (.slice A xs.length cap) 0 (.slice B st.length cap2))] w fun e w' => e = .returned (.int .i64 0) ∧ Below w.heap.size w w' := by
  have li : (xs.length : Int) ≤ 64 := by omega
  have l0 : ((xs.length : Int) == 0) = false := by rw [beq_eq_false_iff_ne]; omega
  have ls : (st.length : Int) ≤ 1 := by have := hst.1; omega
  obtain ⟨m1, m2, m3⟩ := hm
  have HM := Kept.mk hM
  have HX := Kept.mk hx
  have HS := Kept.mk hst
  clear hM hx hst
  have hh := h.below ((Below.refl _ _).alloc (Nat.le_refl _) (.cells (iC P M 0 M (.slice A xs.length cap) 0 (.slice B st.length cap2)) 107))
  unfold iC at *
  go_enter Try.func56, Try.ntmps56
  go_wp2_with (first
    | (go_at_call 59; refine (contains_any A xs cap _ (hh.mono (by simp)) (by omega)).mono ?_; rintro e w' ⟨rfl, rfl⟩; rw [HX.out])
    | (go_at_call 55; refine (lines_any _ _ _ _ _ _ _ _ _ _ (by omega)).mono ?_; rintro e w' ⟨rfl, hb⟩; rw [← HM.out]; have c2 := box_cell hb 2 _ rfl; have c3 := box_cell hb 3 _ rfl; have c4 := box_cell hb 4 _ rfl; have c5 := box_cell hb 5 _ rfl; have c6 := box_cell hb 6 _ rfl))
  go_loop [5, 63] (fun q i => ∃ (k : Nat) (z : Int), k ≤ st.length ∧ i = .int .i64 k ∧ q = .int .i64 z ∧ (k = 0 → z = 0)) (fun q i => st.length - (intOf i).toNat)
  case atStart => exact ⟨0, 0, by omega, rfl, rfl, fun _ => rfl⟩
  case round =>
    obtain ⟨j, z, hj, rfl, rfl, hz⟩ := hrel
    have hbw := hb.box (Nat.le_refl _)
    by_cases hlt : j < st.length
    · have J := Kept.mk (show j = 0 by omega)
      obtain rfl := hz J.out
      obtain ⟨b, off, rfl, hb1, hc1⟩ := (k.below hbw) (by omega)
      obtain ⟨n, hn⟩ : ∃ n, st[j]? = some n := ⟨st[j], List.getElem?_eq_getElem hlt⟩
      have hcx := hc1 j hlt
      rw [hn, Option.getD_some] at hcx
      have nb := HS.out.2 n (by rw [← hn, J.out])
      obtain ⟨m, rfl⟩ : ∃ m : Nat, n = m := ⟨n.toNat, by omega⟩
      obtain ⟨b2, off2, rfl, hb2, hc2⟩ := (h.below hbw) (by omega)
      have hcy := hc2 m (by omega)
      have hy := odd_range HX.out m (by omega)
      obtain ⟨y, hyy⟩ : ∃ y, y = xs[m]?.getD 0 := ⟨_, rfl⟩
      rw [← hyy] at hcy hy
      have ik : (j : Int) < (st.length : Int) := by omega
      clear hc1 hc2 hn hyy h k hh hz
      go_wp2
      go_round
      case rel => exact ⟨j + 1, y, by omega, by go_num, rfl, fun h => by omega⟩
      case measure => simp [intOf]; omega
    · have ik : ¬ ((j : Int) < (st.length : Int)) := by omega
      clear h k hh
      go_wp2
      go_ret
      exact ⟨rfl, hbw⟩
def Bad (xs : List Int) : Prop := xs.length = 0 ∨ 64 < xs.length ∨ xs.any oddP = true
set_option maxHeartbeats 2000000 in
theorem check_bad (P E R D : Int) (A : Option Addr) (xs : List Int) (cap : Nat) (s : Value) (w : World)
    (h : Ints w w.heap.size A xs) (hl : xs.length ≤ 17592186044416) (hB : Bad xs) :
    Calls Try.prog 56 #[.agg (iC P E R D (.slice A xs.length cap) 0 s)] w fun e w' => e = .returned (.int .i64 2) ∧ Below w.heap.size w w' := by
  have li : (xs.length : Int) ≤ 17592186044416 := by omega
  have HB := Kept.mk hB
  have hh := h.below ((Below.refl _ _).alloc (Nat.le_refl _) (.cells (iC P E R D (.slice A xs.length cap) 0 s) 107))
  unfold iC at *
  by_cases h0 : xs.length = 0
  · have l0 : ((xs.length : Int) == 0) = true := by rw [beq_iff_eq]; omega
    clear hB h0
    go_enter Try.func56, Try.ntmps56
    go_wp2
    go_ret
    exact ⟨rfl, below_box _ _⟩
  · have l0 : ((xs.length : Int) == 0) = false := by rw [beq_eq_false_iff_ne]; omega
    by_cases h64 : 64 < xs.length
    · have l1 : 64 < (xs.length : Int) := by omega
      clear hB h0 h64
      go_enter Try.func56, Try.ntmps56
      go_wp2
      go_ret
      exact ⟨rfl, below_box _ _⟩
    · have l1 : ¬ 64 < (xs.length : Int) := by omega
      have HX : Kept (xs.any oddP = true) := ⟨by rcases HB.out with h | h | h <;> first | exact h | omega⟩
      clear hB h0 h64
      go_enter Try.func56, Try.ntmps56
      go_wp2_with ((go_at_call 59; refine (contains_any A xs cap _ (hh.mono (by simp)) (by omega)).mono ?_; rintro e w' ⟨rfl, rfl⟩; rw [HX.out]))
      go_ret
      exact ⟨rfl, below_box _ _⟩
end Go.Proofs.Ytfneloplbkjbhaa
namespace Go.Proofs.Ytfneloplbkjbhaa
open Go.RowKit
set_option linter.unusedVariables false
/-- A controller: sets P and M, priorities xs, lines st being served. -/
structure IsC (w : World) (P M : Int) (xs st : List Int) (c : Value) : Prop where
  of : ∃ A cap B cap2, c = .agg (iC P M 0 M (.slice A xs.length cap) 0 (.slice B st.length cap2)) ∧ Ints w w.heap.size A xs ∧ Ints w w.heap.size B st ∧ (A = none → cap = 0) ∧ (B = none → cap2 = 0)
theorem own_mono {w : World} {base B : Nat} {e : TypeId} {sz n : Nat} {v : Value} {xs : List Value} (h : w.ownsRow base e sz v n xs) (hB : B ≤ base) : w.ownsRow B e sz v n xs := by
  obtain ⟨h1, h2⟩ := h
  refine ⟨h1, ?_⟩
  rcases h2 with h2 | ⟨g, cap, cur, e1, h3, h4⟩
  · exact .inl h2
  · exact .inr ⟨g, cap, cur, e1, Nat.le_trans hB h3, h4⟩
end Go.Proofs.Ytfneloplbkjbhaa
namespace Go.Proofs.Ytfneloplbkjbhaa
open Go.RowKit
set_option linter.unusedVariables false
/-- A desk's cells as they stand in a world. -/
structure DeskAt (W : World) (d : Nat) (P R D : Int) (M : Int) (v s : Value) : Prop where
  c0 : W.cell? ⟨d, 0, none⟩ = some (.int .u64 P)
  c1 : W.cell? ⟨d, 1, none⟩ = some (.int .u64 M)
  c2 : W.cell? ⟨d, 2, none⟩ = some (.int .u64 R)
  c3 : W.cell? ⟨d, 3, none⟩ = some (.int .u64 D)
  c4 : W.cell? ⟨d, 4, none⟩ = some v
  c5 : W.cell? ⟨d, 5, none⟩ = some (.int .i64 0)
  c6 : W.cell? ⟨d, 6, none⟩ = some s
theorem DeskAt.below {W W' : World} {B d : Nat} {P R D M : Int} {v s : Value} (h : DeskAt W d P R D M v s) (hb : Below B W W') (hd : d < B) : DeskAt W' d P R D M v s :=
  ⟨(hb.cell (p := (⟨d, 0, none⟩ : Addr)) hd).trans h.c0, (hb.cell (p := (⟨d, 1, none⟩ : Addr)) hd).trans h.c1, (hb.cell (p := (⟨d, 2, none⟩ : Addr)) hd).trans h.c2, (hb.cell (p := (⟨d, 3, none⟩ : Addr)) hd).trans h.c3, (hb.cell (p := (⟨d, 4, none⟩ : Addr)) hd).trans h.c4, (hb.cell (p := (⟨d, 5, none⟩ : Addr)) hd).trans h.c5, (hb.cell (p := (⟨d, 6, none⟩ : Addr)) hd).trans h.c6⟩
theorem shr_bit (M n : Nat) (hM : M < 18446744073709551616) : (bits .and .u64 ((M : Int) / 2 ^ n) 1 == 1) = M.testBit n := by
  have e : (M : Int) / 2 ^ n = ((M / 2 ^ n : Nat) : Int) := by simp
  rw [e, show (1 : Int) = ((1 : Nat) : Int) from rfl, u64_and_nat _ _ (Nat.lt_of_le_of_lt (Nat.div_le_self _ _) hM) (by omega), Nat.and_one_is_mod, bit_div]
  rw [Bool.eq_iff_iff, beq_iff_eq, decide_eq_true_iff]
  omega
end Go.Proofs.Ytfneloplbkjbhaa
namespace Go.Proofs.Ytfneloplbkjbhaa
open Go.RowKit
set_option linter.unusedVariables false
theorem own_nil {w : World} {base : Nat} {e : TypeId} {sz n c : Nat} {xs : List Value} {A : Option Addr} (h : w.ownsRow base e sz (.slice A n c) n xs) : A = none → c = 0 := by
  rintro rfl
  rcases h.2 with ⟨h2, _⟩ | ⟨g, cap, cur, e1, h3, h4⟩
  · cases h2; rfl
  · cases e1
theorem isC_own {wx w' : World} {P M : Int} {xs st : List Int} {B : Nat} {v s : Value} {e : TypeId} (h : wx.ownsRow B e 1 v xs.length (xs.map (Value.int .i64))) (k : wx.ownsRow B e 1 s st.length (st.map (Value.int .i64))) (hb : Below wx.heap.size wx w') :
    IsC w' P M xs st (.agg (iC P M 0 M v 0 s)) := by
  obtain ⟨A, c, rfl⟩ := own_slice h
  obtain ⟨A2, c2, rfl⟩ := own_slice k
  exact ⟨A, c, A2, c2, rfl, ((Ints.of_own h).2.below hb).mono hb.size, ((Ints.of_own k).2.below hb).mono hb.size, own_nil h, own_nil k⟩
/-- A controller's rows lie from B on. -/
def RowsFrom (B : Nat) (c : Value) : Prop := ∃ P E R D v t s, c = .agg (iC P E R D v t s) ∧ (∀ g, v.ownBlock = some g → B ≤ g) ∧ (∀ g, s.ownBlock = some g → B ≤ g)
theorem rows_own {w : World} {B B1 B2 : Nat} {e : TypeId} {P E R D t : Int} {v s : Value} {n m : Nat} {xs ys : List Value} (h : w.ownsRow B1 e 1 v n xs) (k : w.ownsRow B2 e 1 s m ys) (h1 : B ≤ B1) (h2 : B ≤ B2) : RowsFrom B (.agg (iC P E R D v t s)) :=
  ⟨P, E, R, D, v, t, s, rfl, fun g hg => Nat.le_trans h1 (h.lt g hg).1, fun g hg => Nat.le_trans h2 (k.lt g hg).1⟩
/-- A controller, and nothing else, comes back. -/
def CRes (w : World) (P M : Int) (xs st : List Int) (rest : List Value) (e : Ending) (w' : World) : Prop :=
  ∃ c, e = .returned (.tuple (c :: rest).toArray) ∧ IsC w' P M xs st c ∧ Below w.heap.size w w' ∧ RowsFrom w.heap.size c
structure DeskF (w w' : World) (d : Nat) (P M : Int) (xs st : List Int) (A : Option Addr) (cap : Nat) (B : Option Addr) (cap2 : Nat) : Prop where
  cells : DeskAt w' d P 0 M M (.slice A xs.length cap) (.slice B st.length cap2)
  fr : ∀ i, w'.frozen? ⟨d, i, none⟩ = false
  own1 : w'.ownsRow w.heap.size 3 1 (.slice A xs.length cap) xs.length (xs.map (Value.int .i64))
  own2 : w'.ownsRow w.heap.size 3 1 (.slice B st.length cap2) st.length (st.map (Value.int .i64))
  ne1 : (Value.slice A xs.length cap).ownBlock ≠ some d
  ne2 : (Value.slice B st.length cap2).ownBlock ≠ some d
  lo : w.heap.size ≤ d
  hi : d < w'.heap.size
  below : Below w.heap.size w w'
  dis : ∀ g, (Value.slice A xs.length cap).ownBlock = some g → (Value.slice B st.length cap2).ownBlock ≠ some g
/-- The facts on the result's own block, as it was made ahead of a call. -/
theorem pre_cell {w w1 : World} {o : Obj} {cs : Array Value} {T : TypeId} {fr : Nat × Nat} (hb : Below ((w.alloc o).alloc (.cells cs T fr)).heap.size ((w.alloc o).alloc (.cells cs T fr)) w1) (i : Nat) (v : Value) (hv : cs[i]? = some v) : w1.cell? ⟨w.heap.size + 1, i, none⟩ = some v := by
  simpa using box_cell (w := w.alloc o) hb i v hv
theorem pre_free {w w1 : World} {o : Obj} {cs : Array Value} {T : TypeId} (hb : Below ((w.alloc o).alloc (.cells cs T)).heap.size ((w.alloc o).alloc (.cells cs T)) w1) (i : Nat) : w1.frozen? ⟨w.heap.size + 1, i, none⟩ = false := by
  simpa using box_free (w := w.alloc o) hb i
theorem bit_and (P n : Nat) (hP : P < 18446744073709551616) (hn : n < 64) (h : P.testBit n = false) : bits .and .u64 (P : Int) (IntKind.u64.wrap (2 ^ n)) = 0 := by
  have h1 : 2 ^ n < 18446744073709551616 := Nat.pow_lt_pow_right (by omega) (by omega : n < 64)
  have e : IntKind.u64.wrap ((2 : Int) ^ n) = ((2 ^ n : Nat) : Int) := by
    have := u64_in (2 ^ n) h1
    simpa using this
  rw [e, u64_and_nat _ _ hP h1]
  have : P &&& 2 ^ n = 0 := by
    apply Nat.eq_of_testBit_eq
    intro i
    rw [Nat.testBit_and, Nat.testBit_two_pow]
    by_cases hi : n = i
    · subst hi; simp [h]
    · simp [hi]
  rw [this]; rfl
theorem results_intc {fn : Func} {p u : Tmp} (h : fn.results = #[.cell p 107, .tmp u]) (tmps : Array Value) (w : World) (g : Nat) (v0 v1 v2 v3 v4 v5 v6 : Value)
    (hp : tmps.getD p undef = .pointer (some ⟨g, 0, none⟩)) (c0 : w.cell? ⟨g, 0, none⟩ = some v0) (c1 : w.cell? ⟨g, 1, none⟩ = some v1) (c2 : w.cell? ⟨g, 2, none⟩ = some v2) (c3 : w.cell? ⟨g, 3, none⟩ = some v3) (c4 : w.cell? ⟨g, 4, none⟩ = some v4) (c5 : w.cell? ⟨g, 5, none⟩ = some v5) (c6 : w.cell? ⟨g, 6, none⟩ = some v6) :
    (results fn tmps).run Try.prog w = .ok (.tuple #[.agg #[v0, v1, v2, v3, v4, v5, v6], tmps.getD u undef]) w := by
  rw [results_cell_tmp h, hp]
  go_simp
theorem own_res {w : World} {base d r : Nat} {e : TypeId} {sz n : Nat} {v : Value} {xs : List Value} (h : w.ownsRow base e sz v n xs) (hd : v.ownBlock ≠ some d) (hr : r < base) {u v0 v1 v2 v3 v4 v5 v6 : Value} :
    ((((((((w.setCell ⟨d, 0, none⟩ u).setCell ⟨r, 0, none⟩ v0).setCell ⟨r, 1, none⟩ v1).setCell ⟨r, 2, none⟩ v2).setCell ⟨r, 3, none⟩ v3).setCell ⟨r, 4, none⟩ v4).setCell ⟨r, 5, none⟩ v5).setCell ⟨r, 6, none⟩ v6).ownsRow base e sz v n xs :=
  ownsRow_setCell_below (ownsRow_setCell_below (ownsRow_setCell_below (ownsRow_setCell_below (ownsRow_setCell_below (ownsRow_setCell_below (ownsRow_setCell_below (ownsRow_setCell_other h (a := ⟨d, 0, none⟩) hd _) hr _) hr _) hr _) hr _) hr _) hr _) hr _
theorem res_below {a w : World} {B k : Nat} (h : Below B a w) {v0 v1 v2 v3 v4 v5 v6 : Value} :
    Below B a (((((((w.setCell ⟨B + k, 0, none⟩ v0).setCell ⟨B + k, 1, none⟩ v1).setCell ⟨B + k, 2, none⟩ v2).setCell ⟨B + k, 3, none⟩ v3).setCell ⟨B + k, 4, none⟩ v4).setCell ⟨B + k, 5, none⟩ v5).setCell ⟨B + k, 6, none⟩ v6) :=
  have hr : B ≤ B + k := by omega
  ((((((h.setCell (p := ⟨B + k, 0, none⟩) hr _).setCell (p := ⟨B + k, 1, none⟩) hr _).setCell (p := ⟨B + k, 2, none⟩) hr _).setCell (p := ⟨B + k, 3, none⟩) hr _).setCell (p := ⟨B + k, 4, none⟩) hr _).setCell (p := ⟨B + k, 5, none⟩) hr _).setCell (p := ⟨B + k, 6, none⟩) hr _
end Go.Proofs.Ytfneloplbkjbhaa
namespace Go.Proofs.Ytfneloplbkjbhaa
open Go.RowKit
set_option linter.unusedVariables false
theorem andn_num (a b : Nat) (ha : a < 18446744073709551616) (hb : b < 18446744073709551616) : bits .andNot .u64 (a : Int) (b : Int) = ((a &&& (18446744073709551615 - b) : Nat) : Int) := u64_andNot_nat a b ha hb
theorem bit_comp (b i : Nat) (hb : b < 18446744073709551616) (hi : i < 64) : (18446744073709551615 - b).testBit i = !b.testBit i := by
  have := Nat.testBit_two_pow_sub_succ (n := 64) (x := b) hb i
  rw [show 2 ^ 64 - (b + 1) = 18446744073709551615 - b by omega] at this
  rw [this]; simp [hi]
theorem lt_bit {b : Nat} (h : b < 18446744073709551616) {i : Nat} (hi : b.testBit i = true) : i < 64 := by
  rcases Nat.lt_or_ge i 64 with h1 | h1
  · exact h1
  · exfalso
    have : b < 2 ^ i := Nat.lt_of_lt_of_le h (by have := Nat.pow_le_pow_right (n := 2) (by omega) h1; omega)
    rw [Nat.testBit_lt_two_pow this] at hi; cases hi
theorem mf_of (P M : Nat) (hP : P < 18446744073709551616) (hM : M < 18446744073709551616) (hs : ∀ i, P.testBit i = true → M.testBit i = true) : MF P M := by
  have ho : P ||| M = M := by
    apply Nat.eq_of_testBit_eq
    intro i
    rw [Nat.testBit_or]
    cases hp : P.testBit i with
    | true => rw [hs i hp]; rfl
    | false => simp
  refine ⟨?_, ?_, ?_⟩
  · have z : (0 : Int) = ((0 : Nat) : Int) := rfl
    rw [u64_or_nat _ _ hP hM, ho, z, u64_or_nat _ _ hM (by omega), Nat.or_zero, u64_or_nat _ _ hM hM, Nat.or_self]
  · rw [andn_num _ _ hM hM]
    have : M &&& (18446744073709551615 - M) = 0 := by
      apply Nat.eq_of_testBit_eq
      intro i
      rw [Nat.testBit_and, Nat.zero_testBit]
      cases hm : M.testBit i with
      | false => rfl
      | true => rw [bit_comp _ _ hM (lt_bit hM hm), hm]; rfl
    rw [this]; rfl
  · have z : (0 : Int) = ((0 : Nat) : Int) := rfl
    rw [z, u64_and_nat _ _ (by omega) hM, Nat.zero_and]
theorem mk_lt (xs : List Int) : mk xs < 18446744073709551616 := btN_lt _ _
theorem mk_bit (xs : List Int) (i : Nat) : (mk xs).testBit i = (decide (i < 64) && decide (i < xs.length)) := by
  unfold mk
  rw [btN_bit]
  congr 1
  unfold btP
  rw [decide_eq_decide]
  omega
structure C7 (W : World) (g : Nat) (v0 v1 v2 v3 v4 v5 v6 : Value) : Prop where
  c0 : W.cell? ⟨g, 0, none⟩ = some v0
  c1 : W.cell? ⟨g, 1, none⟩ = some v1
  c2 : W.cell? ⟨g, 2, none⟩ = some v2
  c3 : W.cell? ⟨g, 3, none⟩ = some v3
  c4 : W.cell? ⟨g, 4, none⟩ = some v4
  c5 : W.cell? ⟨g, 5, none⟩ = some v5
  c6 : W.cell? ⟨g, 6, none⟩ = some v6
  fr : ∀ i, W.frozen? ⟨g, i, none⟩ = false
theorem C7.below {W W' : World} {B g : Nat} {v0 v1 v2 v3 v4 v5 v6 : Value} (h : C7 W g v0 v1 v2 v3 v4 v5 v6) (hb : Below B W W') (hd : g < B) : C7 W' g v0 v1 v2 v3 v4 v5 v6 :=
  ⟨(hb.cell (p := (⟨g, 0, none⟩ : Addr)) hd).trans h.c0, (hb.cell (p := (⟨g, 1, none⟩ : Addr)) hd).trans h.c1, (hb.cell (p := (⟨g, 2, none⟩ : Addr)) hd).trans h.c2, (hb.cell (p := (⟨g, 3, none⟩ : Addr)) hd).trans h.c3, (hb.cell (p := (⟨g, 4, none⟩ : Addr)) hd).trans h.c4, (hb.cell (p := (⟨g, 5, none⟩ : Addr)) hd).trans h.c5, (hb.cell (p := (⟨g, 6, none⟩ : Addr)) hd).trans h.c6, fun i => (hb.frozen (p := (⟨g, i, none⟩ : Addr)) hd).trans (h.fr i)⟩
theorem C7.box {w w1 : World} {v0 v1 v2 v3 v4 v5 v6 : Value} {T : TypeId} (hb : Below (w.alloc (.cells #[v0, v1, v2, v3, v4, v5, v6] T)).heap.size (w.alloc (.cells #[v0, v1, v2, v3, v4, v5, v6] T)) w1) : C7 w1 w.heap.size v0 v1 v2 v3 v4 v5 v6 :=
  ⟨box_cell hb 0 _ rfl, box_cell hb 1 _ rfl, box_cell hb 2 _ rfl, box_cell hb 3 _ rfl, box_cell hb 4 _ rfl, box_cell hb 5 _ rfl, box_cell hb 6 _ rfl, box_free hb⟩
theorem own7 {w : World} {base r : Nat} {e : TypeId} {sz n : Nat} {v : Value} {xs : List Value} (h : w.ownsRow base e sz v n xs) (hr : r < base) {v0 v1 v2 v3 v4 v5 v6 : Value} :
    (((((((w.setCell ⟨r, 0, none⟩ v0).setCell ⟨r, 1, none⟩ v1).setCell ⟨r, 2, none⟩ v2).setCell ⟨r, 3, none⟩ v3).setCell ⟨r, 4, none⟩ v4).setCell ⟨r, 5, none⟩ v5).setCell ⟨r, 6, none⟩ v6).ownsRow base e sz v n xs :=
  ownsRow_setCell_below (ownsRow_setCell_below (ownsRow_setCell_below (ownsRow_setCell_below (ownsRow_setCell_below (ownsRow_setCell_below (ownsRow_setCell_below h hr _) hr _) hr _) hr _) hr _) hr _) hr _
set_option maxHeartbeats 4000000 in
theorem make_any (A : Option Addr) (xs : List Int) (cap : Nat) (w : World) (h : Ints w w.heap.size A xs) (hA : A = none → cap = 0) (h1 : 1 ≤ xs.length) (h2 : xs.length ≤ 64) (hx : xs.any oddP = false) :
    Calls Try.prog 48 #[.int .u64 (mk xs : Int), .slice A xs.length cap] w (CRes w (0 : Nat) (mk xs : Int) xs [] [.int .i64 0]) := by
  obtain ⟨M, hM⟩ : ∃ M : Int, M = (mk xs : Int) := ⟨_, rfl⟩
  have hm := mf_of 0 (mk xs) (by omega) (mk_lt xs) (fun i h => by simp at h)
  rw [← hM] at hm ⊢
  have HC := Kept.mk (fun W A cap B cap2 (h : Ints W W.heap.size A xs) (k : Ints W W.heap.size B []) => check_any 0 M hm A xs cap hM B [] cap2 W h k h1 h2 hx ⟨by simp, fun _ h => by cases h⟩)
  have HM := Kept.mk hM
  have l1 : xs.length ≤ 17592186044416 := by omega
  clear hM hm hx
  unfold iC at *
  go_enter Try.func48, Try.ntmps48
  go_wp2_with ((go_at_call 54; refine (clone_any A xs cap _ ((h.below (below_box _ _)).mono (by simp)) hA l1).mono ?_; rintro e w1 ⟨v1, rfl, own1, hb1⟩; obtain ⟨A1, p1, rfl⟩ := own_slice own1))
  have E0 := C7.box hb1
  have hbw := hb1.box (Nat.le_refl _)
  have hz : w.heap.size + 1 ≤ w1.heap.size := by have := hb1.size; simpa using this
  have hi1 := Ints.of_own own1
  have ow1 : w1.ownsRow (w.heap.size + 1) 3 1 (.slice A1 xs.length p1) xs.length (xs.map (Value.int .i64)) := by simpa using own1
  clear h hb1 own1
  refine (lines_any _ _ _ _ _ _ _ _ _ _ l1).mono ?_
  rintro e w2 ⟨rfl, hb2⟩
  rw [← HM.out]
  have Q0 := C7.box hb2
  have hb3 := hb2.box (Nat.le_refl _)
  have zz : w.heap.size < w1.heap.size := by omega
  replace E0 := E0.below hb3 zz
  have hz2 := hb3.size
  have hl2 : w1.heap.size < w2.heap.size := Nat.lt_of_lt_of_le (by simp) hb2.size
  have ow2 := ownsRow_setCell_other (own_below ow1 hb3) (a := ⟨w1.heap.size, 1, none⟩) (by intro h; have := (ow1.lt _ h).2; simp at this) (.int .u64 M)
  have nn : (Value.slice A1 xs.length p1).ownBlock ≠ some w1.heap.size := by intro h; have := (ow1.lt _ h).2; omega
  have hIx := (hi1.2.below (hb3.setCell (p := ⟨w1.heap.size, 1, none⟩) (Nat.le_refl _) (.int .u64 M))).mono (B' := (w2.setCell ⟨w1.heap.size, 1, none⟩ (.int .u64 M)).heap.size) (by simpa using hz2)
  have hbw3 := (hbw.trans (hb3.mono hbw.size)).setCell (p := ⟨w1.heap.size, 1, none⟩) hbw.size (.int .u64 M)
  clear hb2 hi1 hb3 ow1
  obtain ⟨q0, q1, q2, q3, q4, q5, q6, k0⟩ := Q0
  obtain ⟨e0, e1, e2, e3, e4, e5, e6, g0⟩ := E0
  go_wp2_with fail
  have Q1 : C7 (w2.setCell ⟨w1.heap.size, 1, none⟩ (.int .u64 M)) w1.heap.size (.int .u64 0) (.int .u64 M) (.int .u64 0) (.int .u64 M) (.slice A1 xs.length p1) (.int .i64 0) (.slice none 0 0) := by constructor <;> (try intro i) <;> go_simp
  have E1 : C7 (w2.setCell ⟨w1.heap.size, 1, none⟩ (.int .u64 M)) w.heap.size (.int .u64 0) (.int .u64 0) (.int .u64 0) (.int .u64 0) (.slice none 0 0) (.int .i64 0) (.slice none 0 0) := by constructor <;> (try intro i) <;> go_simp
  clear q0 q1 q2 q3 q4 q5 q6 k0 e0 e1 e2 e3 e4 e5 e6 g0
  have hl3 : w1.heap.size < (w2.setCell ⟨w1.heap.size, 1, none⟩ (.int .u64 M)).heap.size := by simpa using hl2
  obtain ⟨W3, hW3⟩ : ∃ W, W = w2.setCell ⟨w1.heap.size, 1, none⟩ (.int .u64 M) := ⟨_, rfl⟩
  rw [← hW3] at Q1 E1 hIx ow2 hbw3 hl3 ⊢
  refine (HC.out W3 A1 p1 none 0 hIx (Ints.nil _ _ _)).mono ?_
  rintro e w3 ⟨rfl, hb4⟩
  obtain ⟨q0, q1, q2, q3, q4, q5, q6, k0⟩ := Q1.below hb4 hl3
  obtain ⟨e0, e1, e2, e3, e4, e5, e6, g0⟩ := E1.below hb4 (by omega)
  have ow3 := own_below ow2 hb4
  have hbw4 := hbw3.trans (hb4.mono hbw3.size)
  clear hb4 Q1 E1 HC
  go_wp2
  refine bodyPost_ret (results_intc (p := 4) (u := 5) rfl _ _ w.heap.size _ _ _ _ _ _ _ rfl (by go_simp <;> rfl) (by go_simp <;> rfl) (by go_simp <;> rfl) (by go_simp <;> rfl) (by go_simp <;> rfl) (by go_simp <;> rfl) (by go_simp <;> rfl)) rfl ?_
  exact ⟨_, rfl, isC_own (own7 ow3 (by omega)) (World.ownsRow_nil _ _ _ _) (Below.refl _ _), res_below (B := w.heap.size) (k := 0) hbw4, rows_own ow3 (World.ownsRow_nil w3 w.heap.size 3 1) (by omega) (Nat.le_refl _)⟩
set_option maxHeartbeats 4000000 in
theorem make_bad (A : Option Addr) (xs : List Int) (cap : Nat) (w : World) (h : Ints w w.heap.size A xs) (hA : A = none → cap = 0) (hl : xs.length ≤ 17592186044416) (hx : Bad xs) :
    Calls Try.prog 48 #[.int .u64 (mk xs : Int), .slice A xs.length cap] w (fun e w' => e = .returned (.tuple #[.agg #[.int .u64 0, .int .u64 0, .int .u64 0, .int .u64 0, .slice none 0 0, .int .i64 0, .slice none 0 0], .int .i64 2]) ∧ Below w.heap.size w w') := by
  obtain ⟨M, hM⟩ : ∃ M : Int, M = (mk xs : Int) := ⟨_, rfl⟩
  rw [← hM]
  have HC := Kept.mk (fun W A cap B cap2 (h : Ints W W.heap.size A xs) (k : Ints W W.heap.size B []) => check_bad 0 M 0 M A xs cap (.slice B ([] : List Int).length cap2) W h hl hx)
  have HM := Kept.mk hM
  have l1 := hl
  clear hM hx
  unfold iC at *
  go_enter Try.func48, Try.ntmps48
  go_wp2_with ((go_at_call 54; refine (clone_any A xs cap _ ((h.below (below_box _ _)).mono (by simp)) hA l1).mono ?_; rintro e w1 ⟨v1, rfl, own1, hb1⟩; obtain ⟨A1, p1, rfl⟩ := own_slice own1))
  have E0 := C7.box hb1
  have hbw := hb1.box (Nat.le_refl _)
  have hz : w.heap.size + 1 ≤ w1.heap.size := by have := hb1.size; simpa using this
  have hi1 := Ints.of_own own1
  have ow1 : w1.ownsRow (w.heap.size + 1) 3 1 (.slice A1 xs.length p1) xs.length (xs.map (Value.int .i64)) := by simpa using own1
  clear h hb1 own1
  refine (lines_any _ _ _ _ _ _ _ _ _ _ l1).mono ?_
  rintro e w2 ⟨rfl, hb2⟩
  rw [← HM.out]
  have Q0 := C7.box hb2
  have hb3 := hb2.box (Nat.le_refl _)
  have zz : w.heap.size < w1.heap.size := by omega
  replace E0 := E0.below hb3 zz
  have hz2 := hb3.size
  have hl2 : w1.heap.size < w2.heap.size := Nat.lt_of_lt_of_le (by simp) hb2.size
  have ow2 := ownsRow_setCell_other (own_below ow1 hb3) (a := ⟨w1.heap.size, 1, none⟩) (by intro h; have := (ow1.lt _ h).2; simp at this) (.int .u64 M)
  have nn : (Value.slice A1 xs.length p1).ownBlock ≠ some w1.heap.size := by intro h; have := (ow1.lt _ h).2; omega
  have hIx := (hi1.2.below (hb3.setCell (p := ⟨w1.heap.size, 1, none⟩) (Nat.le_refl _) (.int .u64 M))).mono (B' := (w2.setCell ⟨w1.heap.size, 1, none⟩ (.int .u64 M)).heap.size) (by simpa using hz2)
  have hbw3 := (hbw.trans (hb3.mono hbw.size)).setCell (p := ⟨w1.heap.size, 1, none⟩) hbw.size (.int .u64 M)
  clear hb2 hi1 hb3 ow1
  obtain ⟨q0, q1, q2, q3, q4, q5, q6, k0⟩ := Q0
  obtain ⟨e0, e1, e2, e3, e4, e5, e6, g0⟩ := E0
  go_wp2_with fail
  have Q1 : C7 (w2.setCell ⟨w1.heap.size, 1, none⟩ (.int .u64 M)) w1.heap.size (.int .u64 0) (.int .u64 M) (.int .u64 0) (.int .u64 M) (.slice A1 xs.length p1) (.int .i64 0) (.slice none 0 0) := by constructor <;> (try intro i) <;> go_simp
  have E1 : C7 (w2.setCell ⟨w1.heap.size, 1, none⟩ (.int .u64 M)) w.heap.size (.int .u64 0) (.int .u64 0) (.int .u64 0) (.int .u64 0) (.slice none 0 0) (.int .i64 0) (.slice none 0 0) := by constructor <;> (try intro i) <;> go_simp
  clear q0 q1 q2 q3 q4 q5 q6 k0 e0 e1 e2 e3 e4 e5 e6 g0
  have hl3 : w1.heap.size < (w2.setCell ⟨w1.heap.size, 1, none⟩ (.int .u64 M)).heap.size := by simpa using hl2
  obtain ⟨W3, hW3⟩ : ∃ W, W = w2.setCell ⟨w1.heap.size, 1, none⟩ (.int .u64 M) := ⟨_, rfl⟩
  rw [← hW3] at Q1 E1 hIx ow2 hbw3 hl3 ⊢
  refine (HC.out W3 A1 p1 none 0 hIx (Ints.nil _ _ _)).mono ?_
  rintro e w3 ⟨rfl, hb4⟩
  obtain ⟨q0, q1, q2, q3, q4, q5, q6, k0⟩ := Q1.below hb4 hl3
  obtain ⟨e0, e1, e2, e3, e4, e5, e6, g0⟩ := E1.below hb4 (by omega)
  have ow3 := own_below ow2 hb4
  have hbw4 := hbw3.trans (hb4.mono hbw3.size)
  clear hb4 Q1 E1 HC
  go_wp2
  refine bodyPost_ret (results_intc (p := 4) (u := 5) rfl _ _ w.heap.size _ _ _ _ _ _ _ rfl (by go_simp <;> rfl) (by go_simp <;> rfl) (by go_simp <;> rfl) (by go_simp <;> rfl) (by go_simp <;> rfl) (by go_simp <;> rfl) (by go_simp <;> rfl)) rfl ?_
  exact ⟨rfl, res_below (B := w.heap.size) (k := 0) hbw4⟩
end Go.Proofs.Ytfneloplbkjbhaa
