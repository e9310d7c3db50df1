/-
  The law TopDrift: the timer of the hardware, the clock.
-/
import Derived.Test.YtakkfgkogomjbaaDoorWL1
import Derived.Laws.CopyRow
import Derived.Test.YtakkfgkogomjbaaDoorCalm2
namespace Go.Proofs.YtakkfgkogomjbaaDoor
open Go.RowKit Go.Shelf
set_option linter.unusedVariables false
set_option linter.unusedSimpArgs false
theorem three_below (w : World) (A B C : Obj) {n : Nat} (h : n ≤ w.heap.size) : Below n w (((w.alloc A).alloc B).alloc C) := (((Below.refl _ _).alloc h A).alloc (by simp; omega) B).alloc (by simp; omega) C
theorem heap3_mid (w : World) (A B C : Obj) : (((w.alloc A).alloc B).alloc C).heap[w.heap.size + 1]? = some B := by
  refine Eq.trans (heap_alloc_old ((w.alloc A).alloc B) C (by simp)) ?_
  exact heap_alloc2_new w A B
/-- How far the compare is ahead of the count, less one. -/
def ahd (c m : Int) : Int := (m - c - 1) % 4294967296
theorem results_row2 {P : Program} {fn : Func} {p u : Tmp} {ty : TypeId} (h : fn.results = #[.cell p ty, .tmp u]) (tmps : Array Value) (w : World) (g : Nat) (t : TypeId) (cs : Array Value) (fr : Nat × Nat) (d : TypeDesc)
    (hp : tmps.getD p undef = .pointer (some ⟨g, 0, none⟩)) (hg : w.heap[g]? = some (.cells cs t fr))
    (hu : P.underlying ty = some d) (hd : (match d with | .struct _ | .array _ _ => true | _ => false) = true) (hi : (P.info? ty).map (·.size) = some cs.size) :
    (results fn tmps).run P w = .ok (.tuple #[.agg cs, tmps.getD u undef]) w := by
  have hp' : tmps[p]?.getD undef = .pointer (some ⟨g, 0, none⟩) := by simpa using hp
  simp [results, h, hp', asAddr, run_loadVar_row w g t ty cs fr d hg hu hd hi]
theorem results_row3 {P : Program} {fn : Func} {p u v : Tmp} {ty : TypeId} (h : fn.results = #[.cell p ty, .tmp u, .tmp v]) (tmps : Array Value) (w : World) (g : Nat) (t : TypeId) (cs : Array Value) (fr : Nat × Nat) (d : TypeDesc)
    (hp : tmps.getD p undef = .pointer (some ⟨g, 0, none⟩)) (hg : w.heap[g]? = some (.cells cs t fr))
    (hu : P.underlying ty = some d) (hd : (match d with | .struct _ | .array _ _ => true | _ => false) = true) (hi : (P.info? ty).map (·.size) = some cs.size) :
    (results fn tmps).run P w = .ok (.tuple #[.agg cs, tmps.getD u undef, tmps.getD v undef]) w := by
  have hp' : tmps[p]?.getD undef = .pointer (some ⟨g, 0, none⟩) := by simpa using hp
  simp [results, h, hp', asAddr, run_loadVar_row w g t ty cs fr d hg hu hd hi]
theorem two_below (w : World) (A B : Obj) : Below w.heap.size w ((w.alloc A).alloc B) := ((Below.refl _ _).alloc (Nat.le_refl _) A).alloc (by simp) B
theorem u32sub (x y : Int) : IntKind.wrap .u32 (x - y) = (x - y) % 4294967296 := by simp [IntKind.wrap, IntKind.signed, IntKind.bits]
theorem hahead_any (d : Nat) (c m : Int) (a l : Bool) (w : World) (h0 : w.cell? ⟨d, 0, none⟩ = some (.int .u32 c)) (h1 : w.cell? ⟨d, 1, none⟩ = some (.int .u32 m)) :
    Calls Tryd.prog 57 #[.pointer (some ⟨d, 0, none⟩)] w fun e w' => e = .returned (.int .u32 (ahd c m)) ∧ ∃ q, w' = w.drewN q := by
  go_enter Tryd.func57, Tryd.ntmps57
  go_wp2_with fail
  go_quiet (fail)
  go_wp2_with fail
  go_ret
  exact ⟨by first | rfl | (unfold ahd; simp [IntKind.wrap, IntKind.signed, IntKind.bits]), _, rfl⟩
theorem hmatches_any (d : Nat) (c m n : Int) (a l : Bool) (w : World) (h0 : w.cell? ⟨d, 0, none⟩ = some (.int .u32 c)) (h1 : w.cell? ⟨d, 1, none⟩ = some (.int .u32 m)) (h2 : w.cell? ⟨d, 2, none⟩ = some (.bool a)) :
    Calls Tryd.prog 60 #[.pointer (some ⟨d, 0, none⟩), .int .u32 n] w fun e w' => e = .returned (.bool (a && (decide (0 < n) && decide (ahd c m < n)))) ∧ ∃ q, w' = w.drewN q := by
  have HA := hahead_any d c m a l w h0 h1
  cases a with
  | false =>
    go_enter Tryd.func60, Tryd.ntmps60
    go_wp2_with (go_at_call 57; refine HA.mono ?_; rintro e w1 ⟨rfl, q, rfl⟩)
    go_ret
    exact ⟨by first | rfl | simp, 0, rfl⟩
  | true =>
    by_cases hn : 0 < n
    · have d0 : decide (0 < n) = true := decide_eq_true hn
      clear hn
      go_enter Tryd.func60, Tryd.ntmps60
      go_wp2_with (go_at_call 57; refine HA.mono ?_; rintro e w1 ⟨rfl, q, rfl⟩)
      go_ret
      exact ⟨by first | rfl | (simp only [d0]; rfl) | (rw [d0]; simp), q, rfl⟩
    · have d0 : decide (0 < n) = false := decide_eq_false hn
      clear hn
      go_enter Tryd.func60, Tryd.ntmps60
      go_wp2_with (go_at_call 57; refine HA.mono ?_; rintro e w1 ⟨rfl, q, rfl⟩)
      go_ret
      exact ⟨by first | rfl | (simp only [d0]; rfl) | (rw [d0]; simp), 0, rfl⟩
theorem hack_any (c m : Int) (a l : Bool) (w : World) : Calls Tryd.prog 40 #[.agg #[.int .u32 c, .int .u32 m, .bool a, .bool l]] w fun e w' => e = .returned (.tuple #[.agg #[.int .u32 c, .int .u32 m, .bool a, .bool false], .bool l]) ∧ Below w.heap.size w w' := by
  go_enter Tryd.func40, Tryd.ntmps40
  go_wp2
  refine bodyPost_ret (results_row2 (p := 2) (u := 3) rfl _ _ (w.heap.size + 1) 62 #[.int .u32 c, .int .u32 m, .bool a, .bool false] (0, 0) _ rfl (heap_alloc2_new _ _ _) Tryd.underlying62 rfl (by kernel_rfl)) rfl ?_
  exact ⟨rfl, two_below _ _ _⟩
theorem harm_any (c m n : Int) (a l : Bool) (w : World) : Calls Tryd.prog 55 #[.agg #[.int .u32 c, .int .u32 m, .bool a, .bool l], .int .u32 n] w fun e w' => e = .returned (.agg #[.int .u32 c, .int .u32 n, .bool true, .bool l]) ∧ Below w.heap.size w w' := by
  go_enter Tryd.func55, Tryd.ntmps55
  go_wp2
  refine bodyPost_ret (results_cell_row (p := 4) rfl _ _ (w.heap.size + 1) 62 #[.int .u32 c, .int .u32 n, .bool true, .bool l] (0, 0) _ rfl (heap_alloc2_new _ _ _) Tryd.underlying62 rfl (by kernel_rfl)) rfl ?_
  exact ⟨rfl, two_below _ _ _⟩
theorem hdis_any (c m : Int) (a l : Bool) (w : World) : Calls Tryd.prog 61 #[.agg #[.int .u32 c, .int .u32 m, .bool a, .bool l]] w fun e w' => e = .returned (.agg #[.int .u32 c, .int .u32 m, .bool false, .bool l]) ∧ Below w.heap.size w w' := by
  go_enter Tryd.func61, Tryd.ntmps61
  go_wp2
  refine bodyPost_ret (results_cell_row (p := 2) rfl _ _ (w.heap.size + 1) 62 #[.int .u32 c, .int .u32 m, .bool false, .bool l] (0, 0) _ rfl (heap_alloc2_new _ _ _) Tryd.underlying62 rfl (by kernel_rfl)) rfl ?_
  exact ⟨rfl, two_below _ _ _⟩
theorem hleft_any (c m : Int) (a l : Bool) (w : World) : Calls Tryd.prog 35 #[.agg #[.int .u32 c, .int .u32 m, .bool a, .bool l]] w fun e w' => e = .returned (.tuple #[.int .i64 (if a then ahd c m + 1 else 0), .bool a]) ∧ Below w.heap.size w w' := by
  cases a with
  | false =>
    go_enter Tryd.func35, Tryd.ntmps35
    go_wp2
    go_ret2
    exact ⟨rfl, below_box _ _⟩
  | true =>
    go_enter Tryd.func35, Tryd.ntmps35
    go_wp2_with fail
    refine (hahead_any (w.heap.size + 1) c m true l _ (cell_of_row _ _ 0 _ _ _ (heap_alloc2_new _ _ _)) (cell_of_row _ _ 1 _ _ _ (heap_alloc2_new _ _ _))).mono ?_
    rintro e w1 ⟨rfl, q, rfl⟩
    have hr : 0 ≤ ahd c m ∧ ahd c m < 4294967296 := by unfold ahd; omega
    obtain ⟨h0, h1⟩ := hr
    go_wp2_with fail
    go_ret2
    exact ⟨by first | rfl | simp, (two_below _ _ _).drewN q⟩
theorem hadv_any (c m n : Int) (a l : Bool) (hn : n < 2147483648) (w : World) : Calls Tryd.prog 38 #[.agg #[.int .u32 c, .int .u32 m, .bool a, .bool l], .int .u32 n] w fun e w' => e = .returned (.tuple #[.agg #[.int .u32 ((c + n) % 4294967296), .int .u32 m, .bool (a && !(decide (0 < n) && decide (ahd c m < n))), .bool (l || (a && (decide (0 < n) && decide (ahd c m < n))))], .int .i64 0]) ∧ Below w.heap.size w w' := by
  have d0 : decide (2147483648 ≤ n) = false := decide_eq_false (by omega)
  obtain ⟨b, hb⟩ : ∃ b, b = (a && (decide (0 < n) && decide (ahd c m < n))) := ⟨_, rfl⟩
  have HB := Kept.mk hb
  rw [show (a && !(decide (0 < n) && decide (ahd c m < n))) = (a && !b) by rw [hb]; cases a <;> simp, ← hb]
  have hA := Kept.mk (show (b = true → a = true) by rw [hb]; cases a <;> simp)
  clear hb
  go_enter Tryd.func38, Tryd.ntmps38
  go_wp2_with fail
  refine (hmatches_any (w.heap.size + 1 + 1) c m n a l _ (by go_simp) (by go_simp) (by go_simp)).mono ?_
  rintro e w1 ⟨rfl, q, rfl⟩
  obtain ⟨w0, hw0⟩ : ∃ w0, w0 = w.drewN q := ⟨_, rfl⟩
  have hs : w.heap.size = w0.heap.size := by rw [hw0]; rfl
  have hB : Below w.heap.size w w0 := by rw [hw0]; exact (Below.refl _ _).drewN q
  rw [show (((w.alloc (.cells #[.int .u32 c, .int .u32 m, .bool a, .bool l] 62)).alloc (.cells #[.int .u32 0, .int .u32 0, .bool false, .bool false] 62)).alloc (.cells #[.int .u32 c, .int .u32 m, .bool a, .bool l] 135)).drewN q = ((w0.alloc (.cells #[.int .u32 c, .int .u32 m, .bool a, .bool l] 62)).alloc (.cells #[.int .u32 0, .int .u32 0, .bool false, .bool false] 62)).alloc (.cells #[.int .u32 c, .int .u32 m, .bool a, .bool l] 135) from by rw [hw0]; rfl, ← HB.out, hs]
  have HBB := Kept.mk hB
  clear hw0 hs hB
  cases b with
  | true =>
    obtain rfl : a = true := hA.out rfl
    go_wp2_with fail
    refine bodyPost_ret (results_row2 (p := 4) (u := 5) rfl _ _ (w0.heap.size + 1) 62 #[.int .u32 ((c + n) % 4294967296), .int .u32 m, .bool false, .bool true] (0, 0) _ rfl (heap3_mid _ _ _ _) Tryd.underlying62 rfl (by kernel_rfl)) rfl ?_
    exact ⟨by simp, HBB.out.trans (three_below w0 _ _ _ (HBB.out.size))⟩
  | false =>
    go_wp2_with fail
    refine bodyPost_ret (results_row2 (p := 4) (u := 5) rfl _ _ (w0.heap.size + 1) 62 #[.int .u32 ((c + n) % 4294967296), .int .u32 m, .bool a, .bool l] (0, 0) _ rfl (heap3_mid _ _ _ _) Tryd.underlying62 rfl (by kernel_rfl)) rfl ?_
    exact ⟨by simp, HBB.out.trans (three_below w0 _ _ _ (HBB.out.size))⟩
end Go.Proofs.YtakkfgkogomjbaaDoor
namespace Go.Proofs.YtakkfgkogomjbaaDoor
open Go.RowKit Go.Shelf
set_option linter.unusedVariables false
set_option linter.unusedSimpArgs false
theorem wtime_any (t : Int) (w : World) : Calls Tryd.prog 76 #[.int .i64 t] w fun e w' => e = .returned (.bool (decide (0 ≤ t) && decide (t ≤ 4503599627370496))) ∧ w = w' := by
  cases d0 : decide (0 ≤ t) with
  | false =>
    go_enter Tryd.func76, Tryd.ntmps76
    go_wp2
    go_ret
    exact ⟨by first | rfl | simp, rfl⟩
  | true =>
    go_enter Tryd.func76, Tryd.ntmps76
    go_wp2
    go_ret
    exact ⟨by first | rfl | simp, rfl⟩
/-- A time of which the low bits are known. -/
theorem extend_any (t k : Int) (t0 : 0 ≤ t) (k0 : 0 ≤ k) (k1 : k < 2147483648) (h : t + k ≤ 4503599627370496) (w : World) : Calls Tryd.prog 58 #[.int .i64 t, .int .u32 ((t + k) % 4294967296)] w fun e w' => e = .returned (.tuple #[.int .i64 (t + k), .int .i64 0]) ∧ w = w' := by
  have HT := wtime_any t w
  have HK := wtime_any (t + k) w
  have HL := low_any t t0 (by omega) w
  rw [show (decide (0 ≤ t) && decide (t ≤ 4503599627370496)) = true by simp; omega] at HT
  rw [show (decide (0 ≤ t + k) && decide (t + k ≤ 4503599627370496)) = true by simp; omega] at HK
  go_enter Tryd.func58, Tryd.ntmps58
  go_wp2_with fail
  refine HT.mono ?_
  rintro e w1 ⟨rfl, rfl⟩
  go_wp2_with fail
  refine HL.mono ?_
  rintro e w1 ⟨rfl, rfl⟩
  go_wp2_with fail
  rw [show t + (t + k - t) % 4294967296 = t + k by omega]
  refine HK.mono ?_
  rintro e w1 ⟨rfl, rfl⟩
  go_wp2_with fail
  go_ret2
  exact ⟨rfl, rfl⟩
theorem cnow_any (t k m : Int) (a l : Bool) (t0 : 0 ≤ t) (k0 : 0 ≤ k) (k1 : k < 2147483648) (h : t + k ≤ 4503599627370496) (w : World) : Calls Tryd.prog 36 #[.agg #[.int .u32 ((t + k) % 4294967296), .int .u32 m, .bool a, .bool l, .int .i64 t]] w fun e w' => e = .returned (.tuple #[.int .i64 (t + k), .int .i64 0]) ∧ Below w.heap.size w w' := by
  have HE := extend_any t k t0 k0 k1 h (w.alloc (.cells #[.int .u32 ((t + k) % 4294967296), .int .u32 m, .bool a, .bool l, .int .i64 t] 64))
  go_enter Tryd.func36, Tryd.ntmps36
  go_wp2_with (go_at_call 58; refine (HE).mono ?_; rintro e w' ⟨rfl, rfl⟩)
  go_ret2
  exact ⟨rfl, below_box _ _⟩
theorem results_cell3 {fn : Func} {p u v : Tmp} {ty : TypeId} (h : fn.results = #[.cell p ty, .tmp u, .tmp v]) (tmps : Array Value) (P : Program) (w : World) :
    (results fn tmps).run P w =
      ((asAddr (tmps.getD p undef)).run P w).andThen fun a w₁ => ((loadVar ty a).run P w₁).andThen fun x w₂ => .ok (.tuple #[x, tmps.getD u undef, tmps.getD v undef]) w₂ := by
  simp only [results, h]
  simp [Sem.run_bind, Result.andThen]
theorem results_ck3 {fn : Func} {p u v : Tmp} (h : fn.results = #[.cell p 64, .tmp u, .tmp v]) (tmps : Array Value) (w : World) (g : Nat) (v0 v1 v2 v3 v4 : Value)
    (hp : tmps.getD p undef = .pointer (some ⟨g, 0, none⟩)) (c0 : w.cell? ⟨g, 0, none⟩ = some v0) (c1 : w.cell? ⟨g, 1, none⟩ = some v1) (c2 : w.cell? ⟨g, 2, none⟩ = some v2) (c3 : w.cell? ⟨g, 3, none⟩ = some v3) (c4 : w.cell? ⟨g, 4, none⟩ = some v4) :
    (results fn tmps).run Tryd.prog w = .ok (.tuple #[.agg #[v0, v1, v2, v3, v4], tmps.getD u undef, tmps.getD v undef]) w := by
  rw [results_cell3 h, hp]
  go_simp
theorem results_ck2 {fn : Func} {p u : Tmp} (h : fn.results = #[.cell p 64, .tmp u]) (tmps : Array Value) (w : World) (g : Nat) (v0 v1 v2 v3 v4 : Value)
    (hp : tmps.getD p undef = .pointer (some ⟨g, 0, none⟩)) (c0 : w.cell? ⟨g, 0, none⟩ = some v0) (c1 : w.cell? ⟨g, 1, none⟩ = some v1) (c2 : w.cell? ⟨g, 2, none⟩ = some v2) (c3 : w.cell? ⟨g, 3, none⟩ = some v3) (c4 : w.cell? ⟨g, 4, none⟩ = some v4) :
    (results fn tmps).run Tryd.prog w = .ok (.tuple #[.agg #[v0, v1, v2, v3, v4], tmps.getD u undef]) w := by
  rw [results_cell_tmp h, hp]
  go_simp
theorem box5 {w : World} {g : Nat} {t : TypeId} {v0 v1 v2 v3 v4 : Value} (h : w.heap[g]? = some (.cells #[v0, v1, v2, v3, v4] t)) :
    (w.cell? ⟨g, 0, none⟩ = some v0 ∧ w.cell? ⟨g, 1, none⟩ = some v1 ∧ w.cell? ⟨g, 2, none⟩ = some v2 ∧ w.cell? ⟨g, 3, none⟩ = some v3 ∧ w.cell? ⟨g, 4, none⟩ = some v4) ∧ w.frozen? ⟨g, 0, none⟩ = false ∧ w.frozen? ⟨g, 1, none⟩ = false ∧ w.frozen? ⟨g, 2, none⟩ = false ∧ w.frozen? ⟨g, 3, none⟩ = false ∧ w.frozen? ⟨g, 4, none⟩ = false :=
  ⟨⟨cell_of_row _ _ 0 _ _ _ h, cell_of_row _ _ 1 _ _ _ h, cell_of_row _ _ 2 _ _ _ h, cell_of_row _ _ 3 _ _ _ h, cell_of_row _ _ 4 _ _ _ h⟩, frozen_of_row _ _ 0 _ _ h, frozen_of_row _ _ 1 _ _ h, frozen_of_row _ _ 2 _ _ h, frozen_of_row _ _ 3 _ _ h, frozen_of_row _ _ 4 _ _ h⟩
set_option maxHeartbeats 4000000 in
theorem cread_any (t k m : Int) (a l : Bool) (t0 : 0 ≤ t) (k0 : 0 ≤ k) (k1 : k < 2147483648) (h : t + k ≤ 4503599627370496) (w : World) : Calls Tryd.prog 39 #[.agg #[.int .u32 ((t + k) % 4294967296), .int .u32 m, .bool a, .bool l, .int .i64 t]] w fun e w' => e = .returned (.tuple #[.agg #[.int .u32 ((t + k) % 4294967296), .int .u32 m, .bool a, .bool l, .int .i64 (t + k)], .int .i64 (t + k), .int .i64 0]) ∧ Below w.heap.size w w' := by
  go_enter Tryd.func39, Tryd.ntmps39
  go_wp2_with fail
  refine (cnow_any t k m a l t0 k0 k1 h _).mono ?_
  rintro e w1 ⟨rfl, hb⟩
  have h0 := (hb.block w.heap.size (by simp; omega)).trans ((heap_alloc_old _ _ (by simp)).trans (heap_alloc_new w (.cells #[.int .u32 ((t + k) % 4294967296), .int .u32 m, .bool a, .bool l, .int .i64 t] 64)))
  have h1 := (hb.block (w.heap.size + 1) (by simp)).trans (heap_alloc2_new _ _ _)
  obtain ⟨⟨a0, a1, a2, a3, a4⟩, f0, f1, f2, f3, f4⟩ := box5 h0
  obtain ⟨⟨b0, b1, b2, b3, b4⟩, g0, g1, g2, g3, g4⟩ := box5 h1
  have HB := Kept.mk ((two_below w _ _).trans (hb.mono (by simp; omega)))
  have HS := Kept.mk (show w.heap.size + 2 ≤ w1.heap.size by have := hb.size; simpa using this)
  clear h0 h1 hb
  go_wp2_with fail
  refine bodyPost_ret (results_ck3 (p := 2) (u := 3) (v := 4) rfl _ _ (w.heap.size + 1) (.int .u32 ((t + k) % 4294967296)) (.int .u32 m) (.bool a) (.bool l) (.int .i64 (t + k)) rfl (by go_simp) (by go_simp) (by go_simp) (by go_simp) (by go_simp)) rfl ?_
  refine ⟨rfl, ?_⟩
  repeat' (first | exact HB.out | refine Below.setCell ?_ (by simp) _)
end Go.Proofs.YtakkfgkogomjbaaDoor
namespace Go.Proofs.YtakkfgkogomjbaaDoor
open Go.RowKit Go.Shelf
set_option linter.unusedVariables false
set_option linter.unusedSimpArgs false
/-- A timing that may be. -/
def TimOk (mn mx : Int) : Prop := 1 ≤ mn ∧ mx < 2147483648 ∧ 2 * mn ≤ mx
theorem half_lt {mn mx : Int} (h : 1 ≤ mn) : mx.tdiv 2 < mn ↔ mx < 2 * mn := by
  have e := Int.mul_tdiv_add_tmod mx 2
  have a := Int.tmod_lt_of_pos mx (b := 2) (by omega)
  have b := Int.lt_tmod_of_pos mx (b := 2) (by omega)
  by_cases h0 : 0 ≤ mx
  · have c := Int.tmod_nonneg 2 h0
    omega
  · omega
theorem half_in {mx : Int} (h : -9223372036854775808 ≤ mx ∧ mx ≤ 9223372036854775807) : wrap64 (mx.tdiv 2) = mx.tdiv 2 := by
  have e := Int.mul_tdiv_add_tmod mx 2
  have a := Int.tmod_lt_of_pos mx (b := 2) (by omega)
  have b := Int.lt_tmod_of_pos mx (b := 2) (by omega)
  unfold wrap64
  omega
theorem scheck_any (mn mx : Int) (hmx : -9223372036854775808 ≤ mx ∧ mx ≤ 9223372036854775807) (w : World) : Calls Tryd.prog 21 #[.agg #[.int .i64 mn, .int .i64 mx]] w fun e w' => (∃ c : Int, e = .returned (.int .i64 c) ∧ (c = 0 ↔ TimOk mn mx)) ∧ Below w.heap.size w w' := by
  unfold TimOk
  have hw := half_in hmx
  clear hmx
  by_cases h1 : mn < 1
  · have d0 : decide (mn < 1) = true := decide_eq_true h1
    have H := Kept.mk h1
    clear h1
    go_enter Tryd.func21, Tryd.ntmps21
    go_wp2
    go_ret
    exact ⟨⟨_, rfl, by have := H.out; omega⟩, below_box _ _⟩
  · have d0 : decide (mn < 1) = false := decide_eq_false h1
    by_cases h2 : 2147483648 ≤ mx
    · have d1 : decide (2147483648 ≤ mx) = true := decide_eq_true h2
      have H := Kept.mk h2
      clear h1 h2
      go_enter Tryd.func21, Tryd.ntmps21
      go_wp2
      go_ret
      exact ⟨⟨_, rfl, by have := H.out; omega⟩, below_box _ _⟩
    · have d1 : decide (2147483648 ≤ mx) = false := decide_eq_false h2
      by_cases h3 : mx.tdiv 2 < mn
      · have d2 : decide (mx.tdiv 2 < mn) = true := decide_eq_true h3
        have H := Kept.mk ((half_lt (by omega)).1 h3)
        clear h1 h2 h3
        go_enter Tryd.func21, Tryd.ntmps21
        go_wp2
        go_ret
        exact ⟨⟨_, rfl, by have := H.out; omega⟩, below_box _ _⟩
      · have d2 : decide (mx.tdiv 2 < mn) = false := decide_eq_false h3
        have H := Kept.mk (And.intro h1 (And.intro h2 (fun h => h3 ((half_lt (by omega)).2 h))))
        clear h1 h2 h3
        go_enter Tryd.func21, Tryd.ntmps21
        go_wp2
        go_ret
        exact ⟨⟨_, rfl, by obtain ⟨a, b, c⟩ := H.out; have : ¬ mx < 2 * mn := c; omega⟩, below_box _ _⟩
theorem stime_any (t : Int) (w : World) : Calls Tryd.prog 92 #[.int .i64 t] w fun e w' => e = .returned (.bool (decide (0 ≤ t) && decide (t ≤ 4503599627370496))) ∧ w = w' := by
  cases d0 : decide (0 ≤ t) with
  | false =>
    go_enter Tryd.func92, Tryd.ntmps92
    go_wp2
    go_ret
    exact ⟨by first | rfl | simp, rfl⟩
  | true =>
    go_enter Tryd.func92, Tryd.ntmps92
    go_wp2
    go_ret
    exact ⟨by first | rfl | simp, rfl⟩
/-- What becomes of a deadline. -/
def aimE (mn mx now d : Int) : Int × Int := if d - now ≤ 0 then (1, now) else if d - now < mn then (2, now + mn) else if d - now ≤ mx then (3, d) else (4, min (now + mx) (d - mn))
theorem aim_any (mn mx now d : Int) (h : TimOk mn mx) (n0 : 0 ≤ now) (n1 : now ≤ 4503599627370496) (d0 : 0 ≤ d) (d1 : d ≤ 4503599627370496) (w : World) : Calls Tryd.prog 93 #[.agg #[.int .i64 mn, .int .i64 mx], .int .i64 now, .int .i64 d] w fun e w' => e = .returned (.tuple #[.int .u8 (aimE mn mx now d).1, .int .i64 (aimE mn mx now d).2]) ∧ Below w.heap.size w w' := by
  unfold TimOk at h
  have hm : mn < 2147483648 := by omega
  have hx0 : 0 ≤ mx := by omega
  obtain ⟨m1, m2, m3⟩ := h
  clear m3
  unfold aimE
  by_cases h1 : d - now ≤ 0
  · have g0 : decide (d - now ≤ 0) = true := decide_eq_true h1
    rw [if_pos h1]
    clear h1
    go_enter Tryd.func93, Tryd.ntmps93
    go_wp2
    go_ret2
    exact ⟨rfl, below_box _ _⟩
  · have g0 : decide (d - now ≤ 0) = false := decide_eq_false h1
    rw [if_neg h1]
    by_cases h2 : d - now < mn
    · have g1 : decide (d - now < mn) = true := decide_eq_true h2
      rw [if_pos h2]
      clear h1 h2
      go_enter Tryd.func93, Tryd.ntmps93
      go_wp2
      go_quiet (fail)
      go_wp2
      go_ret2
      exact ⟨rfl, (below_box _ _).drewN _⟩
    · have g1 : decide (d - now < mn) = false := decide_eq_false h2
      rw [if_neg h2]
      by_cases h3 : d - now ≤ mx
      · have g2 : decide (d - now ≤ mx) = true := decide_eq_true h3
        rw [if_pos h3]
        clear h1 h2 h3
        go_enter Tryd.func93, Tryd.ntmps93
        go_wp2
        go_ret2
        exact ⟨rfl, below_box _ _⟩
      · have g2 : decide (d - now ≤ mx) = false := decide_eq_false h3
        rw [if_neg h3]
        clear h1 h2 h3
        go_enter Tryd.func93, Tryd.ntmps93
        go_wp2
        go_quiet (fail)
        go_wp2
        go_ret2
        exact ⟨by first | rfl | (go_num), (below_box _ _).drewN _⟩
theorem splan_any (mn mx now d : Int) (hmx : -9223372036854775808 ≤ mx ∧ mx ≤ 9223372036854775807) (h : TimOk mn mx) (n0 : 0 ≤ now) (n1 : now ≤ 4503599627370496) (d0 : 0 ≤ d) (d1 : d ≤ 4503599627370496) (w : World) :
    Calls Tryd.prog 75 #[.agg #[.int .i64 mn, .int .i64 mx], .int .i64 now, .int .i64 d] w fun e w' => e = .returned (if (aimE mn mx now d).2 ≤ 4503599627370496 then .tuple #[.int .u8 (aimE mn mx now d).1, .int .i64 (aimE mn mx now d).2, .int .i64 0] else .tuple #[.int .u8 0, .int .i64 0, .int .i64 6]) ∧ Below w.heap.size w w' := by
  have hge : 0 ≤ (aimE mn mx now d).2 := by unfold aimE; unfold TimOk at h; (repeat' split) <;> simp <;> omega
  have hT := stime_any (aimE mn mx now d).2
  have hA := aim_any mn mx now d h n0 n1 d0 d1
  have hN := stime_any now
  have hD := stime_any d
  rw [show (decide (0 ≤ now) && decide (now ≤ 4503599627370496)) = true by simp; omega] at hN
  rw [show (decide (0 ≤ d) && decide (d ≤ 4503599627370496)) = true by simp; omega] at hD
  obtain ⟨x, hx⟩ : ∃ x, x = aimE mn mx now d := ⟨_, rfl⟩
  rw [← hx] at hT hA hge ⊢
  have HTI := Kept.mk h
  clear hx h
  have hC := scheck_any mn mx hmx
  by_cases hb : x.2 ≤ 4503599627370496
  · rw [if_pos hb]
    rw [show (decide (0 ≤ x.2) && decide (x.2 ≤ 4503599627370496)) = true by simp; omega] at hT
    clear hb hge
    go_enter Tryd.func75, Tryd.ntmps75
    go_wp2_with fail
    refine (hC _).mono ?_
    rintro e w1 ⟨⟨c, rfl, hc⟩, hb1⟩
    obtain rfl : c = 0 := hc.2 HTI.out
    have h0 := (hb1.block w.heap.size (by simp)).trans (heap_alloc_new w (.cells #[.int .i64 mn, .int .i64 mx] 23))
    have p0 := cell_of_row _ _ 0 _ _ _ h0
    have p1 := cell_of_row _ _ 1 _ _ _ h0
    have HB1 := Kept.mk ((below_box w (.cells #[.int .i64 mn, .int .i64 mx] 23)).trans (hb1.mono (by simp)))
    clear hc hb1 h0 hC
    go_wp2_with fail
    refine (hN _).mono ?_
    rintro e w2 ⟨rfl, rfl⟩
    go_wp2_with fail
    refine (hD _).mono ?_
    rintro e w2 ⟨rfl, rfl⟩
    go_wp2_with fail
    refine (hA _).mono ?_
    rintro e w2 ⟨rfl, hb2⟩
    have HB2 := Kept.mk (HB1.out.trans (hb2.mono HB1.out.size))
    clear hb2 hA hN hD p0 p1
    go_wp2_with fail
    refine (hT _).mono ?_
    rintro e w3 ⟨rfl, rfl⟩
    go_wp2_with fail
    go_ret3
    exact ⟨rfl, HB2.out⟩
  · rw [if_neg hb]
    rw [show (decide (0 ≤ x.2) && decide (x.2 ≤ 4503599627370496)) = false by simp; omega] at hT
    clear hb hge
    go_enter Tryd.func75, Tryd.ntmps75
    go_wp2_with fail
    refine (hC _).mono ?_
    rintro e w1 ⟨⟨c, rfl, hc⟩, hb1⟩
    obtain rfl : c = 0 := hc.2 HTI.out
    have h0 := (hb1.block w.heap.size (by simp)).trans (heap_alloc_new w (.cells #[.int .i64 mn, .int .i64 mx] 23))
    have p0 := cell_of_row _ _ 0 _ _ _ h0
    have p1 := cell_of_row _ _ 1 _ _ _ h0
    have HB1 := Kept.mk ((below_box w (.cells #[.int .i64 mn, .int .i64 mx] 23)).trans (hb1.mono (by simp)))
    clear hc hb1 h0 hC
    go_wp2_with fail
    refine (hN _).mono ?_
    rintro e w2 ⟨rfl, rfl⟩
    go_wp2_with fail
    refine (hD _).mono ?_
    rintro e w2 ⟨rfl, rfl⟩
    go_wp2_with fail
    refine (hA _).mono ?_
    rintro e w2 ⟨rfl, hb2⟩
    have HB2 := Kept.mk (HB1.out.trans (hb2.mono HB1.out.size))
    clear hb2 hA hN hD p0 p1
    go_wp2_with fail
    refine (hT _).mono ?_
    rintro e w3 ⟨rfl, rfl⟩
    go_wp2_with fail
    go_ret3
    exact ⟨rfl, HB2.out⟩
end Go.Proofs.YtakkfgkogomjbaaDoor
namespace Go.Proofs.YtakkfgkogomjbaaDoor
open Go.RowKit
set_option linter.unusedVariables false
section
variable {P : Program}
theorem run_storeVar_at (w : World) (g o : Nat) (t ty : TypeId) (cs new : Array Value) (hg : w.heap[g]? = some (.cells cs t (0, 0)))
    (hi : (P.info? ty).map (·.size) = some new.size) (hs : o + new.size ≤ cs.size) (h1 : ∀ v ∈ new.toList, v.oneCell' = true) :
    (storeVar ty ⟨g, o, none⟩ (.agg new)).run P w = .ok () (w.setRow g (cs.toList.take o ++ new.toList ++ cs.toList.drop (o + new.size)).toArray) := by
  cases hq : P.info? ty with
  | none => simp [hq] at hi
  | some i =>
    have hsz : i.size = new.size := by simpa [hq] using hi
    have hst := run_storeCells_at (P := P) g o t new.toList 0 cs w hg (by simp; omega) h1
    simp only [Nat.add_zero, Array.length_toList] at hst
    simp [storeVar, Sem.run_bind, sizeOf, typeInfo, hq, hsz, Value.cells, hst]
/-- What a store into one block does. -/
structure PutAt (g : Nat) (cs : Array Value) (t : TypeId) (w w' : World) : Prop where
  here : w'.heap[g]? = some (.cells cs t)
  far : ∀ k, k ≠ g → w'.heap[k]? = w.heap[k]?
  below : ∀ B, B ≤ g → Below B w w'
  size : w'.heap.size = w.heap.size
theorem wp_store_at {o : Oper} {a : Act} {w : World} {K : Act → World → Prop} {Q : Exit → Act → World → Prop} (ty : TypeId) (x y : Operand) (ho : o.op = .store ty x y)
    (g k : Nat) (hx : a.eval x = .pointer (some ⟨g, k, none⟩)) (new : Array Value) (hy : a.eval y = .agg new) (t : TypeId) (cs cs' : Array Value) (hg : w.heap[g]? = some (.cells cs t (0, 0)))
    (hi : (P.info? ty).map (·.size) = some new.size) (hs : k + new.size ≤ cs.size) (h1 : ∀ v ∈ new.toList, v.oneCell' = true) (hc : (cs.toList.take k ++ new.toList ++ cs.toList.drop (k + new.size)).toArray = cs')
    (h : ∀ w', PutAt g cs' t w w' → K (a.put o.dst undef) w') : o.wp P a w K Q := by
  unfold Oper.wp execOp
  simp only [ho, hx, hy, Instr.storeAt, Instr.sureAddr, Sem.run_bind, Sem.run_pure, Result.andThen_ok, run_storeVar_at w g k t ty cs new hg hi hs h1]
  refine h _ ⟨?_, fun i hi => setRow_other w g i _ hi, fun B hB => ⟨rfl, rfl, rfl, by simp, fun i hi => setRow_other w g i _ (by omega)⟩, by simp⟩
  rw [hc]
  exact setRow_heap w g _ _ _ _ hg
theorem wpList_store_at {ops : Array Oper} {rest : List Oper} {o : Oper} {a : Act} {w : World} {Q : Exit → Act → World → Prop} (hgd : o.guard = none) (ty : TypeId) (x y : Operand) (ho : o.op = .store ty x y)
    (g k : Nat) (hx : a.eval x = .pointer (some ⟨g, k, none⟩)) (new : Array Value) (hy : a.eval y = .agg new) (t : TypeId) (cs cs' : Array Value) (hg : w.heap[g]? = some (.cells cs t (0, 0)))
    (hi : (P.info? ty).map (·.size) = some new.size) (hs : k + new.size ≤ cs.size) (h1 : ∀ v ∈ new.toList, v.oneCell' = true) (hc : (cs.toList.take k ++ new.toList ++ cs.toList.drop (k + new.size)).toArray = cs')
    (h : ∀ w', PutAt g cs' t w w' → wpList P ops Q rest (a.put o.dst undef) w') : wpList P ops Q (o :: rest) a w :=
  wpList_plain hgd fun _ hK => wp_store_at ty x y ho g k hx new hy t cs cs' hg hi hs h1 hc fun w' hp => hK _ _ (h w' hp)
end
theorem ck_one {c m t : Int} {a l : Bool} : ∀ v ∈ (#[Value.int .u32 c, .int .u32 m, .bool a, .bool l, .int .i64 t] : Array Value).toList, v.oneCell' = true := by
  intro v hv; simp at hv; rcases hv with rfl | rfl | rfl | rfl | rfl <;> rfl
theorem hw_one {c m : Int} {a l : Bool} : ∀ v ∈ (#[Value.int .u32 c, .int .u32 m, .bool a, .bool l] : Array Value).toList, v.oneCell' = true := by
  intro v hv; simp at hv; rcases hv with rfl | rfl | rfl | rfl <;> rfl
theorem size_ck : (Tryd.prog.info? 64).map (·.size) = some 5 := by kernel_rfl
theorem size_hw : (Tryd.prog.info? 62).map (·.size) = some 4 := by kernel_rfl
/-- A clock that was read just now is read. -/
theorem cread0 (t m : Int) (a l : Bool) (t0 : 0 ≤ t) (h : t ≤ 4503599627370496) (w : World) : Calls Tryd.prog 39 #[.agg #[.int .u32 (t % 4294967296), .int .u32 m, .bool a, .bool l, .int .i64 t]] w fun e w' => e = .returned (.tuple #[.agg #[.int .u32 (t % 4294967296), .int .u32 m, .bool a, .bool l, .int .i64 t], .int .i64 t, .int .i64 0]) ∧ Below w.heap.size w w' := by
  have := cread_any t 0 m a l t0 (by omega) (by omega) (by omega) w
  simpa using this
end Go.Proofs.YtakkfgkogomjbaaDoor
namespace Go.Proofs.YtakkfgkogomjbaaDoor
open Go.RowKit Go.Shelf
set_option linter.unusedVariables false
set_option linter.unusedSimpArgs false
theorem heap3_fst (w : World) (A B C : Obj) : (((w.alloc A).alloc B).alloc C).heap[w.heap.size]? = some A := by
  refine Eq.trans (heap_alloc_old ((w.alloc A).alloc B) C (by simp; omega)) ?_
  exact (heap_alloc_old (w.alloc A) B (by simp)).trans (heap_alloc_new w A)
theorem heap3_lst (w : World) (A B C : Obj) : (((w.alloc A).alloc B).alloc C).heap[w.heap.size + 1 + 1]? = some C := by
  have h := heap_alloc_new ((w.alloc A).alloc B) C
  simpa using h
def armV (c m : Int) (a l : Bool) (t : Int) (x : Int × Int) : Value := if x.2 ≤ 4503599627370496 then (if x.1 = 1 then .tuple #[.agg #[.int .u32 c, .int .u32 m, .bool false, .bool l, .int .i64 t], .int .u8 1, .int .i64 0] else .tuple #[.agg #[.int .u32 c, .int .u32 (x.2 % 4294967296), .bool true, .bool l, .int .i64 t], .int .u8 x.1, .int .i64 0]) else .tuple #[.agg #[.int .u32 0, .int .u32 0, .bool false, .bool false, .int .i64 0], .int .u8 0, .int .i64 6]
set_option maxRecDepth 100000 in
set_option maxHeartbeats 4000000 in
theorem sarm_any (t m mn mx d : Int) (a l : Bool) (hmx : -9223372036854775808 ≤ mx ∧ mx ≤ 9223372036854775807) (h : TimOk mn mx) (n0 : 0 ≤ t) (n1 : t ≤ 4503599627370496) (d0 : 0 ≤ d) (d1 : d ≤ 4503599627370496) (w : World) :
    Calls Tryd.prog 54 #[.agg #[.int .u32 (t % 4294967296), .int .u32 m, .bool a, .bool l, .int .i64 t], .agg #[.int .i64 mn, .int .i64 mx], .int .i64 d] w fun e w' => e = .returned (armV (t % 4294967296) m a l t (aimE mn mx t d)) ∧ Below w.heap.size w w' := by
  have HP := splan_any mn mx t d hmx h n0 n1 d0 d1
  have HX := Kept.mk (show 0 ≤ (aimE mn mx t d).2 by unfold aimE; unfold TimOk at h; (repeat' split) <;> simp <;> omega)
  obtain ⟨x, hx⟩ : ∃ x, x = aimE mn mx t d := ⟨_, rfl⟩
  rw [← hx] at HP HX ⊢
  obtain ⟨R, hR⟩ : ∃ R, R = armV (t % 4294967296) m a l t x := ⟨_, rfl⟩
  have HRR := Kept.mk hR
  rw [← hR]
  clear hx h hR
  go_enter Tryd.func54, Tryd.ntmps54
  go_wp2_with fail
  refine (cread0 t m a l n0 n1 _).mono ?_
  rintro e w1 ⟨rfl, hb1⟩
  have hz : (((w.alloc (.cells #[.int .u32 (t % 4294967296), .int .u32 m, .bool a, .bool l, .int .i64 t] 64)).alloc (.cells #[.int .i64 mn, .int .i64 mx] 23)).alloc (.cells #[.int .u32 0, .int .u32 0, .bool false, .bool false, .int .i64 0] 64)).heap.size = w.heap.size + 3 := by simp
  have h0 := (hb1.block w.heap.size (by rw [hz]; omega)).trans (heap3_fst w (.cells #[.int .u32 (t % 4294967296), .int .u32 m, .bool a, .bool l, .int .i64 t] 64) (.cells #[.int .i64 mn, .int .i64 mx] 23) (.cells #[.int .u32 0, .int .u32 0, .bool false, .bool false, .int .i64 0] 64))
  have h1 := (hb1.block (w.heap.size + 1) (by rw [hz]; omega)).trans (heap3_mid w (.cells #[.int .u32 (t % 4294967296), .int .u32 m, .bool a, .bool l, .int .i64 t] 64) (.cells #[.int .i64 mn, .int .i64 mx] 23) (.cells #[.int .u32 0, .int .u32 0, .bool false, .bool false, .int .i64 0] 64))
  have h2 := (hb1.block (w.heap.size + 1 + 1) (by rw [hz]; omega)).trans (heap3_lst w (.cells #[.int .u32 (t % 4294967296), .int .u32 m, .bool a, .bool l, .int .i64 t] 64) (.cells #[.int .i64 mn, .int .i64 mx] 23) (.cells #[.int .u32 0, .int .u32 0, .bool false, .bool false, .int .i64 0] 64))
  have HB1 := Kept.mk ((three_below w (.cells #[.int .u32 (t % 4294967296), .int .u32 m, .bool a, .bool l, .int .i64 t] 64) (.cells #[.int .i64 mn, .int .i64 mx] 23) (.cells #[.int .u32 0, .int .u32 0, .bool false, .bool false, .int .i64 0] 64) (Nat.le_refl _)).trans (hb1.mono (by rw [hz]; omega)))
  have HS1 := Kept.mk (show w.heap.size + 3 ≤ w1.heap.size by have := hb1.size; rw [hz] at this; exact this)
  have H0 := Kept.mk h0
  have H1 := Kept.mk h1
  have H2 := Kept.mk h2
  clear h0 h1 h2 hz hb1
  go_wp2_with (refine wpList_store_at rfl 64 _ _ rfl w.heap.size 0 rfl #[.int .u32 (t % 4294967296), .int .u32 m, .bool a, .bool l, .int .i64 t] rfl 64 #[.int .u32 (t % 4294967296), .int .u32 m, .bool a, .bool l, .int .i64 t] #[.int .u32 (t % 4294967296), .int .u32 m, .bool a, .bool l, .int .i64 t] H0.out size_ck (by simp) ck_one rfl ?_; intro w2 hp; have HP2 := Kept.mk hp; have q0 := cell_of_row _ _ 0 _ _ _ ((hp.far (w.heap.size + 1) (by omega)).trans H1.out); have q1 := cell_of_row _ _ 1 _ _ _ ((hp.far (w.heap.size + 1) (by omega)).trans H1.out); clear hp)
  refine (HP _).mono ?_
  rintro e w3 ⟨rfl, hb3⟩
  have HB2 := Kept.mk (HB1.out.trans (HP2.out.below w.heap.size (Nat.le_refl _)))
  have hs2 : w1.heap.size = w2.heap.size := HP2.out.size.symm
  have H3 := Kept.mk ((hb3.block w.heap.size (by have := HS1.out; omega)).trans HP2.out.here)
  have H5 := Kept.mk ((hb3.block (w.heap.size + 1 + 1) (by have := HS1.out; omega)).trans ((HP2.out.far (w.heap.size + 1 + 1) (by omega)).trans H2.out))
  have HB3 := Kept.mk (HB2.out.trans (hb3.mono HB2.out.size))
  clear q0 q1 HP hs2 hb3
  by_cases hx : x.2 ≤ 4503599627370496
  · rw [if_pos hx]
    have HXX := Kept.mk hx
    clear hx
    by_cases hk : x.1 = 1
    · have e1 : (x.1 == 1) = true := by simp [hk]
      have HK := Kept.mk hk
      rw [hk]
      clear hk e1
      obtain ⟨r0, r1, r2, r3, r4⟩ := (box5 H3.out).1
      have HB4 := HB3.out
      clear HB4
      go_wp2_with fail
      refine (hdis_any _ m a l _).mono ?_
      rintro e w4 ⟨rfl, hb4⟩
      have H6 := Kept.mk ((hb4.block w.heap.size (Array.getElem?_eq_some_iff.1 H3.out).1).trans H3.out)
      have H7 := Kept.mk ((hb4.block (w.heap.size + 1 + 1) (Array.getElem?_eq_some_iff.1 H5.out).1).trans H5.out)
      have HB4 := Kept.mk (HB3.out.trans (hb4.mono HB3.out.size))
      clear r0 r1 r2 r3 r4 hb4
      go_wp2_with (first | (refine wpList_store_at rfl 62 _ _ rfl w.heap.size 0 rfl #[.int .u32 (t % 4294967296), .int .u32 m, .bool false, .bool l] rfl 64 #[.int .u32 (t % 4294967296), .int .u32 m, .bool a, .bool l, .int .i64 t] #[.int .u32 (t % 4294967296), .int .u32 m, .bool false, .bool l, .int .i64 t] H6.out size_hw (by simp) hw_one rfl ?_; intro w5 hp; have HP5 := Kept.mk hp; obtain ⟨r0, r1, r2, r3, r4⟩ := (box5 hp.here).1; have H8 := Kept.mk ((hp.far (w.heap.size + 1 + 1) (by omega)).trans H7.out); clear hp) | (refine wpList_store_at rfl 64 _ _ rfl (w.heap.size + 1 + 1) 0 rfl #[.int .u32 (t % 4294967296), .int .u32 m, .bool false, .bool l, .int .i64 t] rfl 64 #[.int .u32 0, .int .u32 0, .bool false, .bool false, .int .i64 0] #[.int .u32 (t % 4294967296), .int .u32 m, .bool false, .bool l, .int .i64 t] H8.out size_ck (by simp) ck_one rfl ?_; intro w6 hp; have HP6 := Kept.mk hp; clear hp))
      refine bodyPost_ret (results_row3 (p := 6) (u := 7) (v := 8) rfl _ _ (w.heap.size + 1 + 1) 64 #[.int .u32 (t % 4294967296), .int .u32 m, .bool false, .bool l, .int .i64 t] (0, 0) _ rfl HP6.out.here Tryd.underlying64 rfl (by kernel_rfl)) rfl ?_
      exact ⟨by rw [HRR.out]; unfold armV; rw [if_pos HXX.out, if_pos HK.out]; rfl, (HB4.out.trans (HP5.out.below w.heap.size (Nat.le_refl _))).trans (HP6.out.below w.heap.size (by omega))⟩
    · have e1 : (x.1 == 1) = false := by simp [hk]
      have HK := Kept.mk hk
      obtain ⟨r0, r1, r2, r3, r4⟩ := (box5 H3.out).1
      clear hk
      go_upto_region 9 with fail
      have hlt0 := (Array.getElem?_eq_some_iff.1 H3.out).1
      have hlt2 := (Array.getElem?_eq_some_iff.1 H5.out).1
      clear r0 r1 r2 r3 r4
      have hx9 : x.2 < 9223372036854775808 := by have := HXX.out; omega
      obtain ⟨wd, hwd⟩ : ∃ wd, wd = w3.drew := ⟨_, rfl⟩
      have H3d := Kept.mk (show wd.heap[w.heap.size]? = some (.cells #[.int .u32 (t % 4294967296), .int .u32 m, .bool a, .bool l, .int .i64 t] 64) by rw [hwd]; exact H3.out)
      have H5d := Kept.mk (show wd.heap[w.heap.size + 1 + 1]? = some (.cells #[.int .u32 0, .int .u32 0, .bool false, .bool false, .int .i64 0] 64) by rw [hwd]; exact H5.out)
      have HB3d := Kept.mk (show Below w.heap.size w wd by rw [hwd]; exact HB3.out.drewN 1)
      have hltd : w.heap.size < wd.heap.size := by rw [hwd]; exact hlt0
      have hltd2 : w.heap.size + 1 + 1 < wd.heap.size := by rw [hwd]; exact hlt2
      have HSF := Kept.mk (fun (V : World) (hV : V.heap[w.heap.size]? = some (.cells #[.int .u32 (t % 4294967296), .int .u32 m, .bool a, .bool l, .int .i64 t] 64)) => show (fun V : World => V.cell? ⟨w.heap.size, 0, none⟩ = some (.int .u32 (t % 4294967296)) ∧ V.cell? ⟨w.heap.size, 1, none⟩ = some (.int .u32 m) ∧ V.cell? ⟨w.heap.size, 2, none⟩ = some (.bool a) ∧ V.cell? ⟨w.heap.size, 3, none⟩ = some (.bool l)) V from ⟨(box5 hV).1.1, (box5 hV).1.2.1, (box5 hV).1.2.2.1, (box5 hV).1.2.2.2.1⟩)
      have HHELD := Kept.mk (HSF.out wd H3d.out)
      refine wp_region_late (fun V : World => V.cell? ⟨w.heap.size, 0, none⟩ = some (.int .u32 (t % 4294967296)) ∧ V.cell? ⟨w.heap.size, 1, none⟩ = some (.int .u32 m) ∧ V.cell? ⟨w.heap.size, 2, none⟩ = some (.bool a) ∧ V.cell? ⟨w.heap.size, 3, none⟩ = some (.bool l)) (fun i => i == 6) (by kernel_rfl) ?_
      rw [← hwd]
      clear hwd hlt0 hlt2
      refine wpAnyT_take (i := 0) (v := ?v0) [0, 1, 4, 6] (by simp only [List.getElem?_toArray, List.getElem?_cons_succ, List.getElem?_cons_zero]; exact rfl) (by kernel_rfl) (by kernel_rfl) (by kernel_rfl) (by kernel_rfl) (by intro _ _ _ h; exact h) (Or.inl ⟨by rfl, ?hy0⟩) HHELD.out ?rest0
      case hy0 => (intro w hSw; go_simp; try with_reducible rfl)
      try simp only [Act.put, List.setIfInBounds_toArray, List.set_cons_zero, List.set_cons_succ]
      refine wpAnyT_take (i := 1) (v := ?v1) [1, 4, 6] (by simp only [List.getElem?_toArray, List.getElem?_cons_succ, List.getElem?_cons_zero]; exact rfl) (by kernel_rfl) (by kernel_rfl) (by kernel_rfl) (by kernel_rfl) (by intro _ _ _ h; exact h) (Or.inl ⟨by rfl, ?hy1⟩) HHELD.out ?rest1
      case hy1 => (intro w hSw; go_simp; try with_reducible rfl)
      try simp only [Act.put, List.setIfInBounds_toArray, List.set_cons_zero, List.set_cons_succ]
      refine wpAnyT_take (i := 2) (v := ?v2) [2, 3, 4, 6] (by simp only [List.getElem?_toArray, List.getElem?_cons_succ, List.getElem?_cons_zero]; exact rfl) (by kernel_rfl) (by kernel_rfl) (by kernel_rfl) (by kernel_rfl) (by intro _ _ _ h; exact h) (Or.inl ⟨by rfl, ?hy2⟩) HHELD.out ?rest2
      case hy2 => (intro w hSw; go_simp; try with_reducible rfl)
      try simp only [Act.put, List.setIfInBounds_toArray, List.set_cons_zero, List.set_cons_succ]
      refine wpAnyT_one 3 (by kernel_rfl) (by simp only [List.getElem?_toArray, List.getElem?_cons_succ, List.getElem?_cons_zero]; exact rfl) (fun K hK => ?_)
      go_simp
      go_at_call 19
      refine (low_any x.2 HX.out hx9 _).mono ?_
      rintro e wl ⟨rfl, rfl⟩
      refine hK.out _ _ (fun _ => HHELD.out) ?_
      clear hK K
      try simp only [Act.put, List.setIfInBounds_toArray, List.set_cons_zero, List.set_cons_succ]
      refine wpAnyT_one 4 (by kernel_rfl) (by simp only [List.getElem?_toArray, List.getElem?_cons_succ, List.getElem?_cons_zero]; exact rfl) (fun K hK => ?_)
      go_simp
      go_at_call 55
      refine (harm_any (t % 4294967296) m (x.2 % 4294967296) a l _).mono ?_
      rintro e w4 ⟨rfl, hb4⟩
      have H6 := Kept.mk ((hb4.block w.heap.size hltd).trans H3d.out)
      have H7 := Kept.mk ((hb4.block (w.heap.size + 1 + 1) hltd2).trans H5d.out)
      have HB4 := Kept.mk (HB3d.out.trans (hb4.mono HB3d.out.size))
      refine hK.out _ _ (fun _ => HSF.out _ H6.out) ?_
      clear hK K hb4
      try simp only [Act.put, List.setIfInBounds_toArray, List.set_cons_zero, List.set_cons_succ]
      have HHELD4 := Kept.mk (HSF.out _ H6.out)
      refine wpAnyT_take (i := 5) (v := ?v5) [5, 6] (by simp only [List.getElem?_toArray, List.getElem?_cons_succ, List.getElem?_cons_zero]; exact rfl) (by kernel_rfl) (by kernel_rfl) (by kernel_rfl) (by kernel_rfl) (by intro _ _ _ h; exact h) (Or.inl ⟨by rfl, ?hy5⟩) HHELD4.out ?rest5
      case hy5 => (intro w hSw; go_simp; try with_reducible rfl)
      try simp only [Act.put, List.setIfInBounds_toArray, List.set_cons_zero, List.set_cons_succ]
      refine wpAnyT_one 6 (by kernel_rfl) (by simp only [List.getElem?_toArray, List.getElem?_cons_succ, List.getElem?_cons_zero]; exact rfl) (fun K hK => ?_)
      refine step_wp rfl (wp_store_at 62 _ _ rfl w.heap.size 0 rfl #[.int .u32 (t % 4294967296), .int .u32 (x.2 % 4294967296), .bool true, .bool l] rfl 64 #[.int .u32 (t % 4294967296), .int .u32 m, .bool a, .bool l, .int .i64 t] #[.int .u32 (t % 4294967296), .int .u32 (x.2 % 4294967296), .bool true, .bool l, .int .i64 t] H6.out size_hw (by simp) hw_one rfl ?_)
      intro w5 hp
      have HP5 := Kept.mk hp
      obtain ⟨r0, r1, r2, r3, r4⟩ := (box5 hp.here).1
      have H8 := Kept.mk ((hp.far (w.heap.size + 1 + 1) (by omega)).trans H7.out)
      refine hK.out _ _ (fun h => (by cases h)) ?_
      clear hK K hp
      try simp only [Act.put, List.setIfInBounds_toArray, List.set_cons_zero, List.set_cons_succ]
      refine wpAnyT_done (by kernel_rfl) ?_ _
      go_wp2_with (refine wpList_store_at rfl 64 _ _ rfl (w.heap.size + 1 + 1) 0 rfl #[.int .u32 (t % 4294967296), .int .u32 (x.2 % 4294967296), .bool true, .bool l, .int .i64 t] rfl 64 #[.int .u32 0, .int .u32 0, .bool false, .bool false, .int .i64 0] #[.int .u32 (t % 4294967296), .int .u32 (x.2 % 4294967296), .bool true, .bool l, .int .i64 t] H8.out size_ck (by simp) ck_one rfl ?_; intro w6 hp; have HP6 := Kept.mk hp; clear hp)
      refine bodyPost_ret (results_row3 (p := 6) (u := 7) (v := 8) rfl _ _ (w.heap.size + 1 + 1) 64 #[.int .u32 (t % 4294967296), .int .u32 (x.2 % 4294967296), .bool true, .bool l, .int .i64 t] (0, 0) _ rfl HP6.out.here Tryd.underlying64 rfl (by kernel_rfl)) rfl ?_
      exact ⟨by rw [HRR.out]; unfold armV; rw [if_pos HXX.out, if_neg HK.out]; rfl, (HB4.out.trans (HP5.out.below w.heap.size (Nat.le_refl _))).trans (HP6.out.below w.heap.size (by omega))⟩
  · rw [if_neg hx]
    have HXX := Kept.mk hx
    clear hx
    go_wp2_with (refine wpList_store_at rfl 64 _ _ rfl (w.heap.size + 1 + 1) 0 rfl #[.int .u32 0, .int .u32 0, .bool false, .bool false, .int .i64 0] rfl 64 #[.int .u32 0, .int .u32 0, .bool false, .bool false, .int .i64 0] #[.int .u32 0, .int .u32 0, .bool false, .bool false, .int .i64 0] H5.out size_ck (by simp) ck_one rfl ?_; intro w6 hp; have HP6 := Kept.mk hp; clear hp)
    refine bodyPost_ret (results_row3 (p := 6) (u := 7) (v := 8) rfl _ _ (w.heap.size + 1 + 1) 64 #[.int .u32 0, .int .u32 0, .bool false, .bool false, .int .i64 0] (0, 0) _ rfl HP6.out.here Tryd.underlying64 rfl (by kernel_rfl)) rfl ?_
    exact ⟨by rw [HRR.out]; unfold armV; rw [if_neg (by have := HXX.out; omega)]; rfl, HB3.out.trans (HP6.out.below w.heap.size (by omega))⟩
end Go.Proofs.YtakkfgkogomjbaaDoor
