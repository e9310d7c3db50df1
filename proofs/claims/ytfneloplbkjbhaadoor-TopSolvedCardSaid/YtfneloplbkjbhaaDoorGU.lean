/-
  A mark's line is read again: kind, count.
-/
import Derived.Test.YtfneloplbkjbhaaDoorTM4
import Derived.BigQuiet
namespace Go.Proofs.YtfneloplbkjbhaaDoor
open Go.RowKit Go.Shelf
open Go.Lib (byteCells itoa)
set_option linter.unusedVariables false
theorem own_conv {B : Nat} {w : World} {v : Value} {n : Int} {k : Nat} {ys : List Value} (h : w.ownsRow B 5 1 v k ys) (hk : k = 0 + (itoa n).length) (hy : ys = [] ++ byteCells (itoa n)) (h0 : 0 ≤ n) : ∃ g cap, v = .slice (some ⟨g, 0, none⟩) (itoa n).length cap ∧ (convert 62 9 (.slice (some ⟨g, 0, none⟩) (itoa n).length cap)).run Tryd.prog w = .ok (.string (BA (itoa n))) w := by
  subst hk hy
  have hO : OB B w v (itoa n) := by unfold OB; simpa using h
  rcases hO.cases with ⟨_, h2⟩ | ⟨g, cp, h1, hcell⟩
  · exact absurd h2 (by rw [itoa_nat h0]; exact dig_ne _)
  · exact ⟨g, cp, h1, run_convert_bytes_back (P := Tryd.prog) w 62 9 5 ⟨g, 0, none⟩ cp _ Tryd.underlying62 Tryd.underlying5 Tryd.underlying9 hcell⟩
set_option maxHeartbeats 1600000 in
theorem count_any (n most : Int) (w : World) (h0 : 0 ≤ n) (h1 : n ≤ most) (hm : most ≤ 4503599627370496) (hT : PowB w.heap.size w) :
    Calls Tryd.prog 39 #[.string (BA (itoa n)), .int .i64 most] w fun e w' => e = .returned (.tuple #[.int .i64 n, .bool true]) ∧ Below w.heap.size w w' := by
  have hp := parse_itoa h0 (show n ≤ 4503599627370496 by omega)
  have hsz : (BA (itoa n)).size ≤ 9223372036854775806 := by rw [BA_size]; have := Lib.itoa_length_le n (by omega) (by omega); omega
  have HP := Kept.mk (strconv_ParseInt_10_at64_ok (BA (itoa n)) hsz n (hp))
  clear hp
  go_enter Tryd.func39, Tryd.ntmps39
  go_wp2_with (first | (go_at_call 54; refine (HP.out _).mono ?_; rintro e w1 ⟨rfl, hw1⟩; have hb1 : Below w.heap.size w w1 := (by rcases hw1 with rfl | ⟨t, rfl⟩ <;> first | exact Below.refl _ _ | exact Lib.bytesWorld_below _ _ _)))
  have hsz1 := hb1.size
  have HT1 := Kept.mk (hT.on hb1)
  clear hw1
  have nlt : decide (n < 0) = false := decide_eq_false (by omega)
  have nle : decide (most < n) = false := decide_eq_false (by omega)
  go_region_with ((go_at_call 36; refine (strconv_AppendInt_10 w.heap.size 0 n (by omega) (by omega) (.slice none 0 0) [] _ (World.ownsRow_nil _ _ _ _) (by simpa using hsz1) (by omega) (HT1.out.on ((Below.refl _ _).drewN 1))).mono ?_; rintro e w2 ⟨v2, rfl, hown2, hb2, -⟩; obtain ⟨g2, c2, rfl, hcv⟩ := own_conv hown2 rfl rfl h0))
  all_goals go_wp2
  all_goals go_ret2
  all_goals exact ⟨by simp [Act.put], hb1.trans (((Below.refl _ _).drewN 1).trans hb2)⟩
end Go.Proofs.YtfneloplbkjbhaaDoor
namespace Go.Proofs.YtfneloplbkjbhaaDoor
open Go.RowKit Go.Shelf
open Go.Lib (byteCells itoa)
set_option linter.unusedVariables false
theorem BA_inj {l m : List UInt8} (h : BA l = BA m) : l = m := by
  unfold BA at h
  injection h with h
  injection h
set_option maxHeartbeats 1600000 in
theorem kind_any (b : Nat) (w : World) (h0 : 1 ≤ b) (h1 : b ≤ 11) (hW : Wrd w) :
    Calls Tryd.prog 40 #[.string (BA (wordL b))] w fun e w' => e = .returned (.int .u8 b) ∧ w = w' := by
  go_enter Tryd.func40, Tryd.ntmps40
  go_wp2
  go_loop [3] (fun u => ∃ j : Nat, 1 ≤ j ∧ j ≤ b ∧ u = .int .u8 j) (fun u => b - (intOf u).toNat)
  case atStart => exact ⟨1, by omega, by omega, rfl⟩
  case round =>
    obtain ⟨j, hj0, hj1, rfl⟩ := hrel
    have c1 := hW j (by omega)
    by_cases hjb : j = b
    · subst hjb
      have heq : (wordL j == wordL j) = true := beq_self_eq_true _
      go_wp2
      go_ret
      exact ⟨rfl, rfl⟩
    · have hne : ¬ wordL j = wordL b := fun h => hjb (word_inj (by omega) (by omega) h)
      have heq : (wordL j == wordL b) = false := beq_eq_false_iff_ne.2 hne
      go_wp2
      go_round
      case rel => exact ⟨j + 1, by omega, by omega, by go_num⟩
      case measure => simp [intOf]; omega
end Go.Proofs.YtfneloplbkjbhaaDoor
namespace Go.Proofs.YtfneloplbkjbhaaDoor
open Go.RowKit Go.Shelf
open Go.Lib (byteCells itoa)
set_option linter.unusedVariables false
/-- What the walks read of the package's variables. -/
structure Env (B : Nat) (w : World) : Prop where
  pow : PowB B w
  wrd : Wrd w
  mx : ∃ m, w.cell? ⟨1, 0, none⟩ = some (.int .i64 m)
  b2 : 1 < B
theorem Env.on {B : Nat} {w w' : World} (h : Env B w) (hb : Below B w w') : Env B w' :=
  ⟨h.pow.on hb, h.wrd.below (by have := h.b2; omega) hb, by obtain ⟨m, hm⟩ := h.mx; exact ⟨m, (hb.cell (p := ⟨1, 0, none⟩) h.b2).trans hm⟩, h.b2⟩
theorem Env.mono {B B' : Nat} {w : World} (h : Env B w) (hB : B ≤ B') : Env B' w :=
  ⟨fun w' hb => h.pow w' (hb.mono hB), h.wrd, h.mx, by have := h.b2; omega⟩
/-- Parse's own blocks. -/
structure PW (w wx : World) (q : QM) : Prop where
  res : wx.heap[w.heap.size]? = some (.cells #[.int .i64 0, .int .u8 0, .int .i64 0, .int .i64 0] 34 (0, 0))
  row : wx.heap[w.heap.size + 1]? = some (.cells #[.string (BA (itoa q.a)), .string (BA (wordL q.b.toNat)), .string (BA (itoa q.c)), .string (BA (itoa q.d))] 9 (0, 0))
  bel : Below w.heap.size w wx
theorem PW.on {w wx wy : World} {q : QM} (h : PW w wx q) (hb : Below wx.heap.size wx wy) : PW w wy q := by
  have h1 := (Array.getElem?_eq_some_iff.1 h.res).1
  have h2 := (Array.getElem?_eq_some_iff.1 h.row).1
  exact ⟨(hb.block _ h1).trans h.res, (hb.block _ h2).trans h.row, h.bel.trans (hb.mono h.bel.size)⟩
theorem PW.at {w wx : World} {q : QM} (h : PW w wx q) {i : Nat} {v : Value} (hv : #[Value.string (BA (itoa q.a)), .string (BA (wordL q.b.toNat)), .string (BA (itoa q.c)), .string (BA (itoa q.d))][i]? = some v) : wx.cell? ⟨w.heap.size + 1, i, none⟩ = some v :=
  (cell_of_row _ _ i _ _ _ h.row).trans hv
theorem PW.res_at {w wx : World} {q : QM} (h : PW w wx q) {i : Nat} {v : Value} (hv : #[Value.int .i64 0, .int .u8 0, .int .i64 0, .int .i64 0][i]? = some v) : wx.cell? ⟨w.heap.size, i, none⟩ = some v :=
  (cell_of_row _ _ i _ _ _ h.res).trans hv
theorem PW.free {w wx : World} {q : QM} (h : PW w wx q) (i : Nat) : wx.frozen? ⟨w.heap.size, i, none⟩ = false := by
  simp [World.frozen?, h.res]
theorem results_mark {fn : Func} {p u : Tmp} (h : fn.results = #[.cell p 34, .tmp u]) (tmps : Array Value) (w : World) (g : Nat) (q : QM)
    (hp : tmps.getD p undef = .pointer (some ⟨g, 0, none⟩)) (hg : w.heap[g]? = some (.cells #[.int .i64 q.a, .int .u8 q.b, .int .i64 q.c, .int .i64 q.d] 34 (0, 0))) :
    (results fn tmps).run Tryd.prog w = .ok (.tuple #[q.v, tmps.getD u undef]) w := by
  have hl := run_loadVar_row (P := Tryd.prog) w g 34 34 #[.int .i64 q.a, .int .u8 q.b, .int .i64 q.c, .int .i64 q.d] (0, 0) _ hg Tryd.underlying34 rfl (by kernel_rfl)
  rw [results_cell_tmp h, hp]
  simp only [asAddr, Sem.run_pure, Result.andThen_ok, hl]
  rfl
theorem set_at {w : World} {g k : Nat} {cs : Array Value} {t : TypeId} (h : w.heap[g]? = some (.cells cs t (0, 0))) (v : Value) : (w.setCell ⟨g, k, none⟩ v).heap[g]? = some (.cells (cs.setIfInBounds k v) t (0, 0)) := heap_setCell_same w g k cs t v h
theorem split_any (q : QM) (w : World) (hq : okM q) (hm : ∃ m, w.cell? ⟨1, 0, none⟩ = some (.int .i64 m)) :
    Calls Tryd.prog 38 #[.string (BA (lineL q)), .string ⟨#[32]⟩] w fun e w' => e = .returned (.slice (some ⟨w.heap.size, 0, none⟩) 4 4) ∧ w' = w.alloc (.cells #[.string (BA (itoa q.a)), .string (BA (wordL q.b.toNat)), .string (BA (itoa q.c)), .string (BA (itoa q.d))] 9) := by
  obtain ⟨m, hm⟩ := hm
  have h := strings_Split (BA (lineL q)) (BA [32]) m w (by rw [BA_size]; have := line_len hq; omega) hm (by rw [BA_size]; decide)
  rw [(line_split hq).1, (line_split hq).2] at h
  exact h
set_option maxHeartbeats 6400000 in
set_option maxRecDepth 100000 in
theorem parse_any (q : QM) (w : World) (hq : okM q) (EN : Env w.heap.size w) :
    Calls Tryd.prog 19 #[.string (BA (lineL q))] w fun e w' => e = .returned (.tuple #[q.v, .int .i64 0]) ∧ Below w.heap.size w w' := by
  have HS := Kept.mk (split_any q (w.alloc (.cells #[.int .i64 0, .int .u8 0, .int .i64 0, .int .i64 0] 34)) hq (EN.on (below_box w _)).mx)
  have hokb : okMB q = true := decide_eq_true hq
  obtain ⟨l, hl⟩ : ∃ l, l = lineL q := ⟨_, rfl⟩
  rw [← hl] at HS
  rw [← hl]
  clear hl
  obtain ⟨a, b, c, d⟩ := q
  obtain ⟨q1, q2, q3, q4, q5, q6, q7, q8⟩ := hq
  simp only at q1 q2 q3 q4 q5 q6 q7 q8
  have KA := Kept.mk (fun (W : World) (h : PowB W.heap.size W) => count_any a 4503599627370496 W q3 q4 (by omega) h)
  have KC := Kept.mk (fun (W : World) (h : PowB W.heap.size W) => count_any c 63 W q5 q6 (by omega) h)
  have KD := Kept.mk (fun (W : World) (h : PowB W.heap.size W) => count_any d 4503599627370496 W q7 q8 (by omega) h)
  have KK := Kept.mk (fun (W : World) (h : Wrd W) => by
    have h1 := kind_any b.toNat W (by omega) (by omega) h
    rw [Int.toNat_of_nonneg (by omega)] at h1
    exact h1)
  unfold QM.v
  simp only
  go_enter Tryd.func19, Tryd.ntmps19
  go_wp2_with (go_at_call 38; refine HS.out.mono ?_; rintro e wB ⟨rfl, hwB⟩; refine Hid.out ?_)
  refine Lib.hid ?_
  have P0 : PW w wB ⟨a, b, c, d⟩ := by
    subst hwB
    exact ⟨(heap_alloc_old _ _ (by simp)).trans (heap_alloc_new w _), by simpa using heap_alloc_new (w.alloc (.cells #[.int .i64 0, .int .u8 0, .int .i64 0, .int .i64 0] 34)) _, (below_box w _).alloc (by simp) _⟩
  rw [← hwB]
  clear hwB HS
  have EB := (EN.on P0.bel).mono P0.bel.size
  have c0 := P0.at (i := 0) rfl
  go_wp2_with (go_at_call 39; refine (KA.out _ EB.pow).mono ?_; rintro e w2 ⟨rfl, hb2⟩; refine Hid.out ?_)
  refine Lib.hid ?_
  have P2 := P0.on hb2
  clear hb2 c0 EB
  have E2 := (EN.on P2.bel).mono P2.bel.size
  have c2 := P2.at (i := 2) rfl
  go_wp2_with (go_at_call 39; refine (KC.out _ E2.pow).mono ?_; rintro e w3 ⟨rfl, hb3⟩; refine Hid.out ?_)
  refine Lib.hid ?_
  have P3 := P2.on hb3
  clear hb3 c2 E2
  have E3 := (EN.on P3.bel).mono P3.bel.size
  have c3 := P3.at (i := 3) rfl
  go_wp2_with (go_at_call 39; refine (KD.out _ E3.pow).mono ?_; rintro e w4 ⟨rfl, hb4⟩; refine Hid.out ?_)
  refine Lib.hid ?_
  have P4 := P3.on hb4
  clear hb4 c3 E3
  have E4 := (EN.on P4.bel).mono P4.bel.size
  have c1 := P4.at (i := 1) rfl
  have P5 := P4.on (below_box w4 (.cells #[.int .i64 a, .int .u8 b, .int .i64 c, .int .i64 d] 34))
  go_wp2_with (first | (go_at_call 40; refine (KK.out _ E4.wrd).mono ?_; rintro e w4' ⟨rfl, rfl⟩) | (go_at_call 16; refine (tmright_any ⟨a, b, c, d⟩ _).mono ?_; rintro e w6 ⟨rfl, hb6⟩; refine Hid.out ?_))
  refine Lib.hid ?_
  have P6 := P5.on hb6
  have q0 := box_cell hb6 0 _ rfl
  have q1' := box_cell hb6 1 _ rfl
  have q2' := box_cell hb6 2 _ rfl
  have q3' := box_cell hb6 3 _ rfl
  have r0 := P6.res_at (i := 0) rfl
  have r1 := P6.res_at (i := 1) rfl
  have r2 := P6.res_at (i := 2) rfl
  have r3 := P6.res_at (i := 3) rfl
  have f0 := P6.free 0
  have f1 := P6.free 1
  have f2 := P6.free 2
  have f3 := P6.free 3
  have B6 := P6.bel
  have HR6 := P6.res
  clear hb6 P0 P2 P3 P4 P5 P6 E4 c1
  go_wp2
  have g1 := set_at HR6 (k := 0) (.int .i64 a)
  have g2 := set_at g1 (k := 1) (.int .u8 b)
  have g3 := set_at g2 (k := 2) (.int .i64 c)
  have g4 := set_at g3 (k := 3) (.int .i64 d)
  refine bodyPost_ret (v := .tuple #[QM.v ⟨a, b, c, d⟩, .int .i64 0]) (results_mark (p := 2) (u := 3) rfl _ _ w.heap.size ⟨a, b, c, d⟩ rfl g4) rfl ⟨rfl, ?_⟩
  exact (((B6.setCell (Nat.le_refl _) _).setCell (Nat.le_refl _) _).setCell (Nat.le_refl _) _).setCell (Nat.le_refl _) _
end Go.Proofs.YtfneloplbkjbhaaDoor
