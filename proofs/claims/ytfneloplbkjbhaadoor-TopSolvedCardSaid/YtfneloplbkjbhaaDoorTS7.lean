/-
  A configuration as text: may it be told? Check.
-/
import Derived.Test.YtfneloplbkjbhaaDoorTS6
import Derived.Test.YtfneloplbkjbhaaDoorCalm2
import Derived.BigQuiet
import Derived.Deep.CutBlock
namespace Go.Proofs.YtfneloplbkjbhaaDoor
open Go.RowKit Go.Shelf
set_option linter.unusedVariables false
set_option linter.unusedSimpArgs false
/-- Tasks in memory. -/
def RT (w : World) (B : Nat) (A : Option Addr) (ts : List Tk) : Prop :=
  0 < ts.length → ∃ b off, A = some ⟨b, off, none⟩ ∧ b < B ∧ ∀ j x o u, ts[j]? = some x → x.arr[o]? = some u → w.cell? ⟨b, off + j * 10 + o, none⟩ = some u
theorem RT.below {w w' : World} {B : Nat} {A : Option Addr} {ts : List Tk} (h : RT w B A ts) (hb : Below B w w') : RT w' B A ts := fun h0 => by
  obtain ⟨b, off, e, h1, h2⟩ := h h0
  exact ⟨b, off, e, h1, fun j x o u hj ho => (hb.cell (p := ⟨b, off + j * 10 + o, none⟩) h1).trans (h2 j x o u hj ho)⟩
theorem RT.mono {w : World} {B B' : Nat} {A : Option Addr} {ts : List Tk} (h : RT w B A ts) (hB : B ≤ B') : RT w B' A ts := fun h0 => by
  obtain ⟨b, off, e, h1, h2⟩ := h h0
  exact ⟨b, off, e, Nat.lt_of_lt_of_le h1 hB, h2⟩
/-- A configuration. -/
structure Cf where
  mn : Int
  mx : Int
  sw : Int
  ts : List Tk
  ls : List Q4
  hs : List Q4
/-- May it be told? -/
structure okC (c : Cf) : Prop where
  tm : toldB [c.mn, c.mx, c.sw] = true
  nt : c.ts.length ≤ 32
  nl : c.ls.length ≤ 64
  nh : c.hs.length = c.ls.length
  ts : ∀ t ∈ c.ts, oddT t = false
  ls : ∀ (k : Nat) (x y : Q4), c.ls[k]? = some x → c.hs[k]? = some y → toldB (svNums x y) = true
def ChkRes (w : World) (c : Cf) (e : Ending) (w' : World) : Prop := Below w.heap.size w w' ∧ ((okC c ∧ e = .returned (.int .i64 0)) ∨ (¬ okC c ∧ e = .returned (.int .i64 2)))
theorem wp_region_late {P : Program} {ops : Array Oper} {Q : Exit → Act → World → Prop} {id : Nat} {a : Act} {w : World} (S : World → Prop) (T : Nat → Bool) (hm : P.follows .mixedOrders = true)
    (h : wpAnyT P .any ops Q S T ops.size (Array.replicate ops.size false) a w.drew) : (Code.region id ops true).wp P Q a w := wp_region_any hm (wpAny_of_T _ _ _ _ h)
set_option maxRecDepth 100000 in
set_option maxHeartbeats 6400000 in
theorem cfgcheck_any (c : Cf) (At : Option Addr) (ct : Nat) (Al : Option Addr) (cl : Nat) (Ah : Option Addr) (ch : Nat) (w : World) (hT : RT w w.heap.size At c.ts) (hL : R4 w w.heap.size Al c.ls) (hH : R4 w w.heap.size Ah c.hs) :
    Calls Tryd.prog 27 #[.agg #[.int .i64 c.mn, .int .i64 c.mx, .int .i64 c.sw, .slice At c.ts.length ct, .slice Al c.ls.length cl, .slice Ah c.hs.length ch]] w (ChkRes w c) := by
  obtain ⟨mn, mx, sw, ts, ls, hs⟩ := c
  simp only at hT hL hH
  simp only
  obtain ⟨bt, hbt⟩ : ∃ bt, toldB [mn, mx, sw] = bt := ⟨_, rfl⟩
  obtain ⟨W1, hW1⟩ : ∃ W1, W1 = w.alloc (.cells #[.int .i64 mn, .int .i64 mx, .int .i64 sw, .slice At ts.length ct, .slice Al ls.length cl, .slice Ah hs.length ch] 47) := ⟨_, rfl⟩
  have s1 : W1.heap.size = w.heap.size + 1 := by rw [hW1]; simp
  have hb1 : Below w.heap.size w W1 := by rw [hW1]; exact below_box w _
  have HTOLD := Kept.mk (told_at (w1 := w) (w' := W1.alloc (.cells #[.int .i64 mn, .int .i64 mx, .int .i64 sw] 2)) (ns := [mn, mx, sw]) bt hbt (heap_alloc_new W1 _) (by simp))
  have HB2 := Kept.mk (hb1.alloc (by omega) (.cells #[.int .i64 mn, .int .i64 mx, .int .i64 sw] 2))
  rw [s1] at HTOLD
  have HBX := Kept.mk (fun (U : World) (hU : Below W1.heap.size W1 U) => show U.cell? ⟨w.heap.size, 4, none⟩ = some (.slice Al ls.length cl) ∧ U.cell? ⟨w.heap.size, 5, none⟩ = some (.slice Ah hs.length ch) from by
    rw [hW1] at hU
    exact ⟨box_cell hU 4 _ rfl, box_cell hU 5 _ rfl⟩)
  have HB12 := Kept.mk ((Below.refl W1.heap.size W1).alloc (Nat.le_refl _) (.cells #[.int .i64 mn, .int .i64 mx, .int .i64 sw] 2))
  cases bt
  · have NO := Kept.mk (show ¬ okC ⟨mn, mx, sw, ts, ls, hs⟩ from fun h => by have := h.tm; simp only at this; rw [hbt] at this; cases this)
    rw [hW1] at HTOLD HB2
    clear hW1 hT hL hH hbt hb1 s1
    go_enter Tryd.func27, Tryd.ntmps27
    go_wp2_with (go_at_call 42; refine HTOLD.out.mono ?_; rintro e1 w1 ⟨rfl, rfl⟩)
    all_goals go_ret
    all_goals exact ⟨HB2.out, .inr ⟨NO.out, rfl⟩⟩
  · by_cases h32 : 32 < ts.length
    · have NO := Kept.mk (show ¬ okC ⟨mn, mx, sw, ts, ls, hs⟩ from fun h => by have := h.nt; simp only at this; omega)
      have d1 : decide ((32 : Int) < (ts.length : Int)) = true := decide_eq_true (by omega)
      rw [hW1] at HTOLD HB2
      clear hW1 hT hL hH hbt hb1 s1 h32
      go_enter Tryd.func27, Tryd.ntmps27
      go_wp2_with (go_at_call 42; refine HTOLD.out.mono ?_; rintro e1 w1 ⟨rfl, rfl⟩)
      all_goals go_ret
      all_goals exact ⟨HB2.out, .inr ⟨NO.out, rfl⟩⟩
    · have d1 : decide ((32 : Int) < (ts.length : Int)) = false := decide_eq_false (by omega)
      by_cases h64 : 64 < ls.length
      · have NO := Kept.mk (show ¬ okC ⟨mn, mx, sw, ts, ls, hs⟩ from fun h => by have := h.nl; simp only at this; omega)
        have d2 : decide ((64 : Int) < (ls.length : Int)) = true := decide_eq_true (by omega)
        rw [hW1] at HTOLD HB2
        clear hW1 hT hL hH hbt hb1 s1 h32 h64
        go_enter Tryd.func27, Tryd.ntmps27
        go_wp2_with (go_at_call 42; refine HTOLD.out.mono ?_; rintro e1 w1 ⟨rfl, rfl⟩)
        all_goals go_ret
        all_goals exact ⟨HB2.out, .inr ⟨NO.out, rfl⟩⟩
      · have d2 : decide ((64 : Int) < (ls.length : Int)) = false := decide_eq_false (by omega)
        by_cases hne : hs.length = ls.length
        · have d3 : ((hs.length : Int) != (ls.length : Int)) = false := by rw [hne]; simp
          have d4 : (hs.length != ls.length) = false := by simp [hne]
          have HT := Kept.mk (hT.below hb1 |>.mono hb1.size)
          have HL := Kept.mk (hL.below hb1 |>.mono hb1.size)
          have HH := Kept.mk (hH.below hb1 |>.mono hb1.size)
          have n32 : ts.length ≤ 32 := by omega
          have n64 : ls.length ≤ 64 := by omega
          have HN := Kept.mk (show toldB [mn, mx, sw] = true ∧ ts.length ≤ 32 ∧ ls.length ≤ 64 ∧ hs.length = ls.length from ⟨hbt, by omega, by omega, hne⟩)
          have HB1 := Kept.mk hb1
          rw [hW1] at HTOLD
          clear hT hL hH hbt h32 h64 hne hb1
          go_enter Tryd.func27, Tryd.ntmps27
          go_wp2_with (go_at_call 42; refine HTOLD.out.mono ?_; rintro e1 w1 ⟨rfl, rfl⟩)
          rw [← hW1]
          clear hW1 HTOLD
          go_loopw [42] (fun t wr => ∃ k : Nat, k ≤ ts.length ∧ t = .int .i64 k ∧ Kept (∀ x ∈ ts.take k, oddT x = false) ∧ Below W1.heap.size W1 wr) (fun t _ => ts.length - (intOf t).toNat)
          case atStart => exact ⟨0, by omega, rfl, ⟨fun x hx => by simp at hx⟩, HB12.out⟩
          case round =>
            obtain ⟨k, hk, rfl, hA, hb⟩ := hrel
            have hsz := hb.size
            by_cases hlt : k < ts.length
            · have ik : (k : Int) < (ts.length : Int) := by omega
              obtain ⟨y, hy⟩ : ∃ y, ts[k]? = some y := ⟨ts[k], List.getElem?_eq_getElem _⟩
              obtain ⟨b, off, rfl, hbB, hc⟩ := (HT.out.below hb) (by omega)
              obtain ⟨bo, hbo⟩ : ∃ bo, oddT y = bo := ⟨_, rfl⟩
              have HO := Kept.mk (codd_any y)
              rw [hbo] at HO
              have HY := Kept.mk (And.intro hy hbo)
              obtain ⟨tk, tp, t2, t3, t4, t5, t6, t7, t8, t9⟩ := y
              have e0 := hc k _ 0 _ hy rfl
              have e1 := hc k _ 1 _ hy rfl
              have e2 := hc k _ 2 _ hy rfl
              have e3 := hc k _ 3 _ hy rfl
              have e4 := hc k _ 4 _ hy rfl
              have e5 := hc k _ 5 _ hy rfl
              have e6 := hc k _ 6 _ hy rfl
              have e7 := hc k _ 7 _ hy rfl
              have e8 := hc k _ 8 _ hy rfl
              have e9 := hc k _ 9 _ hy rfl
              rw [Nat.add_zero] at e0
              have hbA := hb.alloc hsz (.cells #[.int .u8 tk, .int .i64 tp, .int .i64 t2, .int .i64 t3, .int .i64 t4, .int .i64 t5, .int .i64 t6, .int .i64 t7, .int .i64 t8, .int .i64 t9] 54)
              clear hc hy hbo
              cases bo
              · go_wp2_with (go_at_call 43; refine (HO.out _).mono ?_; rintro ee w1 ⟨rfl, hb1⟩; refine Hid.out ?_)
                refine Lib.hid ?_
                have hb3 := hbA.trans (hb1.mono hbA.size)
                go_wp2
                go_roundw
                case rel => exact ⟨k + 1, by omega, by go_num, ⟨fun x hx => by
                  rw [List.take_add_one, HY.out.1] at hx
                  simp only [Option.toList_some, List.mem_append, List.mem_singleton] at hx
                  rcases hx with hx | rfl
                  · exact hA.out x hx
                  · exact HY.out.2⟩, hb3⟩
                case measure => simp [intOf]; omega
              · go_wp2_with (go_at_call 43; refine (HO.out _).mono ?_; rintro ee w1 ⟨rfl, hb1⟩; refine Hid.out ?_)
                refine Lib.hid ?_
                have hb3 := hbA.trans (hb1.mono hbA.size)
                go_wp2
                go_ret
                exact ⟨HB1.out.trans (hb3.mono HB1.out.size), .inr ⟨fun h => Bool.noConfusion ((h.ts _ (List.mem_of_getElem? HY.out.1)).symm.trans HY.out.2), rfl⟩⟩
            · have e0 : ts.take k = ts := List.take_of_length_le (by omega)
              rw [e0] at hA
              have q4 := (HBX.out wr hb).1
              have HB5 := Kept.mk hb
              clear e0 hk
              go_wp2
              go_loopw [52] (fun t wr => ∃ k : Nat, k ≤ ls.length ∧ t = .int .i64 k ∧ Kept (∀ (j : Nat) (x y : Q4), j < k → ls[j]? = some x → hs[j]? = some y → toldB (svNums x y) = true) ∧ Below W1.heap.size W1 wr) (fun t _ => ls.length - (intOf t).toNat)
              case atStart => exact ⟨0, by omega, rfl, ⟨fun j x y hj => by omega⟩, HB5.out⟩
              case round =>
                clear q4 hb hsz
                obtain ⟨k2, hk2, rfl, hA2, hb2⟩ := hrel
                have hsz2 := hb2.size
                by_cases hlt2 : k2 < ls.length
                · have ik : (k2 : Int) < (ls.length : Int) := by omega
                  have ih : (k2 : Int) < (hs.length : Int) := by have := HN.out.2.2.2; omega
                  have ihn : k2 < hs.length := by have := HN.out.2.2.2; omega
                  obtain ⟨x, hx⟩ := some_at hlt2
                  obtain ⟨y, hy⟩ := some_at ihn
                  obtain ⟨b1, o1, rfl, hl1, hc1⟩ := (HL.out.below hb2) (by omega)
                  obtain ⟨b3, o3, rfl, hl3, hc3⟩ := (HH.out.below hb2) (by omega)
                  obtain ⟨e0, e1, e2, e3⟩ := hc1 k2 x hx
                  obtain ⟨d0, d1, d2, d3⟩ := hc3 k2 y hy
                  have q5 := Kept.mk (HBX.out wr hb2).2
                  obtain ⟨bo, hbo⟩ : ∃ bo, toldB (svNums x y) = bo := ⟨_, rfl⟩
                  have HY := Kept.mk (show ls[k2]? = some x ∧ hs[k2]? = some y ∧ toldB (svNums x y) = bo from ⟨hx, hy, hbo⟩)
                  have HSV := Kept.mk (fun W => served_any x y W)
                  obtain ⟨xa, xc, xd, xe⟩ := x
                  obtain ⟨ya, yb, yc, yd⟩ := y
                  simp only at e0 e1 e2 e3 d0 d1 d2 d3
                  have k1 : b1 < wr.heap.size := by omega
                  have k3 : b3 < wr.heap.size := by omega
                  have hsw : w.heap.size < wr.heap.size := by omega
                  have k32 : k2 < 64 := by omega
                  clear hx hy hc1 hc3 hbo
                  go_upto_region 12 with fail
                  obtain ⟨xb, hxb⟩ : ∃ xb, xb = wr.heap.size := ⟨_, rfl⟩
                  obtain ⟨wq, hwq⟩ : ∃ wq, wq = wr.alloc (.cells #[.int .i64 xa, .int .i64 xc, .int .i64 xd, .int .i64 xe] 79) := ⟨_, rfl⟩
                  have hq : wq.heap[xb]? = some (.cells #[.int .i64 xa, .int .i64 xc, .int .i64 xd, .int .i64 xe] 79 (0, 0)) := by rw [hwq, hxb]; exact heap_alloc_new _ _
                  have hbq : Below wr.heap.size wr wq := by rw [hwq]; exact below_box _ _
                  rw [← hwq, ← hxb]
                  rw [← hxb] at hbq
                  clear hwq
                  have HS0 := Kept.mk (show (fun V : World => V.cell? ⟨xb, 0, none⟩ = some (.int .i64 xa) ∧ V.cell? ⟨xb, 1, none⟩ = some (.int .i64 xc) ∧ V.cell? ⟨xb, 2, none⟩ = some (.int .i64 xd) ∧ V.cell? ⟨xb, 3, none⟩ = some (.int .i64 xe) ∧ V.cell? ⟨w.heap.size, 5, none⟩ = some (.slice (some ⟨b3, o3, none⟩) hs.length ch) ∧ V.cell? ⟨b3, o3 + k2 * 4, none⟩ = some (.int .i64 ya) ∧ V.cell? ⟨b3, o3 + k2 * 4 + 1, none⟩ = some (.int .i64 yb) ∧ V.cell? ⟨b3, o3 + k2 * 4 + 2, none⟩ = some (.int .i64 yc) ∧ V.cell? ⟨b3, o3 + k2 * 4 + 3, none⟩ = some (.int .i64 yd)) wq.drew from
                    ⟨(cell_of_row _ _ 0 _ _ _ hq), (cell_of_row _ _ 1 _ _ _ hq), (cell_of_row _ _ 2 _ _ _ hq), (cell_of_row _ _ 3 _ _ _ hq), (hbq.cell (p := ⟨w.heap.size, 5, none⟩) (by simp; omega)).trans q5.out, (hbq.cell (p := ⟨b3, o3 + k2 * 4, none⟩) (by simp; omega)).trans d0, (hbq.cell (p := ⟨b3, o3 + k2 * 4 + 1, none⟩) (by simp; omega)).trans d1, (hbq.cell (p := ⟨b3, o3 + k2 * 4 + 2, none⟩) (by simp; omega)).trans d2, (hbq.cell (p := ⟨b3, o3 + k2 * 4 + 3, none⟩) (by simp; omega)).trans d3⟩)
                  have Bq := hb2.trans ((hbq.drewN 1).mono (by omega))
                  have HXB := Kept.mk hxb
                  clear hxb
                  clear e0 e1 e2 e3 d0 d1 d2 d3 hbq hq
                  refine wp_region_late (fun V : World => V.cell? ⟨xb, 0, none⟩ = some (.int .i64 xa) ∧ V.cell? ⟨xb, 1, none⟩ = some (.int .i64 xc) ∧ V.cell? ⟨xb, 2, none⟩ = some (.int .i64 xd) ∧ V.cell? ⟨xb, 3, none⟩ = some (.int .i64 xe) ∧ V.cell? ⟨w.heap.size, 5, none⟩ = some (.slice (some ⟨b3, o3, none⟩) hs.length ch) ∧ V.cell? ⟨b3, o3 + k2 * 4, none⟩ = some (.int .i64 ya) ∧ V.cell? ⟨b3, o3 + k2 * 4 + 1, none⟩ = some (.int .i64 yb) ∧ V.cell? ⟨b3, o3 + k2 * 4 + 2, none⟩ = some (.int .i64 yc) ∧ V.cell? ⟨b3, o3 + k2 * 4 + 3, none⟩ = some (.int .i64 yd)) (fun _ => false) (by kernel_rfl) ?_
                  obtain ⟨wd, hwd⟩ : ∃ wd, wd = wq.drew := ⟨_, rfl⟩
                  rw [← hwd] at HS0 ⊢
                  have Bd : Below W1.heap.size W1 wd := by rw [hwd]; exact Bq
                  clear hwd Bq
                  refine wpAnyT_take (i := 0) (v := ?v0) [0] (by simp only [List.getElem?_toArray, List.getElem?_cons_succ, List.getElem?_cons_zero]; exact rfl) (by kernel_rfl) (by kernel_rfl) (by kernel_rfl) (by kernel_rfl) (by intro _ _ _ h; exact h) (Or.inl ⟨by rfl, ?hy0⟩) HS0.out ?rest0
                  case hy0 => (intro w hSw; go_simp; try with_reducible rfl)
                  try simp only [Act.put, List.setIfInBounds_toArray, List.set_cons_zero, List.set_cons_succ]
                  refine wpAnyT_take (i := 1) (v := ?v1) [1] (by simp only [List.getElem?_toArray, List.getElem?_cons_succ, List.getElem?_cons_zero]; exact rfl) (by kernel_rfl) (by kernel_rfl) (by kernel_rfl) (by kernel_rfl) (by intro _ _ _ h; exact h) (Or.inl ⟨by rfl, ?hy1⟩) HS0.out ?rest1
                  case hy1 => (intro w hSw; go_simp; try with_reducible rfl)
                  try simp only [Act.put, List.setIfInBounds_toArray, List.set_cons_zero, List.set_cons_succ]
                  refine wpAnyT_take (i := 2) (v := ?v2) [2] (by simp only [List.getElem?_toArray, List.getElem?_cons_succ, List.getElem?_cons_zero]; exact rfl) (by kernel_rfl) (by kernel_rfl) (by kernel_rfl) (by kernel_rfl) (by intro _ _ _ h; exact h) (Or.inl ⟨by rfl, ?hy2⟩) HS0.out ?rest2
                  case hy2 => (intro w hSw; go_simp; try with_reducible rfl)
                  try simp only [Act.put, List.setIfInBounds_toArray, List.set_cons_zero, List.set_cons_succ]
                  refine wpAnyT_take (i := 3) (v := ?v3) [3] (by simp only [List.getElem?_toArray, List.getElem?_cons_succ, List.getElem?_cons_zero]; exact rfl) (by kernel_rfl) (by kernel_rfl) (by kernel_rfl) (by kernel_rfl) (by intro _ _ _ h; exact h) (Or.inl ⟨by rfl, ?hy3⟩) HS0.out ?rest3
                  case hy3 => (intro w hSw; go_simp; try with_reducible rfl)
                  try simp only [Act.put, List.setIfInBounds_toArray, List.set_cons_zero, List.set_cons_succ]
                  refine wpAnyT_take (i := 4) (v := ?v4) [4] (by simp only [List.getElem?_toArray, List.getElem?_cons_succ, List.getElem?_cons_zero]; exact rfl) (by kernel_rfl) (by kernel_rfl) (by kernel_rfl) (by kernel_rfl) (by intro _ _ _ h; exact h) (Or.inl ⟨by rfl, ?hy4⟩) HS0.out ?rest4
                  case hy4 => (intro w hSw; go_simp; try with_reducible rfl)
                  try simp only [Act.put, List.setIfInBounds_toArray, List.set_cons_zero, List.set_cons_succ]
                  refine wpAnyT_take (i := 5) (v := ?v5) [5] (by simp only [List.getElem?_toArray, List.getElem?_cons_succ, List.getElem?_cons_zero]; exact rfl) (by kernel_rfl) (by kernel_rfl) (by kernel_rfl) (by kernel_rfl) (by intro _ _ _ h; exact h) (Or.inl ⟨by rfl, ?hy5⟩) HS0.out ?rest5
                  case hy5 => (intro w hSw; go_simp; try with_reducible rfl)
                  try simp only [Act.put, List.setIfInBounds_toArray, List.set_cons_zero, List.set_cons_succ]
                  refine wpAnyT_one 6 (by kernel_rfl) (by simp only [List.getElem?_toArray, List.getElem?_cons_succ, List.getElem?_cons_zero]; exact rfl) (fun K hK => ?_)
                  go_simp
                  go_at_call 31
                  refine (HSV.out _).mono ?_
                  rintro e5 w5 ⟨nb, rfl, hnb, hb5⟩
                  have HS5 := Kept.mk (show (fun V : World => V.cell? ⟨xb, 0, none⟩ = some (.int .i64 xa) ∧ V.cell? ⟨xb, 1, none⟩ = some (.int .i64 xc) ∧ V.cell? ⟨xb, 2, none⟩ = some (.int .i64 xd) ∧ V.cell? ⟨xb, 3, none⟩ = some (.int .i64 xe) ∧ V.cell? ⟨w.heap.size, 5, none⟩ = some (.slice (some ⟨b3, o3, none⟩) hs.length ch) ∧ V.cell? ⟨b3, o3 + k2 * 4, none⟩ = some (.int .i64 ya) ∧ V.cell? ⟨b3, o3 + k2 * 4 + 1, none⟩ = some (.int .i64 yb) ∧ V.cell? ⟨b3, o3 + k2 * 4 + 2, none⟩ = some (.int .i64 yc) ∧ V.cell? ⟨b3, o3 + k2 * 4 + 3, none⟩ = some (.int .i64 yd)) w5 from by
                    obtain ⟨f0, f1, f2, f3, f4, f5, f6, f7, f8⟩ := HS0.out
                    exact ⟨(hb5.cell (p := ⟨xb, 0, none⟩) (cell_some_lt f0).1).trans f0, (hb5.cell (p := ⟨xb, 1, none⟩) (cell_some_lt f0).1).trans f1, (hb5.cell (p := ⟨xb, 2, none⟩) (cell_some_lt f0).1).trans f2, (hb5.cell (p := ⟨xb, 3, none⟩) (cell_some_lt f0).1).trans f3, (hb5.cell (p := ⟨w.heap.size, 5, none⟩) (cell_some_lt f4).1).trans f4, (hb5.cell (p := ⟨b3, o3 + k2 * 4, none⟩) (cell_some_lt f5).1).trans f5, (hb5.cell (p := ⟨b3, o3 + k2 * 4 + 1, none⟩) (cell_some_lt f5).1).trans f6, (hb5.cell (p := ⟨b3, o3 + k2 * 4 + 2, none⟩) (cell_some_lt f5).1).trans f7, (hb5.cell (p := ⟨b3, o3 + k2 * 4 + 3, none⟩) (cell_some_lt f5).1).trans f8⟩)
                  have HTL := Kept.mk (told_at (w1 := w5) (w' := w5) bo HY.out.2.2 hnb (by simp [svNums]))
                  have B5 := Bd.trans (hb5.mono Bd.size)
                  clear hb5 hnb
                  refine hK.out _ _ (fun _ => HS5.out) ?_
                  clear hK K
                  try simp only [Act.put, List.setIfInBounds_toArray, List.set_cons_zero, List.set_cons_succ]
                  refine wpAnyT_one 7 (by kernel_rfl) (by simp only [List.getElem?_toArray, List.getElem?_cons_succ, List.getElem?_cons_zero]; exact rfl) (fun K hK => ?_)
                  go_simp
                  go_at_call 42
                  refine HTL.out.mono ?_
                  rintro e6 w6 ⟨rfl, rfl⟩
                  refine hK.out _ _ (fun _ => HS5.out) ?_
                  clear hK K
                  try simp only [Act.put, List.setIfInBounds_toArray, List.set_cons_zero, List.set_cons_succ]
                  refine wpAnyT_take (i := 8) (v := ?v8) [8] (by simp only [List.getElem?_toArray, List.getElem?_cons_succ, List.getElem?_cons_zero]; exact rfl) (by kernel_rfl) (by kernel_rfl) (by kernel_rfl) (by kernel_rfl) (by intro _ _ _ h; exact h) (Or.inl ⟨by rfl, ?hy8⟩) HS5.out ?rest8
                  case hy8 => (intro w hSw; go_simp; try with_reducible rfl)
                  try simp only [Act.put, List.setIfInBounds_toArray, List.set_cons_zero, List.set_cons_succ]
                  refine wpAnyT_done (by kernel_rfl) ?_ _
                  clear HS0 HS5 Bd HTL
                  have HLT := Kept.mk (fun (j : Nat) (x y : Q4) (hj : j < k2 + 1) (h1 : ls[j]? = some x) (h2 : hs[j]? = some y) (hb : bo = true) => show toldB (svNums x y) = true from by
                    by_cases hjk : j < k2
                    · exact hA2.out j x y hjk h1 h2
                    · obtain rfl : j = k2 := by omega
                      have e1 := HY.out.1.symm.trans h1
                      have e2 := HY.out.2.1.symm.trans h2
                      injection e1 with e1
                      injection e2 with e2
                      rw [← e1, ← e2, HY.out.2.2, hb])
                  cases bo
                  · go_wp2
                    go_ret
                    exact ⟨HB1.out.trans (B5.mono HB1.out.size), .inr ⟨fun h => Bool.noConfusion ((h.ls k2 _ _ HY.out.1 HY.out.2.1).symm.trans HY.out.2.2), rfl⟩⟩
                  · go_wp2
                    go_roundw
                    case rel => exact ⟨k2 + 1, by omega, by go_num, ⟨fun j x y hj h1 h2 => HLT.out j x y hj h1 h2 rfl⟩, B5⟩
                    case measure => simp [intOf]; omega
                · have hk3 : k2 = ls.length := by omega
                  have HK := Kept.mk hk3
                  clear hk3
                  go_wp2
                  go_ret
                  exact ⟨HB1.out.trans (hb2.mono HB1.out.size), .inl ⟨⟨HN.out.1, HN.out.2.1, HN.out.2.2.1, HN.out.2.2.2, hA.out, fun j x y h1 h2 => hA2.out j x y (by have := (List.getElem?_eq_some_iff.1 h1).1; have := HK.out; simp only at *; omega) h1 h2⟩, rfl⟩⟩
        · have NO := Kept.mk (show ¬ okC ⟨mn, mx, sw, ts, ls, hs⟩ from fun h => hne h.nh)
          have d3 : ((hs.length : Int) != (ls.length : Int)) = true := by simp; omega
          have d4 : (hs.length != ls.length) = true := by simp [hne]
          rw [hW1] at HTOLD HB2
          clear hW1 hT hL hH hbt hb1 s1 h32 h64 hne
          go_enter Tryd.func27, Tryd.ntmps27
          go_wp2_with (go_at_call 42; refine HTOLD.out.mono ?_; rintro e1 w1 ⟨rfl, rfl⟩)
          all_goals go_ret
          all_goals exact ⟨HB2.out, .inr ⟨NO.out, rfl⟩⟩
end Go.Proofs.YtfneloplbkjbhaaDoor
