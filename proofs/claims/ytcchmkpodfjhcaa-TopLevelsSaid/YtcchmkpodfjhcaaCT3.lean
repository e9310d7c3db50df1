/-
  The walks of the table's iterator, and of Level.
-/
import Derived.Test.YtcchmkpodfjhcaaCT2
import Derived.Test.YtcchmkpodfjhcaaP7
namespace Go.Proofs.Ytcchmkpodfjhcaa
open Go.RowKit Go.Shelf
set_option linter.unusedVariables false
attribute [local go_sem] Oper.semAt_some
abbrev encM (x : Nat × Mx) : Array Value := #[.int .i64 (x.1 : Int), .agg #[.int .i64 x.2.1, .bool x.2.2.1, .int .i64 x.2.2.2]]
def heldL (T : List Mx) (task : Int) : Nat → List (Nat × Mx)
  | 0 => []
  | k + 1 => heldL T task k ++ (match T[k]? with | some y => if mxHas task y = true then [(k, y)] else [] | none => [])
theorem heldL_len (T : List Mx) (task : Int) : ∀ k, (heldL T task k).length ≤ k
  | 0 => Nat.le_refl _
  | k + 1 => by
    have := heldL_len T task k
    rw [heldL, List.length_append]
    split
    · split <;> simp <;> omega
    · simp; omega
def lvP : List (Nat × Mx) → Int → Int
  | [], p => p
  | x :: r, p => lvP r (max p x.2.1)
theorem lvP_snoc : ∀ (l : List (Nat × Mx)) (x : Nat × Mx) (p : Int), lvP (l ++ [x]) p = max (lvP l p) x.2.1
  | [], _, _ => rfl
  | y :: r, x, p => lvP_snoc r x _
theorem lvP_held (T : List Mx) (task p : Int) : ∀ k, lvP (heldL T task k) p = tLev (T.take k) task p
  | 0 => rfl
  | k + 1 => by
    rw [heldL]
    cases h : T[k]? with
    | none =>
      have hl : T.length ≤ k := List.getElem?_eq_none_iff.1 h
      simp only [List.append_nil]
      rw [lvP_held T task p k, List.take_of_length_le hl, List.take_of_length_le (by omega)]
    | some y =>
      rw [List.take_add_one, h]
      simp only [Option.toList_some]
      rw [lev_snoc, ← lvP_held T task p k]
      unfold lvS
      split
      · rw [lvP_snoc]
      · rw [List.append_nil]
theorem TabAt.keptE {w w' : World} {lo hi tb c : Nat} {T : List Mx} {A : Option Addr} (h : TabAt w lo hi tb T A c) {n₀ x : Nat} (hk : KpE n₀ x w w') (hn : hi ≤ n₀) (hx : hi ≤ x) : TabAt w' lo hi tb T A c :=
  h.blocks hk.size fun i h1 h2 => hk.block i (by omega) (by omega)
set_option maxRecDepth 100000 in
set_option maxHeartbeats 4000000 in
theorem held_stops (n : Nat) (hn : 1 ≤ n) (B1 B2 n₀ x₀ : Nat) (lo hi tb c : Nat) (T : List Mx) (A : Option Addr) (task : Int) (hhi : hi ≤ n₀) (hhx : hi ≤ x₀) (hB1n : B1 < n₀) (hB2n : B2 < n₀) (hB1x : B1 ≠ x₀) (hB2x : B2 ≠ x₀) (w : World) (hnw : n₀ ≤ w.heap.size)
    (hB1 : w.cell? ⟨B1, 0, none⟩ = some (.pointer (some ⟨tb, 0, none⟩))) (hB2 : w.cell? ⟨B2, 0, none⟩ = some (.int .i64 task)) (hP : TabAt w lo hi tb T A c) :
    SeqStopsK Fence.wide n Try.prog 97 #[.pointer (some ⟨B1, 0, none⟩), .pointer (some ⟨B2, 0, none⟩)] encM (KpE n₀ x₀) (fun l => l = heldL T task T.length) (fun pre => True) 4096 w := fun l J Jx W hW hJ hJx hY h0 => by
  have hB1' := (hW.cell (p := ⟨B1, 0, none⟩) (cell_lt hB1)).trans hB1
  have hB2' := (hW.cell (p := ⟨B2, 0, none⟩) (cell_lt hB2)).trans hB2
  have hP' := hP.below (hW.mono hP.hh)
  have hnW : n₀ ≤ W.heap.size := Nat.le_trans hnw hW.size
  have HJ := Kept.mk (fun (pre : List (Nat × Mx)) (W : World) (o : Obj) (hj : J pre W) => hJ pre W (W.alloc o) none hj (World.grownBy_alloc W o _) (fun r e => by cases e))
  have HY := Kept.mk hY
  clear hW hJ hJx hB1 hB2 hP hY hnw
  refine callsIn_of_wp Try.func97 rfl trivial ?_ rfl
  simp only [Try.ntmps97, List.size_toArray, List.length_cons, List.length_nil, Nat.reduceAdd, Nat.reduceSub, Array.replicate_succ, Array.replicate_zero, List.push_toArray, List.append_toArray, List.nil_append, List.cons_append]
  have c0 := hP'.c0
  have hlen := hP'.len
  have ilen : (T.length : Int) ≤ 16 := by omega
  gi_wp2_with fail
  gi_loopw [11] (fun t wr => ∃ (k : Nat), k ≤ T.length ∧ t = .int .i64 k ∧ TabAt wr lo hi tb T A c ∧ n₀ ≤ wr.heap.size ∧ wr.cell? ⟨B1, 0, none⟩ = some (.pointer (some ⟨tb, 0, none⟩)) ∧ wr.cell? ⟨B2, 0, none⟩ = some (.int .i64 task) ∧ J (heldL T task k) wr) (fun t _ => T.length - (intOf t).toNat)
  case atStart => exact ⟨0, by omega, rfl, hP', hnW, hB1', hB2', h0⟩
  case round =>
    clear hP' hB1' hB2' h0 c0 hnW
    obtain ⟨k, hk, rfl, hP, hnr, hB1, hB2, hj⟩ := hrel
    by_cases hlt : k < T.length
    · obtain ⟨y, hy⟩ : ∃ y, T[k]? = some y := ⟨_, List.getElem?_eq_getElem hlt⟩
      obtain ⟨g, cur, rfl, g1, g2, g3, g4, g5⟩ := hP.rows (by omega)
      obtain ⟨x0, x1, x2, xf⟩ := mx_cells g4 (g5 k y hy)
      have hst : heldL T task (k + 1) = heldL T task k ++ (if mxHas task y = true then [(k, y)] else []) := by rw [heldL, hy]
      have hll := heldL_len T task k
      obtain ⟨yc, yb, yt⟩ := y
      simp only at x0 x1 x2
      have ik : (k : Int) < (T.length : Int) := by omega
      have hb5 := below_box wr (.cells #[.int .i64 yc, .bool yb, .int .i64 yt] 141)
      have z5 : (wr.alloc (.cells #[.int .i64 yc, .bool yb, .int .i64 yt] 141)).heap.size = wr.heap.size + 1 := by simp
      have hP5 := hP.below (hb5.mono hP.hh)
      have hB15 := (hb5.cell (p := ⟨B1, 0, none⟩) (cell_lt hB1)).trans hB1
      have hB25 := (hb5.cell (p := ⟨B2, 0, none⟩) (cell_lt hB2)).trans hB2
      have hj5 := HJ.out _ _ (.cells #[.int .i64 yc, .bool yb, .int .i64 yt] 141) hj
      have hB2l : B2 < wr.heap.size := cell_lt hB2
      have HP5 := Kept.mk hP5
      have HST := Kept.mk hst
      have hn5 : n₀ ≤ (wr.alloc (.cells #[.int .i64 yc, .bool yb, .int .i64 yt] 141)).heap.size := by omega
      have HB15 := Kept.mk hB15
      have HB25 := Kept.mk hB25
      have HJ5 := Kept.mk hj5
      have HN5 := Kept.mk hn5
      clear hy g5 hst hb5 z5 hP5 hB15 hj5 hP hj hn5
      cases yb with
      | false =>
        have hst := HST.out
        rw [if_neg (by simp [mxHas]), List.append_nil] at hst
        have HS := Kept.mk hst
        clear hst HST hB25
        gi_wp2
        refine ⟨(fun f hf => by cases hf), ?_⟩
        gi_wp2
        go_roundw
        case rel => exact ⟨k + 1, by omega, by go_num, HP5.out, HN5.out, HB15.out, HB25.out, by rw [HS.out]; exact HJ5.out⟩
        case measure => simp [intOf]; omega
      | true =>
        by_cases ht : yt = task
        · have t1 : (yt == task) = true := by simp [ht]
          have hst := HST.out
          rw [if_pos (by simp [mxHas, ht])] at hst
          have HS := Kept.mk hst
          obtain ⟨fn, tmps, assign, body, hy, hRd⟩ := HY.out _ (k, (yc, true, yt)) _ HJ5.out (by omega)
          dsimp only [encM] at hy
          clear hst HST ht
          gi_wp2
          refine hRd.mono ?_
          rintro e W3 (⟨rfl, hJ3, hk3⟩ | ⟨rfl, hJx3⟩)
          · have hP3 := HP5.out.keptE hk3 hhi hhx
            have hB13 := (hk3.cell (o := 0) hB1n hB1x).trans HB15.out
            have hB23 := (hk3.cell (o := 0) hB2n hB2x).trans HB25.out
            have hn3 := Nat.le_trans HN5.out hk3.size
            clear hB25 x0 x1 x2 xf hk3
            gi_wp2
            go_roundw
            case rel => exact ⟨k + 1, by omega, by go_num, hP3, hn3, hB13, hB23, by rw [HS.out]; exact hJ3⟩
            case measure => simp [intOf]; omega
          · gi_wp2
            refine bodyPost_ret (results_none rfl _ _ _) rfl ?_
            exact ⟨⟨_, rfl⟩, .inr ⟨_, trivial, hJx3⟩⟩
        · have t1 : (yt == task) = false := by simp [ht]
          have hst := HST.out
          rw [if_neg (by simp [mxHas, ht]), List.append_nil] at hst
          have HS := Kept.mk hst
          clear hst HST ht
          gi_wp2
          refine ⟨(fun f hf => by cases hf), ?_⟩
          gi_wp2
          go_roundw
          case rel => exact ⟨k + 1, by omega, by go_num, HP5.out, HN5.out, HB15.out, HB25.out, by rw [HS.out]; exact HJ5.out⟩
          case measure => simp [intOf]; omega
    · have hke : k = T.length := by omega
      subst hke
      gi_wp2
      go_end0
      exact ⟨⟨_, rfl⟩, .inl ⟨_, rfl, hj⟩⟩
theorem of_any (tb : Nat) (task : Int) (w : World) :
    Calls Try.prog 82 #[.pointer (some ⟨tb, 0, none⟩), .int .i64 task] w fun e w' => e = .returned (.func (.func 97) #[] #[.pointer (some ⟨w.heap.size, 0, none⟩), .pointer (some ⟨w.heap.size + 1, 0, none⟩)]) ∧ w' = (w.alloc (.cells #[.pointer (some ⟨tb, 0, none⟩)] 56)).alloc (.cells #[.int .i64 task] 3) := by
  go_enter Try.func82, Try.ntmps82
  go_wp2
  go_ret
  exact ⟨rfl, rfl⟩
set_option maxRecDepth 100000 in
set_option maxHeartbeats 2000000 in
theorem level_any {w : World} {lo hi tb c : Nat} {T : List Mx} {A : Option Addr} (h : TabAt w lo hi tb T A c) (task p : Int) :
    Calls Try.prog 39 #[.pointer (some ⟨tb, 0, none⟩), .int .i64 task, .int .i64 p] w fun e w' => e = .returned (.int .i64 (tLev T task p)) ∧ Below w.heap.size w w' := by
  have HH := Kept.mk h
  have hhi := h.hh
  clear h
  refine (callsIn_wide (n := 4)).1 ?_
  refine callsIn_of_wp_marks Try.func39 rfl trivial ?_ rfl
  simp only [Try.ntmps39, List.size_toArray, List.length_cons, List.length_nil, Nat.reduceAdd, Nat.reduceSub, Array.replicate_succ, Array.replicate_zero, List.push_toArray, List.append_toArray, List.nil_append, List.cons_append]
  gi_wp2_with fail
  refine ⟨trivial, ?_⟩
  refine (callsIn_wide.2 (of_any tb task _)).mono ?_
  rintro e w2 ⟨rfl, rfl⟩
  gi_wp2_with fail
  obtain ⟨W2, hW2⟩ : ∃ W2, ((w.alloc (.cells #[.int .i64 p] 3)).alloc (.cells #[.pointer (some ⟨tb, 0, none⟩)] 56)).alloc (.cells #[.int .i64 task] 3) = W2 := ⟨_, rfl⟩
  obtain ⟨c0, f0, c1, f1, c2, f2, hsz, hb2⟩ := three_box (w := w) (w1 := W2) (v0 := .int .i64 p) (v1 := .pointer (some ⟨tb, 0, none⟩)) (v2 := .int .i64 task) (t0 := 3) (t1 := 56) (t2 := 3) (by rw [hW2]; exact Below.refl _ _)
  have z2 : W2.heap.size = w.heap.size + 3 := by rw [← hW2]; simp
  rw [hW2]
  clear hW2
  refine wpIn_rangeFunc_ownH rfl (by omega) (gf := 97) (lb := #[.pointer (some ⟨w.heap.size + 1, 0, none⟩), .pointer (some ⟨w.heap.size + 2, 0, none⟩)]) rfl trivial (enters_of Try.func97 (by kernel_rfl) rfl)
    (held_stops (4 - 1) (by omega) (w.heap.size + 1) (w.heap.size + 2) (w.heap.size + 3) w.heap.size lo hi tb c T A task (by omega) (by omega) (by omega) (by omega) (by omega) (by omega) W2 (by omega) c1 c2 (HH.out.below (hb2.mono hhi)))
    KpE.trans (KpE.book (by omega)) (Below.refl _ _) (fun _ => rfl)
    (fun pre W => (W.cell? ⟨w.heap.size, 0, none⟩ = some (.int .i64 (lvP pre p)) ∧ W.frozen? ⟨w.heap.size, 0, none⟩ = false ∧ w.heap.size + 3 ≤ W.heap.size) ∧ Below w.heap.size w W)
    (fun c pre W => False ∧ Below w.heap.size w W)
    (OwnFrom.and (Own.from (fun s A B row hs hg hr => by
      obtain ⟨g1, g2, g3⟩ := hs
      exact ⟨cell_kept g1 hg hr, (frozen_kept g1 hg hr).trans g2, Nat.le_trans g3 hg.size⟩) _) (ownFrom_below (Nat.le_refl _) (by omega)))
    (fun c => OwnFrom.and (Own.from (fun s A B row hs hg hr => hs) _) (ownFrom_below (Nat.le_refl _) (by omega)))
    ⟨⟨c0, f0, by omega⟩, hb2⟩
    (fun x a' W => ∃ d, a' = { tmps := #[.pointer (some ⟨tb, 0, none⟩), .int .i64 task, .int .i64 p, undef, undef, .pointer (some ⟨w.heap.size, 0, none⟩), .int .i64 0, undef, .pointer (some ⟨d, 0, none⟩), .pointer (some ⟨tb, 0, none⟩), .int .i64 task, .func (.func 97) #[] #[.pointer (some ⟨w.heap.size + 1, 0, none⟩), .pointer (some ⟨w.heap.size + 1 + 1, 0, none⟩)], .int .i64 (x.1 : Int), .agg #[.int .i64 x.2.1, .bool x.2.2.1, .int .i64 x.2.2.2], undef, undef, undef, undef, undef], defers := [] } ∧ W.cell? ⟨d, 0, none⟩ = some (.int .i64 x.2.1) ∧ d ≠ w.heap.size)
    (fun x a' => Own.from (fun s A B row hs hg hr => by
      obtain ⟨d, g1, g2, g3⟩ := hs
      exact ⟨d, g1, cell_kept g2 hg hr, g3⟩) _) ?assign ?body ?done ?stop
  case assign =>
    rintro l pre ⟨k, yc, yb, yt⟩ W K ⟨⟨d0, d1, d2⟩, hbW⟩ hK
    have HK := Kept.mk hK
    have hn := (box_cell (Below.refl (W.alloc (.cells #[.int .i64 yc, .bool yb, .int .i64 yt] 141)).heap.size _) 0 _ rfl)
    have hb5 := below_box W (.cells #[.int .i64 yc, .bool yb, .int .i64 yt] 141)
    clear hK
    gi_wp2
    refine HK.out _ _ ((KeepsOthers.alloc W _).from _) (KpE.of_below (hb5.mono (by omega))) ⟨⟨(hb5.cell (p := ⟨w.heap.size, 0, none⟩) (cell_lt d0)).trans d0, (hb5.frozen (p := ⟨w.heap.size, 0, none⟩) (cell_lt d0)).trans d1, Nat.le_trans d2 hb5.size⟩, hbW.trans (hb5.mono (by omega))⟩ ⟨W.heap.size, rfl, hn, by omega⟩
  case body =>
    rintro l pre ⟨k, yc, yb, yt⟩ a' W hwl hlr ⟨⟨d0, d1, d2⟩, hbW⟩ ⟨d, rfl, hx, hd⟩ hpl
    simp only at hx
    gi_wp2
    refine ⟨(KeepsOthers.setCell _ _ _).from _, ⟨by simp, fun i hi hx => Below.heap_setCell _ _ _ _ hx⟩, ⟨?_, ?_, by simpa using d2⟩, hbW.setCell (p := ⟨w.heap.size, 0, none⟩) (Nat.le_refl _) _⟩
    · rw [lvP_snoc]
      exact World.cell?_setCell_same' _ _ _ (by rw [d0]; rfl)
    · go_simp
  case done =>
    rintro D l W hD rfl ⟨⟨d0, d1, d2⟩, hbW⟩ hK
    rw [lvP_held, List.take_length] at d0
    gi_wp2
    refine ⟨by simp, .inl ⟨_, _, rfl, run_takeDeferred hK, ?_⟩⟩
    refine ⟨.int .i64 (tLev T task p), ?_, ?_⟩
    · simp [results, Try.f39, go_sem]
    · exact ⟨rfl, hbW.trans (belowK_b (w := W2) (by omega) _ D _ _ hD hK rfl rfl)⟩
  case stop =>
    rintro D c pre W hD hpre ⟨hf, hbW⟩ hK
    exact hf.elim
end Go.Proofs.Ytcchmkpodfjhcaa
