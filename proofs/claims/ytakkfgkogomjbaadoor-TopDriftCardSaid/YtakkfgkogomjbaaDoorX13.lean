/-
  The law TopDrift: the service looks for its next timer, and there is one.
-/
import Derived.Test.YtakkfgkogomjbaaDoorGY
import Derived.Test.YtakkfgkogomjbaaDoorCalm2
namespace Go.Proofs.YtakkfgkogomjbaaDoor
open Go.RowKit Go.Shelf
set_option linter.unusedVariables false
set_option linter.unusedSimpArgs false
/-- When it wakes, for a deadline. -/
def lkW (mn mx t d : Int) : Int := if d ≤ t then t else if d - t < mn then min (t + mn) 4503599627370496 else if d - t ≤ mx then d else min (t + mx) (d - mn)
theorem lkW_aim {mn mx t d : Int} (h : TimOk mn mx) (t0 : 0 ≤ t) (t1 : t ≤ 4503599627370496) (d1 : d ≤ 4503599627370496) : lkW mn mx t d = min (aimE mn mx t d).2 4503599627370496 := by
  unfold TimOk at h
  unfold lkW aimE
  by_cases h1 : d ≤ t
  · rw [if_pos h1, if_pos (by omega)]; simp only; omega
  rw [if_neg h1, if_neg (show ¬ d - t ≤ 0 by omega)]
  by_cases h2 : d - t < mn
  · rw [if_pos h2, if_pos h2]
  rw [if_neg h2, if_neg h2]
  by_cases h3 : d - t ≤ mx
  · rw [if_pos h3, if_pos h3]; simp only; omega
  rw [if_neg h3, if_neg h3]; simp only; omega
theorem lkW_in {mn mx t d : Int} (h : TimOk mn mx) (t1 : t ≤ 4503599627370496) (d1 : d ≤ 4503599627370496) (hd : t < d) : t < lkW mn mx t d ∧ lkW mn mx t d ≤ 4503599627370496 ∧ lkW mn mx t d - t < 2147483648 ∧ lkW mn mx t d < d + mn := by
  unfold TimOk at h
  unfold lkW
  rw [if_neg (by omega)]
  repeat' split
  all_goals omega
theorem aim_one {mn mx t d : Int} : (aimE mn mx t d).1 = 1 ↔ d ≤ t := by
  unfold aimE
  repeat' split
  all_goals simp
  all_goals omega
/-- What looking leaves. -/
def LkP (mn mx t d m' : Int) (a' nf' : Bool) : Prop := (d ≤ t ∧ nf' = true) ∨ (t < d ∧ nf' = false ∧ a' = true ∧ m' = lkW mn mx t d % 4294967296)
theorem Kp.put {lo hi g : Nat} {cs : Array Value} {t : TypeId} {w a a' : World} (h : Kp lo hi w a) (hp : PutAt g cs t a a') (hg : w.heap.size ≤ g) : Kp lo hi w a' :=
  have hb := hp.below 0 (Nat.zero_le _)
  ⟨hb.os.trans h.os, hb.tape.trans h.tape, hb.output.trans h.output, by rw [hp.size]; exact h.size, fun i h1 h2 => (hp.far i (by omega)).trans (h.block i h1 h2)⟩
theorem Kp.putIn {lo hi g : Nat} {cs : Array Value} {t : TypeId} {w a a' : World} (h : Kp lo hi w a) (hp : PutAt g cs t a a') (h1 : lo ≤ g) (h2 : g < hi) : Kp lo hi w a' :=
  have hb := hp.below 0 (Nat.zero_le _)
  ⟨hb.os.trans h.os, hb.tape.trans h.tape, hb.output.trans h.output, by rw [hp.size]; exact h.size, fun i h3 h4 => (hp.far i (by omega)).trans (h.block i h3 h4)⟩
set_option maxRecDepth 100000 in
set_option maxHeartbeats 4000000 in
theorem slook_one {w : World} {sb : Nat} {mn mx m : Int} {a l : Bool} {t : Int} {g : Int} {nf : Bool} {lo hi wb I M p L K n tb pm : Nat} {now tu : Int} {N : Nat} {f : Int → Option Nat} {x : Tm}
    (h : w.heap[sb]? = some (.cells (svC mn mx (t % 4294967296) m a l t tb false g nf) 68)) (hw : TmAt w lo hi wb I M p L K n tb pm now tu [x] N f) (hT : Tab w) (hs : tb < sb)
    (hmx : -9223372036854775808 ≤ mx ∧ mx ≤ 9223372036854775807) (hti : TimOk mn mx) (n0 : 0 ≤ t) (n1 : t ≤ 4503599627370496) :
    Calls Tryd.prog 34 #[.pointer (some ⟨sb, 0, none⟩)] w fun e w' => e = .returned (.tuple #[]) ∧ ∃ m' a' nf', w'.heap[sb]? = some (.cells (svC mn mx (t % 4294967296) m' a' l t tb true x.du nf') 68) ∧ Kp sb (sb + 1) w w' ∧ LkP mn mx t x.du m' a' nf' := by
  have HN := wnext_any hw.wh hT (by simp)
  have c7 : w.cell? ⟨sb, 7, none⟩ = some (.pointer (some ⟨tb, 0, none⟩)) := cell_of_row _ _ 7 _ _ _ h
  have b0 := cell_of_row _ _ 0 _ _ _ hw.bl
  have HH := Kept.mk h
  obtain ⟨d0, d1⟩ := hw.wh.dus x (by simp)
  have HARM := Kept.mk (fun W : World => sarm_any t m mn mx x.du a l hmx hti n0 n1 d0 d1 W)
  obtain ⟨c', m', a', l', t', kd, er, hV, hC⟩ := armV_form (t % 4294967296) m a l t (aimE mn mx t x.du)
  rw [hV] at HARM
  have HW := Kept.mk (lkW_aim hti n0 n1 d1)
  have HIN := Kept.mk (fun h => lkW_in hti n1 d1 (t := t) (d := x.du) h)
  have HC := Kept.mk hC
  have HN1 := Kept.mk (And.intro n0 n1)
  have HD1 := Kept.mk (And.intro d0 d1)
  clear h hT hV hC hti hmx n0 n1 d0 d1
  go_enter Tryd.func34, Tryd.ntmps34
  go_wp2_with fail
  refine HN.mono ?_
  rintro e w1 ⟨rfl, hb⟩
  have h1 := (hb.block sb (Array.getElem?_eq_some_iff.1 HH.out).1).trans HH.out
  have HB := Kept.mk (Kp.of_below (lo := sb) (hi := sb + 1) hb)
  have f8 := frozen_of_row _ _ 8 _ _ h1
  have f9 := frozen_of_row _ _ 9 _ _ h1
  have f10 := frozen_of_row _ _ 10 _ _ h1
  have d8 : w1.cell? ⟨sb, 8, none⟩ = some (.bool false) := cell_of_row _ _ 8 _ _ _ h1
  have d9 : w1.cell? ⟨sb, 9, none⟩ = some (.int .i64 g) := cell_of_row _ _ 9 _ _ _ h1
  have d10 : w1.cell? ⟨sb, 10, none⟩ = some (.bool nf) := cell_of_row _ _ 10 _ _ _ h1
  clear hb c7 b0 HN
  simp only [nextV, List.head?_cons, Option.map_some, Option.getD_some, Option.isSome_some]
  go_upto_region 5 with fail
  have H2 := Kept.mk (show (((w1.setCell ⟨sb, 8, none⟩ (.bool true)).setCell ⟨sb, 9, none⟩ (.int .i64 x.du)).setCell ⟨sb, 10, none⟩ (.bool false)).heap[sb]? = some (.cells (svC mn mx (t % 4294967296) m a l t tb true x.du false) 68) from
    heap_setCell_same _ sb 10 _ _ _ (heap_setCell_same _ sb 9 _ _ _ (heap_setCell_same w1 sb 8 _ _ _ h1)))
  have K2 := Kept.mk (show Kp sb (sb + 1) w (((w1.setCell ⟨sb, 8, none⟩ (.bool true)).setCell ⟨sb, 9, none⟩ (.int .i64 x.du)).setCell ⟨sb, 10, none⟩ (.bool false)) from
    (((HB.out).set (p := ⟨sb, 8, none⟩) (Nat.le_refl _) (Nat.lt_succ_self _) _).set (p := ⟨sb, 9, none⟩) (Nat.le_refl _) (Nat.lt_succ_self _) _).set (p := ⟨sb, 10, none⟩) (Nat.le_refl _) (Nat.lt_succ_self _) _)
  obtain ⟨w2, hw2⟩ : ∃ w2, w2 = ((w1.setCell ⟨sb, 8, none⟩ (.bool true)).setCell ⟨sb, 9, none⟩ (.int .i64 x.du)).setCell ⟨sb, 10, none⟩ (.bool false) := ⟨_, rfl⟩
  rw [← hw2] at H2 K2 ⊢
  clear hw2 h1 f8 f9 f10 d8 d9 d10
  obtain ⟨wd, hwd⟩ : ∃ wd, wd = w2.drew := ⟨_, rfl⟩
  have H3 := Kept.mk (show wd.heap[sb]? = some (.cells (svC mn mx (t % 4294967296) m a l t tb true x.du false) 68) by rw [hwd]; exact H2.out)
  have K3 := Kept.mk (show Kp sb (sb + 1) w wd by rw [hwd]; exact K2.out.trans (Kp.of_below ((Below.refl _ _).drewN 1)))
  have HLT := Kept.mk (Array.getElem?_eq_some_iff.1 H3.out).1
  have HSF := Kept.mk (fun (V : World) (hV : V.heap[sb]? = some (.cells (svC mn mx (t % 4294967296) m a l t tb true x.du false) 68)) => show (fun V : World => V.cell? ⟨sb, 0, none⟩ = some (.int .i64 mn) ∧ V.cell? ⟨sb, 1, none⟩ = some (.int .i64 mx) ∧ V.cell? ⟨sb, 2, none⟩ = some (.int .u32 (t % 4294967296)) ∧ V.cell? ⟨sb, 3, none⟩ = some (.int .u32 m) ∧ V.cell? ⟨sb, 4, none⟩ = some (.bool a) ∧ V.cell? ⟨sb, 5, none⟩ = some (.bool l) ∧ V.cell? ⟨sb, 6, none⟩ = some (.int .i64 t)) V from ⟨cell_of_row _ _ 0 _ _ _ hV, cell_of_row _ _ 1 _ _ _ hV, cell_of_row _ _ 2 _ _ _ hV, cell_of_row _ _ 3 _ _ _ hV, cell_of_row _ _ 4 _ _ _ hV, cell_of_row _ _ 5 _ _ _ hV, cell_of_row _ _ 6 _ _ _ hV⟩)
  have HHELD := Kept.mk (HSF.out wd H3.out)
  refine wp_region_late (fun V : World => V.cell? ⟨sb, 0, none⟩ = some (.int .i64 mn) ∧ V.cell? ⟨sb, 1, none⟩ = some (.int .i64 mx) ∧ V.cell? ⟨sb, 2, none⟩ = some (.int .u32 (t % 4294967296)) ∧ V.cell? ⟨sb, 3, none⟩ = some (.int .u32 m) ∧ V.cell? ⟨sb, 4, none⟩ = some (.bool a) ∧ V.cell? ⟨sb, 5, none⟩ = some (.bool l) ∧ V.cell? ⟨sb, 6, none⟩ = some (.int .i64 t)) (fun _ => false) (by kernel_rfl) ?_
  rw [← hwd]
  clear hwd
  refine wpAnyT_take (i := 0) (v := ?v0) [0] (by simp only [List.getElem?_toArray, List.getElem?_cons_succ, List.getElem?_cons_zero]; exact rfl) (by kernel_rfl) (by kernel_rfl) (by kernel_rfl) (by kernel_rfl) (by intro _ _ _ h; exact h) (Or.inl ⟨by rfl, ?hy0⟩) HHELD.out ?rest0
  case hy0 => (intro w hSw; go_simp; try with_reducible rfl)
  try simp only [Act.put, List.setIfInBounds_toArray, List.set_cons_zero, List.set_cons_succ]
  refine wpAnyT_take (i := 1) (v := ?v1) [1] (by simp only [List.getElem?_toArray, List.getElem?_cons_succ, List.getElem?_cons_zero]; exact rfl) (by kernel_rfl) (by kernel_rfl) (by kernel_rfl) (by kernel_rfl) (by intro _ _ _ h; exact h) (Or.inl ⟨by rfl, ?hy1⟩) HHELD.out ?rest1
  case hy1 => (intro w hSw; go_simp; try with_reducible rfl)
  try simp only [Act.put, List.setIfInBounds_toArray, List.set_cons_zero, List.set_cons_succ]
  refine wpAnyT_take (i := 2) (v := ?v2) [2] (by simp only [List.getElem?_toArray, List.getElem?_cons_succ, List.getElem?_cons_zero]; exact rfl) (by kernel_rfl) (by kernel_rfl) (by kernel_rfl) (by kernel_rfl) (by intro _ _ _ h; exact h) (Or.inl ⟨by rfl, ?hy2⟩) HHELD.out ?rest2
  case hy2 => (intro w hSw; go_simp; try with_reducible rfl)
  try simp only [Act.put, List.setIfInBounds_toArray, List.set_cons_zero, List.set_cons_succ]
  refine wpAnyT_take (i := 3) (v := ?v3) [3] (by simp only [List.getElem?_toArray, List.getElem?_cons_succ, List.getElem?_cons_zero]; exact rfl) (by kernel_rfl) (by kernel_rfl) (by kernel_rfl) (by kernel_rfl) (by intro _ _ _ h; exact h) (Or.inl ⟨by rfl, ?hy3⟩) HHELD.out ?rest3
  case hy3 => (intro w hSw; go_simp; try with_reducible rfl)
  try simp only [Act.put, List.setIfInBounds_toArray, List.set_cons_zero, List.set_cons_succ]
  refine wpAnyT_take (i := 4) (v := ?v4) [4] (by simp only [List.getElem?_toArray, List.getElem?_cons_succ, List.getElem?_cons_zero]; exact rfl) (by kernel_rfl) (by kernel_rfl) (by kernel_rfl) (by kernel_rfl) (by intro _ _ _ h; exact h) (Or.inl ⟨by rfl, ?hy4⟩) HHELD.out ?rest4
  case hy4 => (intro w hSw; go_simp; try with_reducible rfl)
  try simp only [Act.put, List.setIfInBounds_toArray, List.set_cons_zero, List.set_cons_succ]
  refine wpAnyT_take (i := 5) (v := ?v5) [5] (by simp only [List.getElem?_toArray, List.getElem?_cons_succ, List.getElem?_cons_zero]; exact rfl) (by kernel_rfl) (by kernel_rfl) (by kernel_rfl) (by kernel_rfl) (by intro _ _ _ h; exact h) (Or.inl ⟨by rfl, ?hy5⟩) HHELD.out ?rest5
  case hy5 => (intro w hSw; go_simp; try with_reducible rfl)
  try simp only [Act.put, List.setIfInBounds_toArray, List.set_cons_zero, List.set_cons_succ]
  refine wpAnyT_take (i := 6) (v := ?v6) [6] (by simp only [List.getElem?_toArray, List.getElem?_cons_succ, List.getElem?_cons_zero]; exact rfl) (by kernel_rfl) (by kernel_rfl) (by kernel_rfl) (by kernel_rfl) (by intro _ _ _ h; exact h) (Or.inl ⟨by rfl, ?hy6⟩) HHELD.out ?rest6
  case hy6 => (intro w hSw; go_simp; try with_reducible rfl)
  try simp only [Act.put, List.setIfInBounds_toArray, List.set_cons_zero, List.set_cons_succ]
  refine wpAnyT_take (i := 7) (v := ?v7) [7] (by simp only [List.getElem?_toArray, List.getElem?_cons_succ, List.getElem?_cons_zero]; exact rfl) (by kernel_rfl) (by kernel_rfl) (by kernel_rfl) (by kernel_rfl) (by intro _ _ _ h; exact h) (Or.inl ⟨by rfl, ?hy7⟩) HHELD.out ?rest7
  case hy7 => (intro w hSw; go_simp; try with_reducible rfl)
  try simp only [Act.put, List.setIfInBounds_toArray, List.set_cons_zero, List.set_cons_succ]
  refine wpAnyT_take (i := 8) (v := ?v8) [8] (by simp only [List.getElem?_toArray, List.getElem?_cons_succ, List.getElem?_cons_zero]; exact rfl) (by kernel_rfl) (by kernel_rfl) (by kernel_rfl) (by kernel_rfl) (by intro _ _ _ h; exact h) (Or.inl ⟨by rfl, ?hy8⟩) HHELD.out ?rest8
  case hy8 => (intro w hSw; go_simp; try with_reducible rfl)
  try simp only [Act.put, List.setIfInBounds_toArray, List.set_cons_zero, List.set_cons_succ]
  refine wpAnyT_two 9 14 (by kernel_rfl) (by simp only [List.getElem?_toArray, List.getElem?_cons_succ, List.getElem?_cons_zero]; exact rfl) (by simp only [List.getElem?_toArray, List.getElem?_cons_succ, List.getElem?_cons_zero]; exact rfl) (fun K hK => ?_) (fun K hK => ?_)
  focus
    go_simp
    go_at_call 54
    refine (HARM.out _).mono ?_
    rintro e w4 ⟨rfl, hb4⟩
    have H4 := Kept.mk ((hb4.block sb HLT.out).trans H3.out)
    have K4 := Kept.mk (K3.out.trans (Kp.of_below (lo := sb) (hi := sb + 1) hb4))
    have HS4 := Kept.mk (HSF.out _ H4.out)
    have HL4 := Kept.mk (show sb < w4.heap.size from (Array.getElem?_eq_some_iff.1 H4.out).1)
    refine hK.out _ _ (fun _ => HS4.out) ?_
    clear hK K
    try simp only [Act.put, List.setIfInBounds_toArray, List.set_cons_zero, List.set_cons_succ]
    clear hb4
    refine wpAnyT_take (i := 10) (v := ?v10) [10] (by simp only [List.getElem?_toArray, List.getElem?_cons_succ, List.getElem?_cons_zero]; exact rfl) (by kernel_rfl) (by kernel_rfl) (by kernel_rfl) (by kernel_rfl) (by intro _ _ _ h; exact h) (Or.inl ⟨by rfl, ?hy10⟩) HS4.out ?rest10
    case hy10 => (intro w hSw; go_simp; try with_reducible rfl)
    try simp only [Act.put, List.setIfInBounds_toArray, List.set_cons_zero, List.set_cons_succ]
    refine wpAnyT_take (i := 11) (v := ?v11) [11] (by simp only [List.getElem?_toArray, List.getElem?_cons_succ, List.getElem?_cons_zero]; exact rfl) (by kernel_rfl) (by kernel_rfl) (by kernel_rfl) (by kernel_rfl) (by intro _ _ _ h; exact h) (Or.inl ⟨by rfl, ?hy11⟩) HS4.out ?rest11
    case hy11 => (intro w hSw; go_simp; try with_reducible rfl)
    try simp only [Act.put, List.setIfInBounds_toArray, List.set_cons_zero, List.set_cons_succ]
    refine wpAnyT_take (i := 12) (v := ?v12) [12] (by simp only [List.getElem?_toArray, List.getElem?_cons_succ, List.getElem?_cons_zero]; exact rfl) (by kernel_rfl) (by kernel_rfl) (by kernel_rfl) (by kernel_rfl) (by intro _ _ _ h; exact h) (Or.inl ⟨by rfl, ?hy12⟩) HS4.out ?rest12
    case hy12 => (intro w hSw; go_simp; try with_reducible rfl)
    try simp only [Act.put, List.setIfInBounds_toArray, List.set_cons_zero, List.set_cons_succ]
    refine wpAnyT_take (i := 13) (v := ?v13) [13] (by simp only [List.getElem?_toArray, List.getElem?_cons_succ, List.getElem?_cons_zero]; exact rfl) (by kernel_rfl) (by kernel_rfl) (by kernel_rfl) (by kernel_rfl) (by intro _ _ _ h; exact h) (Or.inl ⟨by rfl, ?hy13⟩) HS4.out ?rest13
    case hy13 => (intro w hSw; go_simp; try with_reducible rfl)
    try simp only [Act.put, List.setIfInBounds_toArray, List.set_cons_zero, List.set_cons_succ]
    refine wpAnyT_one 14 (by kernel_rfl) (by simp only [List.getElem?_toArray, List.getElem?_cons_succ, List.getElem?_cons_zero]; exact rfl) (fun K hK => ?_)
    go_simp
    have H5 := Kept.mk ((heap_alloc_old w4 (.cells #[.int .u32 0, .int .u32 0, .bool false, .bool false, .int .i64 0] 64) HL4.out).trans H4.out)
    have HS5 := Kept.mk (HSF.out _ H5.out)
    refine hK.out _ _ (fun _ => HS5.out) ?_
    clear hK K
    try simp only [Act.put, List.setIfInBounds_toArray, List.set_cons_zero, List.set_cons_succ]
    refine wpAnyT_one 15 (by kernel_rfl) (by simp only [List.getElem?_toArray, List.getElem?_cons_succ, List.getElem?_cons_zero]; exact rfl) (fun K hK => ?_)
    refine step_wp rfl (wp_store_at 64 _ _ rfl w4.heap.size 0 rfl #[.int .u32 c', .int .u32 m', .bool a', .bool l', .int .i64 t'] rfl 64 #[.int .u32 0, .int .u32 0, .bool false, .bool false, .int .i64 0] #[.int .u32 c', .int .u32 m', .bool a', .bool l', .int .i64 t'] (heap_alloc_new w4 _) size_ck (by simp) ck_one rfl ?_)
    intro w6 hp
    obtain ⟨bx, hbx⟩ : ∃ bx, bx = w4.heap.size := ⟨_, rfl⟩
    have HBX := Kept.mk (show sb < bx by rw [hbx]; exact HL4.out)
    have HX := Kept.mk (show w6.heap[bx]? = some (.cells #[.int .u32 c', .int .u32 m', .bool a', .bool l', .int .i64 t'] 64) by rw [hbx]; exact hp.here)
    have H6 := Kept.mk ((hp.far sb (by have := HL4.out; omega)).trans H5.out)
    have K6 := Kept.mk (K4.out.trans (Kp.of_below (lo := sb) (hi := sb + 1) ((below_box w4 _).trans (hp.below w4.heap.size (Nat.le_refl _)))))
    have HS6 := Kept.mk (HSF.out _ H6.out)
    refine hK.out _ _ (fun _ => HS6.out) ?_
    clear hK K
    try simp only [Act.put, List.setIfInBounds_toArray, List.set_cons_zero, List.set_cons_succ]
    refine wpAnyT_one 16 (by kernel_rfl) (by simp only [List.getElem?_toArray, List.getElem?_cons_succ, List.getElem?_cons_zero]; exact rfl) (fun K hK => ?_)
    go_simp
    refine hK.out _ _ (fun _ => HS6.out) ?_
    clear hK K
    try simp only [Act.put, List.setIfInBounds_toArray, List.set_cons_zero, List.set_cons_succ]
    refine wpAnyT_one 17 (by kernel_rfl) (by simp only [List.getElem?_toArray, List.getElem?_cons_succ, List.getElem?_cons_zero]; exact rfl) (fun K hK => ?_)
    go_simp
    refine hK.out _ _ (fun _ => HS6.out) ?_
    clear hK K
    try simp only [Act.put, List.setIfInBounds_toArray, List.set_cons_zero, List.set_cons_succ]
    refine wpAnyT_done (by kernel_rfl) ?_ _
    rw [← hbx]
    clear hp hbx HS6 HS5 H5 HS4 H4 K4 HL4
  rotate_left
  focus
    go_simp
    have H5 := Kept.mk ((heap_alloc_old wd (.cells #[.int .u32 0, .int .u32 0, .bool false, .bool false, .int .i64 0] 64) HLT.out).trans H3.out)
    have HS5 := Kept.mk (HSF.out _ H5.out)
    refine hK.out _ _ (fun _ => HS5.out) ?_
    clear hK K
    try simp only [Act.put, List.setIfInBounds_toArray, List.set_cons_zero, List.set_cons_succ]
    refine wpAnyT_one 9 (by kernel_rfl) (by simp only [List.getElem?_toArray, List.getElem?_cons_succ, List.getElem?_cons_zero]; exact rfl) (fun K hK => ?_)
    go_simp
    go_at_call 54
    refine (HARM.out _).mono ?_
    rintro e w4 ⟨rfl, hb4⟩
    have hsz : wd.heap.size < (wd.alloc (.cells #[.int .u32 0, .int .u32 0, .bool false, .bool false, .int .i64 0] 64)).heap.size := by simp
    have H4 := Kept.mk ((hb4.block sb (Nat.lt_trans HLT.out hsz)).trans H5.out)
    have B4 := Kept.mk ((hb4.block wd.heap.size hsz).trans (heap_alloc_new wd _))
    have K4 := Kept.mk (K3.out.trans (Kp.of_below (lo := sb) (hi := sb + 1) ((below_box wd _).trans (hb4.mono (Nat.le_of_lt hsz)))))
    have HS4 := Kept.mk (HSF.out _ H4.out)
    refine hK.out _ _ (fun _ => HS4.out) ?_
    clear hK K
    try simp only [Act.put, List.setIfInBounds_toArray, List.set_cons_zero, List.set_cons_succ]
    clear hb4 hsz
    refine wpAnyT_take (i := 10) (v := ?vb10) [10] (by simp only [List.getElem?_toArray, List.getElem?_cons_succ, List.getElem?_cons_zero]; exact rfl) (by kernel_rfl) (by kernel_rfl) (by kernel_rfl) (by kernel_rfl) (by intro _ _ _ h; exact h) (Or.inl ⟨by rfl, ?hyb10⟩) HS4.out ?restb10
    case hyb10 => (intro w hSw; go_simp; try with_reducible rfl)
    try simp only [Act.put, List.setIfInBounds_toArray, List.set_cons_zero, List.set_cons_succ]
    refine wpAnyT_take (i := 11) (v := ?vb11) [11] (by simp only [List.getElem?_toArray, List.getElem?_cons_succ, List.getElem?_cons_zero]; exact rfl) (by kernel_rfl) (by kernel_rfl) (by kernel_rfl) (by kernel_rfl) (by intro _ _ _ h; exact h) (Or.inl ⟨by rfl, ?hyb11⟩) HS4.out ?restb11
    case hyb11 => (intro w hSw; go_simp; try with_reducible rfl)
    try simp only [Act.put, List.setIfInBounds_toArray, List.set_cons_zero, List.set_cons_succ]
    refine wpAnyT_take (i := 12) (v := ?vb12) [12] (by simp only [List.getElem?_toArray, List.getElem?_cons_succ, List.getElem?_cons_zero]; exact rfl) (by kernel_rfl) (by kernel_rfl) (by kernel_rfl) (by kernel_rfl) (by intro _ _ _ h; exact h) (Or.inl ⟨by rfl, ?hyb12⟩) HS4.out ?restb12
    case hyb12 => (intro w hSw; go_simp; try with_reducible rfl)
    try simp only [Act.put, List.setIfInBounds_toArray, List.set_cons_zero, List.set_cons_succ]
    refine wpAnyT_take (i := 13) (v := ?vb13) [13] (by simp only [List.getElem?_toArray, List.getElem?_cons_succ, List.getElem?_cons_zero]; exact rfl) (by kernel_rfl) (by kernel_rfl) (by kernel_rfl) (by kernel_rfl) (by intro _ _ _ h; exact h) (Or.inl ⟨by rfl, ?hyb13⟩) HS4.out ?restb13
    case hyb13 => (intro w hSw; go_simp; try with_reducible rfl)
    try simp only [Act.put, List.setIfInBounds_toArray, List.set_cons_zero, List.set_cons_succ]
    refine wpAnyT_one 15 (by kernel_rfl) (by simp only [List.getElem?_toArray, List.getElem?_cons_succ, List.getElem?_cons_zero]; exact rfl) (fun K hK => ?_)
    refine step_wp rfl (wp_store_at 64 _ _ rfl wd.heap.size 0 rfl #[.int .u32 c', .int .u32 m', .bool a', .bool l', .int .i64 t'] rfl 64 #[.int .u32 0, .int .u32 0, .bool false, .bool false, .int .i64 0] #[.int .u32 c', .int .u32 m', .bool a', .bool l', .int .i64 t'] B4.out size_ck (by simp) ck_one rfl ?_)
    intro w6 hp
    obtain ⟨bx, hbx⟩ : ∃ bx, bx = wd.heap.size := ⟨_, rfl⟩
    have HBX := Kept.mk (show sb < bx by rw [hbx]; exact HLT.out)
    have HX := Kept.mk (show w6.heap[bx]? = some (.cells #[.int .u32 c', .int .u32 m', .bool a', .bool l', .int .i64 t'] 64) by rw [hbx]; exact hp.here)
    have H6 := Kept.mk ((hp.far sb (by have := HLT.out; omega)).trans H4.out)
    have K6 := Kept.mk (show Kp sb (sb + 1) w w6 from K4.out.put hp (by have := K3.out.size; omega))
    have HS6 := Kept.mk (HSF.out _ H6.out)
    refine hK.out _ _ (fun _ => HS6.out) ?_
    clear hK K
    try simp only [Act.put, List.setIfInBounds_toArray, List.set_cons_zero, List.set_cons_succ]
    refine wpAnyT_one 16 (by kernel_rfl) (by simp only [List.getElem?_toArray, List.getElem?_cons_succ, List.getElem?_cons_zero]; exact rfl) (fun K hK => ?_)
    go_simp
    refine hK.out _ _ (fun _ => HS6.out) ?_
    clear hK K
    try simp only [Act.put, List.setIfInBounds_toArray, List.set_cons_zero, List.set_cons_succ]
    refine wpAnyT_one 17 (by kernel_rfl) (by simp only [List.getElem?_toArray, List.getElem?_cons_succ, List.getElem?_cons_zero]; exact rfl) (fun K hK => ?_)
    go_simp
    refine hK.out _ _ (fun _ => HS6.out) ?_
    clear hK K
    try simp only [Act.put, List.setIfInBounds_toArray, List.set_cons_zero, List.set_cons_succ]
    refine wpAnyT_done (by kernel_rfl) ?_ _
    rw [← hbx]
    clear hp hbx HS6 HS5 H5 HS4 H4 K4 B4
  rotate_left
  focus
    clear HSF HHELD H3 K3 HLT HARM
    rcases HC.out with ⟨rfl, hle, rfl, rfl, rfl, hkd, h1, h2⟩ | ⟨rfl, hlt⟩
    · have HKD := Kept.mk hkd
      have HXX := Kept.mk (And.intro hle (And.intro h1 h2))
      clear HC hkd hle h1 h2
      obtain ⟨r0, r1, r2, r3, r4⟩ := (box5 HX.out).1
      go_wp2_with (refine wpList_store_at rfl 64 _ _ rfl sb 2 rfl #[.int .u32 (t' % 4294967296), .int .u32 m', .bool a', .bool l', .int .i64 t'] rfl 68 (svC mn mx (t' % 4294967296) m a l' t' tb true x.du false) (svC mn mx (t' % 4294967296) m' a' l' t' tb true x.du false) H6.out size_ck (by simp [svC]) ck_one rfl ?_; intro w7 hp; have f10 := frozen_of_row _ _ 10 _ _ hp.here; have d10 : w7.cell? ⟨sb, 10, none⟩ = some (.bool false) := cell_of_row _ _ 10 _ _ _ hp.here; have HP := Kept.mk hp; clear hp)
      go_end0
      have h8 := heap_setCell_same w7 sb 10 _ _ (.bool (kd == 1)) HP.out.here
      refine ⟨rfl, m', a', kd == 1, h8, ((K6.out.putIn HP.out (Nat.le_refl _) (Nat.lt_succ_self _)).set (p := ⟨sb, 10, none⟩) (Nat.le_refl _) (Nat.lt_succ_self _) _), ?_⟩
      obtain ⟨g0, g1, g2⟩ := HXX.out
      unfold LkP
      rw [HKD.out]
      by_cases hd : x.du ≤ t'
      · exact .inl ⟨hd, by rw [aim_one.2 hd]; rfl⟩
      · have hne : (aimE mn mx t' x.du).1 ≠ 1 := fun e => hd (aim_one.1 e)
        obtain ⟨g3, g4⟩ := g2 hne
        exact .inr ⟨by omega, by simp [hne], g4, by rw [g3, HW.out]; congr 1; omega⟩
    · have hdu : t < x.du := by
        have hn := HN1.out
        have hd := HD1.out
        rcases Int.lt_or_le t x.du with h | h
        · exact h
        · exfalso
          unfold aimE at hlt
          rw [if_pos (by omega)] at hlt
          simp only at hlt
          omega
      have HDU := Kept.mk hdu
      have HLT6 := Kept.mk hlt
      clear HC hdu hlt
      go_upto_region 7 with fail
      obtain ⟨wd, hwd⟩ : ∃ wd, wd = w6.drew := ⟨_, rfl⟩
      have H7 := Kept.mk (show wd.heap[sb]? = some (.cells (svC mn mx (t % 4294967296) m a l t tb true x.du false) 68) by rw [hwd]; exact H6.out)
      have K7 := Kept.mk (show Kp sb (sb + 1) w wd by rw [hwd]; exact K6.out.trans (Kp.of_below ((Below.refl _ _).drewN 1)))
      have HSF := Kept.mk (fun (V : World) (hV : V.heap[sb]? = some (.cells (svC mn mx (t % 4294967296) m a l t tb true x.du false) 68)) => show (fun V : World => V.cell? ⟨sb, 2, none⟩ = some (.int .u32 (t % 4294967296)) ∧ V.cell? ⟨sb, 3, none⟩ = some (.int .u32 m) ∧ V.cell? ⟨sb, 4, none⟩ = some (.bool a) ∧ V.cell? ⟨sb, 5, none⟩ = some (.bool l)) V from ⟨cell_of_row _ _ 2 _ _ _ hV, cell_of_row _ _ 3 _ _ _ hV, cell_of_row _ _ 4 _ _ _ hV, cell_of_row _ _ 5 _ _ _ hV⟩)
      have HS7 := Kept.mk (HSF.out wd H7.out)
      refine wp_region_late (fun V : World => V.cell? ⟨sb, 2, none⟩ = some (.int .u32 (t % 4294967296)) ∧ V.cell? ⟨sb, 3, none⟩ = some (.int .u32 m) ∧ V.cell? ⟨sb, 4, none⟩ = some (.bool a) ∧ V.cell? ⟨sb, 5, none⟩ = some (.bool l)) (fun i => i == 11) (by kernel_rfl) ?_
      rw [← hwd]
      clear hwd
      refine wpAnyT_take (i := 0) (v := ?vy0) [0, 8, 9, 10, 11] (by simp only [List.getElem?_toArray, List.getElem?_cons_succ, List.getElem?_cons_zero]; exact rfl) (by kernel_rfl) (by kernel_rfl) (by kernel_rfl) (by kernel_rfl) (by intro _ _ _ h; exact h) (Or.inl ⟨by rfl, ?hyy0⟩) HS7.out ?resty0
      case hyy0 => (intro w hSw; go_simp; try with_reducible rfl)
      try simp only [Act.put, List.setIfInBounds_toArray, List.set_cons_zero, List.set_cons_succ]
      refine wpAnyT_take (i := 1) (v := ?vy1) [1, 2, 3, 4, 5, 7, 11] (by simp only [List.getElem?_toArray, List.getElem?_cons_succ, List.getElem?_cons_zero]; exact rfl) (by kernel_rfl) (by kernel_rfl) (by kernel_rfl) (by kernel_rfl) (by intro _ _ _ h; exact h) (Or.inl ⟨by rfl, ?hyy1⟩) HS7.out ?resty1
      case hyy1 => (intro w hSw; go_simp; try with_reducible rfl)
      try simp only [Act.put, List.setIfInBounds_toArray, List.set_cons_zero, List.set_cons_succ]
      refine wpAnyT_take (i := 2) (v := ?vy2) [2, 3, 4, 5, 7, 11] (by simp only [List.getElem?_toArray, List.getElem?_cons_succ, List.getElem?_cons_zero]; exact rfl) (by kernel_rfl) (by kernel_rfl) (by kernel_rfl) (by kernel_rfl) (by intro _ _ _ h; exact h) (Or.inl ⟨by rfl, ?hyy2⟩) HS7.out ?resty2
      case hyy2 => (intro w hSw; go_simp; try with_reducible rfl)
      try simp only [Act.put, List.setIfInBounds_toArray, List.set_cons_zero, List.set_cons_succ]
      refine wpAnyT_take (i := 3) (v := ?vy3) [3, 4, 5, 7, 11] (by simp only [List.getElem?_toArray, List.getElem?_cons_succ, List.getElem?_cons_zero]; exact rfl) (by kernel_rfl) (by kernel_rfl) (by kernel_rfl) (by kernel_rfl) (by intro _ _ _ h; exact h) (Or.inl ⟨by rfl, ?hyy3⟩) HS7.out ?resty3
      case hyy3 => (intro w hSw; go_simp; try with_reducible rfl)
      try simp only [Act.put, List.setIfInBounds_toArray, List.set_cons_zero, List.set_cons_succ]
      refine wpAnyT_take (i := 4) (v := ?vy4) [4, 5, 7, 11] (by simp only [List.getElem?_toArray, List.getElem?_cons_succ, List.getElem?_cons_zero]; exact rfl) (by kernel_rfl) (by kernel_rfl) (by kernel_rfl) (by kernel_rfl) (by intro _ _ _ h; exact h) (Or.inl ⟨by rfl, ?hyy4⟩) HS7.out ?resty4
      case hyy4 => (intro w hSw; go_simp; try with_reducible rfl)
      try simp only [Act.put, List.setIfInBounds_toArray, List.set_cons_zero, List.set_cons_succ]
      refine wpAnyT_take (i := 5) (v := ?vy5) [5, 7, 11] (by simp only [List.getElem?_toArray, List.getElem?_cons_succ, List.getElem?_cons_zero]; exact rfl) (by kernel_rfl) (by kernel_rfl) (by kernel_rfl) (by kernel_rfl) (by intro _ _ _ h; exact h) (Or.inl ⟨by rfl, ?hyy5⟩) HS7.out ?resty5
      case hyy5 => (intro w hSw; go_simp; try with_reducible rfl)
      try simp only [Act.put, List.setIfInBounds_toArray, List.set_cons_zero, List.set_cons_succ]
      refine wpAnyT_one 6 (by kernel_rfl) (by simp only [List.getElem?_toArray, List.getElem?_cons_succ, List.getElem?_cons_zero]; exact rfl) (fun K hK => ?_)
      go_simp
      go_at_call 56
      refine (tlast_any _).mono ?_
      rintro e wl ⟨rfl, rfl⟩
      refine hK.out _ _ (fun _ => HS7.out) ?_
      clear hK K
      try simp only [Act.put, List.setIfInBounds_toArray, List.set_cons_zero, List.set_cons_succ]
      refine wpAnyT_one 7 (by kernel_rfl) (by simp only [List.getElem?_toArray, List.getElem?_cons_succ, List.getElem?_cons_zero]; exact rfl) (fun K hK => ?_)
      go_simp
      go_at_call 55
      refine (harm_any (t % 4294967296) m 0 a l _).mono ?_
      rintro e w8 ⟨rfl, hb8⟩
      have H8 := Kept.mk ((hb8.block sb (Array.getElem?_eq_some_iff.1 H7.out).1).trans H7.out)
      have K8 := Kept.mk (K7.out.trans (Kp.of_below (lo := sb) (hi := sb + 1) hb8))
      refine hK.out _ _ (fun _ => HSF.out _ H8.out) ?_
      clear hK K
      try simp only [Act.put, List.setIfInBounds_toArray, List.set_cons_zero, List.set_cons_succ]
      have HS8 := Kept.mk (HSF.out _ H8.out)
      clear hb8
      refine wpAnyT_take (i := 8) (v := ?vy8) [8, 9, 10, 11] (by simp only [List.getElem?_toArray, List.getElem?_cons_succ, List.getElem?_cons_zero]; exact rfl) (by kernel_rfl) (by kernel_rfl) (by kernel_rfl) (by kernel_rfl) (by intro _ _ _ h; exact h) (Or.inl ⟨by rfl, ?hyy8⟩) HS8.out ?resty8
      case hyy8 => (intro w hSw; go_simp; try with_reducible rfl)
      try simp only [Act.put, List.setIfInBounds_toArray, List.set_cons_zero, List.set_cons_succ]
      refine wpAnyT_take (i := 9) (v := ?vy9) [9, 10, 11] (by simp only [List.getElem?_toArray, List.getElem?_cons_succ, List.getElem?_cons_zero]; exact rfl) (by kernel_rfl) (by kernel_rfl) (by kernel_rfl) (by kernel_rfl) (by intro _ _ _ h; exact h) (Or.inl ⟨by rfl, ?hyy9⟩) HS8.out ?resty9
      case hyy9 => (intro w hSw; go_simp; try with_reducible rfl)
      try simp only [Act.put, List.setIfInBounds_toArray, List.set_cons_zero, List.set_cons_succ]
      refine wpAnyT_take (i := 10) (v := ?vy10) [10, 11] (by simp only [List.getElem?_toArray, List.getElem?_cons_succ, List.getElem?_cons_zero]; exact rfl) (by kernel_rfl) (by kernel_rfl) (by kernel_rfl) (by kernel_rfl) (by intro _ _ _ h; exact h) (Or.inl ⟨by rfl, ?hyy10⟩) HS8.out ?resty10
      case hyy10 => (intro w hSw; go_simp; try with_reducible rfl)
      try simp only [Act.put, List.setIfInBounds_toArray, List.set_cons_zero, List.set_cons_succ]
      refine wpAnyT_one 11 (by kernel_rfl) (by simp only [List.getElem?_toArray, List.getElem?_cons_succ, List.getElem?_cons_zero]; exact rfl) (fun K hK => ?_)
      refine step_wp rfl (wp_store_at 62 _ _ rfl sb 2 rfl #[.int .u32 (t % 4294967296), .int .u32 0, .bool true, .bool l] rfl 68 (svC mn mx (t % 4294967296) m a l t tb true x.du false) (svC mn mx (t % 4294967296) 0 true l t tb true x.du false) H8.out (size_hw4 _ _ _ _) (by simp [svC]) hw_one rfl ?_)
      intro w9 hp
      have H9 := Kept.mk hp.here
      have K9 := Kept.mk (K8.out.putIn hp (Nat.le_refl _) (Nat.lt_succ_self _))
      refine hK.out _ _ (fun h => (by cases h)) ?_
      clear hK K
      try simp only [Act.put, List.setIfInBounds_toArray, List.set_cons_zero, List.set_cons_succ]
      clear hp
      refine wpAnyT_done (by kernel_rfl) ?_ _
      have HNO := snow_any H9.out
      have f10 := frozen_of_row _ _ 10 _ _ H9.out
      have d10 : w9.cell? ⟨sb, 10, none⟩ = some (.bool false) := cell_of_row _ _ 10 _ _ _ H9.out
      go_wp2_with fail
      refine HNO.mono ?_
      rintro e wn ⟨rfl, rfl⟩
      go_wp2_with fail
      refine bodyPost_ret (results_none rfl _ _ _) rfl ?_
      have h8 := heap_setCell_same w9 sb 10 _ _ (.bool (t == 4503599627370496)) H9.out
      refine ⟨rfl, 0, true, t == 4503599627370496, h8, (K9.out.set (p := ⟨sb, 10, none⟩) (Nat.le_refl _) (Nat.lt_succ_self _) _), ?_⟩
      have hdu := HDU.out
      have hd1 := HD1.out
      refine .inr ⟨hdu, by simp; omega, rfl, ?_⟩
      rw [HW.out]
      have := HLT6.out
      omega
  focus
    clear HSF HHELD H3 K3 HLT HARM
    rcases HC.out with ⟨rfl, hle, rfl, rfl, rfl, hkd, h1, h2⟩ | ⟨rfl, hlt⟩
    · have HKD := Kept.mk hkd
      have HXX := Kept.mk (And.intro hle (And.intro h1 h2))
      clear HC hkd hle h1 h2
      obtain ⟨r0, r1, r2, r3, r4⟩ := (box5 HX.out).1
      go_wp2_with (refine wpList_store_at rfl 64 _ _ rfl sb 2 rfl #[.int .u32 (t' % 4294967296), .int .u32 m', .bool a', .bool l', .int .i64 t'] rfl 68 (svC mn mx (t' % 4294967296) m a l' t' tb true x.du false) (svC mn mx (t' % 4294967296) m' a' l' t' tb true x.du false) H6.out size_ck (by simp [svC]) ck_one rfl ?_; intro w7 hp; have f10 := frozen_of_row _ _ 10 _ _ hp.here; have d10 : w7.cell? ⟨sb, 10, none⟩ = some (.bool false) := cell_of_row _ _ 10 _ _ _ hp.here; have HP := Kept.mk hp; clear hp)
      go_end0
      have h8 := heap_setCell_same w7 sb 10 _ _ (.bool (kd == 1)) HP.out.here
      refine ⟨rfl, m', a', kd == 1, h8, ((K6.out.putIn HP.out (Nat.le_refl _) (Nat.lt_succ_self _)).set (p := ⟨sb, 10, none⟩) (Nat.le_refl _) (Nat.lt_succ_self _) _), ?_⟩
      obtain ⟨g0, g1, g2⟩ := HXX.out
      unfold LkP
      rw [HKD.out]
      by_cases hd : x.du ≤ t'
      · exact .inl ⟨hd, by rw [aim_one.2 hd]; rfl⟩
      · have hne : (aimE mn mx t' x.du).1 ≠ 1 := fun e => hd (aim_one.1 e)
        obtain ⟨g3, g4⟩ := g2 hne
        exact .inr ⟨by omega, by simp [hne], g4, by rw [g3, HW.out]; congr 1; omega⟩
    · have hdu : t < x.du := by
        have hn := HN1.out
        have hd := HD1.out
        rcases Int.lt_or_le t x.du with h | h
        · exact h
        · exfalso
          unfold aimE at hlt
          rw [if_pos (by omega)] at hlt
          simp only at hlt
          omega
      have HDU := Kept.mk hdu
      have HLT6 := Kept.mk hlt
      clear HC hdu hlt
      go_upto_region 7 with fail
      obtain ⟨wd, hwd⟩ : ∃ wd, wd = w6.drew := ⟨_, rfl⟩
      have H7 := Kept.mk (show wd.heap[sb]? = some (.cells (svC mn mx (t % 4294967296) m a l t tb true x.du false) 68) by rw [hwd]; exact H6.out)
      have K7 := Kept.mk (show Kp sb (sb + 1) w wd by rw [hwd]; exact K6.out.trans (Kp.of_below ((Below.refl _ _).drewN 1)))
      have HSF := Kept.mk (fun (V : World) (hV : V.heap[sb]? = some (.cells (svC mn mx (t % 4294967296) m a l t tb true x.du false) 68)) => show (fun V : World => V.cell? ⟨sb, 2, none⟩ = some (.int .u32 (t % 4294967296)) ∧ V.cell? ⟨sb, 3, none⟩ = some (.int .u32 m) ∧ V.cell? ⟨sb, 4, none⟩ = some (.bool a) ∧ V.cell? ⟨sb, 5, none⟩ = some (.bool l)) V from ⟨cell_of_row _ _ 2 _ _ _ hV, cell_of_row _ _ 3 _ _ _ hV, cell_of_row _ _ 4 _ _ _ hV, cell_of_row _ _ 5 _ _ _ hV⟩)
      have HS7 := Kept.mk (HSF.out wd H7.out)
      refine wp_region_late (fun V : World => V.cell? ⟨sb, 2, none⟩ = some (.int .u32 (t % 4294967296)) ∧ V.cell? ⟨sb, 3, none⟩ = some (.int .u32 m) ∧ V.cell? ⟨sb, 4, none⟩ = some (.bool a) ∧ V.cell? ⟨sb, 5, none⟩ = some (.bool l)) (fun i => i == 11) (by kernel_rfl) ?_
      rw [← hwd]
      clear hwd
      refine wpAnyT_take (i := 0) (v := ?vz0) [0, 8, 9, 10, 11] (by simp only [List.getElem?_toArray, List.getElem?_cons_succ, List.getElem?_cons_zero]; exact rfl) (by kernel_rfl) (by kernel_rfl) (by kernel_rfl) (by kernel_rfl) (by intro _ _ _ h; exact h) (Or.inl ⟨by rfl, ?hyz0⟩) HS7.out ?restz0
      case hyz0 => (intro w hSw; go_simp; try with_reducible rfl)
      try simp only [Act.put, List.setIfInBounds_toArray, List.set_cons_zero, List.set_cons_succ]
      refine wpAnyT_take (i := 1) (v := ?vz1) [1, 2, 3, 4, 5, 7, 11] (by simp only [List.getElem?_toArray, List.getElem?_cons_succ, List.getElem?_cons_zero]; exact rfl) (by kernel_rfl) (by kernel_rfl) (by kernel_rfl) (by kernel_rfl) (by intro _ _ _ h; exact h) (Or.inl ⟨by rfl, ?hyz1⟩) HS7.out ?restz1
      case hyz1 => (intro w hSw; go_simp; try with_reducible rfl)
      try simp only [Act.put, List.setIfInBounds_toArray, List.set_cons_zero, List.set_cons_succ]
      refine wpAnyT_take (i := 2) (v := ?vz2) [2, 3, 4, 5, 7, 11] (by simp only [List.getElem?_toArray, List.getElem?_cons_succ, List.getElem?_cons_zero]; exact rfl) (by kernel_rfl) (by kernel_rfl) (by kernel_rfl) (by kernel_rfl) (by intro _ _ _ h; exact h) (Or.inl ⟨by rfl, ?hyz2⟩) HS7.out ?restz2
      case hyz2 => (intro w hSw; go_simp; try with_reducible rfl)
      try simp only [Act.put, List.setIfInBounds_toArray, List.set_cons_zero, List.set_cons_succ]
      refine wpAnyT_take (i := 3) (v := ?vz3) [3, 4, 5, 7, 11] (by simp only [List.getElem?_toArray, List.getElem?_cons_succ, List.getElem?_cons_zero]; exact rfl) (by kernel_rfl) (by kernel_rfl) (by kernel_rfl) (by kernel_rfl) (by intro _ _ _ h; exact h) (Or.inl ⟨by rfl, ?hyz3⟩) HS7.out ?restz3
      case hyz3 => (intro w hSw; go_simp; try with_reducible rfl)
      try simp only [Act.put, List.setIfInBounds_toArray, List.set_cons_zero, List.set_cons_succ]
      refine wpAnyT_take (i := 4) (v := ?vz4) [4, 5, 7, 11] (by simp only [List.getElem?_toArray, List.getElem?_cons_succ, List.getElem?_cons_zero]; exact rfl) (by kernel_rfl) (by kernel_rfl) (by kernel_rfl) (by kernel_rfl) (by intro _ _ _ h; exact h) (Or.inl ⟨by rfl, ?hyz4⟩) HS7.out ?restz4
      case hyz4 => (intro w hSw; go_simp; try with_reducible rfl)
      try simp only [Act.put, List.setIfInBounds_toArray, List.set_cons_zero, List.set_cons_succ]
      refine wpAnyT_take (i := 5) (v := ?vz5) [5, 7, 11] (by simp only [List.getElem?_toArray, List.getElem?_cons_succ, List.getElem?_cons_zero]; exact rfl) (by kernel_rfl) (by kernel_rfl) (by kernel_rfl) (by kernel_rfl) (by intro _ _ _ h; exact h) (Or.inl ⟨by rfl, ?hyz5⟩) HS7.out ?restz5
      case hyz5 => (intro w hSw; go_simp; try with_reducible rfl)
      try simp only [Act.put, List.setIfInBounds_toArray, List.set_cons_zero, List.set_cons_succ]
      refine wpAnyT_one 6 (by kernel_rfl) (by simp only [List.getElem?_toArray, List.getElem?_cons_succ, List.getElem?_cons_zero]; exact rfl) (fun K hK => ?_)
      go_simp
      go_at_call 56
      refine (tlast_any _).mono ?_
      rintro e wl ⟨rfl, rfl⟩
      refine hK.out _ _ (fun _ => HS7.out) ?_
      clear hK K
      try simp only [Act.put, List.setIfInBounds_toArray, List.set_cons_zero, List.set_cons_succ]
      refine wpAnyT_one 7 (by kernel_rfl) (by simp only [List.getElem?_toArray, List.getElem?_cons_succ, List.getElem?_cons_zero]; exact rfl) (fun K hK => ?_)
      go_simp
      go_at_call 55
      refine (harm_any (t % 4294967296) m 0 a l _).mono ?_
      rintro e w8 ⟨rfl, hb8⟩
      have H8 := Kept.mk ((hb8.block sb (Array.getElem?_eq_some_iff.1 H7.out).1).trans H7.out)
      have K8 := Kept.mk (K7.out.trans (Kp.of_below (lo := sb) (hi := sb + 1) hb8))
      refine hK.out _ _ (fun _ => HSF.out _ H8.out) ?_
      clear hK K
      try simp only [Act.put, List.setIfInBounds_toArray, List.set_cons_zero, List.set_cons_succ]
      have HS8 := Kept.mk (HSF.out _ H8.out)
      clear hb8
      refine wpAnyT_take (i := 8) (v := ?vz8) [8, 9, 10, 11] (by simp only [List.getElem?_toArray, List.getElem?_cons_succ, List.getElem?_cons_zero]; exact rfl) (by kernel_rfl) (by kernel_rfl) (by kernel_rfl) (by kernel_rfl) (by intro _ _ _ h; exact h) (Or.inl ⟨by rfl, ?hyz8⟩) HS8.out ?restz8
      case hyz8 => (intro w hSw; go_simp; try with_reducible rfl)
      try simp only [Act.put, List.setIfInBounds_toArray, List.set_cons_zero, List.set_cons_succ]
      refine wpAnyT_take (i := 9) (v := ?vz9) [9, 10, 11] (by simp only [List.getElem?_toArray, List.getElem?_cons_succ, List.getElem?_cons_zero]; exact rfl) (by kernel_rfl) (by kernel_rfl) (by kernel_rfl) (by kernel_rfl) (by intro _ _ _ h; exact h) (Or.inl ⟨by rfl, ?hyz9⟩) HS8.out ?restz9
      case hyz9 => (intro w hSw; go_simp; try with_reducible rfl)
      try simp only [Act.put, List.setIfInBounds_toArray, List.set_cons_zero, List.set_cons_succ]
      refine wpAnyT_take (i := 10) (v := ?vz10) [10, 11] (by simp only [List.getElem?_toArray, List.getElem?_cons_succ, List.getElem?_cons_zero]; exact rfl) (by kernel_rfl) (by kernel_rfl) (by kernel_rfl) (by kernel_rfl) (by intro _ _ _ h; exact h) (Or.inl ⟨by rfl, ?hyz10⟩) HS8.out ?restz10
      case hyz10 => (intro w hSw; go_simp; try with_reducible rfl)
      try simp only [Act.put, List.setIfInBounds_toArray, List.set_cons_zero, List.set_cons_succ]
      refine wpAnyT_one 11 (by kernel_rfl) (by simp only [List.getElem?_toArray, List.getElem?_cons_succ, List.getElem?_cons_zero]; exact rfl) (fun K hK => ?_)
      refine step_wp rfl (wp_store_at 62 _ _ rfl sb 2 rfl #[.int .u32 (t % 4294967296), .int .u32 0, .bool true, .bool l] rfl 68 (svC mn mx (t % 4294967296) m a l t tb true x.du false) (svC mn mx (t % 4294967296) 0 true l t tb true x.du false) H8.out (size_hw4 _ _ _ _) (by simp [svC]) hw_one rfl ?_)
      intro w9 hp
      have H9 := Kept.mk hp.here
      have K9 := Kept.mk (K8.out.putIn hp (Nat.le_refl _) (Nat.lt_succ_self _))
      refine hK.out _ _ (fun h => (by cases h)) ?_
      clear hK K
      try simp only [Act.put, List.setIfInBounds_toArray, List.set_cons_zero, List.set_cons_succ]
      clear hp
      refine wpAnyT_done (by kernel_rfl) ?_ _
      have HNO := snow_any H9.out
      have f10 := frozen_of_row _ _ 10 _ _ H9.out
      have d10 : w9.cell? ⟨sb, 10, none⟩ = some (.bool false) := cell_of_row _ _ 10 _ _ _ H9.out
      go_wp2_with fail
      refine HNO.mono ?_
      rintro e wn ⟨rfl, rfl⟩
      go_wp2_with fail
      refine bodyPost_ret (results_none rfl _ _ _) rfl ?_
      have h8 := heap_setCell_same w9 sb 10 _ _ (.bool (t == 4503599627370496)) H9.out
      refine ⟨rfl, 0, true, t == 4503599627370496, h8, (K9.out.set (p := ⟨sb, 10, none⟩) (Nat.le_refl _) (Nat.lt_succ_self _) _), ?_⟩
      have hdu := HDU.out
      have hd1 := HD1.out
      refine .inr ⟨hdu, by simp; omega, rfl, ?_⟩
      rw [HW.out]
      have := HLT6.out
      omega
end Go.Proofs.YtakkfgkogomjbaaDoor
