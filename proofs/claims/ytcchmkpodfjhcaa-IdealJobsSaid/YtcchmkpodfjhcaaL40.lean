/-
  The walk of vergelaw40.lives.
-/
import Derived.Test.YtcchmkpodfjhcaaLS
import Derived.Test.YtcchmkpodfjhcaaJ5
namespace Go.Proofs.Ytcchmkpodfjhcaa
open Go.RowKit
set_option linter.unusedVariables false
/-- The law's three pieces. -/
def l3 : List Q3 := [⟨1, 0, 5⟩, ⟨2, 2, 3⟩, ⟨1, 20, 1⟩]
theorem l3_chk : chk l3 = 0 := by decide +kernel
def s3 : Sch := runE (pcs l3) 10 (sch0 (pcs l3))
theorem s3_end : rstep (pcs l3) s3 = none := by
  have h : pk (pcs l3) s3.left s3.now (pcs l3).n = none := by decide +kernel
  have h2 : nxt (pcs l3) s3.now (pcs l3).n = none := by decide +kernel
  unfold rstep
  rw [h, h2]
theorem s3_eq : s3 = sE l3 := sE_eq (Rt.of l3_chk) (runE_goes _ _ _) s3_end
theorem l3_d : dE l3 = [8, 5, 21] := by
  unfold dE
  rw [← s3_eq]
  decide +kernel
theorem l3_b : (sE l3).busy = [(0, 8), (20, 21)] := by
  rw [← s3_eq]
  decide +kernel
theorem l3_why : whyE l3 = 0 := whyE_fine l3_chk (by rw [l3_d]; decide)
theorem l3_fin : finE l3 = [8, 5, 21] := (finE_ok l3_why).trans l3_d
theorem l3_wt : wtE l3 = [3, 0, 0] := by unfold wtE; rw [if_pos l3_why, l3_d]; decide
theorem l3_busy : busyE l3 = [(0, 8), (20, 21)] := by unfold busyE; rw [if_pos l3_why, l3_b]
def l0 : List Q3 := [⟨0, 0, 0⟩]
theorem l0_chk : chk l0 ≠ 0 := by decide +kernel
theorem l0_why : whyE l0 = 2 := whyE_chk l0_chk
theorem l0_fin : finE l0 = [] := finE_bad (by rw [l0_why]; decide)
def lh : List Q3 := [⟨0, 4503599627370496, 1⟩]
theorem lh_chk : chk lh = 0 := by decide +kernel
def sh : Sch := runE (pcs lh) 4 (sch0 (pcs lh))
theorem sh_end : rstep (pcs lh) sh = none := by
  have h : pk (pcs lh) sh.left sh.now (pcs lh).n = none := by decide +kernel
  have h2 : nxt (pcs lh) sh.now (pcs lh).n = none := by decide +kernel
  unfold rstep
  rw [h, h2]
theorem sh_eq : sh = sE lh := sE_eq (Rt.of lh_chk) (runE_goes _ _ _) sh_end
theorem lh_d : dE lh = [4503599627370497] := by
  unfold dE
  rw [← sh_eq]
  decide +kernel
theorem lh_why : whyE lh = 10 := whyE_over lh_chk (by rw [lh_d]; decide)
theorem lh_fin : finE lh = [] := finE_bad (by rw [lh_why]; decide)
/-- The law's marks, and its task. -/
def m4 : List QM := [⟨1, 1, 0, 1⟩, ⟨1, 11, 0, 1⟩, ⟨6, 2, 0, 5⟩, ⟨6, 11, 0, 0⟩]
def t1 : List Tk := [⟨0, 4, 0, 0, 0, 0, 0, 0, 0, 0⟩]
instance : DecidableEq J4 := fun x y => by
  obtain ⟨a, b, c, d⟩ := x
  obtain ⟨a', b', c', d'⟩ := y
  exact decidable_of_iff (a = a' ∧ b = b' ∧ c = c' ∧ d = d') (by simp)
theorem m4_ord : ordB m4 9 = true := by decide +kernel
theorem m4_l : jallL t1 m4 9 = [⟨4, 1, 5, 6⟩] := by
  unfold jallL
  rw [if_pos m4_ord]
  decide +kernel
theorem m4_w : jallW m4 9 = 0 := by unfold jallW; rw [if_pos m4_ord]
theorem fin_of {xs : List Q3} {L : List Int} {y : Int} (hL : finE xs = L) (hy : whyE xs = y) {n m : Nat} (hn : xs.length = n) (hm : L.length = m) {w : World} {A : Option Addr} {cap : Nat} (hx : R3 w w.heap.size A xs) :
    Calls Try.prog 56 #[.slice A n cap] w fun e w' => ∃ B c, e = .returned (.tuple #[.slice B m c, .int .i64 y]) ∧ Ints w' w'.heap.size B L ∧ Below w.heap.size w w' := by
  subst hn hm hL hy
  exact finish_any hx
theorem wait_of {xs : List Q3} {L : List Int} {y : Int} (hL : wtE xs = L) (hy : whyE xs = y) {n m : Nat} (hn : xs.length = n) (hm : L.length = m) {w : World} {A : Option Addr} {cap : Nat} (hx : R3 w w.heap.size A xs) :
    Calls Try.prog 58 #[.slice A n cap] w fun e w' => ∃ B c, e = .returned (.tuple #[.slice B m c, .int .i64 y]) ∧ Ints w' w'.heap.size B L ∧ Below w.heap.size w w' := by
  subst hn hm hL hy
  exact waits_any hx
theorem busy_of {xs : List Q3} {L : List (Nat × Nat)} {y : Int} (hL : busyE xs = L) (hy : whyE xs = y) {n m : Nat} (hn : xs.length = n) (hm : L.length = m) {w : World} {A : Option Addr} {cap : Nat} (hx : R3 w w.heap.size A xs) :
    Calls Try.prog 60 #[.slice A n cap] w fun e w' => ∃ B c, e = .returned (.tuple #[.slice B m c, .int .i64 y]) ∧ RI w' w'.heap.size B L ∧ Below w.heap.size w w' := by
  subst hn hm hL hy
  exact busy_any hx
theorem jobs_of {w : World} {bt off : Nat} {Am : Option Addr} {v4 v5 : Value} (hts : RT w w.heap.size (some ⟨bt, off, none⟩) t1) (hms : RM w w.heap.size Am m4) :
    Calls Try.prog 66 #[.agg #[.int .i64 0, .int .i64 0, .int .i64 0, .slice (some ⟨bt, off, none⟩) 1 1, v4, v5], .slice Am 4 4, .int .i64 9] w fun e w' => ∃ A1 n1 A2 n2, e = .returned (.tuple #[.slice A1 1 n1, .slice A2 1 n2, .int .i64 0]) ∧ R3 w' w'.heap.size A1 [⟨4, 1, 5⟩] ∧ Ints w' w'.heap.size A2 [6] ∧ Below w.heap.size w w' := by
  have h := jobsall_any (w := w) 0 0 0 v4 v5 (some ⟨bt, off, none⟩) Am t1 m4 1 4 9 hts hms (by decide) (by decide)
  rw [m4_l, m4_w] at h
  exact h
theorem rt_new (w : World) (t : Tk) (T : TypeId) : RT (w.alloc (.cells t.arr T)) (w.alloc (.cells t.arr T)).heap.size (some ⟨w.heap.size, 0, none⟩) [t] := fun _ => by
  refine ⟨w.heap.size, 0, rfl, by simp, fun j x o u hj ho => ?_⟩
  have : j = 0 := by
    rcases j with _ | j
    · rfl
    · simp at hj
  subst this
  simp only [List.getElem?_cons_zero, Option.some.injEq] at hj
  subst hj
  rw [cell_of_row _ w.heap.size _ _ _ _ (heap_alloc_new w _), show 0 + 0 * 10 + o = o by omega]
  exact ho
theorem ri_new (w : World) (l : List (Nat × Nat)) (T : TypeId) (fr : Nat × Nat) : RI (w.alloc (.cells (ivC l).toArray T fr)) (w.alloc (.cells (ivC l).toArray T fr)).heap.size (some ⟨w.heap.size, 0, none⟩) l := fun _ => by
  refine ⟨w.heap.size, 0, rfl, by simp, fun i x hi => ?_⟩
  have c0 := ivC_at l i 0 x hi (by omega)
  have c1 := ivC_at l i 1 x hi (by omega)
  rw [Nat.add_zero] at c0
  refine ⟨?_, ?_⟩
  · rw [cell_of_row _ w.heap.size _ _ _ _ (heap_alloc_new w _), Nat.zero_add]; simpa using c0
  · rw [cell_of_row _ w.heap.size _ _ _ _ (heap_alloc_new w _), Nat.zero_add]; simpa using c1
set_option maxRecDepth 100000 in
set_option maxHeartbeats 16000000 in
theorem lives_any (w : World) : Calls Try.prog 55 #[] w fun e w' => e = .returned (.bool true) ∧ Below w.heap.size w w' := by
  go_enter Try.func55, Try.ntmps55
  go_upto_region 2 with fail
  obtain ⟨w1, hw1⟩ : ∃ w1, w1 = w.alloc (.cells #[.int .i64 1, .int .i64 0, .int .i64 5, .int .i64 2, .int .i64 2, .int .i64 3, .int .i64 1, .int .i64 20, .int .i64 1] 108) := ⟨_, rfl⟩
  obtain ⟨pl, hpl⟩ : ∃ pl, pl = w.heap.size := ⟨_, rfl⟩
  rw [← hw1, ← hpl]
  have P1 := Kept.mk (show R3 w1 w1.heap.size (some ⟨pl, 0, none⟩) l3 by rw [hw1, hpl]; exact r3_new w l3 _ _)
  have B1 := Kept.mk (show Below w.heap.size w w1 by rw [hw1]; exact below_box w _)
  clear hw1 hpl
  go_wp2_with fail
  refine (fin_of l3_fin l3_why rfl rfl P1.out).mono ?_
  rintro e w2 ⟨A1, n1, rfl, h1, b1⟩
  have P2 := Kept.mk ((P1.out.below b1).mono b1.size)
  have B2 := Kept.mk (B1.out.trans (b1.mono B1.out.size))
  have F2 := Kept.mk h1
  clear P1 B1 h1 b1
  go_wp2_with fail
  refine (wait_of l3_wt l3_why rfl rfl P2.out).mono ?_
  rintro e w3 ⟨A2, n2, rfl, h1, b1⟩
  have P3 := Kept.mk ((P2.out.below b1).mono b1.size)
  have B3 := Kept.mk (B2.out.trans (b1.mono B2.out.size))
  have F3 := Kept.mk ((F2.out.below b1).mono b1.size)
  have G3 := Kept.mk h1
  clear P2 B2 F2 h1 b1
  go_wp2_with fail
  refine (busy_of l3_busy l3_why rfl rfl P3.out).mono ?_
  rintro e w4 ⟨A3, n3, rfl, h1, b1⟩
  have P4 := Kept.mk ((P3.out.below b1).mono b1.size)
  have B4 := Kept.mk (B3.out.trans (b1.mono B3.out.size))
  have F4 := Kept.mk ((F3.out.below b1).mono b1.size)
  have G4 := Kept.mk ((G3.out.below b1).mono b1.size)
  have I4 := Kept.mk h1
  clear P3 B3 F3 G3 h1 b1
  go_wp2_with fail
  refine (fin_of l0_fin l0_why rfl rfl (r3_new w4 l0 _ _)).mono ?_
  rintro e w5 ⟨A4, n4, rfl, h1, b1⟩
  have hbx : Below w4.heap.size w4 w5 := (below_box w4 _).trans (b1.mono (below_box w4 _).size)
  have P5 := Kept.mk ((P4.out.below hbx).mono hbx.size)
  have B5 := Kept.mk (B4.out.trans (hbx.mono B4.out.size))
  have F5 := Kept.mk ((F4.out.below hbx).mono hbx.size)
  have G5 := Kept.mk ((G4.out.below hbx).mono hbx.size)
  have I5 := Kept.mk ((I4.out.below hbx).mono hbx.size)
  clear P4 B4 F4 G4 I4 h1 b1 hbx
  go_wp2_with fail
  refine (fin_of lh_fin lh_why rfl rfl (r3_new w5 lh _ _)).mono ?_
  rintro e w6 ⟨A5, n5, rfl, h1, b1⟩
  have hbx : Below w5.heap.size w5 w6 := (below_box w5 _).trans (b1.mono (below_box w5 _).size)
  have P6 := Kept.mk ((P5.out.below hbx).mono hbx.size)
  have B6 := Kept.mk (B5.out.trans (hbx.mono B5.out.size))
  have F6 := Kept.mk ((F5.out.below hbx).mono hbx.size)
  have G6 := Kept.mk ((G5.out.below hbx).mono hbx.size)
  have I6 := Kept.mk ((I5.out.below hbx).mono hbx.size)
  clear P5 B5 F5 G5 I5 h1 b1 hbx
  go_upto_region 9 with fail
  obtain ⟨w7, hw7⟩ : ∃ w7, w7 = ((w6.alloc (.cells #[.int .u8 0, .int .i64 4, .int .i64 0, .int .i64 0, .int .i64 0, .int .i64 0, .int .i64 0, .int .i64 0, .int .i64 0, .int .i64 0] 152)).alloc (.cells #[.int .i64 0, .int .i64 0, .int .i64 0, .slice (some ⟨w6.heap.size, 0, none⟩) 1 1, .slice none 0 0, .slice none 0 0] 101)).alloc (.cells #[.int .i64 1, .int .u8 1, .int .i64 0, .int .i64 1, .int .i64 1, .int .u8 11, .int .i64 0, .int .i64 1, .int .i64 6, .int .u8 2, .int .i64 0, .int .i64 5, .int .i64 6, .int .u8 11, .int .i64 0, .int .i64 0] 155) := ⟨_, rfl⟩
  obtain ⟨bm, hbm⟩ : ∃ bm, bm = w6.heap.size + 1 + 1 := ⟨_, rfl⟩
  obtain ⟨bg, hbg⟩ : ∃ bg, bg = w6.heap.size + 1 := ⟨_, rfl⟩
  obtain ⟨bt, hbt⟩ : ∃ bt, bt = w6.heap.size := ⟨_, rfl⟩
  have hK7 : RT w7 w7.heap.size (some ⟨bt, 0, none⟩) t1 ∧ RM w7 w7.heap.size (some ⟨bm, 0, none⟩) m4 ∧ w7.heap[bg]? = some (.cells #[.int .i64 0, .int .i64 0, .int .i64 0, .slice (some ⟨bt, 0, none⟩) 1 1, .slice none 0 0, .slice none 0 0] 101) ∧ Below w6.heap.size w6 w7 := by
    have z1 : (w6.alloc (.cells (⟨0, 4, 0, 0, 0, 0, 0, 0, 0, 0⟩ : Tk).arr 152)).heap.size = w6.heap.size + 1 := by simp
    have z2 : ((w6.alloc (.cells (⟨0, 4, 0, 0, 0, 0, 0, 0, 0, 0⟩ : Tk).arr 152)).alloc (.cells #[.int .i64 0, .int .i64 0, .int .i64 0, .slice (some ⟨w6.heap.size, 0, none⟩) 1 1, .slice none 0 0, .slice none 0 0] 101)).heap.size = w6.heap.size + 1 + 1 := by simp
    have b1 := below_box w6 (.cells (⟨0, 4, 0, 0, 0, 0, 0, 0, 0, 0⟩ : Tk).arr 152)
    have b2 := below_box (w6.alloc (.cells (⟨0, 4, 0, 0, 0, 0, 0, 0, 0, 0⟩ : Tk).arr 152)) (.cells #[.int .i64 0, .int .i64 0, .int .i64 0, .slice (some ⟨w6.heap.size, 0, none⟩) 1 1, .slice none 0 0, .slice none 0 0] 101)
    have b3 := below_box ((w6.alloc (.cells (⟨0, 4, 0, 0, 0, 0, 0, 0, 0, 0⟩ : Tk).arr 152)).alloc (.cells #[.int .i64 0, .int .i64 0, .int .i64 0, .slice (some ⟨w6.heap.size, 0, none⟩) 1 1, .slice none 0 0, .slice none 0 0] 101)) (.cells (m4.flatMap QM.cells).toArray 155)
    have r1 := rt_new w6 ⟨0, 4, 0, 0, 0, 0, 0, 0, 0, 0⟩ 152
    have r3 := rM_new ((w6.alloc (.cells (⟨0, 4, 0, 0, 0, 0, 0, 0, 0, 0⟩ : Tk).arr 152)).alloc (.cells #[.int .i64 0, .int .i64 0, .int .i64 0, .slice (some ⟨w6.heap.size, 0, none⟩) 1 1, .slice none 0 0, .slice none 0 0] 101)) m4 155 (0, 0)
    have e7 : w7 = ((w6.alloc (.cells (⟨0, 4, 0, 0, 0, 0, 0, 0, 0, 0⟩ : Tk).arr 152)).alloc (.cells #[.int .i64 0, .int .i64 0, .int .i64 0, .slice (some ⟨w6.heap.size, 0, none⟩) 1 1, .slice none 0 0, .slice none 0 0] 101)).alloc (.cells (m4.flatMap QM.cells).toArray 155) := hw7
    rw [← e7] at b3 r3
    rw [z2] at r3
    have k2 := b2.trans (b3.mono (by rw [z2, z1]; omega))
    refine ⟨?_, by rw [hbm]; exact r3, ?_, (b1.trans (k2.mono (by rw [z1]; omega)))⟩
    · rw [hbt]
      intro h0
      obtain ⟨b, off, e, h1, h2⟩ := (r1.below k2) h0
      exact ⟨b, off, e, Nat.lt_of_lt_of_le h1 k2.size, h2⟩
    · rw [hbg, hbt, b3.block _ (by rw [z2]; omega), ← z1]
      exact heap_alloc_new _ _
  obtain ⟨hT7, hM7, hG7, hb7⟩ := hK7
  rw [← hw7, ← hbm, ← hbg]
  have P7 := Kept.mk ((P6.out.below hb7).mono hb7.size)
  have B7 := Kept.mk (B6.out.trans (hb7.mono B6.out.size))
  have F7 := Kept.mk ((F6.out.below hb7).mono hb7.size)
  have G7 := Kept.mk ((G6.out.below hb7).mono hb7.size)
  have I7 := Kept.mk ((I6.out.below hb7).mono hb7.size)
  have q0 := cell_of_row _ _ 0 _ _ _ hG7
  have q1 := cell_of_row _ _ 1 _ _ _ hG7
  have q2 := cell_of_row _ _ 2 _ _ _ hG7
  have q3 := cell_of_row _ _ 3 _ _ _ hG7
  have q4 := cell_of_row _ _ 4 _ _ _ hG7
  have q5 := cell_of_row _ _ 5 _ _ _ hG7
  simp only [List.getElem?_toArray, List.getElem?_cons_zero, List.getElem?_cons_succ] at q0 q1 q2 q3 q4 q5
  have HT7 := Kept.mk hT7
  have HM7 := Kept.mk hM7
  clear hw7 hbm hbg hbt hT7 hM7 hG7 hb7 P6 B6 F6 G6 I6
  go_wp2_with fail
  refine (jobs_of HT7.out HM7.out).mono ?_
  rintro e w8 ⟨A6, n6, A7, n7, rfl, h1, h2, b1⟩
  have P8 := Kept.mk ((P7.out.below b1).mono b1.size)
  have B8 := Kept.mk (B7.out.trans (b1.mono B7.out.size))
  have F8 := Kept.mk ((F7.out.below b1).mono b1.size)
  have G8 := Kept.mk ((G7.out.below b1).mono b1.size)
  have I8 := Kept.mk ((I7.out.below b1).mono b1.size)
  have J8 := Kept.mk h1
  have D8 := Kept.mk h2
  clear P7 B7 F7 G7 I7 h1 h2 b1 q0 q1 q2 q3 q4 q5 HT7 HM7
  have C8 := Kept.mk (Below.refl w8.heap.size w8)
  go_wp2_with fail
  have hb10 : Below w8.heap.size w8 (w8.alloc (.cells #[.int .i64 8, .int .i64 5, .int .i64 21] 2)) := C8.out.alloc C8.out.size _
  refine (same13_any _ _ [8, 5, 21] [8, 5, 21] _ _ _ ((F8.out.below hb10).mono hb10.size) (ints_new w8 [8, 5, 21] _ _) (by decide) (by decide)).mono ?_
  rintro e w10 ⟨rfl, m10, hm10⟩
  have C10 := Kept.mk (show Below w8.heap.size w8 w10 by rw [hm10]; exact hb10.drewN _)
  clear hm10 hb10
  go_wp2_with fail
  have hb11 : Below w8.heap.size w8 (w10.alloc (.cells #[.int .i64 3, .int .i64 0, .int .i64 0] 2)) := C10.out.alloc C10.out.size _
  refine (same13_any _ _ [3, 0, 0] [3, 0, 0] _ _ _ ((G8.out.below hb11).mono hb11.size) (ints_new w10 [3, 0, 0] _ _) (by decide) (by decide)).mono ?_
  rintro e w11 ⟨rfl, m11, hm11⟩
  have C11 := Kept.mk (show Below w8.heap.size w8 w11 by rw [hm11]; exact hb11.drewN _)
  clear hm11 hb11
  go_wp2_with fail
  have hb12 : Below w8.heap.size w8 (w11.alloc (.cells #[.int .i64 0, .int .i64 8, .int .i64 20, .int .i64 21] 110)) := C11.out.alloc C11.out.size _
  refine (same40_any _ _ [(0, 8), (20, 21)] [(0, 8), (20, 21)] _ _ _ ((I8.out.below hb12).mono hb12.size) (ri_new w11 [(0, 8), (20, 21)] _ _) (by decide) (by decide)).mono ?_
  rintro e w12 ⟨rfl, m12, hm12⟩
  have C12 := Kept.mk (show Below w8.heap.size w8 w12 by rw [hm12]; exact hb12.drewN _)
  clear hm12 hb12
  go_wp2_with fail
  have hb13 : Below w8.heap.size w8 (w12.alloc (.cells #[.int .i64 4, .int .i64 1, .int .i64 5] 108)) := C12.out.alloc C12.out.size _
  refine (sameP_any _ _ [⟨4, 1, 5⟩] [⟨4, 1, 5⟩] _ _ _ ((J8.out.below hb13).mono hb13.size) (r3_new w12 [⟨4, 1, 5⟩] _ _) (by decide) (by decide)).mono ?_
  rintro e w13 ⟨rfl, m13, hm13⟩
  have C13 := Kept.mk (show Below w8.heap.size w8 w13 by rw [hm13]; exact hb13.drewN _)
  clear hm13 hb13
  go_wp2_with fail
  have hb14 : Below w8.heap.size w8 (w13.alloc (.cells #[.int .i64 6] 2)) := C13.out.alloc C13.out.size _
  refine (same13_any _ _ [6] [6] _ _ _ ((D8.out.below hb14).mono hb14.size) (ints_new w13 [6] _ _) (by decide) (by decide)).mono ?_
  rintro e w14 ⟨rfl, m14, hm14⟩
  have C14 := Kept.mk (show Below w8.heap.size w8 w14 by rw [hm14]; exact hb14.drewN _)
  clear hm14 hb14
  go_wp2_with fail
  refine (show Calls Try.prog 62 #[.slice (some ⟨pl, 0, none⟩) 3 3] w14 fun e w' => e = .returned (.int .i64 0) ∧ Below w14.heap.size w14 w' from by
    have h := check_any (some ⟨pl, 0, none⟩) l3 3 w14 ((P8.out.below C14.out).mono C14.out.size)
    rw [l3_chk] at h
    exact h).mono ?_
  rintro e w15 ⟨rfl, hb15⟩
  have B15 := Kept.mk (B8.out.trans ((C14.out.trans (hb15.mono C14.out.size)).mono B8.out.size))
  clear hb15
  go_wp2
  go_ret
  exact ⟨rfl, B15.out⟩
end Go.Proofs.Ytcchmkpodfjhcaa
