/-
  The walk of the pool's out.
-/
import Derived.Test.YtakkfgkogomjbaaDoorP2
namespace Go.Proofs.YtakkfgkogomjbaaDoor
open Go.RowKit
set_option linter.unusedVariables false
theorem Kp.of_alloc {lo hi : Nat} (w : World) (o : Obj) : Kp lo hi w (w.alloc o) := Kp.of_below (below_box w o)
theorem PB.alloc {w : World} {p L K n m : Nat} {F G : Nat → Int} {top free : Int} (h : PB w p L K n m F G top free) {lo hi : Nat} (hl : PL lo hi p L K) (hh : hi ≤ w.heap.size) (o : Obj) : PB (w.alloc o) p L K n m F G top free := h.below (below_box w o) hl hh
set_option maxHeartbeats 1000000 in
theorem out_nn (w : World) (lo hi p L K n m : Nat) (F G : Nat → Int) (top free : Int) (hp : PL lo hi p L K) (hh : hi ≤ w.heap.size) (h : PB w p L K n m F G top free) (hn : n ≤ 4096) (hm : m ≤ 4096) (i k : Nat) (hi' : i < n) (hk' : k < m) (f0 : F (i * 3) = k) (f1 : F (i * 3 + 1) = -1) (f2 : F (i * 3 + 2) = -1) :
    Calls Tryd.prog 79 #[.pointer (some ⟨p, 0, none⟩), .int .i64 (i : Int)] w (PAct w lo hi p L K n m (outF F i) (outG F G i) top free (.tuple #[])) := by
  have b0 := h.l.c (i * 3) (by omega)
  have b1 := h.l.c (i * 3 + 1) (by omega)
  have b2 := h.l.c (i * 3 + 2) (by omega)
  rw [f0] at b0
  rw [f1] at b1
  rw [f2] at b2
  have F0 := Kept.mk f0
  have F1 := Kept.mk f1
  have F2 := Kept.mk f2
  have c0 := h.c0
  have Q0 := Kp.of_alloc (lo := lo) (hi := hi) w (.cells #[.int .i64 k, .int .i64 (-1), .int .i64 (-1)] 86)
  have P0 := h.alloc hp hh (.cells #[.int .i64 k, .int .i64 (-1), .int .i64 (-1)] 86)
  have x0 := box_cell (Below.refl (w.alloc (.cells #[.int .i64 k, .int .i64 (-1), .int .i64 (-1)] 86)).heap.size _) 0 _ rfl
  have x1 := box_cell (Below.refl (w.alloc (.cells #[.int .i64 k, .int .i64 (-1), .int .i64 (-1)] 86)).heap.size _) 1 _ rfl
  have x2 := box_cell (Below.refl (w.alloc (.cells #[.int .i64 k, .int .i64 (-1), .int .i64 (-1)] 86)).heap.size _) 2 _ rfl
  have hpl := hp.pl
  have hpk := hp.pk
  have hlk := hp.lk
  have nl : w.heap.size ≠ L := by have := hp.l2; omega
  have nk : w.heap.size ≠ K := by have := hp.k2; omega
  have ln := nl.symm
  have kn := nk.symm
  clear f0 f1 f2
  go_enter Tryd.func79, Tryd.ntmps79
  go_wp2_with fail
  obtain ⟨W1, hW1⟩ : ∃ W1, W1 = w.alloc (.cells #[.int .i64 k, .int .i64 (-1), .int .i64 (-1)] 86) := ⟨_, rfl⟩
  rw [← hW1] at Q0 P0 x0 x1 x2 ⊢
  clear hW1 b0 b1 b2 c0 h
  have HP := Kept.mk P0
  obtain ⟨c0, c1, c2, c3, pf, hl, hk⟩ := P0
  have b0 := hk.c (k * 2) (by omega)
  have b1 := hk.c (k * 2 + 1) (by omega)
  have lf := hl.f
  have kf := hk.f
  have HL := Kept.mk hl
  clear hk hl
  go_region
  go_wp2
  refine bodyPost_ret (results_none rfl _ _ _) rfl ⟨rfl, ?_, ?_⟩
  · have e1 : outF F i = F := by unfold outF; rw [F1.out, F2.out, if_pos rfl]; simp
    have e2 : outG F G i = upd (upd G (k * 2) (-1)) (k * 2 + 1) (-1) := by unfold outG; rw [F0.out, F1.out, F2.out, if_pos rfl]; simp
    rw [e1, e2]
    exact (pb_setK (pb_setK HP.out hp (o := k * 2) (by omega) (-1)) hp (o := k * 2 + 1) (by omega) (-1)).drew
  · exact (kp_setK (kp_setK Q0 hp (k * 2) (.int .i64 (-1))) hp (k * 2 + 1) (.int .i64 (-1))).drew
set_option maxHeartbeats 1000000 in
theorem out_sn (w : World) (lo hi p L K n m : Nat) (F G : Nat → Int) (top free : Int) (hp : PL lo hi p L K) (hh : hi ≤ w.heap.size) (h : PB w p L K n m F G top free) (hn : n ≤ 4096) (hm : m ≤ 4096) (i k a : Nat) (hi' : i < n) (hk' : k < m) (ha : a < n) (f0 : F (i * 3) = k) (f1 : F (i * 3 + 1) = a) (f2 : F (i * 3 + 2) = -1) :
    Calls Tryd.prog 79 #[.pointer (some ⟨p, 0, none⟩), .int .i64 (i : Int)] w (PAct w lo hi p L K n m (outF F i) (outG F G i) top free (.tuple #[])) := by
  have b0 := h.l.c (i * 3) (by omega)
  have b1 := h.l.c (i * 3 + 1) (by omega)
  have b2 := h.l.c (i * 3 + 2) (by omega)
  rw [f0] at b0
  rw [f1] at b1
  rw [f2] at b2
  have F0 := Kept.mk f0
  have F1 := Kept.mk f1
  have F2 := Kept.mk f2
  have c0 := h.c0
  have Q0 := Kp.of_alloc (lo := lo) (hi := hi) w (.cells #[.int .i64 k, .int .i64 a, .int .i64 (-1)] 86)
  have P0 := h.alloc hp hh (.cells #[.int .i64 k, .int .i64 a, .int .i64 (-1)] 86)
  have x0 := box_cell (Below.refl (w.alloc (.cells #[.int .i64 k, .int .i64 a, .int .i64 (-1)] 86)).heap.size _) 0 _ rfl
  have x1 := box_cell (Below.refl (w.alloc (.cells #[.int .i64 k, .int .i64 a, .int .i64 (-1)] 86)).heap.size _) 1 _ rfl
  have x2 := box_cell (Below.refl (w.alloc (.cells #[.int .i64 k, .int .i64 a, .int .i64 (-1)] 86)).heap.size _) 2 _ rfl
  have hpl := hp.pl
  have hpk := hp.pk
  have hlk := hp.lk
  have nl : w.heap.size ≠ L := by have := hp.l2; omega
  have nk : w.heap.size ≠ K := by have := hp.k2; omega
  have ln := nl.symm
  have kn := nk.symm
  clear f0 f1 f2
  go_enter Tryd.func79, Tryd.ntmps79
  go_wp2_with fail
  obtain ⟨W1, hW1⟩ : ∃ W1, W1 = w.alloc (.cells #[.int .i64 k, .int .i64 a, .int .i64 (-1)] 86) := ⟨_, rfl⟩
  rw [← hW1] at Q0 P0 x0 x1 x2 ⊢
  clear hW1 b0 b1 b2 c0 h
  have HP := Kept.mk P0
  obtain ⟨c0, c1, c2, c3, pf, hl, hk⟩ := P0
  have b0 := hk.c (k * 2) (by omega)
  have b1 := hk.c (k * 2 + 1) (by omega)
  have lf := hl.f
  have kf := hk.f
  have HL := Kept.mk hl
  clear hk hl
  have a0 := HL.out.c (a * 3 + 2) (by omega)
  go_region
  go_wp2_with fail
  go_region
  go_wp2
  refine bodyPost_ret (results_none rfl _ _ _) rfl ⟨rfl, ?_, ?_⟩
  · have e1 : outF F i = upd F (a * 3 + 2) (-1) := by unfold outF; rw [F1.out, F2.out, if_pos rfl, if_neg (by omega), Int.toNat_natCast]
    have e2 : outG F G i = upd G (k * 2 + 1) a := by unfold outG; rw [F0.out, F1.out, F2.out, if_pos rfl, if_neg (by omega), Int.toNat_natCast]
    rw [e1, e2]
    exact (pb_setK (pb_setL HP.out hp (o := a * 3 + 2) (by omega) (-1)) hp (o := k * 2 + 1) (by omega) a).drew.drew
  · exact (kp_setK (kp_setL Q0 hp (a * 3 + 2) (.int .i64 (-1))) hp (k * 2 + 1) (.int .i64 a)).drew.drew
set_option maxHeartbeats 1000000 in
theorem out_ns (w : World) (lo hi p L K n m : Nat) (F G : Nat → Int) (top free : Int) (hp : PL lo hi p L K) (hh : hi ≤ w.heap.size) (h : PB w p L K n m F G top free) (hn : n ≤ 4096) (hm : m ≤ 4096) (i k b : Nat) (hi' : i < n) (hk' : k < m) (hb : b < n) (f0 : F (i * 3) = k) (f1 : F (i * 3 + 1) = -1) (f2 : F (i * 3 + 2) = b) :
    Calls Tryd.prog 79 #[.pointer (some ⟨p, 0, none⟩), .int .i64 (i : Int)] w (PAct w lo hi p L K n m (outF F i) (outG F G i) top free (.tuple #[])) := by
  have b0 := h.l.c (i * 3) (by omega)
  have b1 := h.l.c (i * 3 + 1) (by omega)
  have b2 := h.l.c (i * 3 + 2) (by omega)
  rw [f0] at b0
  rw [f1] at b1
  rw [f2] at b2
  have F0 := Kept.mk f0
  have F1 := Kept.mk f1
  have F2 := Kept.mk f2
  have c0 := h.c0
  have Q0 := Kp.of_alloc (lo := lo) (hi := hi) w (.cells #[.int .i64 k, .int .i64 (-1), .int .i64 b] 86)
  have P0 := h.alloc hp hh (.cells #[.int .i64 k, .int .i64 (-1), .int .i64 b] 86)
  have x0 := box_cell (Below.refl (w.alloc (.cells #[.int .i64 k, .int .i64 (-1), .int .i64 b] 86)).heap.size _) 0 _ rfl
  have x1 := box_cell (Below.refl (w.alloc (.cells #[.int .i64 k, .int .i64 (-1), .int .i64 b] 86)).heap.size _) 1 _ rfl
  have x2 := box_cell (Below.refl (w.alloc (.cells #[.int .i64 k, .int .i64 (-1), .int .i64 b] 86)).heap.size _) 2 _ rfl
  have hpl := hp.pl
  have hpk := hp.pk
  have hlk := hp.lk
  have nl : w.heap.size ≠ L := by have := hp.l2; omega
  have nk : w.heap.size ≠ K := by have := hp.k2; omega
  have ln := nl.symm
  have kn := nk.symm
  clear f0 f1 f2
  go_enter Tryd.func79, Tryd.ntmps79
  go_wp2_with fail
  obtain ⟨W1, hW1⟩ : ∃ W1, W1 = w.alloc (.cells #[.int .i64 k, .int .i64 (-1), .int .i64 b] 86) := ⟨_, rfl⟩
  rw [← hW1] at Q0 P0 x0 x1 x2 ⊢
  clear hW1 b0 b1 b2 c0 h
  have HP := Kept.mk P0
  obtain ⟨c0, c1, c2, c3, pf, hl, hk⟩ := P0
  have b0 := hk.c (k * 2) (by omega)
  have b1 := hk.c (k * 2 + 1) (by omega)
  have lf := hl.f
  have kf := hk.f
  have HL := Kept.mk hl
  clear hk hl
  have a0 := HL.out.c (b * 3 + 1) (by omega)
  go_region
  go_wp2_with fail
  go_region
  go_wp2
  refine bodyPost_ret (results_none rfl _ _ _) rfl ⟨rfl, ?_, ?_⟩
  · have e1 : outF F i = upd F (b * 3 + 1) (-1) := by unfold outF; rw [F1.out, F2.out, if_pos rfl, if_neg (by omega), Int.toNat_natCast]
    have e2 : outG F G i = upd G (k * 2) b := by unfold outG; rw [F0.out, F1.out, F2.out, if_pos rfl, if_neg (by omega), Int.toNat_natCast]
    rw [e1, e2]
    exact (pb_setL (pb_setK HP.out hp (o := k * 2) (by omega) b) hp (o := b * 3 + 1) (by omega) (-1)).drew.drew
  · exact (kp_setL (kp_setK Q0 hp (k * 2) (.int .i64 b)) hp (b * 3 + 1) (.int .i64 (-1))).drew.drew
set_option maxHeartbeats 1000000 in
theorem out_ss (w : World) (lo hi p L K n m : Nat) (F G : Nat → Int) (top free : Int) (hp : PL lo hi p L K) (hh : hi ≤ w.heap.size) (h : PB w p L K n m F G top free) (hn : n ≤ 4096) (hm : m ≤ 4096) (i k a b : Nat) (hi' : i < n) (hk' : k < m) (ha : a < n) (hb : b < n) (f0 : F (i * 3) = k) (f1 : F (i * 3 + 1) = a) (f2 : F (i * 3 + 2) = b) :
    Calls Tryd.prog 79 #[.pointer (some ⟨p, 0, none⟩), .int .i64 (i : Int)] w (PAct w lo hi p L K n m (outF F i) (outG F G i) top free (.tuple #[])) := by
  have b0 := h.l.c (i * 3) (by omega)
  have b1 := h.l.c (i * 3 + 1) (by omega)
  have b2 := h.l.c (i * 3 + 2) (by omega)
  rw [f0] at b0
  rw [f1] at b1
  rw [f2] at b2
  have F0 := Kept.mk f0
  have F1 := Kept.mk f1
  have F2 := Kept.mk f2
  have c0 := h.c0
  have Q0 := Kp.of_alloc (lo := lo) (hi := hi) w (.cells #[.int .i64 k, .int .i64 a, .int .i64 b] 86)
  have P0 := h.alloc hp hh (.cells #[.int .i64 k, .int .i64 a, .int .i64 b] 86)
  have x0 := box_cell (Below.refl (w.alloc (.cells #[.int .i64 k, .int .i64 a, .int .i64 b] 86)).heap.size _) 0 _ rfl
  have x1 := box_cell (Below.refl (w.alloc (.cells #[.int .i64 k, .int .i64 a, .int .i64 b] 86)).heap.size _) 1 _ rfl
  have x2 := box_cell (Below.refl (w.alloc (.cells #[.int .i64 k, .int .i64 a, .int .i64 b] 86)).heap.size _) 2 _ rfl
  have hpl := hp.pl
  have hpk := hp.pk
  have hlk := hp.lk
  have nl : w.heap.size ≠ L := by have := hp.l2; omega
  have nk : w.heap.size ≠ K := by have := hp.k2; omega
  have ln := nl.symm
  have kn := nk.symm
  clear f0 f1 f2
  go_enter Tryd.func79, Tryd.ntmps79
  go_wp2_with fail
  obtain ⟨W1, hW1⟩ : ∃ W1, W1 = w.alloc (.cells #[.int .i64 k, .int .i64 a, .int .i64 b] 86) := ⟨_, rfl⟩
  rw [← hW1] at Q0 P0 x0 x1 x2 ⊢
  clear hW1 b0 b1 b2 c0 h
  have HP := Kept.mk P0
  obtain ⟨c0, c1, c2, c3, pf, hl, hk⟩ := P0
  have b0 := hk.c (k * 2) (by omega)
  have b1 := hk.c (k * 2 + 1) (by omega)
  have lf := hl.f
  have kf := hk.f
  have HL := Kept.mk hl
  clear hk hl
  have a0 := HL.out.c (a * 3 + 2) (by omega)
  have a1 := HL.out.c (b * 3 + 1) (by omega)
  have n1 : b * 3 + 1 ≠ a * 3 + 2 := by omega
  have n2 : a * 3 + 2 ≠ b * 3 + 1 := by omega
  go_region
  go_wp2_with fail
  go_region
  go_wp2_with fail
  go_region
  go_wp2
  refine bodyPost_ret (results_none rfl _ _ _) rfl ⟨rfl, ?_, ?_⟩
  · have e1 : outF F i = upd (upd F (a * 3 + 2) b) (b * 3 + 1) a := by unfold outF; rw [F1.out, F2.out, if_neg (by omega), if_neg (by omega), Int.toNat_natCast, Int.toNat_natCast]
    have e2 : outG F G i = G := by unfold outG; rw [F0.out, F1.out, F2.out, if_neg (by omega), if_neg (by omega)]
    rw [e1, e2]
    exact (pb_setL (pb_setL HP.out hp (o := a * 3 + 2) (by omega) b) hp (o := b * 3 + 1) (by omega) a).drew.drew.drew
  · exact (kp_setL (kp_setL Q0 hp (a * 3 + 2) (.int .i64 b)) hp (b * 3 + 1) (.int .i64 a)).drew.drew.drew
end Go.Proofs.YtakkfgkogomjbaaDoor
