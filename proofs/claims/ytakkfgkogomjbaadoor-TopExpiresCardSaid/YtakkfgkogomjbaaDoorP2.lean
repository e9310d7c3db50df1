/-
  The walks of the pool's put and out.
-/
import Derived.Test.YtakkfgkogomjbaaDoorP1
namespace Go.Proofs.YtakkfgkogomjbaaDoor
open Go.RowKit
set_option linter.unusedVariables false
/-- What a pool's act leaves. -/
def PAct (w : World) (lo hi p L K n m : Nat) (F G : Nat → Int) (top free : Int) (v : Value) (e : Ending) (w' : World) : Prop :=
  e = .returned v ∧ PB w' p L K n m F G top free ∧ Kp lo hi w w'
theorem NB.drew {w : World} {L N : Nat} {F : Nat → Int} (h : NB w L N F) : NB w.drew L N F := ⟨h.c, h.f⟩
theorem Kp.drew {lo hi : Nat} {a w : World} (h : Kp lo hi a w) : Kp lo hi a w.drew := ⟨h.os, h.tape, h.output, h.size, h.block⟩
/-- A pool's cells, without its blocks' own. -/
structure PC (w : World) (p L K n m : Nat) (top free : Int) : Prop where
  c0 : w.cell? ⟨p, 0, none⟩ = some (.slice (some ⟨L, 0, none⟩) n n)
  c1 : w.cell? ⟨p, 1, none⟩ = some (.slice (some ⟨K, 0, none⟩) m m)
  c2 : w.cell? ⟨p, 2, none⟩ = some (.int .i64 top)
  c3 : w.cell? ⟨p, 3, none⟩ = some (.int .i64 free)
  pf : ∀ i, w.frozen? ⟨p, i, none⟩ = false
theorem PC.kept {w w' : World} {p L K n m : Nat} {top free : Int} (h : PC w p L K n m top free) (h1 : w'.heap[p]? = w.heap[p]?) : PC w' p L K n m top free :=
  ⟨(World.cell?_of_block (a := ⟨p, 0, none⟩) h1).trans h.c0, (World.cell?_of_block (a := ⟨p, 1, none⟩) h1).trans h.c1, (World.cell?_of_block (a := ⟨p, 2, none⟩) h1).trans h.c2, (World.cell?_of_block (a := ⟨p, 3, none⟩) h1).trans h.c3, fun i => (World.frozen?_of_block (a := ⟨p, i, none⟩) h1).trans (h.pf i)⟩
theorem PC.far {w : World} {p L K n m : Nat} {top free : Int} (h : PC w p L K n m top free) {a : Addr} (ha : a.block ≠ p) (v : Value) : PC (w.setCell a v) p L K n m top free := h.kept (Below.heap_setCell _ _ _ _ (fun e => ha e.symm))
theorem PC.drew {w : World} {p L K n m : Nat} {top free : Int} (h : PC w p L K n m top free) : PC w.drew p L K n m top free := ⟨h.c0, h.c1, h.c2, h.c3, h.pf⟩
theorem PB.pc {w : World} {p L K n m : Nat} {F G : Nat → Int} {top free : Int} (h : PB w p L K n m F G top free) : PC w p L K n m top free := ⟨h.c0, h.c1, h.c2, h.c3, h.pf⟩
theorem PC.pb {w : World} {p L K n m : Nat} {F G : Nat → Int} {top free : Int} (h : PC w p L K n m top free) (l : NB w L (n * 3) F) (k : NB w K (m * 2) G) : PB w p L K n m F G top free := ⟨h.c0, h.c1, h.c2, h.c3, h.pf, l, k⟩
/-- A link is stored. -/
def link3 (w : World) (L o : Nat) (a b c : Int) : World := ((w.setCell ⟨L, o, none⟩ (.int .i64 a)).setCell ⟨L, o + 1, none⟩ (.int .i64 b)).setCell ⟨L, o + 2, none⟩ (.int .i64 c)
theorem pb_link {w : World} {lo hi p L K n m : Nat} {F G : Nat → Int} {top free : Int} (h : PB w p L K n m F G top free) (hp : PL lo hi p L K) {o : Nat} (ho : o + 2 < n * 3) (a b c : Int) :
    PB (link3 w L o a b c) p L K n m (upd (upd (upd F o a) (o + 1) b) (o + 2) c) G top free :=
  (((h.pc.far hp.pl.symm _).far hp.pl.symm _).far hp.pl.symm _).pb (((h.l.set (by omega) _).set (by omega) _).set (by omega) _) (((h.k.far hp.lk _).far hp.lk _).far hp.lk _)
theorem kp_link {lo hi p L K : Nat} {a w : World} (h : Kp lo hi a w) (hp : PL lo hi p L K) (o : Nat) (x y z : Int) : Kp lo hi a (link3 w L o x y z) :=
  ((h.set (p := ⟨L, o, none⟩) hp.l1 hp.l2 _).set (p := ⟨L, o + 1, none⟩) hp.l1 hp.l2 _).set (p := ⟨L, o + 2, none⟩) hp.l1 hp.l2 _
theorem pb_setL {w : World} {lo hi p L K n m : Nat} {F G : Nat → Int} {top free : Int} (h : PB w p L K n m F G top free) (hp : PL lo hi p L K) {o : Nat} (ho : o < n * 3) (v : Int) : PB (w.setCell ⟨L, o, none⟩ (.int .i64 v)) p L K n m (upd F o v) G top free :=
  (h.pc.far hp.pl.symm _).pb (h.l.set ho _) (h.k.far hp.lk _)
theorem pb_setK {w : World} {lo hi p L K n m : Nat} {F G : Nat → Int} {top free : Int} (h : PB w p L K n m F G top free) (hp : PL lo hi p L K) {o : Nat} (ho : o < m * 2) (v : Int) : PB (w.setCell ⟨K, o, none⟩ (.int .i64 v)) p L K n m F (upd G o v) top free :=
  (h.pc.far hp.pk.symm _).pb (h.l.far hp.lk.symm _) (h.k.set ho _)
theorem kp_setL {lo hi p L K : Nat} {a w : World} (h : Kp lo hi a w) (hp : PL lo hi p L K) (o : Nat) (v : Value) : Kp lo hi a (w.setCell ⟨L, o, none⟩ v) := h.set (p := ⟨L, o, none⟩) hp.l1 hp.l2 _
theorem kp_setK {lo hi p L K : Nat} {a w : World} (h : Kp lo hi a w) (hp : PL lo hi p L K) (o : Nat) (v : Value) : Kp lo hi a (w.setCell ⟨K, o, none⟩ v) := h.set (p := ⟨K, o, none⟩) hp.k1 hp.k2 _
theorem kp_setP {lo hi p L K : Nat} {a w : World} (h : Kp lo hi a w) (hp : PL lo hi p L K) (o : Nat) (v : Value) : Kp lo hi a (w.setCell ⟨p, o, none⟩ v) := h.set (p := ⟨p, o, none⟩) hp.p1 hp.p2 _
theorem PB.drew {w : World} {p L K n m : Nat} {F G : Nat → Int} {top free : Int} (h : PB w p L K n m F G top free) : PB w.drew p L K n m F G top free := h.pc.drew.pb h.l.drew h.k.drew
set_option maxHeartbeats 1000000 in
theorem put_any (w : World) (lo hi p L K n m : Nat) (F G : Nat → Int) (top free : Int) (hp : PL lo hi p L K) (h : PB w p L K n m F G top free) (hn : n ≤ 4096) (hm : m ≤ 4096) (i k : Nat) (hi' : i < n) (hk' : k < m) (hz : G (k * 2 + 1) = -1 ∨ ∃ z : Nat, z < n ∧ G (k * 2 + 1) = z) :
    Calls Tryd.prog 50 #[.pointer (some ⟨p, 0, none⟩), .int .i64 (i : Int), .int .i64 (k : Int)] w (PAct w lo hi p L K n m (putF F G i k) (putG G i k) top free (.tuple #[])) := by
  have HP := Kept.mk h
  have HQ := Kept.mk hp
  obtain ⟨c0, c1, c2, c3, pf, hl, hk⟩ := h
  obtain ⟨p1, p2, l1, l2, k1, k2, pl, pk, lk⟩ := hp
  have kl : K ≠ L := lk.symm
  have lp : L ≠ p := pl.symm
  have kp : K ≠ p := pk.symm
  have a0 := hl.c (i * 3) (by omega)
  have a1 := hl.c (i * 3 + 1) (by omega)
  have a2 := hl.c (i * 3 + 2) (by omega)
  have b0 := hk.c (k * 2) (by omega)
  have b1 := hk.c (k * 2 + 1) (by omega)
  have lf := hl.f
  have kf := hk.f
  obtain ⟨z, hze⟩ : ∃ z, z = G (k * 2 + 1) := ⟨_, rfl⟩
  rw [← hze] at b1 hz
  have HZ := Kept.mk hze
  clear hze hl hk
  rcases hz with rfl | ⟨z, hz, rfl⟩
  · go_enter Tryd.func50, Tryd.ntmps50
    go_wp2_with fail
    go_region
    go_wp2
    refine bodyPost_ret (results_none rfl _ _ _) rfl ⟨rfl, ?_, ?_⟩
    · have q := (pb_setK (pb_setK (pb_link HP.out HQ.out (o := i * 3) (by omega) k (-1) (-1)) HQ.out (o := k * 2) (by omega) i) HQ.out (o := k * 2 + 1) (by omega) i).drew
      have e1 : putF F G i k = upd (upd (upd F (i * 3) k) (i * 3 + 1) (-1)) (i * 3 + 2) (-1) := by unfold putF; rw [← HZ.out, if_pos rfl]
      have e2 : putG G i k = upd (upd G (k * 2) i) (k * 2 + 1) i := by unfold putG; rw [← HZ.out, if_pos rfl]
      rw [e1, e2]
      unfold link3 at q
      exact q
    · have q := (kp_setK (kp_setK (kp_link (Kp.refl lo hi w) HQ.out (i * 3) k (-1) (-1)) HQ.out (k * 2) (.int .i64 i)) HQ.out (k * 2 + 1) (.int .i64 i)).drew
      unfold link3 at q
      exact q
  · go_enter Tryd.func50, Tryd.ntmps50
    go_wp2_with fail
    go_region
    have q1 := (pb_link HP.out HQ.out (o := i * 3) (by omega) k z (-1)).drew
    have q2 := (kp_link (Kp.refl _ _ _) HQ.out (i * 3) k z (-1) (w := w)).drew
    unfold link3 at q1 q2
    obtain ⟨W1, hW1⟩ : ∃ W1, W1 = (((w.setCell ⟨L, i * 3, none⟩ (.int .i64 k)).setCell ⟨L, i * 3 + 1, none⟩ (.int .i64 z)).setCell ⟨L, i * 3 + 2, none⟩ (.int .i64 (-1))).drew := ⟨_, rfl⟩
    rw [← hW1] at q1 q2 ⊢
    have Q1 := Kept.mk q1
    have Q2 := Kept.mk q2
    obtain ⟨F1, hF1⟩ : ∃ F1, F1 = upd (upd (upd F (i * 3) k) (i * 3 + 1) z) (i * 3 + 2) (-1) := ⟨_, rfl⟩
    rw [← hF1] at Q1 q1
    have HF := Kept.mk hF1
    clear a0 a1 a2 b0 b1 c0 c1 c2 c3 pf lf kf hW1 HP q2 hF1
    obtain ⟨c0, c1, c2, c3, pf, hl, hk⟩ := q1
    have a0 := hl.c (z * 3 + 2) (by omega)
    have b0 := hk.c (k * 2) (by omega)
    have b1 := hk.c (k * 2 + 1) (by omega)
    rw [← HZ.out] at b1
    have lf := hl.f
    have kf := hk.f
    clear hl hk
    go_wp2_with fail
    go_region
    go_wp2
    refine bodyPost_ret (results_none rfl _ _ _) rfl ⟨rfl, ?_, ?_⟩
    · have q := (pb_setK (pb_setL Q1.out HQ.out (o := z * 3 + 2) (by omega) i) HQ.out (o := k * 2 + 1) (by omega) i).drew
      have e1 : putF F G i k = upd F1 (z * 3 + 2) i := by unfold putF; rw [← HZ.out, if_neg (by omega), HF.out, Int.toNat_natCast]
      have e2 : putG G i k = upd G (k * 2 + 1) i := by unfold putG; rw [← HZ.out, if_neg (by omega)]
      rw [e1, e2]
      exact q
    · exact (kp_setK (kp_setL Q2.out HQ.out (z * 3 + 2) (.int .i64 i)) HQ.out (k * 2 + 1) (.int .i64 i)).drew
end Go.Proofs.YtakkfgkogomjbaaDoor
