/-
  rta.open, rta.Bound.
-/
import Derived.Test.YtfneloplbkjbhaaN8
import Derived.Test.YtfneloplbkjbhaaJQ
namespace Go.Proofs.Ytfneloplbkjbhaa
open Go.RowKit Go.Shelf
set_option linter.unusedVariables false
attribute [local go_sem] Oper.semAt_some
set_option maxRecDepth 100000 in
set_option maxHeartbeats 4000000 in
theorem ropen_any (c : Cf) (cs : Array Value) (w : World) (i : Int) (h : CV w w.heap.size c cs) : Calls Try.prog 9 #[.agg cs, .int .i64 i] w fun e w' => Below w.heap.size w w' ∧
    ((¬ (∀ x ∈ allF c, x.y = 0) ∧ ∃ y, y ≠ 0 ∧ e = .returned (.tuple #[.pointer none, .int .i64 y])) ∨
     ((∀ x ∈ allF c, x.y = 0) ∧ (i < 0 ∨ c.ts.length ≤ i) ∧ e = .returned (.tuple #[.pointer none, .int .i64 1])) ∨
     ((∀ x ∈ allF c, x.y = 0) ∧ ∃ (k : Nat) (x : Tk) (sb : Nat), i = k ∧ c.ts[k]? = some x ∧ SH w' w'.heap.size sb c x ∧ w.heap.size ≤ sb ∧ e = .returned (.tuple #[.pointer (some ⟨sb, 0, none⟩), .int .i64 0]))) := by
  have HH := Kept.mk h
  have htl := h.tl
  obtain ⟨At, ct, Al, cl, Ah, ch, rfl, h5⟩ := h.x
  clear h h5
  obtain ⟨nt, hnt⟩ : ∃ nt, nt = c.ts.length := ⟨_, rfl⟩
  have HNT := Kept.mk hnt
  rw [← hnt] at htl HH
  have hbx := below_box w (.cells #[.int .i64 c.mn, .int .i64 c.mx, .int .i64 c.sw, .slice At nt ct, .slice Al c.ls.length cl, .slice Ah c.hs.length ch] 28)
  rw [← hnt]
  clear hnt
  go_enter Try.func9, Try.ntmps9
  go_wp2_with fail
  refine (vcheck_any c _ _ (HH.out.next hbx)).mono ?_
  rintro e w2 ⟨y, rfl, hy, hb2⟩
  have hq := heap_alloc_new w (.cells #[.int .i64 c.mn, .int .i64 c.mx, .int .i64 c.sw, .slice At nt ct, .slice Al c.ls.length cl, .slice Ah c.hs.length ch] 28)
  have hq2 := (hb2.block _ (lt_of_block hq)).trans hq
  have hbw : Below w.heap.size w w2 := hbx.trans (hb2.mono hbx.size)
  have hz2 : w.heap.size + 1 ≤ w2.heap.size := by have := hb2.size; simpa using this
  have HCV := Kept.mk ((HH.out.next hbx).below hb2)
  have HY := Kept.mk hy
  have c3 : w2.cell? ⟨w.heap.size, 3, none⟩ = some (.slice At nt ct) := cell_of_row _ _ 3 _ _ _ hq2
  have c0 : w2.cell? ⟨w.heap.size, 0, none⟩ = some (.int .i64 c.mn) := cell_of_row _ _ 0 _ _ _ hq2
  have c1 : w2.cell? ⟨w.heap.size, 1, none⟩ = some (.int .i64 c.mx) := cell_of_row _ _ 1 _ _ _ hq2
  have c2 : w2.cell? ⟨w.heap.size, 2, none⟩ = some (.int .i64 c.sw) := cell_of_row _ _ 2 _ _ _ hq2
  have c4 : w2.cell? ⟨w.heap.size, 4, none⟩ = some (.slice Al c.ls.length cl) := cell_of_row _ _ 4 _ _ _ hq2
  have c5 : w2.cell? ⟨w.heap.size, 5, none⟩ = some (.slice Ah c.hs.length ch) := cell_of_row _ _ 5 _ _ _ hq2
  obtain ⟨q, hqq⟩ : ∃ q, q = w.heap.size := ⟨_, rfl⟩
  have HQ := Kept.mk hqq
  have HB := Kept.mk hbw
  rw [← hqq] at c0 c1 c2 c3 c4 c5 hz2 ⊢
  clear hq hq2 hb2 hbx hbw hqq hy
  by_cases hy0 : y = 0
  · have d0 : (y == 0) = true := by simp [hy0]
    have HA := Kept.mk (HY.out.1 hy0)
    by_cases hi0 : i < 0
    · have d1 : decide (i < 0) = true := decide_eq_true hi0
      subst hy0
      clear HCV
      go_wp2
      go_ret2
      exact ⟨HB.out, .inr (.inl ⟨HA.out, .inl hi0, rfl⟩)⟩
    · have d1 : decide (i < 0) = false := decide_eq_false hi0
      by_cases hi1 : (nt : Int) ≤ i
      · have d2 : decide ((nt : Int) ≤ i) = true := decide_eq_true hi1
        subst hy0
        have HI := Kept.mk (show i < 0 ∨ (nt : Int) ≤ i from .inr hi1)
        clear HCV hi1
        go_wp2
        go_ret2
        exact ⟨HB.out, .inr (.inl ⟨HA.out, HI.out, rfl⟩)⟩
      · have d2 : decide ((nt : Int) ≤ i) = false := decide_eq_false hi1
        subst hy0
        obtain ⟨k, rfl⟩ : ∃ k : Nat, i = k := ⟨i.toNat, by omega⟩
        have ik : (k : Int) < (nt : Int) := by omega
        have hkn : k < nt := by omega
        obtain ⟨x, hx⟩ : ∃ x, c.ts[k]? = some x := ⟨c.ts[k]'(by have := HNT.out; omega), List.getElem?_eq_getElem _⟩
        obtain ⟨At', ct', Al', cl', Ah', ch', e0, r1, r2, r3⟩ := HCV.out.x
        have eA : At = At' ∧ Al = Al' ∧ Ah = Ah' := by
          have h1 := congrArg (fun a : Array Value => a[3]?) e0
          have h2 := congrArg (fun a : Array Value => a[4]?) e0
          have h3 := congrArg (fun a : Array Value => a[5]?) e0
          simp at h1 h2 h3
          exact ⟨h1.1, h2.1, h3.1⟩
        obtain ⟨rfl, rfl, rfl⟩ := eA
        have HR := Kept.mk (And.intro r1 (And.intro r2 r3))
        obtain ⟨b, off, rfl, hbB, hc⟩ := r1 (by have := HNT.out; omega)
        have HX := Kept.mk hx
        obtain ⟨tk, tp, t2, t3, t4, t5, t6, t7, t8, t9⟩ := x
        have e0' := hc k _ 0 _ hx rfl
        have e1 := hc k _ 1 _ hx rfl
        have e2 := hc k _ 2 _ hx rfl
        have e3 := hc k _ 3 _ hx rfl
        have e4 := hc k _ 4 _ hx rfl
        have e5 := hc k _ 5 _ hx rfl
        have e6 := hc k _ 6 _ hx rfl
        have e7 := hc k _ 7 _ hx rfl
        have e8 := hc k _ 8 _ hx rfl
        have e9 := hc k _ 9 _ hx rfl
        rw [Nat.add_zero] at e0'
        clear HCV hc hx e0 r1 r2 r3 hi0 hi1 HH
        go_wp2_with fail
        go_region
        all_goals go_wp2
        all_goals go_ret2
        have hzw : w.heap.size ≤ w2.heap.size := HB.out.size
        have hB1 : w.heap.size + 1 ≤ w2.heap.size := by have := HQ.out; omega
        have HR2 := HR.out
        simp only [World.size_alloc] at HR2
        refine ⟨(HB.out.alloc hzw _).drewN 1, .inr (.inr ⟨HA.out, k, _, w2.heap.size, rfl, HX.out, ⟨by show w2.heap.size < (w2.alloc _).heap.size; simp, some ⟨b, off, none⟩, ct, Al, cl, Ah, ch, by rw [← HNT.out]; exact heap_alloc_new w2 _, ?_, ?_, ?_⟩, hzw, rfl⟩)⟩
        · exact (HR2.1.below (((below_box w2 _).drewN 1).mono hB1)).mono (by show _ ≤ (w2.alloc _).heap.size; simp; omega)
        · exact (HR2.2.1.below (((below_box w2 _).drewN 1).mono hB1)).mono (by show _ ≤ (w2.alloc _).heap.size; simp; omega)
        · exact (HR2.2.2.below (((below_box w2 _).drewN 1).mono hB1)).mono (by show _ ≤ (w2.alloc _).heap.size; simp; omega)
  · have d0 : (y == 0) = false := by simp [hy0]
    clear HCV
    go_wp2
    go_ret2
    exact ⟨HB.out, .inl ⟨fun hall => hy0 (HY.out.2 hall), y, hy0, rfl⟩⟩
def bndL (c : Cf) (x : Tk) : List Q4 := urg c x.p c.ts ++ loL c.hs c.ls x.p
def bndE (c : Cf) (x : Tk) : Int := if x.d < lagV c.mn x then 11 else if loE c.hs c.ls x.p ≠ 0 then loE c.hs c.ls x.p else stE (bas c x) (bndL c x) (x.d - lagV c.mn x)
def bndV (c : Cf) (x : Tk) : Int := if bndE c x ≠ 0 then 0 else soV (bas c x) (bndL c x) (x.d - lagV c.mn x) + lagV c.mn x
end Go.Proofs.Ytfneloplbkjbhaa
