/-
  A plan in memory: where it lies, what is known of it; the walks of arrive, next.
-/
import Derived.Test.YtcchmkpodfjhcaaID
import Derived.Test.YtcchmkpodfjhcaaM1
import Derived.Test.YtcchmkpodfjhcaaS6
import Derived.Test.YtcchmkpodfjhcaaQB
import Derived.Laws.AppendOwnNone
namespace Go.Proofs.Ytcchmkpodfjhcaa
open Go.RowKit
set_option linter.unusedVariables false
structure PLy where
  B : Nat
  pb : Nat
  gd : Nat
  gc : Nat
  gl : Nat
  lo : Nat
  hi : Nat
  qb : Nat
  I : Nat
  M : Nat
  p : Nat
  L : Nat
  K : Nat
structure PLo (y : PLy) (n : Nat) : Prop where
  b1 : y.B ≤ y.pb
  b2 : y.B ≤ y.gd
  b3 : y.pb < y.lo
  b4 : y.gd < y.lo
  b5 : y.pb ≠ y.gd
  b6 : y.lo ≤ y.hi
  c1 : 0 < n → y.B ≤ y.gc ∧ y.gc < y.lo ∧ y.gc ≠ y.pb ∧ y.gc ≠ y.gd
  c2 : 0 < n → y.B ≤ y.gl ∧ y.gl < y.lo ∧ y.gl ≠ y.pb ∧ y.gl ≠ y.gd ∧ y.gl ≠ y.gc
structure Wk (y : PLy) (xs : List Q3) (D : Nat → Nat) : Prop where
  lo : PLo y xs.length
  ok : ∀ q ∈ xs, okP q
  len : xs.length ≤ 4096
  ord : Ord40 (pcs xs) D
def ivC (b : List (Nat × Nat)) : List Value := b.flatMap fun x => [.int .i64 (x.1 : Int), .int .i64 (x.2 : Int)]
/-- The plan, but for its queue. -/
structure PM (w W : World) (y : PLy) (A : Option Addr) (xs : List Q3) (cap : Nat) (D : Nat → Nat) (k : Nat) (st : Sch) : Prop where
  box : ∃ Ac cc Al cl Ab cb, W.heap[y.pb]? = some (.cells #[.slice A xs.length cap, .slice Ac (xs.length - k) cc, .pointer (some ⟨y.qb, 0, none⟩), .slice Al xs.length cl, .slice (some ⟨y.gd, 0, none⟩) xs.length xs.length, .slice Ab st.busy.length cb, .int .i64 (st.now : Int)] 160) ∧
    (k < xs.length → Ac = some ⟨y.gc, k, none⟩ ∧ xs.length - k ≤ cc) ∧ (0 < xs.length → Al = some ⟨y.gl, 0, none⟩) ∧ W.ownsRow y.hi 110 2 (.slice Ab st.busy.length cb) st.busy.length (ivC st.busy)
  pc : R3 W y.B A xs
  come : 0 < xs.length → NB W y.gc xs.length (fun i => (D i : Int))
  left : 0 < xs.length → NB W y.gl xs.length (fun i => (st.left i : Int))
  done : 0 < xs.length → NB W y.gd xs.length (fun i => if st.left i = 0 then (st.done i : Int) else 0)
  bw : Below y.B w W
/-- .. its queue. -/
def PQ40 (W : World) (y : PLy) (n : Nat) (Q : QL) : Prop := QAt W y.lo y.hi y.qb y.I y.M y.p y.L y.K (max n 1) Q
theorem pcs_at {xs : List Q3} (ho : ∀ q ∈ xs, okP q) {i : Nat} (hi : i < xs.length) : ∃ q, xs[i]? = some q ∧ okP q ∧ q.a = ((pcs xs).P i : Int) ∧ q.b = ((pcs xs).A i : Int) ∧ q.c = ((pcs xs).C i : Int) := by
  refine ⟨xs[i], List.getElem?_eq_getElem hi, ho _ (List.getElem_mem hi), ?_, ?_, ?_⟩
  · have h := ho _ (List.getElem_mem hi)
    have := h.a0
    unfold pcs
    simp only [List.getElem?_eq_getElem hi, Option.getD_some]
    omega
  · have h := ho _ (List.getElem_mem hi)
    have := h.b0
    unfold pcs
    simp only [List.getElem?_eq_getElem hi, Option.getD_some]
    omega
  · have h := ho _ (List.getElem_mem hi)
    have := h.c0
    unfold pcs
    simp only [List.getElem?_eq_getElem hi, Option.getD_some]
    omega
theorem pc_at {W : World} {B : Nat} {A : Option Addr} {xs : List Q3} (ho : ∀ q ∈ xs, okP q) (h : R3 W B A xs) (h0 : 0 < xs.length) : ∃ b off, A = some ⟨b, off, none⟩ ∧ b < B ∧ ∀ i, i < xs.length → W.cell? ⟨b, off + i * 3, none⟩ = some (.int .i64 ((pcs xs).P i : Int)) ∧ W.cell? ⟨b, off + i * 3 + 1, none⟩ = some (.int .i64 ((pcs xs).A i : Int)) ∧ W.cell? ⟨b, off + i * 3 + 2, none⟩ = some (.int .i64 ((pcs xs).C i : Int)) := by
  obtain ⟨b, off, e, h1, h2⟩ := h h0
  refine ⟨b, off, e, h1, fun i hi => ?_⟩
  obtain ⟨q, g1, _, g2, g3, g4⟩ := pcs_at ho hi
  rw [← g2, ← g3, ← g4]
  exact h2 i q g1
section
variable {y : PLy} {xs : List Q3} {D : Nat → Nat}
theorem Wk.P (h : Wk y xs D) : ∀ i, i < (pcs xs).n → (pcs xs).P i < 64 := fun i hi => by
  obtain ⟨q, _, g1, g2, _, _⟩ := pcs_at h.ok hi
  have := g1.a1; omega
theorem Wk.A (h : Wk y xs D) : ∀ i, i < (pcs xs).n → (pcs xs).A i ≤ 4503599627370496 := fun i hi => by
  obtain ⟨q, _, g1, _, g2, _⟩ := pcs_at h.ok hi
  have := g1.b1; omega
theorem Wk.C0 (h : Wk y xs D) : ∀ i, i < (pcs xs).n → 0 < (pcs xs).C i := fun i hi => by
  obtain ⟨q, _, g1, _, _, g2⟩ := pcs_at h.ok hi
  have := g1.c0; omega
theorem Wk.C1 (h : Wk y xs D) : ∀ i, i < (pcs xs).n → (pcs xs).C i ≤ 1099511627776 := fun i hi => by
  obtain ⟨q, _, g1, _, _, g2⟩ := pcs_at h.ok hi
  have := g1.c1; omega
theorem sm_mul {f : Nat → Nat} {c : Nat} : ∀ {n : Nat}, (∀ i, i < n → f i ≤ c) → sm f n ≤ n * c
  | 0, _ => Nat.zero_le _
  | n + 1, h => by
    have a := sm_mul (n := n) fun i hi => h i (by omega)
    have b := h n (by omega)
    rw [sm, Nat.succ_mul]; omega
theorem Wk.sum (h : Wk y xs D) : sm (pcs xs).C (pcs xs).n ≤ 4503599627370496 := by
  have a := sm_mul h.C1
  have b := h.len
  have c : (pcs xs).n = xs.length := rfl
  have d : (pcs xs).n * 1099511627776 ≤ 4096 * 1099511627776 := Nat.mul_le_mul_right _ (by omega)
  omega
theorem Wk.now (h : Wk y xs D) {st : Sch} (hs : SI (pcs xs) 4503599627370496 st) : st.now ≤ 9007199254740992 := by
  have := hs.bound
  have := h.sum
  omega
end
/-- What came, and what comes. -/
structure Cm (s : Pcs) (D : Nat → Nat) (k now : Nat) : Prop where
  kn : k ≤ s.n
  a : ∀ j, j < k → s.A (D j) ≤ now
  b : ∀ j, k ≤ j → j < s.n → now ≤ s.A (D j)
structure Cm' (s : Pcs) (D : Nat → Nat) (k now : Nat) : Prop where
  kn : k ≤ s.n
  a : ∀ j, j < k → s.A (D j) ≤ now
  b : ∀ j, k ≤ j → j < s.n → now < s.A (D j)
theorem QAt.blocks {w w' : World} {lo hi qb I M p L K n : Nat} {Q : QL} (h : QAt w lo hi qb I M p L K n Q) (hs : w.heap.size ≤ w'.heap.size) (hb : ∀ i, lo ≤ i → i < hi → w'.heap[i]? = w.heap[i]?) : QAt w' lo hi qb I M p L K n Q := by
  obtain ⟨S, ids, f, b, h⟩ := h.of
  have l1 := h.ly.q1
  have l2 := h.ly.i1
  have l3 := h.ly.m1
  have l4 := h.ly.lh
  obtain ⟨F, G, h1, h2⟩ := h.pa.of
  have pl := h.pa.pl
  have pa : PoolAt w' lo (lo + 3) p L K n 64 S := ⟨h.pa.pl, Nat.le_trans h.pa.hh hs, h.pa.nb, h.pa.mb, F, G, h1.kept (hb _ pl.p1 (by have := pl.p2; omega)) (hb _ pl.l1 (by have := pl.l2; omega)) (hb _ pl.k1 (by have := pl.k2; omega)), h2⟩
  exact ⟨S, ids, f, b, h.ly, Nat.le_trans h.hh hs, pa, h.qc.kept (hb _ (by omega) h.ly.q2), h.nb.kept (hb _ (by omega) h.ly.i2), h.mp.kept (hb _ (by omega) h.ly.m2), h.co, h.fi, h.bl, h.bi⟩
section
variable {w W W' : World} {y : PLy} {A : Option Addr} {xs : List Q3} {cap k : Nat} {D : Nat → Nat} {st : Sch}
theorem PM.lt (h : PM w W y A xs cap D k st) : y.pb < W.heap.size := by
  obtain ⟨_, _, _, _, _, _, hb, _⟩ := h.box
  exact lt_of_block hb
/-- The queue alone was turned. -/
theorem PM.queued (hw : PLo y xs.length) (h : PM w W y A xs cap D k st) (hk : Kp y.lo y.hi W W') : PM w W' y A xs cap D k st := by
  have b1 := hw.b1
  have b2 := hw.b2
  have b3 := hw.b3
  have b4 := hw.b4
  have b6 := hw.b6
  obtain ⟨Ac, cc, Al, cl, Ab, cb, hb, h1, h2, h3⟩ := h.box
  have hlt := lt_of_block hb
  refine ⟨⟨Ac, cc, Al, cl, Ab, cb, (hk.block _ hlt (.inl b3)).trans hb, h1, h2, ?_⟩, h.pc.below (hk.below (Below.refl _ _) (by omega) (by have := h.bw.size; omega)), fun h0 => ?_, fun h0 => ?_, fun h0 => ?_, hk.below h.bw (by omega) (by omega)⟩
  · refine ⟨h3.1, ?_⟩
    rcases h3.2 with e | ⟨g, cap', cur, e1, e2, e3, e4⟩
    · exact .inl e
    · exact .inr ⟨g, cap', cur, e1, e2, (hk.block g (lt_of_block e3) (.inr e2)).trans e3, e4⟩
  · have c1 := hw.c1 h0
    exact (h.come h0).kept (hk.block _ (cell_lt ((h.come h0).c 0 h0)) (.inl (by omega)))
  · have c2 := hw.c2 h0
    exact (h.left h0).kept (hk.block _ (cell_lt ((h.left h0).c 0 h0)) (.inl (by omega)))
  · exact (h.done h0).kept (hk.block _ (cell_lt ((h.done h0).c 0 h0)) (.inl (by omega)))
theorem PM.drewN (h : PM w W y A xs cap D k st) (m : Nat) : PM w (W.drewN m) y A xs cap D k st :=
  ⟨h.box, h.pc, fun h0 => ⟨(h.come h0).c, (h.come h0).f⟩, fun h0 => ⟨(h.left h0).c, (h.left h0).f⟩, fun h0 => ⟨(h.done h0).c, (h.done h0).f⟩, h.bw.drewN m⟩
theorem PQ40.drewN {W : World} {y : PLy} {n : Nat} {Q : QL} (h : PQ40 W y n Q) (m : Nat) : PQ40 (W.drewN m) y n Q := QAt.below h ((Below.refl _ _).drewN m)
end
end Go.Proofs.Ytcchmkpodfjhcaa
