/-
  The law TopDrift: the first one of those that are due is taken out of the wheel, where there is at most one.
-/
import Derived.Test.YtakkfgkogomjbaaDoorW9
import Derived.Stop.RegionWithIn
namespace Go.Proofs.YtakkfgkogomjbaaDoor
open Go.RowKit Go.Shelf Go.Maps Go.ChangeMaps
set_option linter.unusedVariables false
set_option linter.unusedSimpArgs false
attribute [local go_sem] Oper.semAt_some
theorem cfT_self (x : Tm) : cfT x x = 0 := by simp [cfT, cmpI]
theorem results_row1b {P : Program} {fn : Func} {p u : Tmp} {ty : TypeId} (h : fn.results = #[.cell p ty, .tmp u]) (tmps : Array Value) (w : World) (g : Nat) (t : TypeId) (cs : Array Value) (fr : Nat × Nat) (d : TypeDesc)
    (hp : tmps.getD p undef = .pointer (some ⟨g, 0, none⟩)) (hg : w.heap[g]? = some (.cells cs t fr))
    (hu : P.underlying ty = some d) (hd : (match d with | .struct _ | .array _ _ => true | _ => false) = true) (hi : (P.info? ty).map (·.size) = some cs.size) :
    (results fn tmps).run P w = .ok (.tuple #[.agg cs, tmps.getD u undef]) w := by
  have hp' : tmps[p]?.getD undef = .pointer (some ⟨g, 0, none⟩) := by simpa using hp
  simp [results, h, hp', asAddr, run_loadVar_row w g t ty cs fr d hg hu hd hi]
theorem two_below0 (w : World) (A B : Obj) : Below w.heap.size w ((w.alloc A).alloc B) := ((Below.refl _ _).alloc (Nat.le_refl _) A).alloc (by simp) B
theorem three_below0 (w : World) (A B C : Obj) {n : Nat} (h : n ≤ w.heap.size) : Below n w (((w.alloc A).alloc B).alloc C) := (((Below.refl _ _).alloc h A).alloc (by simp; omega) B).alloc (by simp; omega) C
theorem heap3_mid0 (w : World) (A B C : Obj) : (((w.alloc A).alloc B).alloc C).heap[w.heap.size + 1]? = some B := by
  refine Eq.trans (heap_alloc_old ((w.alloc A).alloc B) C (by simp)) ?_
  exact heap_alloc2_new w A B
/-- Who is due, if the wheel holds one at most. -/
theorem due_one {w : World} {lo hi wb I M p L K n : Nat} {S : PS} {T : Nat → Tm} {f : Int → Option Nat} {F : Nat → Nat} {now tu : Int} {x : Tm} {X : List Nat} (h : WK w lo hi wb I M p L K n S T f F now tu [x] X) (hp : Pl S T now) :
    (x.du ≤ now → ∃ i, S.list ((257 : Nat) : Int) = [i] ∧ T i = x) ∧ (now < x.du → S.list ((257 : Nat) : Int) = []) := by
  have all : ∀ q : Nat, q < 258 → ∀ y ∈ S.list (q : Int), T y = x := fun q hq y hy => List.mem_singleton.1 (h.co.mem q hq y hy)
  obtain ⟨q, hq, i, hi, e⟩ := h.co.all x (by simp)
  have hqi := hp q hq i hi
  rw [e] at hqi
  have hd : q = 257 ↔ x.du ≤ now := by rw [hqi]; exact hm_due now x.du
  constructor
  · intro hle
    obtain rfl := hd.2 hle
    refine ⟨i, ?_, e⟩
    obtain ⟨F', G', _, hG⟩ := h.pa.of
    have hnd := (list_nodup hG ((257 : Nat) : Int)).1
    have hone : ∀ y ∈ S.list ((257 : Nat) : Int), y = i := fun y hy => h.uniq (q := 257) (r := 257) (by omega) (by omega) hy hi (by rw [all 257 (by omega) y hy, e])
    cases hl : S.list ((257 : Nat) : Int) with
    | nil => rw [hl] at hi; cases hi
    | cons y r =>
      rw [hl] at hone hnd
      have hy := hone y (by simp)
      subst hy
      cases r with
      | nil => rfl
      | cons z r => have hz := hone z (by simp); subst hz; simp at hnd
  · intro hlt
    cases hl : S.list ((257 : Nat) : Int) with
    | nil => rfl
    | cons y r =>
      exfalso
      have hy : y ∈ S.list ((257 : Nat) : Int) := by rw [hl]; simp
      have h1 := hp 257 (by omega) y hy
      rw [all 257 (by omega) y hy] at h1
      have := (hm_due now x.du).1 h1.symm
      omega
theorem due_nil {w : World} {lo hi wb I M p L K n : Nat} {S : PS} {T : Nat → Tm} {f : Int → Option Nat} {F : Nat → Nat} {now tu : Int} {X : List Nat} (h : WK w lo hi wb I M p L K n S T f F now tu [] X) : S.list ((257 : Nat) : Int) = [] := by
  cases hl : S.list ((257 : Nat) : Int) with
  | nil => rfl
  | cons y r => have := h.co.mem 257 (by omega) y (by rw [hl]; simp); cases this
set_option maxRecDepth 100000 in
set_option maxHeartbeats 4000000 in
/-- None is due. -/
theorem wpop_none {w : World} {lo hi wb I M p L K n : Nat} {now tu : Int} {A : List Tm} (h : WAt w lo hi wb I M p L K n now tu A) (hA : A = [] ∨ ∃ x, A = [x] ∧ now < x.du) :
    Calls Tryd.prog 28 #[.pointer (some ⟨wb, 0, none⟩)] w fun e w' => e = .returned (.tuple #[.agg #[.int .i64 0, .int .i64 0], .bool false]) ∧ Below w.heap.size w w' := by
  obtain ⟨S, T, f, F, h, hpl⟩ := h.of
  have hnil : S.list ((257 : Nat) : Int) = [] := by
    rcases hA with rfl | ⟨x, rfl, hx⟩
    · exact due_nil h
    · exact (due_one h hpl).2 hx
  have HF := pfirst h.pa ((257 : Nat) : Int)
  rw [hnil] at HF
  simp only [List.head?_nil, optV] at HF
  have HF := Kept.mk (fun (w' : World) (hb : Below w.heap.size w w') => show _ from by
    have := pfirst (h.below (hb.mono h.hh)).pa ((257 : Nat) : Int)
    rw [hnil] at this
    simp only [List.head?_nil, optV] at this
    exact this)
  obtain ⟨c0, c1, c2, c3, c4, c5, c6, c7, c8, wf⟩ := h.wc
  have hwl : wb < w.heap.size := by have := h.ly.q2; have := h.hh; omega
  clear h hpl hA hnil
  go_enter Tryd.func28, Tryd.ntmps28
  go_wp2_with fail
  refine (HF.out _ ?hb).mono ?_
  case hb => exact two_below0 _ _ _
  rintro e w1 ⟨rfl, rfl⟩
  go_wp2_with fail
  refine bodyPost_ret (results_row1b (p := 2) (u := 3) rfl _ _ (w.heap.size + 1) 52 #[.int .i64 0, .int .i64 0] (0, 0) _ rfl (heap3_mid0 _ _ _ _) Tryd.underlying52 rfl (by kernel_rfl)) rfl ?_
  exact ⟨rfl, three_below0 _ _ _ _ (Nat.le_refl _)⟩
end Go.Proofs.YtakkfgkogomjbaaDoor
