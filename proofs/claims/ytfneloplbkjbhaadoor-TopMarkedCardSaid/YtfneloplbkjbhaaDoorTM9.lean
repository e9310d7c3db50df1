/-
  The marks of a kind and of somebody: the test, the first that falls, a copy.
-/
import Derived.Test.YtfneloplbkjbhaaDoorTM8
import Derived.Laws.AppendOwnNone
import Derived.Lib.SliceRun
namespace Go.Proofs.YtfneloplbkjbhaaDoor
open Go.RowKit Go.Shelf
set_option linter.unusedVariables false
/-- Is a mark not of this kind and of him? -/
def dropB (kd wh : Int) (q : QM) : Bool := !(q.b == kd) || !(q.c == wh)
/-- What the test has caught. -/
structure Cp (kb wb : Nat) (kd wh : Int) (w : World) : Prop where
  k : w.cell? ⟨kb, 0, none⟩ = some (.int .u8 kd)
  o : w.cell? ⟨wb, 0, none⟩ = some (.int .i64 wh)
theorem Cp.on {kb wb : Nat} {kd wh : Int} {w w' : World} (h : Cp kb wb kd wh w) (hb : Below w.heap.size w w') : Cp kb wb kd wh w' :=
  ⟨(hb.cell (p := ⟨kb, 0, none⟩) (cell_some_lt h.k).1).trans h.k, (hb.cell (p := ⟨wb, 0, none⟩) (cell_some_lt h.o).1).trans h.o⟩
set_option maxHeartbeats 1600000 in
theorem pred_any (q : QM) (kb wb : Nat) (kd wh : Int) (w : World) (hC : Cp kb wb kd wh w) :
    Calls Tryd.prog 22 #[q.v, .pointer (some ⟨kb, 0, none⟩), .pointer (some ⟨wb, 0, none⟩)] w fun e w' => e = .returned (.bool (dropB kd wh q)) ∧ Below w.heap.size w w' := by
  obtain ⟨a, b, c, d⟩ := q
  have k1 : kb < w.heap.size := (cell_some_lt hC.k).1
  have k2 : wb < w.heap.size := (cell_some_lt hC.o).1
  have h3 := hC.k
  have h4 := hC.o
  unfold QM.v
  simp only
  go_enter Tryd.func22, Tryd.ntmps22
  go_wp2
  all_goals go_ret
  all_goals exact ⟨ret_bool (by unfold dropB; simp_all [bne]), below_box _ _⟩
def IdxRes (p : QM → Bool) (ms : List QM) (r : Int) : Prop := (r = -1 ∧ ∀ q ∈ ms, p q = false) ∨ ∃ k : Nat, k < ms.length ∧ r = k ∧ (∀ q ∈ ms.take k, p q = false) ∧ ∃ q, ms[k]? = some q ∧ p q = true
theorem take_all {p : QM → Bool} {ms : List QM} {k : Nat} {q : QM} (h : ms[k]? = some q) (h1 : ∀ x ∈ ms.take k, p x = false) (h2 : p q = false) : ∀ x ∈ ms.take (k + 1), p x = false := by
  intro x hx
  rw [List.take_add_one, h] at hx
  simp only [Option.toList_some, List.mem_append, List.mem_singleton] at hx
  rcases hx with hx | rfl
  · exact h1 x hx
  · exact h2
set_option maxHeartbeats 1600000 in
theorem index_any (A : Option Addr) (cap : Nat) (ms : List QM) (kb wb : Nat) (kd wh : Int) (w : World) (hR : RM w w.heap.size A ms) (hl : ms.length ≤ 65536) (hC : Cp kb wb kd wh w) :
    Calls Tryd.prog 41 #[.slice A ms.length cap, .func (.func 22) #[] #[.pointer (some ⟨kb, 0, none⟩), .pointer (some ⟨wb, 0, none⟩)]] w fun e w' => ∃ r, e = .returned (.int .i64 r) ∧ IdxRes (dropB kd wh) ms r ∧ Below w.heap.size w w' := by
  have HR := Kept.mk hR
  clear hR
  go_enter Tryd.func41, Tryd.ntmps41
  go_wp2
  go_loopw [8] (fun t wr => ∃ k : Nat, k ≤ ms.length ∧ t = .int .i64 k ∧ Kept (∀ q ∈ ms.take k, dropB kd wh q = false) ∧ Below w.heap.size w wr) (fun t _ => ms.length - (intOf t).toNat)
  case atStart => exact ⟨0, by omega, rfl, ⟨fun q hq => by simp at hq⟩, Below.refl _ _⟩
  case round =>
    obtain ⟨k, hk, rfl, hA, hb⟩ := hrel
    by_cases hlt : k < ms.length
    · obtain ⟨b, off, rfl, hbB, hc⟩ := (HR.out.below hb) (by omega)
      obtain ⟨m, hm⟩ := some_atM hlt
      obtain ⟨e1, e2, e3, e4⟩ := hc k m hm
      have ik : (k : Int) < (ms.length : Int) := by omega
      have HM := Kept.mk hm
      have HCW := Kept.mk (show Cp kb wb kd wh wr from ⟨(hb.cell (p := ⟨kb, 0, none⟩) (cell_some_lt hC.k).1).trans hC.k, (hb.cell (p := ⟨wb, 0, none⟩) (cell_some_lt hC.o).1).trans hC.o⟩)
      clear hm hc
      cases hv : dropB kd wh m with
      | true =>
        have HV := Kept.mk hv
        have HP := Kept.mk (pred_any m kb wb kd wh wr HCW.out)
        rw [hv] at HP
        clear hv
        obtain ⟨ma, mb, mc, md⟩ := m
        unfold QM.v at HP
        simp only at e1 e2 e3 e4 HP
        go_wp2_with (go_at_call 22; refine HP.out.mono ?_; rintro e w1 ⟨rfl, hb1⟩)
        go_ret
        exact ⟨k, rfl, .inr ⟨k, hlt, rfl, hA.out, _, HM.out, HV.out⟩, hb.trans (hb1.mono hb.size)⟩
      | false =>
        have HV := Kept.mk hv
        have HP := Kept.mk (pred_any m kb wb kd wh wr HCW.out)
        rw [hv] at HP
        clear hv
        obtain ⟨ma, mb, mc, md⟩ := m
        unfold QM.v at HP
        simp only at e1 e2 e3 e4 HP
        go_wp2_with (go_at_call 22; refine HP.out.mono ?_; rintro e w1 ⟨rfl, hb1⟩)
        go_roundw
        case rel => exact ⟨k + 1, by omega, by go_num, ⟨take_all HM.out hA.out HV.out⟩, hb.trans (hb1.mono hb.size)⟩
        case measure => simp [intOf]; omega
    · have e0 : ms.take k = ms := List.take_of_length_le (by omega)
      rw [e0] at hA
      clear e0
      go_wp2
      go_ret
      exact ⟨-1, rfl, .inl ⟨rfl, hA.out⟩, hb⟩
theorem qm_onecell (xs : List QM) : ∀ u ∈ xs.flatMap QM.cells, u.oneCell' = true := by
  intro u hu
  obtain ⟨x, hx, hu⟩ := List.mem_flatMap.1 hu
  simp only [QM.cells, List.mem_cons, List.not_mem_nil, or_false] at hu
  rcases hu with rfl | rfl | rfl | rfl <;> rfl
theorem rm_cells {w : World} {B b off : Nat} {xs : List QM} (h : RM w B (some ⟨b, off, none⟩) xs) : ∀ (j : Nat) (u : Value), (xs.flatMap QM.cells)[j]? = some u → w.cell? ((⟨b, off, none⟩ : Addr).add j) = some u := by
  intro j u hu
  have hj : j < xs.length * 4 := by
    have := (List.getElem?_eq_some_iff.1 hu).1
    rwa [cellsM_length] at this
  obtain ⟨b', off', e, hb, hc⟩ := h (by omega)
  cases e
  obtain ⟨x, hx⟩ := some_atM (xs := xs) (k := j / 4) (by omega)
  obtain ⟨c1, c2, c3, c4⟩ := hc _ x hx
  have hs := cellsM_at xs (j / 4) (j % 4) x hx (by omega)
  rw [show j / 4 * 4 + j % 4 = j from by omega, hu] at hs
  rw [add_at]
  have h3 : j % 4 = 0 ∨ j % 4 = 1 ∨ j % 4 = 2 ∨ j % 4 = 3 := by omega
  rcases h3 with h3 | h3 | h3 | h3 <;> rw [h3] at hs <;> simp only [QM.cells, List.getElem?_cons_zero, List.getElem?_cons_succ, Option.some.injEq] at hs <;> subst hs
  · rw [show off + j = off + j / 4 * 4 from by omega]; exact c1
  · rw [show off + j = off + j / 4 * 4 + 1 from by omega]; exact c2
  · rw [show off + j = off + j / 4 * 4 + 2 from by omega]; exact c3
  · rw [show off + j = off + j / 4 * 4 + 3 from by omega]; exact c4
theorem own_base {w : World} {B B' : Nat} {e : TypeId} {size n : Nat} {v : Value} {xs : List Value} (h : w.ownsRow B e size v n xs) (hB : B' ≤ B) : w.ownsRow B' e size v n xs := by
  refine ⟨h.1, ?_⟩
  rcases h.2 with h1 | ⟨g, cap, cur, h1, h2, h3⟩
  · exact .inl h1
  · exact .inr ⟨g, cap, cur, h1, by omega, h3⟩
set_option maxRecDepth 100000 in
set_option maxHeartbeats 1600000 in
/-- A copy: nil, or an own row from block B on. -/
theorem clone_any (A : Option Addr) (cap : Nat) (ms : List QM) (w : World) (B : Nat) (hB : B ≤ w.heap.size) (hR : RM w w.heap.size A ms) (hl : ms.length ≤ 65536) :
    Calls Tryd.prog 21 #[.slice A ms.length cap] w fun e w' => ∃ v, e = .returned v ∧ OM B w' v ms ∧ Below w.heap.size w w' := by
  obtain ⟨i0, hi, hz0, hz1, hz2⟩ := info_parts info_mark
  cases A with
  | none =>
    have h0 : ms = [] := by
      rcases Nat.eq_zero_or_pos ms.length with h | h
      · exact List.eq_nil_of_length_eq_zero h
      · obtain ⟨_, _, e, _⟩ := hR h; cases e
    subst h0
    have hq := Lib.run_eql_slice_nil (P := Tryd.prog) w 22 34 none 0 cap 0 0 Tryd.underlying22
    go_enter Tryd.func21, Tryd.ntmps21
    go_wp2
    go_ret
    exact ⟨_, rfl, World.ownsRow_nil _ _ _ _, Below.refl _ _⟩
  | some ad =>
    obtain ⟨b, off, ic⟩ := ad
    have hce : ∀ (j : Nat) (u : Value), (ms.flatMap QM.cells)[j]? = some u → (w.alloc (.cells #[] 34)).cell? ((⟨b, off, ic⟩ : Addr).add j) = some u := by
      intro j u hu
      rcases Nat.eq_zero_or_pos ms.length with h0 | h0
      · have : ms = [] := List.eq_nil_of_length_eq_zero h0
        subst this
        simp at hu
      · obtain ⟨b', off', e1, _⟩ := hR h0
        cases e1
        exact rm_cells (hR.below (below_box w (.cells #[] 34))) j u hu
    clear hR
    have hmade : (w.alloc (.cells #[] 34)).ownsRow w.heap.size 34 4 (.slice (some ⟨w.heap.size, 0, none⟩) 0 0) 0 [] := World.ownsRow_made w #[] 0 (Nat.le_refl _) (by decide) rfl
    have hq := Lib.run_eql_slice_nil (P := Tryd.prog) w 22 34 (some ⟨b, off, ic⟩) ms.length cap 0 0 Tryd.underlying22
    go_enter Tryd.func21, Tryd.ntmps21
    go_wp2_with (at_builtin; go_loud (refine wpList_append_own _ rfl _ _ 22 rfl w.heap.size 34 i0 (.agg #[.int .i64 0, .int .u8 0, .int .i64 0, .int .i64 0]) 4 32 Tryd.underlying22 hi hz0 hz1 hz2 rfl (by decide) _ _ _ rfl hmade ⟨b, off, ic⟩ ms.length cap (ms.flatMap QM.cells) rfl (cellsM_length ms) hce (qm_onecell ms) (by simp only [maxLen]; omega) (by omega) (by simp) ?_; intro v4 w4 hown4 hg4 _))
    go_ret
    refine ⟨v4, rfl, ?_, (below_box w _).grown hg4 (by simp) (fun k hk => (World.ownsRow.lt hmade k hk).1)⟩
    have h4 : w4.ownsRow w.heap.size 34 4 v4 ms.length (ms.flatMap QM.cells) := by simpa using hown4
    exact own_base h4 hB
end Go.Proofs.YtfneloplbkjbhaaDoor
