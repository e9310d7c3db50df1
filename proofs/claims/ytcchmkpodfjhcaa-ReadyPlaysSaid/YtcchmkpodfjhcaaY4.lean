/-
  The walk of the reference queue's without.
-/
import Derived.Test.YtcchmkpodfjhcaaY3
namespace Go.Proofs.Ytcchmkpodfjhcaa
open Go.RowKit
set_option linter.unusedVariables false
theorem cell_two_at (w : World) (x y : Int) (T : TypeId) (m : Nat) (hm : m = w.heap.size) : ∀ j u, [Value.int .i64 x, .int .i64 y][j]? = some u → (w.alloc (.cells #[.int .i64 x, .int .i64 y] T)).cell? ((⟨m, 0, none⟩ : Addr).add j) = some u := by
  subst hm
  intro j u hj
  match j, hj with
  | 0, hj =>
    simp at hj
    subst hj
    simp [Addr.add]
  | 1, hj =>
    simp at hj
    subst hj
    simp [Addr.add]
theorem own_set {W : World} {base b o : Nat} {e : TypeId} {sz k : Nat} {v : Value} {xs : List Value} (h : W.ownsRow base e sz v k xs) (hb : b < base) (u : Value) : (W.setCell ⟨b, o, none⟩ u).ownsRow base e sz v k xs :=
  h.kept (row := some b) ⟨rfl, rfl, rfl, by simp, fun i _ hi => Below.heap_setCell _ _ _ _ (fun e => hi (by rw [e]))⟩ (by
    cases hv : v.ownBlock with
    | none => simp
    | some g => have := (h.lt g hv).1; simp; omega)
def WthRes (w : World) (n : Nat) (Q : QL) (e : Ending) (w' : World) : Prop :=
  ∃ A c, e = .returned (.agg #[.int .i64 (n : Int), .slice A Q.length c]) ∧ w'.ownsRow (w.heap.size + 2) 77 2 (.slice A Q.length c) Q.length (Q.flatMap qcells) ∧ Below w.heap.size w w'
set_option maxHeartbeats 4000000 in
theorem rwithout_any {w : World} {hi n : Nat} {Q : QL} {v : Value} (h : RefQ w hi n Q v) (id : Int) :
    Calls Try.prog 86 #[v, .int .i64 id] w (WthRes w n (Q.rem id)) := by
  obtain ⟨⟨A, c, rfl, hR, _⟩, hl, hn⟩ := h
  have HR := Kept.mk (fun (W : World) (hb : Below w.heap.size w W) => hR.below hb)
  have hll : (Q.length : Int) ≤ 4096 := by omega
  obtain ⟨i0, hi0, hz0, hz1, hz2⟩ := info_parts info_one
  go_enter Try.func86, Try.ntmps86
  go_wp2_with fail
  obtain ⟨W1, hW1⟩ : ∃ W1, W1 = (w.alloc (.cells #[.int .i64 (n : Int), .slice A Q.length c] 69)).alloc (.cells #[.int .i64 0, .slice none 0 0] 69) := ⟨_, rfl⟩
  obtain ⟨f1, f2, f3, f4, f5⟩ := two_new (w := w) (w1 := W1) (by rw [hW1]; exact Below.refl _ _)
  have f7 : ∀ i, W1.frozen? ⟨w.heap.size, i, none⟩ = false := fun i => by
    have hb : Below (w.alloc (.cells #[.int .i64 (n : Int), .slice A Q.length c] 69)).heap.size (w.alloc (.cells #[.int .i64 (n : Int), .slice A Q.length c] 69)) W1 := by rw [hW1]; exact below_box _ _
    exact box_free hb i
  have a0 := f1 0 _ rfl
  have a1 := f1 1 _ rfl
  have g0 := f2 0 _ rfl
  have g1 := f2 1 _ rfl
  rw [← hW1]
  clear hW1 f1 f2 hR
  have F3 := Kept.mk f3
  have F7 := Kept.mk f7
  have F4 := Kept.mk f4
  have F6 := Kept.mk f5
  go_loopw [5, 11] (fun l t wr => ∃ (k : Nat) (v : Value), k ≤ Q.length ∧ t = .int .i64 k ∧ l = v ∧ wr.ownsRow (w.heap.size + 2) 77 2 v (QL.rem (Q.take k) id).length ((QL.rem (Q.take k) id).flatMap qcells) ∧ wr.cell? ⟨w.heap.size, 0, none⟩ = some (.int .i64 (n : Int)) ∧ wr.cell? ⟨w.heap.size, 1, none⟩ = some (.slice A Q.length c) ∧ (∀ i, wr.frozen? ⟨w.heap.size, i, none⟩ = false) ∧ wr.cell? ⟨w.heap.size + 1, 0, none⟩ = some (.int .i64 0) ∧ wr.cell? ⟨w.heap.size + 1, 1, none⟩ = some (.slice none 0 0) ∧ (∀ i, wr.frozen? ⟨w.heap.size + 1, i, none⟩ = false) ∧ w.heap.size + 2 ≤ wr.heap.size ∧ Below w.heap.size w wr) (fun _ t _ => Q.length - (intOf t).toNat)
  case atStart => exact ⟨0, _, by omega, rfl, rfl, World.ownsRow_nil _ _ _ _, a0, a1, F7.out, g0, g1, F3.out, F4.out, F6.out⟩
  case round =>
    clear a0 a1 g0 g1 f3 f4 f5 f7 F3 F4 F6 F7
    obtain ⟨k, v, hk, rfl, rfl, hown, a0, a1, af, d0, d1, df, hs, hbw⟩ := hrel
    obtain ⟨A4, c4, rfl⟩ := own_slice hown
    have hs1 : w.heap.size + 1 < wr.heap.size := by omega
    have hs0 : w.heap.size < wr.heap.size := by omega
    by_cases hlt : k < Q.length
    · obtain ⟨b, off, rfl, _, hbB, hc⟩ := (HR.out wr hbw) (by omega)
      obtain ⟨y, hy⟩ : ∃ y, Q[k]? = some y := ⟨_, List.getElem?_eq_getElem hlt⟩
      have hst := rem_take hy id
      have hfl := rem_le Q k id hk
      obtain ⟨e1, e2⟩ := hc k y hy
      obtain ⟨ya, yb⟩ := y
      simp only at e1 e2 hst
      have ik : (k : Int) < (Q.length : Int) := by omega
      have hb5 := below_box wr (.cells #[.int .i64 ya, .int .i64 (yb : Int)] 77)
      have HB5 := Kept.mk (hbw.trans (hb5.mono hbw.size))
      have HO5 := Kept.mk (own_below hown hb5)
      clear hc hy hbw hb5
      by_cases he : ya = id
      · subst he
        rw [if_pos rfl, List.append_nil] at hst
        have HST := Kept.mk hst
        clear hst hown
        go_wp2
        go_roundw
        case rel => exact ⟨k + 1, _, by omega, by go_num, rfl, by rw [HST.out]; exact HO5.out, by go_simp, by go_simp, (by intro i; go_simp), by go_simp, by go_simp, (by intro i; go_simp), by simp; omega, HB5.out⟩
        case measure => simp [intOf]; omega
      · rw [if_neg he] at hst
        have he2 : (ya != id) = true := by simp [he]
        have HST := Kept.mk hst
        have q0 : (wr.alloc (.cells #[.int .i64 ya, .int .i64 (yb : Int)] 77)).heap.size = wr.heap.size + 1 := by simp
        clear hst hown he
        go_wp2_with (at_builtin; refine wpList_append_own _ rfl _ _ 67 rfl (w.heap.size + 2) 77 i0 (.agg #[.int .i64 0, .int .i64 0]) 2 16 Try.underlying67 hi0 hz0 hz1 hz2 rfl (by decide) _ _ _ rfl (HO5.out.alloc _) ⟨wr.heap.size + 1, 0, none⟩ 1 1 [.int .i64 ya, .int .i64 (yb : Int)] rfl rfl (cell_two_at _ _ _ _ _ (by simp)) (by simp [Value.oneCell']) (by simp only [maxLen]; omega) (by omega) (by simp; omega) ?_; intro v' w4 hown' hgrow _; have HB4 := below_grown (HB5.out.alloc HB5.out.size _) hgrow (HO5.out.alloc _) (by omega) (by simp; omega); have hsz4 := hgrow.size)
        have hne : ∀ p : Nat, p < w.heap.size + 2 → some p ≠ (Value.slice A4 (QL.rem (Q.take k) id).length c4).ownBlock := fun p hp h => by have := (HO5.out.lt p h.symm).1; omega
        have hkp : ∀ p : Nat, p < w.heap.size + 2 → w4.heap[p]? = wr.heap[p]? := fun p hp => by
          rw [hgrow.block p (by simp; omega) (hne p hp)]
          simp only [World.alloc]
          rw [Array.getElem?_push_lt (by simp; omega), Array.getElem_push_lt (by omega), Array.getElem?_eq_getElem (by omega)]
        have kc : ∀ p o : Nat, p < w.heap.size + 2 → w4.cell? ⟨p, o, none⟩ = wr.cell? ⟨p, o, none⟩ := fun p o hp => World.cell?_of_block (a := ⟨p, o, none⟩) (hkp p hp)
        have kf : ∀ p o : Nat, p < w.heap.size + 2 → w4.frozen? ⟨p, o, none⟩ = wr.frozen? ⟨p, o, none⟩ := fun p o hp => World.frozen?_of_block (a := ⟨p, o, none⟩) (hkp p hp)
        go_roundw
        case rel => exact ⟨k + 1, v', by omega, by go_num, rfl, by rw [HST.out, List.length_append, List.flatMap_append]; exact hown', (kc _ _ (by omega)).trans a0, (kc _ _ (by omega)).trans a1, fun i => (kf _ _ (by omega)).trans (af i), (kc _ _ (by omega)).trans d0, (kc _ _ (by omega)).trans d1, fun i => (kf _ _ (by omega)).trans (df i), by simp at hsz4; omega, HB4⟩
        case measure => simp [intOf]; omega
    · have hke : k = Q.length := by omega
      subst hke
      rw [List.take_length] at hown ⊢
      have HOW := Kept.mk hown
      have HB := Kept.mk hbw
      clear hown hbw
      go_wp2
      refine bodyPost_ret (results_que1 rfl _ _ (w.heap.size + 1) (.int .i64 (n : Int)) (.slice A4 (Q.rem id).length c4) rfl (by go_simp) (by go_simp)) rfl ⟨A4, c4, rfl, own_set (own_set (own_set HOW.out (by omega) _) (by omega) _) (by omega) _, ?_⟩
      exact ((HB.out.setCell (p := ⟨w.heap.size, 1, none⟩) (Nat.le_refl _) _).setCell (p := ⟨w.heap.size + 1, 0, none⟩) (Nat.le_succ _) _).setCell (p := ⟨w.heap.size + 1, 1, none⟩) (Nat.le_succ _) _
end Go.Proofs.Ytcchmkpodfjhcaa
