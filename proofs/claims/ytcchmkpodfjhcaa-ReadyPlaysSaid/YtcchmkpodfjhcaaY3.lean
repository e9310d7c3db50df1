/-
  The walks of the reference queue's List and without.
-/
import Derived.Test.YtcchmkpodfjhcaaY2
namespace Go.Proofs.Ytcchmkpodfjhcaa
open Go.RowKit
set_option linter.unusedVariables false
theorem info_one : (Try.prog.info? 77).map (fun i => (i.zero, i.size, i.bytes)) = some (some (.agg #[.int .i64 0, .int .i64 0]), 2, 16) := by kernel_rfl
theorem qlist_take {Q : QL} {k : Nat} {y : Int × Nat} (h : Q[k]? = some y) (p : Int) : qList (Q.take (k + 1)) p = qList (Q.take k) p ++ if (y.2 : Int) = p ∧ 0 ≤ p ∧ p < 64 then [y.1] else [] := by
  unfold qList
  rw [List.take_add_one, h]
  by_cases hp : 0 ≤ p ∧ p < 64
  · rw [if_pos hp, if_pos hp]
    obtain ⟨ya, yb⟩ := y
    rw [show Q.take k ++ (some (ya, yb)).toList = Q.take k ++ [(ya, yb)] from rfl, of_app]
    congr 1
    by_cases he : yb = p.toNat
    · rw [if_pos he, if_pos ⟨by simp only; omega, hp⟩]
    · rw [if_neg he, if_neg (fun h => he (by have := h.1; simp only at this; omega))]
  · rw [if_neg hp, if_neg hp, if_neg (fun h => hp h.2)]
    rfl
theorem qlist_le (Q : QL) (k : Nat) (p : Int) (hk : k ≤ Q.length) : (qList (Q.take k) p).length ≤ k := by
  unfold qList
  split
  · unfold QL.of
    rw [List.length_map]
    refine Nat.le_trans (List.length_filter_le _ _) ?_
    rw [List.length_take]
    omega
  · simp
theorem rem_take {Q : QL} {k : Nat} {y : Int × Nat} (h : Q[k]? = some y) (id : Int) : QL.rem (Q.take (k + 1)) id = QL.rem (Q.take k) id ++ if y.1 = id then [] else [y] := by
  unfold QL.rem
  rw [List.take_add_one, h, List.filter_append]
  congr 1
  by_cases h : y.1 = id <;> simp [h]
theorem rem_le (Q : QL) (k : Nat) (id : Int) (hk : k ≤ Q.length) : (QL.rem (Q.take k) id).length ≤ k := by
  unfold QL.rem
  refine Nat.le_trans (List.length_filter_le _ _) ?_
  rw [List.length_take]
  omega
theorem cell_one_at (w : World) (x : Int) (T : TypeId) (m : Nat) (hm : m = w.heap.size) : ∀ j u, [Value.int .i64 x][j]? = some u → (w.alloc (.cells #[.int .i64 x] T)).cell? ((⟨m, 0, none⟩ : Addr).add j) = some u := by
  subst hm
  exact cell_one_new _ _ _
set_option maxHeartbeats 4000000 in
theorem rlist11_any {w : World} {hi n : Nat} {Q : QL} {v : Value} (h : RefQ w hi n Q v) (pr : Int) :
    Calls Try.prog 54 #[v, .int .i64 pr] w (IntResO w (qList Q pr)) := by
  obtain ⟨⟨A, c, rfl, hR, _⟩, hl, hn⟩ := h
  have HR := Kept.mk (fun (W : World) (hb : Below w.heap.size w W) => hR.below hb)
  have hll : (Q.length : Int) ≤ 4096 := by omega
  obtain ⟨i0, hi0, hz0, hz1, hz2⟩ := info_parts info_int
  go_enter Try.func54, Try.ntmps54
  go_wp2_with fail
  obtain ⟨W1, hW1⟩ : ∃ W1, W1 = w.alloc (.cells #[.int .i64 (n : Int), .slice A Q.length c] 69) := ⟨_, rfl⟩
  have F6 := Kept.mk (show Below w.heap.size w W1 by rw [hW1]; exact below_box w _)
  have F4 := Kept.mk (show w.heap.size + 1 ≤ W1.heap.size by rw [hW1]; simp)
  rw [← hW1]
  clear hW1 hR
  go_loopw [5, 11] (fun o t wr => ∃ (k : Nat) (v : Value), k ≤ Q.length ∧ t = .int .i64 k ∧ o = v ∧ wr.ownsRow (w.heap.size + 1) 3 1 v (qList (Q.take k) pr).length ((qList (Q.take k) pr).map (Value.int .i64)) ∧ w.heap.size + 1 ≤ wr.heap.size ∧ Below w.heap.size w wr) (fun _ t _ => Q.length - (intOf t).toNat)
  case atStart => exact ⟨0, _, by omega, rfl, rfl, (by
    have e : qList (Q.take 0) pr = [] := by unfold qList; split <;> rfl
    rw [e]; exact World.ownsRow_nil _ _ _ _), F4.out, F6.out⟩
  case round =>
    clear F6 F4
    obtain ⟨k, v, hk, rfl, rfl, hown, hs, hbw⟩ := hrel
    obtain ⟨A4, c4, rfl⟩ := own_slice hown
    have hs0 : w.heap.size < wr.heap.size := by omega
    by_cases hlt : k < Q.length
    · obtain ⟨b, off, rfl, _, hbB, hc⟩ := (HR.out wr hbw) (by omega)
      obtain ⟨y, hy⟩ : ∃ y, Q[k]? = some y := ⟨_, List.getElem?_eq_getElem hlt⟩
      have hst := qlist_take hy pr
      have hfl := qlist_le Q k pr hk
      obtain ⟨e1, e2⟩ := hc k y hy
      obtain ⟨ya, yb⟩ := y
      simp only at e1 e2 hst
      have ik : (k : Int) < (Q.length : Int) := by omega
      have hb5 := below_box wr (.cells #[.int .i64 ya, .int .i64 (yb : Int)] 77)
      have HB5 := Kept.mk (hbw.trans (hb5.mono hbw.size))
      have HO5 := Kept.mk (own_below hown hb5)
      have HP := Kept.mk (fun W => rprio_any pr W)
      clear hc hy hbw hb5
      by_cases hp : (yb : Int) = pr
      · subst hp
        by_cases hg : 0 ≤ (yb : Int) ∧ (yb : Int) < 64
        · rw [if_pos ⟨rfl, hg⟩] at hst
          have HST := Kept.mk hst
          have hP := HP.out (wr.alloc (.cells #[.int .i64 ya, .int .i64 (yb : Int)] 77))
          rw [decide_eq_true hg] at hP
          clear hst hown HP
          go_wp2_with (first
            | (go_at_call 84; refine (hP).mono ?_; rintro e w' ⟨rfl, rfl⟩)
            | (at_builtin; refine wpList_append_own _ rfl _ _ 28 rfl (w.heap.size + 1) 3 i0 (.int .i64 0) 1 8 Try.underlying28 hi0 hz0 hz1 hz2 rfl (by decide) _ _ _ rfl (HO5.out.alloc _) ⟨wr.heap.size + 1, 0, none⟩ 1 1 [.int .i64 ya] rfl rfl (cell_one_at _ _ _ _ (by simp)) (by simp [Value.oneCell']) (by simp only [maxLen]; omega) (by omega) (by simp; omega) ?_; intro v' w4 hown' hgrow _; have HB4 := below_grown (HB5.out.alloc HB5.out.size _) hgrow (HO5.out.alloc _) (Nat.le_succ _) (by simp; omega); have hsz4 := hgrow.size))
          go_roundw
          case rel => exact ⟨k + 1, v', by omega, by go_num, rfl, by rw [HST.out, List.length_append, List.map_append]; exact hown', by simp at hsz4; omega, HB4⟩
          case measure => simp [intOf]; omega
        · rw [if_neg (fun h => hg h.2), List.append_nil] at hst
          have HST := Kept.mk hst
          have hP := HP.out (wr.alloc (.cells #[.int .i64 ya, .int .i64 (yb : Int)] 77))
          rw [decide_eq_false hg] at hP
          clear hst hown HP
          go_wp2_with (go_at_call 84; refine (hP).mono ?_; rintro e w' ⟨rfl, rfl⟩)
          go_roundw
          case rel => exact ⟨k + 1, _, by omega, by go_num, rfl, by rw [HST.out]; exact HO5.out, by simp; omega, HB5.out⟩
          case measure => simp [intOf]; omega
      · rw [if_neg (fun h => hp h.1), List.append_nil] at hst
        have HST := Kept.mk hst
        have hp2 : ((yb : Int) == pr) = false := by simp [hp]
        clear hst hown hp HP
        go_wp2
        go_roundw
        case rel => exact ⟨k + 1, _, by omega, by go_num, rfl, by rw [HST.out]; exact HO5.out, by simp; omega, HB5.out⟩
        case measure => simp [intOf]; omega
    · have hke : k = Q.length := by omega
      subst hke
      rw [List.take_length] at hown ⊢
      go_wp2
      go_ret
      exact IntResO.own rfl hown (Nat.le_succ _) hbw
end Go.Proofs.Ytcchmkpodfjhcaa
