/-
  The walks of the reference queue's Top and List.
-/
import Derived.Test.YtcchmkpodfjhcaaY1
namespace Go.Proofs.Ytcchmkpodfjhcaa
open Go.RowKit
set_option linter.unusedVariables false
def tA : Option (Int × Nat) → Int
  | none => 0
  | some y => y.1
def tB : Option (Int × Nat) → Int
  | none => 0
  | some y => (y.2 : Int)
def tC (o : Option (Int × Nat)) : Bool := o.isSome
def TopRes (w : World) (Q : QL) (e : Ending) (w' : World) : Prop := e = .returned (.tuple #[.agg #[.int .i64 (tA (qTop Q)), .int .i64 (tB (qTop Q))], .bool (tC (qTop Q))]) ∧ Below w.heap.size w w'
theorem qtop_take {Q : QL} {k : Nat} {y : Int × Nat} (h : Q[k]? = some y) : qTop (Q.take (k + 1)) = best (qTop (Q.take k)) y := by
  unfold qTop
  rw [List.take_add_one, h, List.foldl_append]
  rfl
set_option maxHeartbeats 4000000 in
theorem rtop_any {w : World} {hi n : Nat} {Q : QL} {v : Value} (h : RefQ w hi n Q v) :
    Calls Try.prog 45 #[v] w (TopRes w Q) := by
  obtain ⟨⟨A, c, rfl, hR, _⟩, hl, hn⟩ := h
  have HR := Kept.mk (fun (W : World) (hb : Below w.heap.size w W) => hR.below hb)
  have hll : (Q.length : Int) ≤ 4096 := by omega
  go_enter Try.func45, Try.ntmps45
  go_wp2_with fail
  obtain ⟨W1, hW1⟩ : ∃ W1, W1 = ((w.alloc (.cells #[.int .i64 (n : Int), .slice A Q.length c] 69)).alloc (.cells #[.int .i64 0, .int .i64 0] 77)).alloc (.cells #[.int .i64 0, .int .i64 0] 77) := ⟨_, rfl⟩
  obtain ⟨f1, f2, f3, f4, f5⟩ := two_new (w := w.alloc (.cells #[.int .i64 (n : Int), .slice A Q.length c] 69)) (w1 := W1) (by rw [hW1]; exact Below.refl _ _)
  have ez : (w.alloc (.cells #[.int .i64 (n : Int), .slice A Q.length c] 69)).heap.size = w.heap.size + 1 := by simp
  rw [ez] at f1 f2 f3 f4 f5
  have f6 : Below w.heap.size w W1 := (below_box w _).trans (f5.mono (by omega))
  have f7 : ∀ i, W1.frozen? ⟨w.heap.size + 1, i, none⟩ = false := fun i => by
    have hb : Below ((w.alloc (.cells #[.int .i64 (n : Int), .slice A Q.length c] 69)).alloc (.cells #[.int .i64 0, .int .i64 0] 77)).heap.size ((w.alloc (.cells #[.int .i64 (n : Int), .slice A Q.length c] 69)).alloc (.cells #[.int .i64 0, .int .i64 0] 77)) W1 := by rw [hW1]; exact below_box _ _
    have := box_free hb i
    rwa [ez] at this
  have a0 := f1 0 _ rfl
  have a1 := f1 1 _ rfl
  have g0 := f2 0 _ rfl
  have g1 := f2 1 _ rfl
  rw [← hW1]
  clear hW1 f1 f2 f5 hR ez
  have F3 := Kept.mk f3
  have F7 := Kept.mk f7
  have F4 := Kept.mk f4
  have F6 := Kept.mk f6
  go_loopw [5, 12] (fun is t wr => ∃ (k : Nat), k ≤ Q.length ∧ is = .bool (tC (qTop (Q.take k))) ∧ t = .int .i64 k ∧ wr.cell? ⟨w.heap.size + 1, 0, none⟩ = some (.int .i64 0) ∧ wr.cell? ⟨w.heap.size + 1, 1, none⟩ = some (.int .i64 0) ∧ (∀ i, wr.frozen? ⟨w.heap.size + 1, i, none⟩ = false) ∧ wr.cell? ⟨w.heap.size + 1 + 1, 0, none⟩ = some (.int .i64 (tA (qTop (Q.take k)))) ∧ wr.cell? ⟨w.heap.size + 1 + 1, 1, none⟩ = some (.int .i64 (tB (qTop (Q.take k)))) ∧ (∀ i, wr.frozen? ⟨w.heap.size + 1 + 1, i, none⟩ = false) ∧ w.heap.size + 3 ≤ wr.heap.size ∧ Below w.heap.size w wr) (fun _ t _ => Q.length - (intOf t).toNat)
  case atStart => exact ⟨0, by omega, rfl, rfl, a0, a1, F7.out, g0, g1, F3.out, F4.out, F6.out⟩
  case round =>
    clear a0 a1 g0 g1 f3 f4 f6 f7 F3 F4 F6 F7
    obtain ⟨k, hk, rfl, rfl, a0, a1, af, d0, d1, df, hs, hbw⟩ := hrel
    have hs2 : w.heap.size + 1 + 1 < wr.heap.size := by omega
    have hs1 : w.heap.size + 1 < wr.heap.size := by omega
    have hs0 : w.heap.size < wr.heap.size := by omega
    by_cases hlt : k < Q.length
    · obtain ⟨b, off, rfl, _, hbB, hc⟩ := (HR.out wr hbw) (by omega)
      obtain ⟨y, hy⟩ : ∃ y, Q[k]? = some y := ⟨_, List.getElem?_eq_getElem hlt⟩
      have hst := qtop_take hy
      obtain ⟨e1, e2⟩ := hc k y hy
      obtain ⟨ya, yb⟩ := y
      simp only at e1 e2
      have ik : (k : Int) < (Q.length : Int) := by omega
      have HB := Kept.mk hbw
      have hb5 := below_box wr (.cells #[.int .i64 ya, .int .i64 (yb : Int)] 77)
      have HB5 := Kept.mk (hbw.trans (hb5.mono hbw.size))
      clear hc hy hbw hb5
      have HST := Kept.mk hst
      have hbest : (qTop (Q.take k) = none ∨ (tB (qTop (Q.take k)) < (yb : Int))) ∨ (∃ o, qTop (Q.take k) = some o ∧ ¬ (tB (some o) < (yb : Int))) := by
        cases e : qTop (Q.take k) with
        | none => exact .inl (.inl rfl)
        | some o =>
          by_cases h : tB (some o) < (yb : Int)
          · exact .inl (.inr h)
          · exact .inr ⟨o, rfl, h⟩
      clear hst
      rcases hbest with hbest | ⟨o, ho, hbest⟩
      · have hnew : best (qTop (Q.take k)) (ya, yb) = some (ya, yb) := by
          rcases hbest with e | e
          · rw [e]; rfl
          · cases e2 : qTop (Q.take k) with
            | none => rfl
            | some o =>
              rw [e2] at e
              have e' : (o.2 : Int) < (yb : Int) := e
              show (if o.2 < yb then some (ya, yb) else some o) = _
              rw [if_pos (by omega)]
        have HN := Kept.mk (HST.out.trans hnew)
        obtain ⟨qa, hqa⟩ : ∃ a, a = tA (qTop (Q.take k)) := ⟨_, rfl⟩
        obtain ⟨qb, hqb⟩ : ∃ a, a = tB (qTop (Q.take k)) := ⟨_, rfl⟩
        obtain ⟨qc, hqc⟩ : ∃ a, a = tC (qTop (Q.take k)) := ⟨_, rfl⟩
        rw [← hqa] at d0
        rw [← hqb] at d1
        rw [← hqc]
        have hdec : qc = false ∨ qb < (yb : Int) := by
          rcases hbest with e | e
          · left; rw [hqc, e]; rfl
          · right; rw [hqb]; exact e
        clear hbest hnew HST hqa hqb hqc
        rcases hdec with rfl | hlt2
        · go_wp2
          go_roundw
          case rel =>
            refine ⟨k + 1, by omega, by rw [HN.out]; rfl, by go_num, by go_simp, by go_simp, (by intro i; go_simp), by rw [HN.out]; go_simp; rfl, by rw [HN.out]; go_simp; rfl, (by intro i; go_simp), by simp; omega, ((HB.out.setCell (p := ⟨w.heap.size + 1 + 1, 0, none⟩) (show w.heap.size ≤ w.heap.size + 1 + 1 by omega) _).setCell (p := ⟨w.heap.size + 1 + 1, 1, none⟩) (show w.heap.size ≤ w.heap.size + 1 + 1 by omega) _).alloc (by simp; omega) _⟩
          case measure => simp [intOf]; omega
        · cases qc
          · go_wp2
            go_roundw
            case rel =>
              refine ⟨k + 1, by omega, by rw [HN.out]; rfl, by go_num, by go_simp, by go_simp, (by intro i; go_simp), by rw [HN.out]; go_simp; rfl, by rw [HN.out]; go_simp; rfl, (by intro i; go_simp), by simp; omega, ((HB.out.setCell (p := ⟨w.heap.size + 1 + 1, 0, none⟩) (show w.heap.size ≤ w.heap.size + 1 + 1 by omega) _).setCell (p := ⟨w.heap.size + 1 + 1, 1, none⟩) (show w.heap.size ≤ w.heap.size + 1 + 1 by omega) _).alloc (by simp; omega) _⟩
            case measure => simp [intOf]; omega
          · go_wp2
            go_roundw
            case rel =>
              refine ⟨k + 1, by omega, by rw [HN.out]; rfl, by go_num, by go_simp, by go_simp, (by intro i; go_simp), by rw [HN.out]; go_simp; rfl, by rw [HN.out]; go_simp; rfl, (by intro i; go_simp), by simp; omega, ((HB.out.setCell (p := ⟨w.heap.size + 1 + 1, 0, none⟩) (show w.heap.size ≤ w.heap.size + 1 + 1 by omega) _).setCell (p := ⟨w.heap.size + 1 + 1, 1, none⟩) (show w.heap.size ≤ w.heap.size + 1 + 1 by omega) _).alloc (by simp; omega) _⟩
            case measure => simp [intOf]; omega
      · have hold : best (qTop (Q.take k)) (ya, yb) = some o := by
          rw [ho]
          have e' : ¬ (o.2 : Int) < (yb : Int) := hbest
          show (if o.2 < yb then some (ya, yb) else some o) = _
          rw [if_neg (by omega)]
        have HN := Kept.mk (HST.out.trans hold)
        rw [ho] at d0 d1 ⊢
        simp only [tC, Option.isSome_some]
        obtain ⟨qa, hqa⟩ : ∃ a, a = tA (some o) := ⟨_, rfl⟩
        obtain ⟨qb, hqb⟩ : ∃ a, a = tB (some o) := ⟨_, rfl⟩
        rw [← hqa] at d0
        rw [← hqb] at d1 hbest
        have HQA := Kept.mk hqa
        have HQB := Kept.mk hqb
        clear ho hold HST hqa hqb
        go_wp2
        go_roundw
        case rel =>
          refine ⟨k + 1, by omega, by rw [HN.out]; rfl, by go_num, by go_simp, by go_simp, (by intro i; go_simp), by rw [HN.out, ← HQA.out]; go_simp, by rw [HN.out, ← HQB.out]; go_simp, (by intro i; go_simp), by simp; omega, HB5.out⟩
        case measure => simp [intOf]; omega
    · have hke : k = Q.length := by omega
      subst hke
      rw [List.take_length] at d0 d1 ⊢
      go_wp2
      refine bodyPost_ret (results_one rfl _ _ (w.heap.size + 1) (.int .i64 (tA (qTop Q))) (.int .i64 (tB (qTop Q))) (.bool (tC (qTop Q))) rfl rfl (by go_simp) (by go_simp)) rfl ⟨rfl, ?_⟩
      exact (hbw.setCell (p := ⟨w.heap.size + 1, 0, none⟩) (Nat.le_succ _) _).setCell (p := ⟨w.heap.size + 1, 1, none⟩) (Nat.le_succ _) _
end Go.Proofs.Ytcchmkpodfjhcaa
