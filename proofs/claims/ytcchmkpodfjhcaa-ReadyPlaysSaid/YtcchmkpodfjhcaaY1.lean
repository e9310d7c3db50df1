/-
  The walks of the reference queue's find, Top, List.
-/
import Derived.Test.YtcchmkpodfjhcaaV2
import Derived.Test.YtcchmkpodfjhcaaQ8
namespace Go.Proofs.Ytcchmkpodfjhcaa
open Go.RowKit
set_option linter.unusedVariables false
def FindRes (w : World) (Q : QL) (id : Int) (e : Ending) (w' : World) : Prop := ∃ a b : Int, e = .returned (.tuple #[.agg #[.int .i64 a, .int .i64 b], .bool (decide (id ∈ Q.ids))]) ∧ Below w.heap.size w w'
theorem two_new {w w1 : World} {vs us : Array Value} {t0 t1 : TypeId} (hb : Below ((w.alloc (.cells vs t0)).alloc (.cells us t1)).heap.size ((w.alloc (.cells vs t0)).alloc (.cells us t1)) w1) :
    (∀ i v, vs[i]? = some v → w1.cell? ⟨w.heap.size, i, none⟩ = some v) ∧ (∀ i v, us[i]? = some v → w1.cell? ⟨w.heap.size + 1, i, none⟩ = some v) ∧ (∀ i, w1.frozen? ⟨w.heap.size + 1, i, none⟩ = false) ∧ w.heap.size + 2 ≤ w1.heap.size ∧ Below w.heap.size w w1 := by
  have e : (w.alloc (.cells vs t0)).heap.size = w.heap.size + 1 := by simp
  have h0 : Below (w.alloc (.cells vs t0)).heap.size (w.alloc (.cells vs t0)) w1 := hb.box (Nat.le_refl _)
  refine ⟨fun i v hv => box_cell h0 i v hv, fun i v hv => ?_, fun i => ?_, ?_, h0.box (Nat.le_refl _)⟩
  · have := box_cell hb i v hv
    rwa [e] at this
  · have := box_free hb i
    rwa [e] at this
  · have := hb.size
    simp at this
    omega
set_option maxHeartbeats 2000000 in
theorem rfind_any {w : World} {hi n : Nat} {Q : QL} {v : Value} (h : RefQ w hi n Q v) (id : Int) :
    Calls Try.prog 85 #[v, .int .i64 id] w (FindRes w Q id) := by
  obtain ⟨⟨A, c, rfl, hR, _⟩, hl, hn⟩ := h
  have HR := Kept.mk (fun (W : World) (hb : Below w.heap.size w W) => hR.below hb)
  have hll : (Q.length : Int) ≤ 4096 := by omega
  go_enter Try.func85, Try.ntmps85
  go_wp2_with fail
  obtain ⟨W1, hW1⟩ : ∃ W1, W1 = (w.alloc (.cells #[.int .i64 (n : Int), .slice A Q.length c] 69)).alloc (.cells #[.int .i64 0, .int .i64 0] 77) := ⟨_, rfl⟩
  obtain ⟨_, f1, f2, f3, f4⟩ := two_new (w := w) (w1 := W1) (by rw [hW1]; exact Below.refl _ _)
  have g0 := f1 0 _ rfl
  have g1 := f1 1 _ rfl
  rw [← hW1]
  clear hW1 f1 hR
  have F2 := Kept.mk f2
  have F4 := Kept.mk f4
  go_loopw [11] (fun t wr => ∃ (k : Nat), k ≤ Q.length ∧ t = .int .i64 k ∧ Kept (∀ j y, j < k → Q[j]? = some y → y.1 ≠ id) ∧ wr.cell? ⟨w.heap.size + 1, 0, none⟩ = some (.int .i64 0) ∧ wr.cell? ⟨w.heap.size + 1, 1, none⟩ = some (.int .i64 0) ∧ (∀ i, wr.frozen? ⟨w.heap.size + 1, i, none⟩ = false) ∧ w.heap.size + 2 ≤ wr.heap.size ∧ Below w.heap.size w wr) (fun t _ => Q.length - (intOf t).toNat)
  case atStart => exact ⟨0, by omega, rfl, ⟨fun j y h => by omega⟩, g0, g1, F2.out, f3, F4.out⟩
  case round =>
    clear g0 g1 F2 F4 f2 f3 f4
    obtain ⟨k, hk, rfl, hno, d0, d1, df, hs, hbw⟩ := hrel
    have hs1 : w.heap.size + 1 < wr.heap.size := by omega
    have hs0 : w.heap.size < wr.heap.size := by omega
    have hne1 : w.heap.size + 1 ≠ wr.heap.size := by omega
    by_cases hlt : k < Q.length
    · obtain ⟨b, off, rfl, _, hbB, hc⟩ := (HR.out wr hbw) (by omega)
      obtain ⟨y, hy⟩ : ∃ y, Q[k]? = some y := ⟨_, List.getElem?_eq_getElem hlt⟩
      obtain ⟨e1, e2⟩ := hc k y hy
      obtain ⟨ya, yb⟩ := y
      simp only at e1 e2
      have ik : (k : Int) < (Q.length : Int) := by omega
      have HY := Kept.mk hy
      have HB := Kept.mk hbw
      have hb5 := below_box wr (.cells #[.int .i64 ya, .int .i64 (yb : Int)] 77)
      have HB5 := Kept.mk (hbw.trans (hb5.mono hbw.size))
      clear hc hy hbw hb5
      by_cases he : ya = id
      · subst he
        go_wp2
        refine bodyPost_ret (results_one rfl _ _ (w.heap.size + 1) (.int .i64 ya) (.int .i64 (yb : Int)) (.bool true) rfl rfl (by go_simp) (by go_simp)) rfl ⟨ya, yb, ?_, ?_⟩
        · rw [decide_eq_true (show ya ∈ Q.ids from List.mem_map.2 ⟨_, List.mem_of_getElem? HY.out, rfl⟩)]
        · exact ((HB.out.setCell (p := ⟨w.heap.size + 1, 0, none⟩) (Nat.le_succ _) _).setCell (p := ⟨w.heap.size + 1, 1, none⟩) (Nat.le_succ _) _).alloc (by simp; omega) _
      · have he2 : (ya == id) = false := by simp [he]
        have HE := Kept.mk he
        clear he
        go_wp2
        go_roundw
        case rel =>
          refine ⟨k + 1, by omega, by go_num, ⟨fun j y hj hy => ?_⟩, by go_simp, by go_simp, ?_, ?_, HB5.out⟩
          · by_cases hjk : j = k
            · subst hjk
              rw [HY.out] at hy
              cases hy
              exact HE.out
            · exact hno.out j y (by omega) hy
          · intro i; go_simp
          · simp; omega
        case measure => simp [intOf]; omega
    · have hke : k = Q.length := by omega
      subst hke
      go_wp2
      refine bodyPost_ret (results_one rfl _ _ (w.heap.size + 1) (.int .i64 0) (.int .i64 0) (.bool false) rfl rfl (by go_simp) (by go_simp)) rfl ⟨0, 0, ?_, ?_⟩
      · rw [decide_eq_false (fun hm : id ∈ Q.ids => by
          obtain ⟨y, hy, e⟩ := List.mem_map.1 hm
          obtain ⟨j, hj, e2⟩ := List.getElem_of_mem hy
          exact hno.out j y hj (by rw [List.getElem?_eq_getElem hj, e2]) e)]
      · exact (hbw.setCell (p := ⟨w.heap.size + 1, 0, none⟩) (Nat.le_succ _) _).setCell (p := ⟨w.heap.size + 1, 1, none⟩) (Nat.le_succ _) _
end Go.Proofs.Ytcchmkpodfjhcaa
