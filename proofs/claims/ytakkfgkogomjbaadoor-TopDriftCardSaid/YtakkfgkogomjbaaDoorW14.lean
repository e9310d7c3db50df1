/-
  The wheel: the walks of New, Len, Move.
-/
import Derived.Test.YtakkfgkogomjbaaDoorW13
import Derived.Carry
namespace Go.Proofs.YtakkfgkogomjbaaDoor
open Go.RowKit Go.Shelf Go.Maps Go.ChangeMaps
set_option linter.unusedVariables false
theorem make_tmr (n : Nat) (hn : n ≤ 4096) : ∃ X : Array Value, (∀ j, j < n * 3 → X[j]? = some (.int .i64 0)) ∧ ∀ W, (Instr.makeSlice 89 (.int .i64 n) (.int .i64 n)).run Tryd.prog W = .ok (.slice (some ⟨W.heap.size, 0, none⟩) n n) (W.alloc (.cells X 100)) := by
  obtain ⟨i0, hi, hz0, hz1, hz2⟩ := info_parts info_tmr
  refine ⟨madeCells (Value.agg #[.int .i64 0, .int .i64 0, .int .i64 0]).cells (n * 3), fun j hj => ?_, fun W => ?_⟩
  · unfold madeCells
    rw [Array.getElem?_map, Array.getElem?_range, if_pos hj]
    simp only [Option.map_some, Value.cells]
    have : j % 3 = 0 ∨ j % 3 = 1 ∨ j % 3 = 2 := by omega
    rcases this with h | h | h <;> simp [h]
  · have := run_make (P := Tryd.prog) W 89 100 i0 _ Tryd.underlying89 hi hz0 .i64 .i64 n n (by omega) (by omega) (by rw [hz2]; omega) (by omega)
    rw [hz1] at this
    simpa using this
theorem wlen_any {w : World} {lo hi wb I M p L K n : Nat} {now tu : Int} {A : List Tm} (h : WAt w lo hi wb I M p L K n now tu A) :
    Calls Tryd.prog 18 #[.pointer (some ⟨wb, 0, none⟩)] w fun e w' => e = .returned (.int .i64 (A.length : Nat)) ∧ w = w' := by
  obtain ⟨S, T, f, F, h, _⟩ := h.of
  obtain ⟨D, hD, hsz, _⟩ := h.mp
  obtain ⟨c0, c1, c2, c3, c4, c5, c6, c7, c8, wf⟩ := h.wc
  clear h
  go_enter Tryd.func18, Tryd.ntmps18
  go_wp2_with ((at_len; refine wpList_len_own _ rfl _ 90 rfl 3 3 Tryd.underlying90 _ M _ D rfl hD ?_))
  go_ret
  exact ⟨rfl, rfl⟩
theorem wnew_bad (now room : Int) (h : ¬ (0 ≤ now ∧ now ≤ 4503599627370496 ∧ 1 ≤ room ∧ room ≤ 4096)) (w : World) :
    Calls Tryd.prog 14 #[.int .i64 now, .int .i64 room] w fun e w' => e = .returned (.tuple #[.pointer none, .int .i64 1]) ∧ w = w' := by
  by_cases h1 : now < 0
  · have d0 : decide (now < 0) = true := decide_eq_true h1
    clear h h1
    go_enter Tryd.func14, Tryd.ntmps14
    go_wp2
    go_ret2
    exact ⟨rfl, rfl⟩
  · have d0 : decide (now < 0) = false := decide_eq_false h1
    by_cases h2 : 4503599627370496 < now
    · have d1 : decide (4503599627370496 < now) = true := decide_eq_true h2
      clear h h1 h2
      go_enter Tryd.func14, Tryd.ntmps14
      go_wp2
      go_ret2
      exact ⟨rfl, rfl⟩
    · have d1 : decide (4503599627370496 < now) = false := decide_eq_false h2
      have HB := new_bad room 258 (by omega) w
      clear h h1 h2
      go_enter Tryd.func14, Tryd.ntmps14
      go_wp2_with (go_at_call 13; refine (HB).mono ?_; rintro e w' ⟨rfl, rfl⟩)
      go_ret2
      exact ⟨rfl, rfl⟩
theorem new_listW (n : Nat) {q : Nat} (hq : q < 258) : (newS n 258).list (q : Int) = [] := by
  unfold PS.list newS
  rw [if_pos (by omega), Int.toNat_natCast, List.getElem?_replicate, if_pos hq]
  rfl
def WNewRes (w : World) (n : Nat) (now : Int) (e : Ending) (w' : World) : Prop :=
  ∃ hi wb I M p L K, e = .returned (.tuple #[.pointer (some ⟨wb, 0, none⟩), .int .i64 0]) ∧ WAt w' w.heap.size hi wb I M p L K n now 0 [] ∧ Below w.heap.size w w'
set_option maxHeartbeats 2000000 in
theorem wnew_any (now : Int) (n : Nat) (n0 : 0 ≤ now) (n1 : now ≤ 4503599627370496) (h1 : 1 ≤ n) (h2 : n ≤ 4096) (w : World) :
    Calls Tryd.prog 14 #[.int .i64 now, .int .i64 n] w (WNewRes w n now) := by
  have HN := new_walk n 258 h1 h2 (by omega) (by omega) w
  obtain ⟨X, hX, mk1⟩ := make_tmr n h2
  have hmm := @run_makeMap Tryd.prog
  have HX := Kept.mk hX
  have d0 : decide (now < 0) = false := decide_eq_false (by omega)
  have d1 : decide (4503599627370496 < now) = false := decide_eq_false (by omega)
  clear hX
  go_enter Tryd.func14, Tryd.ntmps14
  go_wp2_with fail
  refine HN.mono ?_
  rintro e w1 ⟨p, L, K, rfl, hP, hb⟩
  have HP := Kept.mk hP
  have HBl := Kept.mk hb
  clear hP hb HN
  go_wp2_with fail
  obtain ⟨W3, hW3⟩ : ∃ W3, W3 = ((w1.alloc (.cells X 100)).alloc (.map #[] 0)).alloc (.cells #[.int .i64 now, .int .i64 0, .pointer (some ⟨p, 0, none⟩), .slice (some ⟨w1.heap.size, 0, none⟩) n n, .map (some (w1.heap.size + 1)), .int .u64 0, .int .u64 0, .int .u64 0, .int .u64 0] 94) := ⟨_, rfl⟩
  rw [← hW3]
  go_ret2
  have hh := HP.out.hh
  have hs := HBl.out.size
  have b1 : Below w1.heap.size w1 (w1.alloc (.cells X 100)) := below_box _ _
  have z1 : (w1.alloc (.cells X 100)).heap.size = w1.heap.size + 1 := by simp
  have b2 : Below (w1.heap.size + 1) (w1.alloc (.cells X 100)) ((w1.alloc (.cells X 100)).alloc (.map #[] 0)) := by rw [← z1]; exact below_box _ _
  have z2 : ((w1.alloc (.cells X 100)).alloc (.map #[] 0)).heap.size = w1.heap.size + 2 := by simp
  have b3 : Below (w1.heap.size + 2) ((w1.alloc (.cells X 100)).alloc (.map #[] 0)) W3 := by rw [← z2, hW3]; exact below_box _ _
  have z3 : W3.heap.size = w1.heap.size + 3 := by rw [hW3]; simp
  have B1 : Below (w1.alloc (.cells X 100)).heap.size (w1.alloc (.cells X 100)) W3 := by rw [z1]; exact b2.trans (b3.mono (by omega))
  have B0 : Below w1.heap.size w1 W3 := (b1.trans (b2.mono (by omega))).trans (b3.mono (by omega))
  have hM : MapIs W3 (w1.heap.size + 1) 0 (fun _ => none) := by
    have := MapIs.new (w1.alloc (.cells X 100))
    rw [z1] at this
    exact this.kept (b3.block _ (by omega))
  have hQ : ∀ (i : Nat) (v : Value), (#[Value.int .i64 now, .int .i64 0, .pointer (some ⟨p, 0, none⟩), .slice (some ⟨w1.heap.size, 0, none⟩) n n, .map (some (w1.heap.size + 1)), .int .u64 0, .int .u64 0, .int .u64 0, .int .u64 0])[i]? = some v → W3.cell? ⟨w1.heap.size + 2, i, none⟩ = some v := fun i v hv => by
    have := box_cell (w := (w1.alloc (.cells X 100)).alloc (.map #[] 0)) (w1 := W3) (by rw [hW3]; exact Below.refl _ _) i v hv
    rw [z2] at this; exact this
  have hF : ∀ i : Nat, W3.frozen? ⟨w1.heap.size + 2, i, none⟩ = false := fun i => by
    have := box_free (w := (w1.alloc (.cells X 100)).alloc (.map #[] 0)) (w1 := W3) (by rw [hW3]; exact Below.refl _ _) i
    rw [z2] at this; exact this
  have hnil : ∀ q : Nat, q < 258 → ∀ x, x ∉ (newS n 258).list (q : Int) := fun q hq x hx => by rw [new_listW n hq] at hx; cases hx
  refine ⟨w1.heap.size + 3, w1.heap.size + 2, w1.heap.size, w1.heap.size + 1, p, L, K, rfl, ⟨newS n 258, fun _ => ⟨0, 0, 0⟩, fun _ => none, fun _ => 0, ⟨⟨by omega, by omega, by omega, by omega, by omega, by omega, by omega, by omega, by omega, by omega⟩, by omega, HP.out.below B0, ⟨hQ 0 _ rfl, hQ 1 _ rfl, hQ 2 _ rfl, hQ 3 _ rfl, hQ 4 _ rfl, hQ 5 _ rfl, hQ 6 _ rfl, hQ 7 _ rfl, hQ 8 _ rfl, hF⟩, (NB.new HX.out B1).congr (fun j _ => ?_), hM, ⟨?_, fun q hq x hx => (hnil q hq x hx).elim, fun t ht => (by cases ht), List.nodup_nil, fun t ht => (by cases ht), List.Pairwise.nil, fun t ht => (by cases ht)⟩, fun id x => ⟨fun h => (by cases h), fun ⟨q, hq, hx, _⟩ => (hnil q hq x hx).elim⟩, fun l hl => (by decide), fun l i hl hi _ => ?_, n0, n1, by omega, by omega⟩, fun q hq x hx => (hnil q hq x hx).elim⟩, HBl.out.trans (B0.mono hs)⟩
  · unfold tmN; repeat' split
    all_goals rfl
  · show (List.range n).reverse.length + ([] : List Tm).length = n; rw [List.length_reverse, List.length_range]; rfl
  · rw [new_listW n (by omega)]; simp
/-- The time goes on, and what is due is told. -/
theorem wmove_any {w : World} {lo hi wb I M p L K n : Nat} {now tu : Int} {A : List Tm} (h : WAt w lo hi wb I M p L K n now tu A) (hT : Tab w) (hlo : 0 < lo) (hwf : ∀ t ∈ A, (Lit.int .i64 t.id).wf = true) (t : Int) (ht : now ≤ t ∧ t ≤ 4503599627370496) :
    Calls Tryd.prog 17 #[.pointer (some ⟨wb, 0, none⟩), .int .i64 t] w fun e w' => ∃ D B c, e = .returned (.tuple #[.slice B D.length c, .int .i64 0]) ∧ Srt D ∧ D.Perm (A.filter fun y => decide (y.du ≤ t)) ∧ DuR w' B D ∧ WAt w' lo hi wb I M p L K n t tu (A.filter fun y => decide (t < y.du)) ∧ Kp lo hi w w' := by
  have HS := wset_any h hT hlo t
  rw [if_pos ht, if_pos ht] at HS
  have HWF := Kept.mk hwf
  clear h hT hwf ht
  go_enter Tryd.func17, Tryd.ntmps17
  go_wp2_with fail
  refine HS.mono ?_
  rintro e w1 ⟨rfl, hw1, hk1⟩
  have HT := wtold_all hw1 HWF.out
  have HK1 := Kept.mk hk1
  clear HS hw1 hk1
  go_wp2_with fail
  refine HT.mono ?_
  rintro e w2 ⟨D, B, c, rfl, h1, h2, h3, h4, h5⟩
  have HFIN := Kept.mk (And.intro h1 (And.intro h2 (And.intro h3 (And.intro h4 (HK1.out.trans h5)))))
  clear h1 h2 h3 h4 h5 HT
  go_wp2
  go_ret2
  exact ⟨D, B, c, rfl, HFIN.out⟩
theorem wmove_bad {w : World} {lo hi wb I M p L K n : Nat} {now tu : Int} {A : List Tm} (h : WAt w lo hi wb I M p L K n now tu A) (hT : Tab w) (hlo : 0 < lo) (t : Int) (ht : ¬ (now ≤ t ∧ t ≤ 4503599627370496)) :
    Calls Tryd.prog 17 #[.pointer (some ⟨wb, 0, none⟩), .int .i64 t] w fun e w' => e = .returned (.tuple #[.slice none 0 0, .int .i64 1]) ∧ WAt w' lo hi wb I M p L K n now tu A ∧ Kp lo hi w w' := by
  have HS := wset_any h hT hlo t
  rw [if_neg ht, if_neg ht] at HS
  clear h hT ht
  go_enter Tryd.func17, Tryd.ntmps17
  go_wp2_with fail
  refine HS.mono ?_
  rintro e w1 ⟨rfl, hw1, hk1⟩
  have HF := Kept.mk (And.intro hw1 hk1)
  clear HS hw1 hk1
  go_wp2
  go_ret2
  exact ⟨rfl, HF.out⟩
end Go.Proofs.YtakkfgkogomjbaaDoor
