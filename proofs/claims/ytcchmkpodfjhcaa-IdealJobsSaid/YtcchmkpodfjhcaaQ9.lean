/-
  The walk of ready.New.
-/
import Derived.Test.YtcchmkpodfjhcaaQ7
import Derived.Test.YtcchmkpodfjhcaaIR
import Derived.Test.YtcchmkpodfjhcaaP5
import Derived.Carry
namespace Go.Proofs.Ytcchmkpodfjhcaa
open Go.RowKit Go.Shelf Go.Maps Go.ChangeMaps
set_option linter.unusedVariables false
theorem make_ints (n : Nat) (hn : n ≤ 4096) : ∃ X : Array Value, (∀ j, j < n → X[j]? = some (.int .i64 0)) ∧ ∀ W, (Instr.makeSlice 28 (.int .i64 n) (.int .i64 n)).run Try.prog W = .ok (.slice (some ⟨W.heap.size, 0, none⟩) n n) (W.alloc (.cells X 3)) := by
  obtain ⟨i0, hi, hz0, hz1, hz2⟩ := info_parts info_int
  refine ⟨madeCells (Value.int .i64 0).cells n, fun j hj => ?_, fun W => ?_⟩
  · unfold madeCells
    rw [Array.getElem?_map, Array.getElem?_range, if_pos hj]
    simp only [Option.map_some, Value.cells]
    have : j % 1 = 0 := Nat.mod_one j
    simp [this]
  · have := run_make (P := Try.prog) W 28 3 i0 _ Try.underlying28 hi hz0 .i64 .i64 n n (by omega) (by omega) (by rw [hz2]; omega) (by omega)
    rw [hz1] at this
    simpa using this
theorem qnew_bad (n : Int) (h : ¬ (1 ≤ n ∧ n ≤ 4096)) (w : World) :
    Calls Try.prog 33 #[.int .i64 n] w fun e w' => e = .returned (.tuple #[.pointer none, .int .i64 1]) ∧ w = w' := by
  have HB := new_bad n 64 (by omega) w
  go_enter Try.func33, Try.ntmps33
  go_wp2_with (go_at_call 15; refine (HB).mono ?_; rintro e w' ⟨rfl, rfl⟩)
  go_ret2
  exact ⟨rfl, rfl⟩
theorem new_list (n : Nat) {q : Nat} (hq : q < 64) : (newS n 64).list (q : Int) = [] := by
  unfold PS.list newS
  rw [if_pos (by omega), Int.toNat_natCast, List.getElem?_replicate, if_pos hq]
  rfl
def NewRes (w : World) (n : Nat) (e : Ending) (w' : World) : Prop :=
  ∃ hi qb I M p L K, e = .returned (.tuple #[.pointer (some ⟨qb, 0, none⟩), .int .i64 0]) ∧ QAt w' w.heap.size hi qb I M p L K n [] ∧ Below w.heap.size w w'
theorem qnew_any (n : Nat) (h1 : 1 ≤ n) (h2 : n ≤ 4096) (w : World) :
    Calls Try.prog 33 #[.int .i64 n] w (NewRes w n) := by
  have HN := new_walk n 64 h1 h2 (by omega) (by omega) w
  obtain ⟨X, hX, mk1⟩ := make_ints n h2
  have hmm := @run_makeMap Try.prog
  have HX := Kept.mk hX
  clear hX
  go_enter Try.func33, Try.ntmps33
  go_wp2_with fail
  refine HN.mono ?_
  rintro e w1 ⟨p, L, K, rfl, hP, hb⟩
  have HP := Kept.mk hP
  have HBl := Kept.mk hb
  clear hP hb HN
  go_wp2_with fail
  obtain ⟨W3, hW3⟩ : ∃ W3, W3 = ((w1.alloc (.cells X 3)).alloc (.map #[] 0)).alloc (.cells #[.pointer (some ⟨p, 0, none⟩), .slice (some ⟨w1.heap.size, 0, none⟩) n n, .map (some (w1.heap.size + 1)), .int .u64 0] 135) := ⟨_, rfl⟩
  rw [← hW3]
  go_ret2
  have hh := HP.out.hh
  have hs := HBl.out.size
  have b1 : Below w1.heap.size w1 (w1.alloc (.cells X 3)) := below_box _ _
  have z1 : (w1.alloc (.cells X 3)).heap.size = w1.heap.size + 1 := by simp
  have b2 : Below (w1.heap.size + 1) (w1.alloc (.cells X 3)) ((w1.alloc (.cells X 3)).alloc (.map #[] 0)) := by rw [← z1]; exact below_box _ _
  have z2 : ((w1.alloc (.cells X 3)).alloc (.map #[] 0)).heap.size = w1.heap.size + 2 := by simp
  have b3 : Below (w1.heap.size + 2) ((w1.alloc (.cells X 3)).alloc (.map #[] 0)) W3 := by rw [← z2, hW3]; exact below_box _ _
  have z3 : W3.heap.size = w1.heap.size + 3 := by rw [hW3]; simp
  have B1 : Below (w1.alloc (.cells X 3)).heap.size (w1.alloc (.cells X 3)) W3 := by rw [z1]; exact b2.trans (b3.mono (by omega))
  have B0 : Below w1.heap.size w1 W3 := (b1.trans (b2.mono (by omega))).trans (b3.mono (by omega))
  have hM : MapIs W3 (w1.heap.size + 1) 0 (fun _ => none) := by
    have := MapIs.new (w1.alloc (.cells X 3))
    rw [z1] at this
    exact this.kept (b3.block _ (by omega))
  have hQ : ∀ (i : Nat) (v : Value), (#[Value.pointer (some ⟨p, 0, none⟩), .slice (some ⟨w1.heap.size, 0, none⟩) n n, .map (some (w1.heap.size + 1)), .int .u64 0])[i]? = some v → W3.cell? ⟨w1.heap.size + 2, i, none⟩ = some v := fun i v hv => by
    have := box_cell (w := (w1.alloc (.cells X 3)).alloc (.map #[] 0)) (w1 := W3) (by rw [hW3]; exact Below.refl _ _) i v hv
    rw [z2] at this; exact this
  have hF : ∀ i : Nat, W3.frozen? ⟨w1.heap.size + 2, i, none⟩ = false := fun i => by
    have := box_free (w := (w1.alloc (.cells X 3)).alloc (.map #[] 0)) (w1 := W3) (by rw [hW3]; exact Below.refl _ _) i
    rw [z2] at this; exact this
  refine ⟨w1.heap.size + 3, w1.heap.size + 2, w1.heap.size, w1.heap.size + 1, p, L, K, rfl, ⟨newS n 64, fun _ => 0, fun _ => none, 0, ⟨by omega, by omega, by omega, by omega, by omega, by omega, by omega, by omega, by omega, by omega⟩, by omega, HP.out.below B0, ⟨hQ 0 _ rfl, hQ 1 _ rfl, hQ 2 _ rfl, hQ 3 _ rfl, hF⟩, NB.new HX.out B1, hM, con_new n _, ?_, by omega, ?_⟩, HBl.out.trans (B0.mono hs)⟩
  · intro id x
    constructor
    · intro h; cases h
    · rintro ⟨q, hq, hx, _⟩
      rw [new_list n hq] at hx
      cases hx
  · intro i hi
    rw [new_list n hi]
    simp
end Go.Proofs.Ytcchmkpodfjhcaa
