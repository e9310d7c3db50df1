/-
  The walks of the documents' tests whether two lists are one.
-/
import Derived.Test.YtcchmkpodfjhcaaM9
import Derived.Deep.RegionHeld3
import Derived.StillTailTactics
import Derived.Deep.QuietTactic
import Derived.BigQuiet
import Derived.ChangeKeysEq
import Derived.Laws.StructEq
namespace Go.Proofs.Ytcchmkpodfjhcaa
open Go.RowKit
set_option linter.unusedVariables false
instance : DecidableEq Q3 := fun x y => by
  obtain ⟨a, b, c⟩ := x
  obtain ⟨a', b', c'⟩ := y
  exact decidable_of_iff (a = a' ∧ b = b' ∧ c = c') (by simp)
theorem fields_ivl : (Try.prog.fieldsOf 110).toList.map (fun f => (f.name, f.type, f.offset)) = [("From", 2, 0), ("To", 2, 1)] := by kernel_rfl
theorem fields_pc : (Try.prog.fieldsOf 108).toList.map (fun f => (f.name, f.type, f.offset)) = [("Prio", 3, 0), ("At", 2, 1), ("Cost", 2, 2)] := by kernel_rfl
theorem eq_ivl (d : Nat) (a b a' b' : Int) (w : World) : (Op.equalIn (d + 2) 110 (.agg #[.int .i64 a, .int .i64 b]) (.agg #[.int .i64 a', .int .i64 b'])).run Try.prog w = .ok (a == a' && b == b') w := by
  have hu : Try.prog.underlying 110 = some (.struct (Try.prog.fieldsOf 110)) := by kernel_rfl
  have hp : Try.prog.stoodInHeld 110 = false := by kernel_rfl
  rw [run_equalIn_struct w (d + 1) 110 _ _ hu hp]
  have h := fields_ivl
  generalize (Try.prog.fieldsOf 110).toList = fs at h
  rcases fs with _ | ⟨f1, _ | ⟨f2, _ | ⟨f3, r⟩⟩⟩ <;> simp at h
  obtain ⟨⟨h1, h2, h3⟩, h4, h5, h6⟩ := h
  simp [Op.eqFields, h1, h2, h3, h4, h5, h6, part, isAgg, run_underlying Try.underlying2, run_equalIn_int w d 2 .i64 .i64 _ _ Try.underlying2]
  by_cases e1 : a = a' <;> by_cases e2 : b = b' <;> simp [e1, e2]
theorem eq_pc (d : Nat) (a b c a' b' c' : Int) (w : World) : (Op.equalIn (d + 2) 108 (.agg #[.int .i64 a, .int .i64 b, .int .i64 c]) (.agg #[.int .i64 a', .int .i64 b', .int .i64 c'])).run Try.prog w = .ok (a == a' && (b == b' && c == c')) w := by
  have hu : Try.prog.underlying 108 = some (.struct (Try.prog.fieldsOf 108)) := by kernel_rfl
  have hp : Try.prog.stoodInHeld 108 = false := by kernel_rfl
  rw [run_equalIn_struct w (d + 1) 108 _ _ hu hp]
  have h := fields_pc
  generalize (Try.prog.fieldsOf 108).toList = fs at h
  rcases fs with _ | ⟨f1, _ | ⟨f2, _ | ⟨f3, _ | ⟨f4, r⟩⟩⟩⟩ <;> simp at h
  obtain ⟨⟨h1, h2, h3⟩, ⟨h4, h5, h6⟩, h7, h8, h9⟩ := h
  simp [Op.eqFields, h1, h2, h3, h4, h5, h6, h7, h8, h9, part, isAgg, run_underlying Try.underlying2, run_underlying Try.underlying3, run_equalIn_int w d 2 .i64 .i64 _ _ Try.underlying2, run_equalIn_int w d 3 .i64 .i64 _ _ Try.underlying3]
  by_cases e1 : a = a' <;> by_cases e2 : b = b' <;> by_cases e3 : c = c' <;> simp [e1, e2, e3]
theorem neq_ivl {a b a' b' : Int} {v : Bool} (hv : v = !(a == a' && b == b')) (w : World) : (binOp .neq 110 (.agg #[.int .i64 a, .int .i64 b]) (.agg #[.int .i64 a', .int .i64 b'])).run Try.prog w = .ok (.bool v) w := by
  rw [run_neq_struct w, eq_ivl 9998 a b a' b' w, hv]
  rfl
theorem neq_pc {a b c a' b' c' : Int} {v : Bool} (hv : v = !(a == a' && (b == b' && c == c'))) (w : World) : (binOp .neq 108 (.agg #[.int .i64 a, .int .i64 b, .int .i64 c]) (.agg #[.int .i64 a', .int .i64 b', .int .i64 c'])).run Try.prog w = .ok (.bool v) w := by
  rw [run_neq_struct w, eq_pc 9998 a b c a' b' c' w, hv]
  rfl
theorem guard_ivl : Try.prog.eqGuardType Try.prog.depth 110 = false := by kernel_rfl
theorem guard_pc : Try.prog.eqGuardType Try.prog.depth 108 = false := by kernel_rfl
set_option maxHeartbeats 1000000 in
theorem same13_any (A B : Option Addr) (xs ys : List Int) (c d : Nat) (w : World) (hx : Ints w w.heap.size A xs) (hy : Ints w w.heap.size B ys) (hl : xs.length ≤ 9223372036854775807) (hl2 : ys.length ≤ 9223372036854775807) :
    Calls Try.prog 64 #[.slice A xs.length c, .slice B ys.length d] w fun e w' => e = .returned (.bool (decide (xs = ys))) ∧ ∃ n, w' = w.drewN n := by
  by_cases hn : xs.length = ys.length
  · have hn' : ((xs.length : Int) != (ys.length : Int)) = false := by simp; omega
    have HN := Lib.hid hn
    clear hn
    go_enter Try.func64, Try.ntmps64
    go_wp2
    go_loopw [13] (fun i wr => ∃ (k n : Nat), k ≤ xs.length ∧ i = .int .i64 k ∧ wr = w.drewN n ∧ Hid (xs.take k = ys.take k)) (fun i _ => xs.length - (intOf i).toNat)
    case atStart => exact ⟨0, 0, by omega, rfl, rfl, by simp [Hid]⟩
    case round =>
      obtain ⟨k, n, hk, rfl, rfl, hs⟩ := hrel
      by_cases hlt : k < xs.length
      · have hlt2 : k < ys.length := by have := HN.out; omega
        obtain ⟨b, off, rfl, hbB, hc⟩ := hx (by omega)
        obtain ⟨b2, off2, rfl, hbB2, hc2⟩ := hy (by omega)
        have h1 := hc k hlt
        have h2 := hc2 k hlt2
        obtain ⟨x, ex⟩ : ∃ t, t = xs[k]?.getD 0 := ⟨_, rfl⟩
        obtain ⟨y, ey⟩ : ∃ t, t = ys[k]?.getD 0 := ⟨_, rfl⟩
        rw [← ex] at h1
        rw [← ey] at h2
        have i1 : ((k : Int)) < (xs.length : Int) := by omega
        have i2 : ((k : Int)) < (ys.length : Int) := by omega
        have tx : xs.take (k + 1) = xs.take k ++ [x] := by rw [List.take_succ_eq_append_getElem hlt, ex]; simp [hlt]
        have ty : ys.take (k + 1) = ys.take k ++ [y] := by rw [List.take_succ_eq_append_getElem hlt2, ey]; simp [hlt2]
        have TX := Lib.hid tx
        have TY := Lib.hid ty
        clear hc hc2 ex ey tx ty
        by_cases hxy : x = y
        · subst hxy
          go_wp2
          go_quiet (fail)
          go_wp2
          go_roundw
          case rel => exact ⟨k + 1, _, by omega, by go_num, rfl, by unfold Hid; rw [TX.out, TY.out, hs.out]⟩
          case measure => simp [intOf]; omega
        · have hxy' : (x != y) = true := by simp [hxy]
          have HXY := Lib.hid hxy
          clear hxy
          go_wp2
          go_quiet (fail)
          go_wp2
          go_ret
          exact ⟨ret_bool (by symm; simp only [decide_eq_false_iff_not]; intro he; have := TX.out; rw [he, TY.out] at this; rw [he] at hs; simp at this; exact HXY.out this.symm), _, by rw [World.drewN_drewN]⟩
      · go_wp2
        go_ret
        exact ⟨ret_bool (by have h1 := hs.out; have h2 := HN.out; rw [List.take_of_length_le (by omega), List.take_of_length_le (by omega)] at h1; simp [h1]), _, rfl⟩
  · have hn' : ((xs.length : Int) != (ys.length : Int)) = true := by simp; omega
    have HN := Lib.hid hn
    clear hn
    go_enter Try.func64, Try.ntmps64
    go_wp2
    go_ret
    exact ⟨ret_bool (by symm; simp only [decide_eq_false_iff_not]; intro he; exact HN.out (by rw [he])), 0, rfl⟩

set_option maxHeartbeats 2000000 in
theorem same40_any (A B : Option Addr) (xs ys : List (Nat × Nat)) (c d : Nat) (w : World) (hx : RI w w.heap.size A xs) (hy : RI w w.heap.size B ys) (hl : xs.length ≤ 9223372036854775807) (hl2 : ys.length ≤ 9223372036854775807) :
    Calls Try.prog 65 #[.slice A xs.length c, .slice B ys.length d] w fun e w' => e = .returned (.bool (decide (xs = ys))) ∧ ∃ n, w' = w.drewN n := by
  by_cases hn : xs.length = ys.length
  · have hn' : ((xs.length : Int) != (ys.length : Int)) = false := by simp; omega
    have HN := Lib.hid hn
    clear hn
    go_enter Try.func65, Try.ntmps65
    go_wp2
    go_loopw [13] (fun i wr => ∃ (k n : Nat), k ≤ xs.length ∧ i = .int .i64 k ∧ wr = w.drewN n ∧ Hid (xs.take k = ys.take k)) (fun i _ => xs.length - (intOf i).toNat)
    case atStart => exact ⟨0, 0, by omega, rfl, rfl, by simp [Hid]⟩
    case round =>
      obtain ⟨k, n, hk, rfl, rfl, hs⟩ := hrel
      by_cases hlt : k < xs.length
      · have hlt2 : k < ys.length := by have := HN.out; omega
        obtain ⟨b, off, rfl, hbB, hc⟩ := hx (by omega)
        obtain ⟨b2, off2, rfl, hbB2, hc2⟩ := hy (by omega)
        obtain ⟨x, ex⟩ : ∃ x, xs[k]? = some x := ⟨xs[k], List.getElem?_eq_getElem hlt⟩
        obtain ⟨y, ey⟩ : ∃ y, ys[k]? = some y := ⟨ys[k], List.getElem?_eq_getElem hlt2⟩
        have h1 := hc k x ex
        have h2 := hc2 k y ey
        have i1 : ((k : Int)) < (xs.length : Int) := by omega
        have i2 : ((k : Int)) < (ys.length : Int) := by omega
        have tx : xs.take (k + 1) = xs.take k ++ [x] := by rw [List.take_add_one, ex]; rfl
        have ty : ys.take (k + 1) = ys.take k ++ [y] := by rw [List.take_add_one, ey]; rfl
        have TX := Lib.hid tx
        have TY := Lib.hid ty
        obtain ⟨xa, xb⟩ := x
        obtain ⟨ya, yb⟩ := y
        obtain ⟨h1, h3⟩ := h1
        obtain ⟨h2, h4⟩ := h2
        simp only at h1 h2 h3 h4
        clear hc hc2 ex ey tx ty
        by_cases hxy : xa = ya ∧ xb = yb
        · obtain ⟨rfl, rfl⟩ := hxy
          have gu := guard_ivl
          have nq := fun w => neq_ivl (a := (xa : Int)) (b := (xb : Int)) (a' := (xa : Int)) (b' := (xb : Int)) (v := false) (by simp) w
          go_wp2_with fail
          go_quiet (fail)
          go_wp2
          go_roundw
          case rel => exact ⟨k + 1, _, by omega, by go_num, rfl, by unfold Hid; rw [TX.out, TY.out, hs.out]⟩
          case measure => simp [intOf]; omega
        · have HXY := Lib.hid hxy
          have gu := guard_ivl
          have nq := fun w => neq_ivl (a := (xa : Int)) (b := (xb : Int)) (a' := (ya : Int)) (b' := (yb : Int)) (v := true) (by
            symm
            rw [Bool.not_eq_true', Bool.and_eq_false_iff]
            by_cases h : xa = ya
            · right; simp; intro h'; exact hxy ⟨h, by omega⟩
            · left; simp; omega) w
          clear hxy
          go_wp2_with fail
          go_quiet (fail)
          go_wp2
          go_ret
          exact ⟨ret_bool (by symm; simp only [decide_eq_false_iff_not]; intro he; have := TX.out; rw [he, TY.out] at this; rw [he] at hs; have h3 := (List.append_inj' this rfl).2; simp at h3; exact HXY.out ⟨h3.1.symm, h3.2.symm⟩), _, by rw [World.drewN_drewN]⟩
      · go_wp2
        go_ret
        exact ⟨ret_bool (by have h1 := hs.out; have h2 := HN.out; rw [List.take_of_length_le (by omega), List.take_of_length_le (by omega)] at h1; simp [h1]), _, rfl⟩
  · have hn' : ((xs.length : Int) != (ys.length : Int)) = true := by simp; omega
    have HN := Lib.hid hn
    clear hn
    go_enter Try.func65, Try.ntmps65
    go_wp2
    go_ret
    exact ⟨ret_bool (by symm; simp only [decide_eq_false_iff_not]; intro he; exact HN.out (by rw [he])), 0, rfl⟩
set_option maxHeartbeats 2000000 in
theorem sameP_any (A B : Option Addr) (xs ys : List Q3) (c d : Nat) (w : World) (hx : R3 w w.heap.size A xs) (hy : R3 w w.heap.size B ys) (hl : xs.length ≤ 9223372036854775807) (hl2 : ys.length ≤ 9223372036854775807) :
    Calls Try.prog 68 #[.slice A xs.length c, .slice B ys.length d] w fun e w' => e = .returned (.bool (decide (xs = ys))) ∧ ∃ n, w' = w.drewN n := by
  by_cases hn : xs.length = ys.length
  · have hn' : ((xs.length : Int) != (ys.length : Int)) = false := by simp; omega
    have HN := Lib.hid hn
    clear hn
    go_enter Try.func68, Try.ntmps68
    go_wp2
    go_loopw [13] (fun i wr => ∃ (k n : Nat), k ≤ xs.length ∧ i = .int .i64 k ∧ wr = w.drewN n ∧ Hid (xs.take k = ys.take k)) (fun i _ => xs.length - (intOf i).toNat)
    case atStart => exact ⟨0, 0, by omega, rfl, rfl, by simp [Hid]⟩
    case round =>
      obtain ⟨k, n, hk, rfl, rfl, hs⟩ := hrel
      by_cases hlt : k < xs.length
      · have hlt2 : k < ys.length := by have := HN.out; omega
        obtain ⟨b, off, rfl, hbB, hc⟩ := hx (by omega)
        obtain ⟨b2, off2, rfl, hbB2, hc2⟩ := hy (by omega)
        obtain ⟨x, ex⟩ : ∃ x, xs[k]? = some x := ⟨xs[k], List.getElem?_eq_getElem hlt⟩
        obtain ⟨y, ey⟩ : ∃ y, ys[k]? = some y := ⟨ys[k], List.getElem?_eq_getElem hlt2⟩
        have h1 := hc k x ex
        have h2 := hc2 k y ey
        have i1 : ((k : Int)) < (xs.length : Int) := by omega
        have i2 : ((k : Int)) < (ys.length : Int) := by omega
        have tx : xs.take (k + 1) = xs.take k ++ [x] := by rw [List.take_add_one, ex]; rfl
        have ty : ys.take (k + 1) = ys.take k ++ [y] := by rw [List.take_add_one, ey]; rfl
        have TX := Lib.hid tx
        have TY := Lib.hid ty
        obtain ⟨xa, xb, xc⟩ := x
        obtain ⟨ya, yb, yc⟩ := y
        obtain ⟨h1, h3, h5⟩ := h1
        obtain ⟨h2, h4, h6⟩ := h2
        simp only at h1 h2 h3 h4 h5 h6
        clear hc hc2 ex ey tx ty
        by_cases hxy : xa = ya ∧ xb = yb ∧ xc = yc
        · obtain ⟨rfl, rfl, rfl⟩ := hxy
          have gu := guard_pc
          have nq := fun w => neq_pc (a := xa) (b := xb) (c := xc) (a' := xa) (b' := xb) (c' := xc) (v := false) (by simp) w
          go_wp2_with fail
          go_quiet (fail)
          go_wp2
          go_roundw
          case rel => exact ⟨k + 1, _, by omega, by go_num, rfl, by unfold Hid; rw [TX.out, TY.out, hs.out]⟩
          case measure => simp [intOf]; omega
        · have HXY := Lib.hid hxy
          have gu := guard_pc
          have nq := fun w => neq_pc (a := xa) (b := xb) (c := xc) (a' := ya) (b' := yb) (c' := yc) (v := true) (by
            symm
            rw [Bool.not_eq_true']
            cases h : (xa == ya && (xb == yb && xc == yc)) with
            | false => rfl
            | true => simp at h; exact absurd h hxy) w
          clear hxy
          go_wp2_with fail
          go_quiet (fail)
          go_wp2
          go_ret
          exact ⟨ret_bool (by symm; simp only [decide_eq_false_iff_not]; intro he; have := TX.out; rw [he, TY.out] at this; rw [he] at hs; have h3 := (List.append_inj' this rfl).2; simp at h3; exact HXY.out ⟨h3.1.symm, h3.2.1.symm, h3.2.2.symm⟩), _, by rw [World.drewN_drewN]⟩
      · go_wp2
        go_ret
        exact ⟨ret_bool (by have h1 := hs.out; have h2 := HN.out; rw [List.take_of_length_le (by omega), List.take_of_length_le (by omega)] at h1; simp [h1]), _, rfl⟩
  · have hn' : ((xs.length : Int) != (ys.length : Int)) = true := by simp; omega
    have HN := Lib.hid hn
    clear hn
    go_enter Try.func68, Try.ntmps68
    go_wp2
    go_ret
    exact ⟨ret_bool (by symm; simp only [decide_eq_false_iff_not]; intro he; exact HN.out (by rw [he])), 0, rfl⟩
end Go.Proofs.Ytcchmkpodfjhcaa
