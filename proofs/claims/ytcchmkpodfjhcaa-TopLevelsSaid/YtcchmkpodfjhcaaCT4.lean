/-
  The walk of ceiling.New.
-/
import Derived.Test.YtcchmkpodfjhcaaCF
import Derived.Test.YtcchmkpodfjhcaaCT3
import Derived.Laws.AppendOwnNone
namespace Go.Proofs.Ytcchmkpodfjhcaa
open Go.RowKit
set_option linter.unusedVariables false
def mxC (y : Mx) : List Value := [.int .i64 y.1, .bool y.2.1, .int .i64 y.2.2]
theorem mxC_length : ∀ T : List Mx, (T.flatMap mxC).length = T.length * 3
  | [] => rfl
  | y :: r => by rw [List.flatMap_cons, List.length_append, mxC_length r]; simp [mxC]; omega
theorem mxC_at : ∀ (T : List Mx) (j o : Nat) (y : Mx), T[j]? = some y → o < 3 → (T.flatMap mxC)[j * 3 + o]? = (mxC y)[o]?
  | z :: r, 0, o, y, h, ho => by
    simp only [List.getElem?_cons_zero, Option.some.injEq] at h
    subst h
    rw [List.flatMap_cons, List.getElem?_append_left (by simp [mxC]; omega)]
    simp
  | z :: r, j + 1, o, y, h, ho => by
    have := mxC_at r j o y (by simpa using h) ho
    rw [List.flatMap_cons, List.getElem?_append_right (by simp [mxC]; omega)]
    rw [← this]
    congr 1
    simp [mxC]
    omega
theorem info_mx : (Try.prog.info? 141).map (fun i => (i.zero, i.size, i.bytes)) = some (some (.agg #[.int .i64 0, .bool false, .int .i64 0]), 3, 24) := by kernel_rfl
theorem cell_mx_at (w : World) (x : Int) (T : TypeId) (m : Nat) (hm : m = w.heap.size) : ∀ j u, [Value.int .i64 x, .bool false, .int .i64 0][j]? = some u → (w.alloc (.cells #[.int .i64 x, .bool false, .int .i64 0] T)).cell? ((⟨m, 0, none⟩ : Addr).add j) = some u := by
  subst hm
  intro j u hj
  match j, hj with
  | 0, hj =>
    simp at hj
    subst hj
    simp [Addr.add]
  | 1, hj =>
    simp at hj
    subst hj
    simp [Addr.add]
  | 2, hj =>
    simp at hj
    subst hj
    simp [Addr.add]
theorem tab_rows {w : World} {base c : Nat} {A : Option Addr} {T : List Mx} (h : w.ownsRow base 141 3 (.slice A T.length c) T.length (T.flatMap mxC)) (h0 : 0 < T.length) : ∃ g cur, A = some ⟨g, 0, none⟩ ∧ base ≤ g ∧ g < w.heap.size ∧ w.heap[g]? = some (.cells cur 141) ∧ ∀ j y, T[j]? = some y → MxAt cur j y := by
  rcases h.2 with ⟨_, e⟩ | ⟨g, cap, cur, e, hB, hg, h1, h2, h3, h4⟩
  · omega
  · injection e with e1 _ _
    subst e1
    refine ⟨g, cur, rfl, hB, lt_of_block hg, hg, fun j y hy => ?_⟩
    have hj : j < T.length := (List.getElem?_eq_some_iff.1 hy).1
    have key : ∀ o, o < 3 → cur[j * 3 + o]? = (mxC y)[o]? := fun o ho => by
      rw [← mxC_at T j o y hy ho, ← h4, List.getElem?_take, if_pos (by omega)]
      simp
    exact ⟨key 0 (by omega), key 1 (by omega), key 2 (by omega)⟩
theorem own_setT {W : World} {base b o : Nat} {e : TypeId} {sz k : Nat} {v : Value} {xs : List Value} (h : W.ownsRow base e sz v k xs) (hb : b < base) (u : Value) : (W.setCell ⟨b, o, none⟩ u).ownsRow base e sz v k xs :=
  h.kept (row := some b) ⟨rfl, rfl, rfl, by simp, fun i _ hi => Below.heap_setCell _ _ _ _ (fun e => hi (by rw [e]))⟩ (by
    cases hv : v.ownBlock with
    | none => simp
    | some g => have := (h.lt g hv).1; simp; omega)
theorem grow_block {a w' : World} {v : Value} {base n sz b : Nat} {e : TypeId} {xs : List Value} (hg : a.grownBy w' v.ownBlock) (hown : a.ownsRow base e sz v n xs) (hb : b < base) (hs : b < a.heap.size) : w'.heap[b]? = a.heap[b]? :=
  (Below.refl (b + 1) a).grown hg (by omega) (fun k hk => Nat.le_trans hb (hown.lt k hk).1) |>.block b (Nat.lt_succ_self b)
def TNew (w : World) (T : List Mx) (e : Ending) (w' : World) : Prop :=
  e = .returned (.tuple #[.pointer (some ⟨w.heap.size, 0, none⟩), .int .i64 0]) ∧ (∃ A c, TabAt w' w.heap.size w'.heap.size w.heap.size T A c) ∧ Below w.heap.size w w'
theorem newT_take (cs : List Int) (k : Nat) (c : Int) (h : cs[k]? = some c) : newT (cs.take (k + 1)) = newT (cs.take k) ++ [(c, false, 0)] := by
  unfold newT
  rw [List.take_add_one, h]
  simp
set_option maxHeartbeats 1000000 in
theorem tnew_bad {A : Option Addr} {cs : List Int} {cap : Nat} {w : World} (h : Ints w w.heap.size A cs) (hb : 16 < cs.length ∨ cs.any oddP = true) :
    Calls Try.prog 34 #[.slice A cs.length cap] w fun e w' => e = .returned (.tuple #[.pointer none, .int .i64 1]) ∧ w = w' := by
  by_cases hc : 16 < cs.length
  · have hc' : (16 : Int) < (cs.length : Int) := by omega
    clear hb
    go_enter Try.func34, Try.ntmps34
    go_wp2
    go_ret2
    exact ⟨rfl, rfl⟩
  · have hc' : ¬ (16 : Int) < (cs.length : Int) := by omega
    have ha : cs.any oddP = true := hb.resolve_left hc
    have HX := Kept.mk ha
    have HI := Kept.mk h
    clear ha hb h
    go_enter Try.func34, Try.ntmps34
    go_wp2_with fail
    refine (contains_any A cs cap _ HI.out (by omega)).mono ?_
    rintro e w' ⟨rfl, rfl⟩
    rw [HX.out]
    go_wp2
    go_ret2
    exact ⟨rfl, rfl⟩
set_option maxRecDepth 100000 in
set_option maxHeartbeats 4000000 in
theorem tnew_ok {A : Option Addr} {cs : List Int} {cap : Nat} {w : World} (h : Ints w w.heap.size A cs) (hc : cs.length ≤ 16) (ha : cs.any oddP = false) :
    Calls Try.prog 34 #[.slice A cs.length cap] w (TNew w (newT cs)) := by
  have hc' : ¬ (16 : Int) < (cs.length : Int) := by omega
  have HX := Kept.mk ha
  have HI := Kept.mk h
  clear ha h
  obtain ⟨i0, hi0, hz0, hz1, hz2⟩ := info_parts info_mx
  go_enter Try.func34, Try.ntmps34
  go_wp2_with fail
  refine (contains_any A cs cap _ HI.out (by omega)).mono ?_
  rintro e w' ⟨rfl, rfl⟩
  rw [HX.out]
  go_wp2_with fail
  go_loopw [20] (fun t wr => ∃ (k : Nat) (B : Option Addr) (c : Nat), k ≤ cs.length ∧ t = .int .i64 k ∧ wr.heap[w.heap.size]? = some (.cells #[.slice B k c] 139) ∧ wr.ownsRow (w.heap.size + 1) 141 3 (.slice B k c) k ((newT (cs.take k)).flatMap mxC) ∧ Below w.heap.size w wr) (fun t _ => cs.length - (intOf t).toNat)
  case atStart => exact ⟨0, none, 0, by omega, rfl, (by show (w.heap.push _)[w.heap.size]? = _; exact Array.getElem?_push_size), ⟨rfl, .inl ⟨rfl, rfl⟩⟩, below_box _ _⟩
  case round =>
    obtain ⟨k, B, c, hk, rfl, hbx, hown, hbw⟩ := hrel
    have f0 := frozen_of_row _ _ 0 _ _ hbx
    have c0 := cell_of_row _ _ 0 _ _ _ hbx
    by_cases hlt : k < cs.length
    · obtain ⟨b, off, rfl, hb, hcc⟩ := HI.out.below hbw (by omega)
      obtain ⟨x, hx⟩ : ∃ x, cs[k]? = some x := ⟨cs[k], List.getElem?_eq_getElem hlt⟩
      have hcx := hcc k hlt
      rw [hx, Option.getD_some] at hcx
      have ik : (k : Int) < (cs.length : Int) := by omega
      have hst := newT_take cs k x hx
      have HST := Kept.mk hst
      clear hst hx hcc
      have HOW := Kept.mk hown
      have HBW := Kept.mk hbw
      have HBX := Kept.mk hbx
      have hsz : w.heap.size < wr.heap.size := lt_of_block hbx
      clear hown hbw hbx
      go_wp2_with (at_builtin; refine wpList_append_own _ rfl _ _ 137 rfl (w.heap.size + 1) 141 i0 (.agg #[.int .i64 0, .bool false, .int .i64 0]) 3 24 Try.underlying137 hi0 hz0 hz1 hz2 rfl (by decide) _ _ _ rfl (HOW.out.alloc _) ⟨wr.heap.size, 0, none⟩ 1 1 [.int .i64 x, .bool false, .int .i64 0] rfl rfl (cell_mx_at _ _ _ _ rfl) (by simp [Value.oneCell']) (by simp only [maxLen]; omega) (by omega) (by simp; omega) ?_; intro v6 w6 own6 hgrow _; obtain ⟨A6, c6, rfl⟩ := own_slice own6; have HB6 := Kept.mk (below_grown (HBW.out.alloc (Nat.le_of_lt hsz) (.cells #[.int .i64 x, .bool false, .int .i64 0] 141)) hgrow (HOW.out.alloc _) (Nat.le_succ _) (by simp; omega)); have b6 : w6.heap[w.heap.size]? = some (.cells #[.slice B k c] 139) := (grow_block hgrow (HOW.out.alloc (.cells #[.int .i64 x, .bool false, .int .i64 0] 141)) (Nat.lt_succ_self _) (by simp; omega)).trans ((below_box wr _).block _ hsz |>.trans HBX.out); have HO6 := Kept.mk own6; clear own6 hgrow; have f6 := frozen_of_row _ _ 0 _ _ b6; have q6 := cell_of_row _ _ 0 _ _ _ b6; have z6 := lt_of_block b6)
      go_roundw
      case rel => exact ⟨k + 1, A6, c6, by omega, by go_num, by rw [block_setCell b6]; simp, by rw [HST.out, List.flatMap_append]; exact own_setT HO6.out (Nat.lt_succ_self _) _, HB6.out.setCell (p := ⟨w.heap.size, 0, none⟩) (Nat.le_refl w.heap.size) _⟩
      case measure => simp [intOf]; omega
    · have hke : k = cs.length := by omega
      subst hke
      rw [List.take_length] at hown
      have hlen : (newT cs).length = cs.length := by simp [newT]
      rw [← hlen] at hown hbx
      have hsz : w.heap.size < wr.heap.size := lt_of_block hbx
      have ht : TabAt wr w.heap.size wr.heap.size w.heap.size (newT cs) B c := ⟨hbx, Nat.le_refl _, hsz, Nat.le_refl _, by omega, fun h0 => by
        obtain ⟨g, cur, e, h1, h2, h3, h4⟩ := tab_rows hown h0
        exact ⟨g, cur, e, by omega, h2, by omega, h3, h4⟩⟩
      have HT := Kept.mk ht
      clear ht hown hbx c0 f0 hlen
      go_wp2
      go_ret2
      exact ⟨rfl, ⟨_, _, HT.out⟩, hbw⟩
end Go.Proofs.Ytcchmkpodfjhcaa
