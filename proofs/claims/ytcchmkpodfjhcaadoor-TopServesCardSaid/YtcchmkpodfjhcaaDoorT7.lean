/-
  The walk of intc.Raise, for a line of edges that is not pending.
-/
import Derived.Test.YtcchmkpodfjhcaaDoorT6
import Derived.Laws.ResultCell
import Derived.OneCell
namespace Go.Proofs.YtcchmkpodfjhcaaDoor
open Go.RowKit
set_option linter.unusedVariables false
theorem own_nil {w : World} {base : Nat} {e : TypeId} {sz n c : Nat} {xs : List Value} {A : Option Addr} (h : w.ownsRow base e sz (.slice A n c) n xs) : A = none → c = 0 := by
  rintro rfl
  rcases h.2 with ⟨h2, _⟩ | ⟨g, cap, cur, e1, h3, h4⟩
  · cases h2; rfl
  · cases e1
theorem isC_own {wx w' : World} {P M : Int} {xs st : List Int} {B : Nat} {v s : Value} {e : TypeId} (h : wx.ownsRow B e 1 v xs.length (xs.map (Value.int .i64))) (k : wx.ownsRow B e 1 s st.length (st.map (Value.int .i64))) (hb : Below wx.heap.size wx w') :
    IsC w' P M xs st (.agg (iC P M 0 M v 0 s)) := by
  obtain ⟨A, c, rfl⟩ := own_slice h
  obtain ⟨A2, c2, rfl⟩ := own_slice k
  exact ⟨A, c, A2, c2, rfl, ((Ints.of_own h).2.below hb).mono hb.size, ((Ints.of_own k).2.below hb).mono hb.size, own_nil h, own_nil k⟩
/-- A controller's rows lie from B on. -/
def RowsFrom (B : Nat) (c : Value) : Prop := ∃ P E R D v t s, c = .agg (iC P E R D v t s) ∧ (∀ g, v.ownBlock = some g → B ≤ g) ∧ (∀ g, s.ownBlock = some g → B ≤ g)
theorem rows_own {w : World} {B B1 B2 : Nat} {e : TypeId} {P E R D t : Int} {v s : Value} {n m : Nat} {xs ys : List Value} (h : w.ownsRow B1 e 1 v n xs) (k : w.ownsRow B2 e 1 s m ys) (h1 : B ≤ B1) (h2 : B ≤ B2) : RowsFrom B (.agg (iC P E R D v t s)) :=
  ⟨P, E, R, D, v, t, s, rfl, fun g hg => Nat.le_trans h1 (h.lt g hg).1, fun g hg => Nat.le_trans h2 (k.lt g hg).1⟩
/-- A controller, and nothing else, comes back. -/
def CRes (w : World) (P M : Int) (xs st : List Int) (rest : List Value) (e : Ending) (w' : World) : Prop :=
  ∃ c, e = .returned (.tuple (c :: rest).toArray) ∧ IsC w' P M xs st c ∧ Below w.heap.size w w' ∧ RowsFrom w.heap.size c
structure DeskF (w w' : World) (d : Nat) (P M : Int) (xs st : List Int) (A : Option Addr) (cap : Nat) (B : Option Addr) (cap2 : Nat) : Prop where
  cells : DeskAt w' d P 0 M M (.slice A xs.length cap) (.slice B st.length cap2)
  fr : ∀ i, w'.frozen? ⟨d, i, none⟩ = false
  own1 : w'.ownsRow w.heap.size 3 1 (.slice A xs.length cap) xs.length (xs.map (Value.int .i64))
  own2 : w'.ownsRow w.heap.size 3 1 (.slice B st.length cap2) st.length (st.map (Value.int .i64))
  ne1 : (Value.slice A xs.length cap).ownBlock ≠ some d
  ne2 : (Value.slice B st.length cap2).ownBlock ≠ some d
  lo : w.heap.size ≤ d
  hi : d < w'.heap.size
  below : Below w.heap.size w w'
  dis : ∀ g, (Value.slice A xs.length cap).ownBlock = some g → (Value.slice B st.length cap2).ownBlock ≠ some g
theorem desk_facts {w w' : World} {d : Nat} {P M : Int} {xs st : List Int} (h : Desk w P M xs st d w') : ∃ A cap B cap2, DeskF w w' d P M xs st A cap B cap2 := by
  obtain ⟨wx, v, s, rfl, rfl, own1, own2, hb, hdis⟩ := h
  obtain ⟨A1, p1, rfl⟩ := own_slice own1
  obtain ⟨A2, p2, rfl⟩ := own_slice own2
  refine ⟨A1, p1, A2, p2, ?_, ?_, own1.alloc _, own2.alloc _, ?_, ?_, hb.size, by simp, hb.alloc hb.size _, hdis⟩
  · constructor <;> exact box_cell (Below.refl _ _) _ _ rfl
  · exact box_free (Below.refl _ _)
  · intro h; have := (own1.lt _ h).2; omega
  · intro h; have := (own2.lt _ h).2; omega
/-- The facts on the result's own block, as it was made ahead of a call. -/
theorem pre_cell {w w1 : World} {o : Obj} {cs : Array Value} {T : TypeId} {fr : Nat × Nat} (hb : Below ((w.alloc o).alloc (.cells cs T fr)).heap.size ((w.alloc o).alloc (.cells cs T fr)) w1) (i : Nat) (v : Value) (hv : cs[i]? = some v) : w1.cell? ⟨w.heap.size + 1, i, none⟩ = some v := by
  simpa using box_cell (w := w.alloc o) hb i v hv
theorem pre_free {w w1 : World} {o : Obj} {cs : Array Value} {T : TypeId} (hb : Below ((w.alloc o).alloc (.cells cs T)).heap.size ((w.alloc o).alloc (.cells cs T)) w1) (i : Nat) : w1.frozen? ⟨w.heap.size + 1, i, none⟩ = false := by
  simpa using box_free (w := w.alloc o) hb i
theorem bit_and (P n : Nat) (hP : P < 18446744073709551616) (hn : n < 64) (h : P.testBit n = false) : bits .and .u64 (P : Int) (IntKind.u64.wrap (2 ^ n)) = 0 := by
  have h1 : 2 ^ n < 18446744073709551616 := Nat.pow_lt_pow_right (by omega) (by omega : n < 64)
  have e : IntKind.u64.wrap ((2 : Int) ^ n) = ((2 ^ n : Nat) : Int) := by
    have := u64_in (2 ^ n) h1
    simpa using this
  rw [e, u64_and_nat _ _ hP h1]
  have : P &&& 2 ^ n = 0 := by
    apply Nat.eq_of_testBit_eq
    intro i
    rw [Nat.testBit_and, Nat.testBit_two_pow]
    by_cases hi : n = i
    · subst hi; simp [h]
    · simp [hi]
  rw [this]; rfl
theorem results_intc {fn : Func} {p u : Tmp} (h : fn.results = #[.cell p 27, .tmp u]) (tmps : Array Value) (w : World) (g : Nat) (v0 v1 v2 v3 v4 v5 v6 : Value)
    (hp : tmps.getD p undef = .pointer (some ⟨g, 0, none⟩)) (c0 : w.cell? ⟨g, 0, none⟩ = some v0) (c1 : w.cell? ⟨g, 1, none⟩ = some v1) (c2 : w.cell? ⟨g, 2, none⟩ = some v2) (c3 : w.cell? ⟨g, 3, none⟩ = some v3) (c4 : w.cell? ⟨g, 4, none⟩ = some v4) (c5 : w.cell? ⟨g, 5, none⟩ = some v5) (c6 : w.cell? ⟨g, 6, none⟩ = some v6) :
    (results fn tmps).run Tryd.prog w = .ok (.tuple #[.agg #[v0, v1, v2, v3, v4, v5, v6], tmps.getD u undef]) w := by
  rw [results_cell_tmp h, hp]
  go_simp
theorem own_res {w : World} {base d r : Nat} {e : TypeId} {sz n : Nat} {v : Value} {xs : List Value} (h : w.ownsRow base e sz v n xs) (hd : v.ownBlock ≠ some d) (hr : r < base) {u v0 v1 v2 v3 v4 v5 v6 : Value} :
    ((((((((w.setCell ⟨d, 0, none⟩ u).setCell ⟨r, 0, none⟩ v0).setCell ⟨r, 1, none⟩ v1).setCell ⟨r, 2, none⟩ v2).setCell ⟨r, 3, none⟩ v3).setCell ⟨r, 4, none⟩ v4).setCell ⟨r, 5, none⟩ v5).setCell ⟨r, 6, none⟩ v6).ownsRow base e sz v n xs :=
  ownsRow_setCell_below (ownsRow_setCell_below (ownsRow_setCell_below (ownsRow_setCell_below (ownsRow_setCell_below (ownsRow_setCell_below (ownsRow_setCell_below (ownsRow_setCell_other h (a := ⟨d, 0, none⟩) hd _) hr _) hr _) hr _) hr _) hr _) hr _) hr _
theorem res_below {a w : World} {B k : Nat} (h : Below B a w) {v0 v1 v2 v3 v4 v5 v6 : Value} :
    Below B a (((((((w.setCell ⟨B + k, 0, none⟩ v0).setCell ⟨B + k, 1, none⟩ v1).setCell ⟨B + k, 2, none⟩ v2).setCell ⟨B + k, 3, none⟩ v3).setCell ⟨B + k, 4, none⟩ v4).setCell ⟨B + k, 5, none⟩ v5).setCell ⟨B + k, 6, none⟩ v6) :=
  have hr : B ≤ B + k := by omega
  ((((((h.setCell (p := ⟨B + k, 0, none⟩) hr _).setCell (p := ⟨B + k, 1, none⟩) hr _).setCell (p := ⟨B + k, 2, none⟩) hr _).setCell (p := ⟨B + k, 3, none⟩) hr _).setCell (p := ⟨B + k, 4, none⟩) hr _).setCell (p := ⟨B + k, 5, none⟩) hr _).setCell (p := ⟨B + k, 6, none⟩) hr _
set_option maxHeartbeats 4000000 in
theorem raise_any (P M n : Nat) (hP : P < 18446744073709551616) (hMl : M < 18446744073709551616) (hm : MF P M) (xs : List Int) (hM : M = mk xs) (hn : n < xs.length) (hb : M.testBit n = true) (hpn : P.testBit n = false) (c : Value) (w : World) (hc : IsC w P M xs [] c)
    (h2 : xs.length ≤ 64) (hx : xs.any oddP = false) :
    Calls Tryd.prog 12 #[c, .int .i64 (n : Int)] w (CRes w (P ||| 2 ^ n : Nat) M xs [] [.int .i64 0]) := by
  have HC := Kept.mk (fun W (hc : IsC W P M xs [] c) => open_any P M hm xs [] (by rw [hM]) n (by omega) (by omega) c W hc h2 hx ⟨by simp, fun _ h => by cases h⟩)
  have HE := Kept.mk (fun d W h => edge_any d M n hMl (by omega) hb W h)
  have nl : (n : Int) < 64 := by omega
  obtain ⟨A, cap, B, cap2, rfl, h, k, hA, hB⟩ := hc.of
  unfold iC at *
  have hpa := bit_and P n hP (by omega) hpn
  clear hm hM hb hx
  go_enter Tryd.func12, Tryd.ntmps12
  go_wp2_with fail
  refine (HC.out _ ⟨A, cap, B, cap2, rfl, (h.below ((below_box _ _).alloc (by simp) _)).mono (by simp <;> omega), Ints.nil _ _ _, hA, hB⟩).mono ?_
  rintro e w1 ⟨d, rfl, hd⟩
  obtain ⟨A1, p1, A2, p2, hF⟩ := desk_facts hd
  obtain ⟨⟨c0, c1, c2, c3, c4, c5, c6⟩, f0, own1, own2, ne1, ne2, lo, hi, hb, hdis⟩ := hF
  clear hd
  have e0 := pre_cell hb 0 _ rfl
  have e1 := pre_cell hb 1 _ rfl
  have e2 := pre_cell hb 2 _ rfl
  have e3 := pre_cell hb 3 _ rfl
  have e4 := pre_cell hb 4 _ rfl
  have e5 := pre_cell hb 5 _ rfl
  have e6 := pre_cell hb 6 _ rfl
  have g0 := pre_free hb
  have lo2 : w.heap.size + 2 ≤ d := by simpa using lo
  have hz := hb.size
  have hbw := (hb.box (by simp)).box (Nat.le_refl _)
  clear HC hc lo
  go_wp2_with ((go_at_call 38; refine (HE.out _ _ c3).mono ?_; rintro e w' ⟨rfl, rfl⟩))
  refine bodyPost_ret (results_intc (p := 4) (u := 5) rfl _ _ (w.heap.size + 1) _ _ _ _ _ _ _ rfl (by go_simp <;> rfl) (by go_simp <;> rfl) (by go_simp <;> rfl) (by go_simp <;> rfl) (by go_simp <;> rfl) (by go_simp <;> rfl) (by go_simp <;> rfl)) rfl ?_
  have hor := or_num P n hP (by omega)
  have nb : w.heap.size + 1 < ((w.alloc (.cells #[.int .u64 (P : Int), .int .u64 (M : Int), .int .u64 0, .int .u64 (M : Int), .slice A xs.length cap, .int .i64 0, .slice B 0 cap2] 27)).alloc (.cells #[.int .u64 0, .int .u64 0, .int .u64 0, .int .u64 0, .slice none 0 0, .int .i64 0, .slice none 0 0] 27)).heap.size := by simp
  refine ⟨_, rfl, ?_, ?_, rows_own own1 own2 (by simp <;> omega) (by simp <;> omega)⟩
  · rw [hor]
    exact isC_own (own_res own1 ne1 nb) (own_res own2 ne2 nb) (Below.refl _ _)
  · exact res_below (hbw.setCell (p := ⟨d, 0, none⟩) (by show w.heap.size ≤ d; omega) _)
end Go.Proofs.YtcchmkpodfjhcaaDoor
