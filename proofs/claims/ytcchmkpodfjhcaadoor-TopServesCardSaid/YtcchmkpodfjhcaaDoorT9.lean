/-
  The walk of intc.End, with one line being served.
-/
import Derived.Test.YtcchmkpodfjhcaaDoorT8
namespace Go.Proofs.YtcchmkpodfjhcaaDoor
open Go.RowKit
set_option linter.unusedVariables false
theorem bit_wrap (n : Nat) (hn : n < 64) : IntKind.u64.wrap ((2 : Int) ^ n) = ((2 ^ n : Nat) : Int) := by
  have h1 : 2 ^ n < 18446744073709551616 := Nat.pow_lt_pow_right (by omega) (by omega : n < 64)
  have := u64_in (2 ^ n) h1
  simpa using this
theorem bit_lt {n : Nat} (hn : n < 64) : 2 ^ n < 18446744073709551616 := Nat.pow_lt_pow_right (by omega) (by omega : n < 64)
theorem results_cell_tmp2 {fn : Func} {p u x : Tmp} {ty : TypeId} (h : fn.results = #[.cell p ty, .tmp u, .tmp x]) (tmps : Array Value) (P : Program) (w : World) :
    (results fn tmps).run P w =
      ((asAddr (tmps.getD p undef)).run P w).andThen fun a w₁ => ((loadVar ty a).run P w₁).andThen fun v w₂ => .ok (.tuple #[v, tmps.getD u undef, tmps.getD x undef]) w₂ := by
  simp only [results, h]
  simp [Sem.run_bind, Result.andThen]
theorem results_intc3 {fn : Func} {p u x : Tmp} (h : fn.results = #[.cell p 27, .tmp u, .tmp x]) (tmps : Array Value) (w : World) (g : Nat) (v0 v1 v2 v3 v4 v5 v6 vu vx : Value)
    (hp : tmps.getD p undef = .pointer (some ⟨g, 0, none⟩)) (hu : tmps.getD u undef = vu) (hx : tmps.getD x undef = vx) (c0 : w.cell? ⟨g, 0, none⟩ = some v0) (c1 : w.cell? ⟨g, 1, none⟩ = some v1) (c2 : w.cell? ⟨g, 2, none⟩ = some v2) (c3 : w.cell? ⟨g, 3, none⟩ = some v3) (c4 : w.cell? ⟨g, 4, none⟩ = some v4) (c5 : w.cell? ⟨g, 5, none⟩ = some v5) (c6 : w.cell? ⟨g, 6, none⟩ = some v6) :
    (results fn tmps).run Tryd.prog w = .ok (.tuple #[.agg #[v0, v1, v2, v3, v4, v5, v6], vu, vx]) w := by
  subst hu hx
  rw [results_cell_tmp2 h, hp]
  go_simp
theorem own_drew {w : World} {base : Nat} {e : TypeId} {sz n : Nat} {v : Value} {xs : List Value} (h : w.ownsRow base e sz v n xs) : w.drew.ownsRow base e sz v n xs := h
theorem isC_nil {wx w' : World} {P M : Int} {xs : List Int} {B : Nat} {v : Value} {e : TypeId} {b : Addr} {c : Nat} (h : wx.ownsRow B e 1 v xs.length (xs.map (Value.int .i64))) (hb : Below wx.heap.size wx w') :
    IsC w' P M xs [] (.agg (iC P M 0 M v 0 (.slice (some b) 0 c))) := by
  obtain ⟨A, k, rfl⟩ := own_slice h
  exact ⟨A, k, some b, c, rfl, ((Ints.of_own h).2.below hb).mono hb.size, Ints.nil _ _ _, own_nil h, fun h => by cases h⟩
set_option maxHeartbeats 400000 in
theorem end_any (P M n : Nat) (hP : P < 18446744073709551616) (hMl : M < 18446744073709551616) (hm : MF P M) (xs : List Int) (hM : M = mk xs) (hn : n < xs.length) (c : Value) (w : World) (hc : IsC w P M xs [(n : Int)] c)
    (h2 : xs.length ≤ 64) (hx : xs.any oddP = false) :
    Calls Tryd.prog 15 #[c] w (CRes w P M xs [] [.int .i64 (n : Int), .int .i64 0]) := by
  have HC := Kept.mk (fun W (hc : IsC W P M xs [(n : Int)] c) => open_any P M hm xs [(n : Int)] (by rw [hM]) 0 (by omega) (by omega) c W hc h2 hx ⟨by simp, fun _ h => by cases h; omega⟩)
  have nl : (n : Int) < 64 := by omega
  have z0 : bits .and .u64 0 (IntKind.u64.wrap (2 ^ n)) = 0 := by
    rw [bit_wrap n (by omega), show (0 : Int) = ((0 : Nat) : Int) from rfl, u64_and_nat _ _ (by omega) (bit_lt (by omega)), Nat.zero_and]
  have z1 : bits .or .u64 (P : Int) 0 = P := by
    rw [show (0 : Int) = ((0 : Nat) : Int) from rfl, u64_or_nat _ _ hP (by omega), Nat.or_zero]
  obtain ⟨A, cap, B, cap2, rfl, h, k, hA, hB⟩ := hc.of
  unfold iC at *
  clear hm hM hx
  go_enter Tryd.func15, Tryd.ntmps15
  go_wp2_with fail
  refine (HC.out _ ⟨A, cap, B, cap2, rfl, (h.below ((below_box _ _).alloc (by simp) _)).mono (by simp <;> omega), (k.below ((below_box _ _).alloc (by simp) _)).mono (by simp <;> omega), hA, hB⟩).mono ?_
  rintro e w1 ⟨d, rfl, hd⟩
  obtain ⟨A1, p1, A2, p2, hF⟩ := desk_facts hd
  obtain ⟨⟨c0, c1, c2, c3, c4, c5, c6⟩, f0, own1, own2, ne1, ne2, lo, hi, hb, hdis⟩ := hF
  clear hd
  have e0 := pre_cell hb 0 _ rfl
  have e1 := pre_cell hb 1 _ rfl
  have e2 := pre_cell hb 2 _ rfl
  have e3 := pre_cell hb 3 _ rfl
  have e4 := pre_cell hb 4 _ rfl
  have e5 := pre_cell hb 5 _ rfl
  have e6 := pre_cell hb 6 _ rfl
  have g0 := pre_free hb
  have lo2 : w.heap.size + 2 ≤ d := by simpa using lo
  replace own1 := own_mono (B := w.heap.size + 2) own1 (by simp)
  have hz := hb.size
  have hbw := (hb.box (by simp)).box (Nat.le_refl _)
  have nil2 := own_nil own2
  obtain ⟨b2, off2, rfl, hb2, hc2⟩ := (Ints.of_own own2).2 (by simp)
  have hcn : w1.cell? ⟨b2, off2, none⟩ = some (.int .i64 (n : Int)) := hc2 0 (by simp)
  clear HC hc lo hc2
  go_wp2
  go_region
  go_wp2
  have nb : w.heap.size + 1 < w.heap.size + 2 := by omega
  refine bodyPost_ret (results_intc3 (p := 2) (u := 3) (x := 4) rfl _ _ (w.heap.size + 1) _ _ _ _ _ _ _ (.int .i64 (n : Int)) (.int .i64 0) (by go_simp) (by go_simp) (by go_simp) (by go_simp <;> rfl) (by go_simp <;> rfl) (by go_simp <;> rfl) (by go_simp <;> rfl) (by go_simp <;> rfl) (by go_simp <;> rfl) (by go_simp <;> rfl)) rfl ?_
  have ow := ownsRow_setCell_other (ownsRow_setCell_other own1 (a := ⟨d, 6, none⟩) ne1 (.slice (some ⟨b2, off2, none⟩) 0 p2)) (a := ⟨d, 0, none⟩) ne1 (.int .u64 (P : Int))
  have bw2 := (hbw.setCell (p := ⟨d, 6, none⟩) (by show w.heap.size ≤ d; omega) (.slice (some ⟨b2, off2, none⟩) 0 p2)).setCell (p := ⟨d, 0, none⟩) (by show w.heap.size ≤ d; omega) (.int .u64 (P : Int))
  exact ⟨_, rfl, isC_nil (own_drew (own7 ow nb)) (Below.refl _ _), (res_below (B := w.heap.size) (k := 1) bw2).drew, ⟨_, _, _, _, _, _, _, rfl, fun g hg => Nat.le_trans (by omega) (own1.lt g hg).1, fun g hg => Nat.le_trans (by simp <;> omega) (own2.lt g hg).1⟩⟩
end Go.Proofs.YtcchmkpodfjhcaaDoor
