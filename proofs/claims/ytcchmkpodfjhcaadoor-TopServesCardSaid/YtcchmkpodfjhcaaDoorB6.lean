/-
  The walks of bits.Each (an iterator) and bits.List.
-/
import Derived.Test.YtcchmkpodfjhcaaDoorB5
import Derived.Test.YtcchmkpodfjhcaaDoorItW
namespace Go.Proofs.YtcchmkpodfjhcaaDoor
open Go.RowKit Go.Shelf
set_option linter.unusedVariables false
attribute [local go_sem] Oper.semAt_some

/-- What a round of such a loop keeps: what lies below n₀. -/
def KpB (n₀ : Nat) (W W' : World) : Prop := Below n₀ W W'
theorem KpB.trans {n₀ : Nat} {A B C : World} (h : KpB n₀ A B) (k : KpB n₀ B C) : KpB n₀ A C := Below.trans h k
theorem KpB.book {n₀ : Nat} {w : World} (hn : n₀ ≤ w.heap.size) (W : World) (l : Nat) (o o' : Obj) (hl : w.heap.size ≤ l) (h : W.heap[l]? = some o) (hc : o.isCells = false) (hw : o.isWalk = false) : KpB n₀ W (W.putObj l o') :=
  belowK_b hn W l o o' hl h hc hw

def lbn (b : Nat) : List Nat := (List.range 64).filter fun i => b.testBit i
theorem lbn_lb (b : Nat) : (lbn b).map (fun i : Nat => (i : Int)) = lb 64 b := rfl
theorem lbn_inj {x y : List Nat} (h : x.map (fun i : Nat => (i : Int)) = y.map (fun i : Nat => (i : Int))) : x = y :=
  by
  have h2 := congrArg (List.map Int.toNat) h
  rw [List.map_map, List.map_map] at h2
  have e : (Int.toNat ∘ fun i : Nat => (i : Int)) = id := by funext i; simp
  rw [e, List.map_id, List.map_id] at h2
  exact h2
theorem lbn_step {d : Nat} (h0 : d ≠ 0) (h : d < 18446744073709551616) : lbn d = Lib.ctz 64 d :: lbn (d &&& (d - 1)) := by
  obtain ⟨h1, h2, h3⟩ := ctz_bits h0 h
  obtain ⟨m, hm, hk⟩ := Lib.ctzFrom_spec 64 d (by omega) h
  have e : Lib.ctz 64 d = Lib.ctzFrom 64 d := by simp [Lib.ctz, h0]
  have hbits := low_bits (b := d) (z := Lib.ctz 64 d) (m := m) (by rw [e]; rw [Nat.mul_comm]; exact hm)
  have := lb_cons 64 h1 h2 h3 _ hbits
  exact lbn_inj this
theorem lbn_len (b : Nat) : (lbn b).length ≤ 64 := by
  unfold lbn
  exact Nat.le_trans (List.length_filter_le _ _) (by simp)
theorem lbn_zero : lbn 0 = [] := by simp [lbn]
abbrev encN (x : Nat) : Array Value := #[.int .i64 (x : Int)]
theorem and_dec (d : Nat) (hd : d < 18446744073709551616) (h0 : d ≠ 0) : Value.int .u64 (bits .and .u64 (d : Int) ((d : Int) - 1)) = .int .u64 ((d &&& (d - 1) : Nat) : Int) := by
  have e : (d : Int) - 1 = ((d - 1 : Nat) : Int) := by omega
  rw [e, and_num _ _ hd (by omega)]

set_option maxHeartbeats 1000000 in
theorem each_in (n : Nat) (hn : 1 ≤ n) (l B1 n₀ : Nat) (b : Nat) (hb : b < 18446744073709551616) (J Jx : List Nat → World → Prop)
    (hY : ∀ pre x W, J pre W → pre.length < 64 → YieldAt Fence.wide (n - 1) Tryd.prog l (encN x) W fun e W' =>
      (e = .returned (.bool true) ∧ J (pre ++ [x]) W' ∧ KpB n₀ W W') ∨ (e = .returned (.bool false) ∧ Jx (pre ++ [x]) W'))
    (W : World) (hB1 : W.cell? ⟨B1, 0, none⟩ = some (.int .u64 (b : Int))) (hT : Tab W) (hn0 : 0 < n₀) (h0 : J [] W) :
    CallsIn Fence.wide n Tryd.prog 46 #[.func (.yield l) #[] #[], .pointer (some ⟨B1, 0, none⟩)] W fun e W' => (∃ v, e = .returned v) ∧
      ((∃ l, l = lbn b ∧ J l W') ∨ (∃ pre, pre <+: lbn b ∧ Jx pre W')) := by
  refine callsIn_of_wp Tryd.func46 rfl trivial ?_ rfl
  simp only [Tryd.ntmps46, List.size_toArray, List.length_cons, List.length_nil, Nat.reduceAdd, Nat.reduceSub, Array.replicate_succ, Array.replicate_zero, List.push_toArray, List.append_toArray, List.nil_append, List.cons_append]
  gi_wp2
  gi_loopw [3] (fun t wr => ∃ (d : Nat) (pre : List Nat), t = .int .u64 (d : Int) ∧ d < 18446744073709551616 ∧ Hid (lbn b = pre ++ lbn d) ∧ Tab wr ∧ J pre wr)
    (fun t _ => (lbn (intOf t).toNat).length)
  case atStart => exact ⟨b, [], rfl, hb, rfl, hT, h0⟩
  case round =>
    obtain ⟨d, pre, rfl, hd, hp, ht, hj⟩ := hrel
    by_cases hz : d = 0
    · subst hz
      have hp2 := hp.out
      rw [lbn_zero, List.append_nil] at hp2
      have HP := Lib.hid hp2
      clear hp2 hp
      gi_wp2
      go_end0
      exact ⟨⟨_, rfl⟩, .inl ⟨pre, HP.out.symm, hj⟩⟩
    · have hz1 : ((d : Int) != 0) = true := by simp [hz]
      have hst := lbn_step hz hd
      have hp2 := hp.out
      rw [hst] at hp2
      have hpl : pre.length < 64 := by have := lbn_len b; rw [hp2] at this; simp at this; omega
      have HP := Lib.hid hp2
      have HST := Lib.hid hst
      have hlt : d &&& (d - 1) < 18446744073709551616 := Nat.lt_of_le_of_lt Nat.and_le_left hd
      have HN := Lib.hid (and_dec d hd hz)
      clear hp hst hp2
      gi_wp2_with fail
      refine ⟨trivial, ?_⟩
      refine (callsIn_wide.2 (bits_tz d hd _ fun _ => ht)).mono ?_
      rintro e w1 ⟨rfl, rfl⟩
      obtain ⟨fn, tmps, assign, body, hy, hRd⟩ := hY _ (Lib.ctz 64 d) _ hj hpl
      dsimp only [encN] at hy
      gi_wp2
      refine hRd.mono ?_
      rintro e W3 (⟨rfl, hJ3, hk3⟩ | ⟨rfl, hJx3⟩)
      · gi_wp2
        go_roundw
        case rel => exact ⟨d &&& (d - 1), pre ++ [Lib.ctz 64 d], HN.out, hlt, by unfold Hid; rw [HP.out]; simp, ht.below hk3 hn0, hJ3⟩
        case measure =>
          rw [HN.out]
          show (lbn (d &&& (d - 1))).length < (lbn d).length
          rw [HST.out]; simp
      · gi_wp2
        refine bodyPost_ret (results_none rfl _ _ _) rfl ?_
        exact ⟨⟨_, rfl⟩, .inr ⟨_, by rw [HP.out]; exact ⟨_, by rw [List.append_assoc]; rfl⟩, hJx3⟩⟩
theorem each_stops (n : Nat) (hn : 1 ≤ n) (B1 n₀ : Nat) (b : Nat) (hb : b < 18446744073709551616) (w : World)
    (hB1 : w.cell? ⟨B1, 0, none⟩ = some (.int .u64 (b : Int))) (hB1l : B1 < w.heap.size) (hT : Tab w) (hn0 : 0 < n₀) (hs : 0 < w.heap.size) :
    SeqStopsK Fence.wide n Tryd.prog 46 #[.pointer (some ⟨B1, 0, none⟩)] encN (KpB n₀) (fun l => l = lbn b) (fun pre => pre <+: lbn b) 64 w := fun l J Jx W hW hJ hJx hY h0 =>
  each_in n hn l B1 n₀ b hb J Jx hY W ((hW.cell (p := ⟨B1, 0, none⟩) hB1l).trans hB1) (hT.below hW hs) hn0 h0
theorem beach_any (b : Nat) (w : World) :
    Calls Tryd.prog 32 #[.int .u64 (b : Int)] w fun e w' => e = .returned (.func (.func 46) #[] #[.pointer (some ⟨w.heap.size, 0, none⟩)]) ∧ w' = w.alloc (.cells #[.int .u64 (b : Int)] 23) := by
  go_enter Tryd.func32, Tryd.ntmps32
  go_wp2
  go_ret
  exact ⟨rfl, rfl⟩
set_option maxRecDepth 100000 in
set_option maxHeartbeats 2000000 in
theorem list_any (b : Nat) (hb : b < 18446744073709551616) (w : World) (hT : Tab w) (hs0 : 0 < w.heap.size) :
    Calls Tryd.prog 9 #[.int .u64 (b : Int)] w (IntRes w (lb 64 b)) := by
  refine (callsIn_wide (n := 4)).1 ?_
  refine callsIn_of_wp_marks Tryd.func9 rfl trivial ?_ rfl
  simp only [Tryd.ntmps9, List.size_toArray, List.length_cons, List.length_nil, Nat.reduceAdd, Nat.reduceSub, Array.replicate_succ, Array.replicate_zero, List.push_toArray, List.append_toArray, List.nil_append, List.cons_append]
  gi_wp2_with fail
  refine ⟨trivial, ?_⟩
  refine (callsIn_wide.2 (beach_any b _)).mono ?_
  rintro e w2 ⟨rfl, rfl⟩
  gi_wp2_with fail
  obtain ⟨W2, hW2⟩ : ∃ W2, (w.alloc (.cells #[.slice none 0 0] 22)).alloc (.cells #[.int .u64 (b : Int)] 23) = W2 := ⟨_, rfl⟩
  obtain ⟨c0, f0, c1, f1, hsz, hb2⟩ := two_box (w := w) (w1 := W2) (v0 := .slice none 0 0) (v1 := .int .u64 (b : Int)) (t0 := 22) (t1 := 23) (by rw [hW2]; exact Below.refl _ _)
  have z2 : W2.heap.size = w.heap.size + 2 := by rw [← hW2]; simp
  rw [hW2]
  clear hW2
  obtain ⟨i0, hi, hz0, hz1, hz2⟩ := info_parts info_int
  have HLB := Lib.hid (lbn_len b)
  refine wpIn_rangeFunc_ownF rfl (by omega) (gf := 46) (lb := #[.pointer (some ⟨w.heap.size + 1, 0, none⟩)]) rfl trivial (enters_of Tryd.func46 (by kernel_rfl) rfl)
    (each_stops (4 - 1) (by omega) (w.heap.size + 1) w.heap.size b hb W2 c1 (by omega) (hT.below hb2 hs0) hs0 (by omega))
    KpB.trans (KpB.book (by omega)) (Below.refl _ _) (fun _ => rfl)
    (fun pre W => (∃ v : Value, pre.length ≤ 64 ∧ W.ownsRow (w.heap.size + 2) 3 1 v pre.length (pre.map (fun n : Nat => Value.int .i64 (n : Int))) ∧ w.heap.size + 2 ≤ W.heap.size ∧ W.cell? ⟨w.heap.size, 0, none⟩ = some v ∧ W.frozen? ⟨w.heap.size, 0, none⟩ = false) ∧ Below w.heap.size w W)
    (fun c pre W => False ∧ Below w.heap.size w W)
    (OwnFrom.and (Own.from (fun s A B row hs hg hr => by
      obtain ⟨v, g2, g3, g4, g5, g6⟩ := hs
      exact ⟨v, g2, own_book g3 hg hr, Nat.le_trans g4 hg.size, cell_kept g5 hg hr, (frozen_kept g5 hg hr).trans g6⟩) _) (ownFrom_below (Nat.le_refl _) (by omega)))
    (fun c => OwnFrom.and (Own.from (fun s A B row hs hg hr => hs) _) (ownFrom_below (Nat.le_refl _) (by omega)))
    ⟨⟨_, by simp, World.ownsRow_nil _ _ _ _, by omega, c0, f0⟩, hb2⟩
    (fun x => { tmps := #[.int .u64 (b : Int), undef, .slice none 0 0, .pointer (some ⟨w.heap.size, 0, none⟩), .int .i64 (x : Int), .int .u64 (b : Int), .func (.func 46) #[] #[.pointer (some ⟨w.heap.size + 1, 0, none⟩)], .int .i64 (x : Int), undef, undef, undef, undef, undef], defers := [] }) ?assign ?body ?done ?stop
  case assign =>
    intro l x W K hK
    gi_wp2
    exact hK
  case body =>
    rintro l pre x W ⟨⟨v, hlen, hown, hsW, d0, d1⟩, hbW⟩ hpl
    obtain ⟨A0, cp, rfl⟩ := own_slice hown
    gi_wp2_with ((gi_at_builtin; refine wpListIn_append_own _ rfl _ _ 22 rfl (w.heap.size + 2) 3 i0 (.int .i64 0) 1 8 Tryd.underlying22 hi hz0 hz1 hz2 rfl (by decide) _ _ _ rfl (hown.alloc _) ⟨W.heap.size, 0, none⟩ 1 1 [.int .i64 (x : Int)] rfl rfl (cell_one_new _ _ _) (by simp [Value.oneCell']) (by simp only [maxLen]; omega) (by omega) (by simp; omega) ?_; intro v' w4 hown' hgrow _; obtain ⟨A4, cp4, rfl⟩ := own_slice hown'; have q4 := (app_far hown hgrow hsW ⟨w.heap.size, 0, none⟩ (by show w.heap.size < _; omega)).1.trans d0; have f4 := (app_far hown hgrow hsW ⟨w.heap.size, 0, none⟩ (by show w.heap.size < _; omega)).2.trans d1))
    obtain ⟨k1, k2, k3, k4, k5, k6, k7⟩ := app_step (B := w.heap.size) hown hown' hgrow (by omega) hsW (by omega) d0
    exact ⟨k1, k2, ⟨_, by simp; omega, by rw [List.length_append, List.map_append]; exact k3, k7, k6, (k5 _ (by show w.heap.size < _; omega)).trans d1⟩, hbW.trans k2⟩
  case done =>
    rintro D l W hD rfl ⟨⟨v, hlen, hown, hsW, d0, d1⟩, hbW⟩ hK
    obtain ⟨A0, cp, rfl⟩ := own_slice hown
    gi_wp2
    refine ⟨by simp, .inl ⟨_, _, rfl, run_takeDeferred hK, ?_⟩⟩
    have own3 := own_book hown (grownBy_putObj' _ D (.deferred none)) (fun r e => by cases e; exact ⟨_, hK, rfl⟩)
    refine ⟨.slice A0 (lbn b).length cp, ?_, ?_⟩
    · simp [results, Tryd.f9, go_sem]
    · exact IntRes.own (by rw [← lbn_lb, List.length_map]) (by rw [← lbn_lb, List.map_map]; exact own3) (hbW.trans (belowK_b (w := W2) (by omega) _ D _ _ hD hK rfl rfl))
  case stop =>
    rintro D c pre W hD hpre ⟨hf, hbW⟩ hK
    exact hf.elim
end Go.Proofs.YtcchmkpodfjhcaaDoor
