/-
  bits.Each once more: what it yields are the set's members.
-/
import Derived.Test.YtcchmkpodfjhcaaDoorT9
import Derived.Stop.RegionWithIn
namespace Go.Proofs.YtcchmkpodfjhcaaDoor
open Go.RowKit Go.Shelf
set_option linter.unusedVariables false
attribute [local go_sem] Oper.semAt_some
abbrev encM {b : Nat} (x : {n : Nat // n ∈ lbn b}) : Array Value := #[.int .i64 (x.1 : Int)]
set_option maxHeartbeats 1000000 in
theorem each_in2 (n : Nat) (hn : 1 ≤ n) (l B1 n₀ : Nat) (b : Nat) (hb : b < 18446744073709551616) (J Jx : List {n : Nat // n ∈ lbn b} → World → Prop)
    (hY : ∀ pre x W, J pre W → pre.length < 64 → YieldAt Fence.wide (n - 1) Tryd.prog l (encM x) W fun e W' =>
      (e = .returned (.bool true) ∧ J (pre ++ [x]) W' ∧ KpB n₀ W W') ∨ (e = .returned (.bool false) ∧ Jx (pre ++ [x]) W'))
    (W : World) (hB1 : W.cell? ⟨B1, 0, none⟩ = some (.int .u64 (b : Int))) (hT : Tab W) (hn0 : 0 < n₀) (h0 : J [] W) :
    CallsIn Fence.wide n Tryd.prog 46 #[.func (.yield l) #[] #[], .pointer (some ⟨B1, 0, none⟩)] W fun e W' => (∃ v, e = .returned v) ∧
      ((∃ l, l.map Subtype.val = lbn b ∧ J l W') ∨ (∃ pre, Jx pre W')) := by
  refine callsIn_of_wp Tryd.func46 rfl trivial ?_ rfl
  simp only [Tryd.ntmps46, List.size_toArray, List.length_cons, List.length_nil, Nat.reduceAdd, Nat.reduceSub, Array.replicate_succ, Array.replicate_zero, List.push_toArray, List.append_toArray, List.nil_append, List.cons_append]
  gi_wp2
  gi_loopw [3] (fun t wr => ∃ (d : Nat) (pre : List {n : Nat // n ∈ lbn b}), t = .int .u64 (d : Int) ∧ d < 18446744073709551616 ∧ Hid (lbn b = pre.map Subtype.val ++ lbn d) ∧ Tab wr ∧ J pre wr)
    (fun t _ => (lbn (intOf t).toNat).length)
  case atStart => exact ⟨b, [], rfl, hb, rfl, hT, h0⟩
  case round =>
    obtain ⟨d, pre, rfl, hd, hp, ht, hj⟩ := hrel
    by_cases hz : d = 0
    · subst hz
      have hp2 := hp.out
      rw [lbn_zero, List.append_nil] at hp2
      have HP := Lib.hid hp2
      clear hp2 hp
      gi_wp2
      go_end0
      exact ⟨⟨_, rfl⟩, .inl ⟨pre, HP.out.symm, hj⟩⟩
    · have hz1 : ((d : Int) != 0) = true := by simp [hz]
      have hst := lbn_step hz hd
      have hp2 := hp.out
      rw [hst] at hp2
      have hpl : pre.length < 64 := by have := lbn_len b; rw [hp2] at this; simp at this; omega
      have hmem : Lib.ctz 64 d ∈ lbn b := by rw [hp2]; simp
      have HP := Lib.hid hp2
      have HST := Lib.hid hst
      have hlt : d &&& (d - 1) < 18446744073709551616 := Nat.lt_of_le_of_lt Nat.and_le_left hd
      have HN := Lib.hid (and_dec d hd hz)
      clear hp hst hp2
      gi_wp2_with fail
      refine ⟨trivial, ?_⟩
      refine (callsIn_wide.2 (bits_tz d hd _ fun _ => ht)).mono ?_
      rintro e w1 ⟨rfl, rfl⟩
      obtain ⟨fn, tmps, assign, body, hy, hRd⟩ := hY _ ⟨Lib.ctz 64 d, hmem⟩ _ hj hpl
      dsimp only [encM] at hy
      gi_wp2
      refine hRd.mono ?_
      rintro e W3 (⟨rfl, hJ3, hk3⟩ | ⟨rfl, hJx3⟩)
      · gi_wp2
        go_roundw
        case rel => exact ⟨d &&& (d - 1), pre ++ [⟨Lib.ctz 64 d, hmem⟩], HN.out, hlt, HP.out.trans (by simp), ht.below hk3 hn0, hJ3⟩
        case measure =>
          rw [HN.out]
          show (lbn (d &&& (d - 1))).length < (lbn d).length
          rw [HST.out]; simp
      · gi_wp2
        refine bodyPost_ret (results_none rfl _ _ _) rfl ?_
        exact ⟨⟨_, rfl⟩, .inr ⟨_, hJx3⟩⟩
theorem each_stops2 (n : Nat) (hn : 1 ≤ n) (B1 n₀ : Nat) (b : Nat) (hb : b < 18446744073709551616) (w : World)
    (hB1 : w.cell? ⟨B1, 0, none⟩ = some (.int .u64 (b : Int))) (hB1l : B1 < w.heap.size) (hT : Tab w) (hn0 : 0 < n₀) (hs : 0 < w.heap.size) :
    SeqStopsK Fence.wide n Tryd.prog 46 #[.pointer (some ⟨B1, 0, none⟩)] (encM (b := b)) (KpB n₀) (fun l => l.map Subtype.val = lbn b) (fun pre => True) 64 w := fun l J Jx W hW hJ hJx hY h0 =>
  (each_in2 n hn l B1 n₀ b hb J Jx hY W ((hW.cell (p := ⟨B1, 0, none⟩) hB1l).trans hB1) (hT.below hW hs) hn0 h0).mono fun e w' ⟨h1, h2⟩ => ⟨h1, h2.imp id fun ⟨pre, h⟩ => ⟨pre, trivial, h⟩⟩
end Go.Proofs.YtcchmkpodfjhcaaDoor
