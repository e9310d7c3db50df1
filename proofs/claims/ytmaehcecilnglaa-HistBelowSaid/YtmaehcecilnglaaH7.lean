/-
  The walks of hist.done, Jobs and of the reference's Jobs.
-/
import Derived.Test.YtmaehcecilnglaaH6
import Derived.Test.YtmaehcecilnglaaVm
namespace Go.Proofs.Ytmaehcecilnglaa
open Go.RowKit Go.Shelf
set_option linter.unusedVariables false
attribute [local go_sem] Oper.semAt_some

def isD (task : Int) (m : QM) : Bool := decide (m.b = 2) && decide (m.c = task)
def dn (task : Int) (xs : List QM) : List Int := (xs.filter (isD task)).map QM.d
theorem dn_step {task : Int} {xs : List QM} {k : Nat} {x : QM} (h : xs[k]? = some x) : dn task (xs.take (k + 1)) = dn task (xs.take k) ++ if isD task x then [x.d] else [] := by
  unfold dn
  rw [List.take_add_one, h, List.filter_append, List.map_append]
  congr 1
  cases hx : isD task x <;> simp [hx]
theorem dn_len (task : Int) (xs : List QM) (k : Nat) : (dn task (xs.take k)).length ≤ k := by
  unfold dn
  rw [List.length_map]
  exact Nat.le_trans (List.length_filter_le _ _) (by simp; omega)
theorem dn_prefix (task : Int) (xs : List QM) (k : Nat) : dn task (xs.take k) <+: dn task xs := by
  unfold dn
  refine ⟨((xs.drop k).filter (isD task)).map QM.d, ?_⟩
  rw [← List.map_append, ← List.filter_append, List.take_append_drop]
set_option maxHeartbeats 1000000 in
theorem done_in (n : Nat) (hn : 1 ≤ n) (l B1 B2 n₀ : Nat) (A : Option Addr) (xs : List QM) (cap : Nat) (task : Int) (J Jx : List Int → World → Prop) (B0 : Nat) (hJ : AbidesFrom B0 J) (hlen : xs.length ≤ 9223372036854775807)
    (hY : ∀ pre x W, J pre W → pre.length < xs.length → YieldAt Fence.wide (n - 1) Try.prog l (encI x) W fun e W' =>
      (e = .returned (.bool true) ∧ J (pre ++ [x]) W' ∧ KpB n₀ W W') ∨ (e = .returned (.bool false) ∧ Jx (pre ++ [x]) W'))
    (W : World) (hB1 : W.cell? ⟨B1, 0, none⟩ = some (.slice A xs.length cap)) (hB2 : W.cell? ⟨B2, 0, none⟩ = some (.int .i64 task)) (hB2l : B2 < n₀) (hR : RM W n₀ A xs) (hn0 : n₀ ≤ W.heap.size) (h0 : J [] W) :
    CallsIn Fence.wide n Try.prog 34 #[.func (.yield l) #[] #[], .pointer (some ⟨B1, 0, none⟩), .pointer (some ⟨B2, 0, none⟩)] W fun e W' => (∃ v, e = .returned v) ∧
      ((∃ l, l = dn task xs ∧ J l W') ∨ (∃ pre, pre <+: dn task xs ∧ Jx pre W')) := by
  refine callsIn_of_wp Try.func34 rfl trivial ?_ rfl
  simp only [Try.ntmps34, List.size_toArray, List.length_cons, List.length_nil, Nat.reduceAdd, Nat.reduceSub, Array.replicate_succ, Array.replicate_zero, List.push_toArray, List.append_toArray, List.nil_append, List.cons_append]
  gi_wp2
  gi_loopw [8] (fun i wr => ∃ (k : Nat), k ≤ xs.length ∧ i = .int .i64 k ∧ RM wr n₀ A xs ∧ wr.cell? ⟨B2, 0, none⟩ = some (.int .i64 task) ∧ n₀ ≤ wr.heap.size ∧ J (dn task (xs.take k)) wr) (fun i _ => xs.length - (intOf i).toNat)
  case atStart => exact ⟨0, by omega, rfl, hR, hB2, hn0, h0⟩
  case round =>
    obtain ⟨k, hk, rfl, hr, ht, hnr, hj⟩ := hrel
    by_cases hlt : k < xs.length
    · obtain ⟨b, off, rfl, hbB, hc⟩ := hr (by omega)
      obtain ⟨x, hx⟩ := some_atM hlt
      obtain ⟨c1, c2, c3, c4⟩ := hc k x hx
      have hst := dn_step (task := task) hx
      have hdl := dn_len task xs k
      have hpre := dn_prefix task xs (k + 1)
      have hlb : b < wr.heap.size := by omega
      have hlb2 : B2 < wr.heap.size := by omega
      clear hc hx
      obtain ⟨xa, xb, xc, xd⟩ := x
      simp only at c1 c2 c3 c4 hst
      have hbx : Below n₀ wr (wr.alloc (.cells #[.int .i64 xa, .int .u8 xb, .int .i64 xc, .int .i64 xd] 54)) := (Below.refl _ _).alloc hnr _
      have hj1 := hJ _ wr (wr.alloc (.cells #[.int .i64 xa, .int .u8 xb, .int .i64 xc, .int .i64 xd] 54)) none hj (World.grownBy_alloc wr _ none) (fun r e => by cases e)
      have ht1 := (hbx.cell (p := ⟨B2, 0, none⟩) hB2l).trans ht
      by_cases hb2 : xb = 2
      · have hb2' : ((xb : Int) == 2) = true := by simp [hb2]
        by_cases hc2 : xc = task
        · have hc2' : (xc == task) = true := by simp [hc2]
          have hd : isD task ⟨xa, xb, xc, xd⟩ = true := by unfold isD; simp [hb2, hc2]
          rw [hd, if_pos rfl] at hst
          rw [hst] at hpre
          have HST := Lib.hid hst
          have HP := Lib.hid hpre
          have hpl : (dn task (xs.take k)).length < xs.length := by omega
          obtain ⟨fn, tmps, assign, body, hy, hRd⟩ := hY _ xd _ hj1 hpl
          dsimp only [encI] at hy
          clear hst hpre hb2 hc2 hd
          gi_wp2
          refine hRd.mono ?_
          rintro e W3 (⟨rfl, hJ3, hk3⟩ | ⟨rfl, hJx3⟩)
          · gi_wp2
            go_roundw
            case rel => exact ⟨k + 1, by omega, by go_num, (hr.below hbx).below hk3, (hk3.cell (p := ⟨B2, 0, none⟩) hB2l).trans ht1, Nat.le_trans hnr (Nat.le_trans hbx.size hk3.size), by rw [HST.out]; exact hJ3⟩
            case measure => simp [intOf]; omega
          · gi_wp2
            refine bodyPost_ret (results_none rfl _ _ _) rfl ?_
            exact ⟨⟨_, rfl⟩, .inr ⟨_, HP.out, hJx3⟩⟩
        · have hc2' : (xc == task) = false := by simp [hc2]
          have hd : isD task ⟨xa, xb, xc, xd⟩ = false := by unfold isD; simp [hc2]
          rw [hd] at hst
          simp only [Bool.false_eq_true, if_false, List.append_nil] at hst
          have HST := Lib.hid hst
          clear hst hpre hb2 hd
          gi_wp2
          refine ⟨(fun f hf => by cases hf), ?_⟩
          gi_wp2
          go_roundw
          case rel => exact ⟨k + 1, by omega, by go_num, hr.below hbx, ht1, Nat.le_trans hnr hbx.size, by rw [HST.out]; exact hj1⟩
          case measure => simp [intOf]; omega
      · have hb2' : ((xb : Int) == 2) = false := by simp [hb2]
        have hd : isD task ⟨xa, xb, xc, xd⟩ = false := by unfold isD; simp [hb2]
        rw [hd] at hst
        simp only [Bool.false_eq_true, if_false, List.append_nil] at hst
        have HST := Lib.hid hst
        clear hst hpre hd
        gi_wp2
        refine ⟨(fun f hf => by cases hf), ?_⟩
        gi_wp2
        go_roundw
        case rel => exact ⟨k + 1, by omega, by go_num, hr.below hbx, ht1, Nat.le_trans hnr hbx.size, by rw [HST.out]; exact hj1⟩
        case measure => simp [intOf]; omega
    · have hpe : xs.take k = xs := List.take_of_length_le (by omega)
      rw [hpe] at hj
      clear hpe
      gi_wp2
      go_end0
      exact ⟨⟨_, rfl⟩, .inl ⟨_, rfl, hj⟩⟩
theorem done_stops (n : Nat) (hn : 1 ≤ n) (B1 B2 n₀ : Nat) (A : Option Addr) (xs : List QM) (cap : Nat) (task : Int) (hlen : xs.length ≤ 9223372036854775807) (w : World)
    (hB1 : w.cell? ⟨B1, 0, none⟩ = some (.slice A xs.length cap)) (hB1l : B1 < w.heap.size) (hB2 : w.cell? ⟨B2, 0, none⟩ = some (.int .i64 task)) (hB2l : B2 < n₀) (hR : RM w n₀ A xs) (hn0 : n₀ ≤ w.heap.size) :
    SeqStopsK Fence.wide n Try.prog 34 #[.pointer (some ⟨B1, 0, none⟩), .pointer (some ⟨B2, 0, none⟩)] encI (KpB n₀) (fun l => l = dn task xs) (fun pre => pre <+: dn task xs) xs.length w := fun l J Jx W hW hJ hJx hY h0 =>
  done_in n hn l B1 B2 n₀ A xs cap task J Jx W.heap.size hJ hlen hY W ((hW.cell (p := ⟨B1, 0, none⟩) hB1l).trans hB1) ((hW.cell (p := ⟨B2, 0, none⟩) (by show B2 < _; omega)).trans hB2) hB2l (hR.below (hW.mono hn0)) (Nat.le_trans hn0 hW.size) h0
theorem done_any (A : Option Addr) (n cap : Nat) (task : Int) (w : World) :
    Calls Try.prog 30 #[.slice A n cap, .int .i64 task] w fun e w' => e = .returned (.func (.func 34) #[] #[.pointer (some ⟨w.heap.size, 0, none⟩), .pointer (some ⟨w.heap.size + 1, 0, none⟩)]) ∧ w' = (w.alloc (.cells #[.slice A n cap] 35)).alloc (.cells #[.int .i64 task] 3) := by
  go_enter Try.func30, Try.ntmps30
  go_wp2
  go_ret
  exact ⟨rfl, rfl⟩
theorem marks_box (w w0 : World) (n n1 : Nat) (hn : n = w0.heap.size) (hn1 : n1 = w0.heap.size + 1) (hb : Below w.heap.size w w0) (A : Option Addr) (xs : List QM) (cap : Nat) (task : Int) (h : RM w w.heap.size A xs) (hl : xs.length ≤ 9223372036854775807) :
    SeqStopsK Fence.wide (4 - 1) Try.prog 34 #[.pointer (some ⟨n, 0, none⟩), .pointer (some ⟨n1, 0, none⟩)] encI (KpB ((w0.alloc (.cells #[.slice A xs.length cap] 35)).alloc (.cells #[.int .i64 task] 3)).heap.size) (fun l => l = dn task xs) (fun pre => pre <+: dn task xs) xs.length ((w0.alloc (.cells #[.slice A xs.length cap] 35)).alloc (.cells #[.int .i64 task] 3)) := by
  subst hn
  subst hn1
  have hz := hb.size
  obtain ⟨c0, _, c1, _, hs, hb2⟩ := two_box (w := w0) (w1 := (w0.alloc (.cells #[.slice A xs.length cap] 35)).alloc (.cells #[.int .i64 task] 3)) (v0 := .slice A xs.length cap) (v1 := .int .i64 task) (t0 := 35) (t1 := 3) (Below.refl _ _)
  exact done_stops (4 - 1) (by omega) w0.heap.size (w0.heap.size + 1) _ A xs cap task hl _ c0 (by simp; omega) c1 (by simp) ((h.below (hb.next hz hb2)).mono (by simp; omega)) (Nat.le_refl _)
set_option maxHeartbeats 1000000 in
theorem jobs_any (A : Option Addr) (xs : List QM) (cap : Nat) (task : Int) (w : World) (h : RM w w.heap.size A xs) (hl : xs.length ≤ 9223372036854775807) :
    Calls Try.prog 20 #[.slice A xs.length cap, .int .i64 task] w (HistRes w (smF hZ (dn task xs)).1 (smF hZ (dn task xs)).2) := by
  have hV := smF_len (dn task xs) hZ_len
  obtain ⟨V, hVe⟩ : ∃ V, V = (smF hZ (dn task xs)).1 := ⟨_, rfl⟩
  obtain ⟨E, hEe⟩ : ∃ E, E = (smF hZ (dn task xs)).2 := ⟨_, rfl⟩
  have cs := fun (w : World) n n1 hseq => sum_any 34 #[.pointer (some ⟨n, 0, none⟩), .pointer (some ⟨n1, 0, none⟩)] (enters_of Try.func34 (by kernel_rfl) rfl) (dn task xs) xs.length w hseq
  rw [← hVe] at hV
  simp only [← hVe, ← hEe] at cs ⊢
  have CS := Lib.hid cs
  clear cs hVe hEe
  unfold HistRes
  go_enter Try.func20, Try.ntmps20
  go_wp2_with (go_at_call 30; refine (done_any _ _ _ _ _).mono ?_; rintro e w' ⟨rfl, rfl⟩)
  have hb0 : Below w.heap.size w (w.alloc (.cells #[.int .i64 0, .int .i64 0, .int .i64 0, .int .i64 0, .int .i64 0, .int .i64 0, .int .i64 0, .int .i64 0, .int .i64 0, .int .i64 0, .int .i64 0, .int .i64 0, .int .i64 0, .int .i64 0, .int .i64 0, .int .i64 0, .int .i64 0, .int .i64 0, .int .i64 0, .int .i64 0, .int .i64 0, .int .i64 0, .int .i64 0, .int .i64 0, .int .i64 0, .int .i64 0, .int .i64 0, .int .i64 0, .int .i64 0, .int .i64 0, .int .i64 0, .int .i64 0, .int .i64 0, .int .i64 0, .int .i64 0, .int .i64 0, .int .i64 0, .int .i64 0, .int .i64 0, .int .i64 0, .int .i64 0, .int .i64 0, .int .i64 0, .int .i64 0, .int .i64 0, .int .i64 0, .int .i64 0, .int .i64 0, .int .i64 0, .int .i64 0, .int .i64 0, .int .i64 0, .int .i64 0, .int .i64 0] 24)) := below_box _ _
  refine (CS.out _ (w.heap.size + 1) (w.heap.size + 1 + 1) (marks_box w _ _ _ (by simp) (by simp) hb0 A xs cap task h hl)).mono ?_
  rintro e w1 ⟨rfl, hb⟩
  have d0 : HB w1 w.heap.size hZ := (((HB.newZ w).alloc _).alloc _).below hb (by simp; omega)
  have hbl : Below w.heap.size w w1 := hb0.next2 (by simp) hb
  go_wp2_with (refine wpList_store_row rfl 24 _ _ rfl _ rfl (hC V) rfl 24 (hC hZ) d0 (hist_size hV) (by rw [hC_size, hC_size, hV, hZ_len]) (hC_one _) ?_)
  exact bodyPost_ret (v := .tuple #[.agg (hC V), .int .i64 E]) (results_hist (p := 4) (u := 5) rfl _ _ w.heap.size V hV rfl (d0.put V)) rfl ⟨rfl, below_put hbl (Nat.le_refl _) _⟩
end Go.Proofs.Ytmaehcecilnglaa
