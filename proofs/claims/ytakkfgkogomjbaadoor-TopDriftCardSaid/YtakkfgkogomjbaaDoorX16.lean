/-
  The law TopDrift: the clock goes on by any number of cycles.
-/
import Derived.Test.YtakkfgkogomjbaaDoorGX
import Derived.Test.YtakkfgkogomjbaaDoorX14
namespace Go.Proofs.YtakkfgkogomjbaaDoor
open Go.RowKit Go.Shelf
set_option linter.unusedVariables false
set_option linter.unusedSimpArgs false
attribute [local go_sem] Oper.semAt_some
section
variable {F : Fence} {n : Nat} {P : Program}
theorem wpListIn_store_at {w : World} {ops : Array Oper} {rest : List Oper} {o : Oper} {a : Act} {Q : Exit → Act → World → Prop} (hgd : o.guard = none) (ty : TypeId) (x y : Operand) (ho : o.op = .store ty x y)
    (g k : Nat) (hx : a.eval x = .pointer (some ⟨g, k, none⟩)) (new : Array Value) (hy : a.eval y = .agg new) (t : TypeId) (cs cs' : Array Value) (hg : w.heap[g]? = some (.cells cs t (0, 0)))
    (hi : (P.info? ty).map (·.size) = some new.size) (hs : k + new.size ≤ cs.size) (h1 : ∀ v ∈ new.toList, v.oneCell' = true) (hc : (cs.toList.take k ++ new.toList ++ cs.toList.drop (k + new.size)).toArray = cs')
    (h : ∀ w', PutAt g cs' t w w' → wpListIn F n P ops Q rest (a.put o.dst undef) w') : wpListIn F n P ops Q (o :: rest) a w := by
  refine wpListIn_plain hgd fun K hK' => ?_
  unfold Oper.wpIn
  refine ⟨by simp [Oper.about, ho], ?_⟩
  rw [Oper.semAt_eq _ _ _ (by rw [ho]; intro c hc'; cases hc')]
  unfold execOp
  simp only [ho, hx, hy, Instr.storeAt, Instr.sureAddr, Sem.run_bind, Sem.run_pure, Result.andThen_ok, run_storeVar_at w g k t ty cs new hg hi hs h1]
  refine hK' _ _ (h _ ⟨?_, fun i hi => setRow_other w g i _ hi, fun B hB => ⟨rfl, rfl, rfl, by simp, fun i hi => setRow_other w g i _ (by omega)⟩, by simp⟩)
  rw [hc]
  exact setRow_heap w g _ _ _ _ hg
end
/-- Beyond the end of time. -/
theorem extend_over (t k : Int) (t0 : 0 ≤ t) (t1 : t ≤ 4503599627370496) (k0 : 0 ≤ k) (k1 : k < 2147483648) (h : 4503599627370496 < t + k) (w : World) : Calls Tryd.prog 58 #[.int .i64 t, .int .u32 ((t + k) % 4294967296)] w fun e w' => e = .returned (.tuple #[.int .i64 0, .int .i64 6]) ∧ w = w' := by
  have HT := wtime_any t w
  have HK := wtime_any (t + k) w
  have HL := low_any t t0 (by omega) w
  rw [show (decide (0 ≤ t) && decide (t ≤ 4503599627370496)) = true by simp; omega] at HT
  rw [show (decide (0 ≤ t + k) && decide (t + k ≤ 4503599627370496)) = false by simp; omega] at HK
  go_enter Tryd.func58, Tryd.ntmps58
  go_wp2_with fail
  refine HT.mono ?_
  rintro e w1 ⟨rfl, rfl⟩
  go_wp2_with fail
  refine HL.mono ?_
  rintro e w1 ⟨rfl, rfl⟩
  go_wp2_with fail
  rw [show t + (t + k - t) % 4294967296 = t + k by omega]
  refine HK.mono ?_
  rintro e w1 ⟨rfl, rfl⟩
  go_wp2_with fail
  go_ret2
  exact ⟨rfl, rfl⟩
theorem cnow_over (t k m : Int) (a l : Bool) (t0 : 0 ≤ t) (t1 : t ≤ 4503599627370496) (k0 : 0 ≤ k) (k1 : k < 2147483648) (h : 4503599627370496 < t + k) (w : World) : Calls Tryd.prog 36 #[.agg #[.int .u32 ((t + k) % 4294967296), .int .u32 m, .bool a, .bool l, .int .i64 t]] w fun e w' => e = .returned (.tuple #[.int .i64 0, .int .i64 2]) ∧ Below w.heap.size w w' := by
  have HE := extend_over t k t0 t1 k0 k1 h (w.alloc (.cells #[.int .u32 ((t + k) % 4294967296), .int .u32 m, .bool a, .bool l, .int .i64 t] 64))
  go_enter Tryd.func36, Tryd.ntmps36
  go_wp2_with (go_at_call 58; refine (HE).mono ?_; rintro e w' ⟨rfl, rfl⟩)
  go_ret2
  exact ⟨rfl, below_box _ _⟩
set_option maxHeartbeats 4000000 in
/-- Reading a clock, within the end of time or beyond. -/
theorem cread_tot (t k m : Int) (a l : Bool) (t0 : 0 ≤ t) (t1 : t ≤ 4503599627370496) (k0 : 0 ≤ k) (k1 : k < 2147483648) (w : World) : Calls Tryd.prog 39 #[.agg #[.int .u32 ((t + k) % 4294967296), .int .u32 m, .bool a, .bool l, .int .i64 t]] w fun e w' => ∃ t' m' a' l' tt er, e = .returned (.tuple #[.agg #[.int .u32 (t' % 4294967296), .int .u32 m', .bool a', .bool l', .int .i64 t'], .int .i64 tt, .int .i64 er]) ∧ Kept (0 ≤ t' ∧ t' ≤ 4503599627370496 ∧ (t + k ≤ 4503599627370496 → t' = t + k ∧ m' = m ∧ a' = a)) ∧ Below w.heap.size w w' := by
  by_cases h : t + k ≤ 4503599627370496
  · refine (cread_any t k m a l t0 k0 k1 h w).mono ?_
    rintro e w' ⟨rfl, hb⟩
    exact ⟨t + k, m, a, l, t + k, 0, rfl, ⟨by omega, h, fun _ => ⟨rfl, rfl, rfl⟩⟩, hb⟩
  · have HN := cnow_over t k m a l t0 t1 k0 k1 (by omega)
    have HH := Kept.mk h
    clear h
    go_enter Tryd.func39, Tryd.ntmps39
    go_wp2_with fail
    refine (HN _).mono ?_
    rintro e w1 ⟨rfl, hb⟩
    have h1 := (hb.block (w.heap.size + 1) (by simp)).trans (heap_alloc2_new _ _ _)
    have HB := Kept.mk ((two_below w _ _).trans (hb.mono (by simp; omega)))
    clear hb
    go_wp2_with (refine wpList_store_at rfl 64 _ _ rfl (w.heap.size + 1) 0 rfl #[.int .u32 0, .int .u32 0, .bool false, .bool false, .int .i64 0] rfl 64 #[.int .u32 0, .int .u32 0, .bool false, .bool false, .int .i64 0] #[.int .u32 0, .int .u32 0, .bool false, .bool false, .int .i64 0] h1 size_ck (by simp) ck_one rfl ?_; intro w2 hp; have HP := Kept.mk hp; clear hp)
    refine bodyPost_ret (results_row3 (p := 2) (u := 3) (v := 4) rfl _ _ (w.heap.size + 1) 64 #[.int .u32 0, .int .u32 0, .bool false, .bool false, .int .i64 0] (0, 0) _ rfl HP.out.here Tryd.underlying64 rfl (by kernel_rfl)) rfl ?_
    exact ⟨0, 0, false, false, _, _, rfl, ⟨by omega, by omega, fun h => absurd h (by have := HH.out; omega)⟩, HB.out.trans (HP.out.below w.heap.size (by omega))⟩
/-- Whether it has matched within s cycles. -/
theorem ahd_step {t m s k : Int} {a : Bool} (s0 : 0 ≤ s) (k0 : 0 < k) : ((a && !decide (ahd (t % 4294967296) m < s)) && !(decide (0 < k) && decide (ahd ((t + s) % 4294967296) m < k))) = (a && !decide (ahd (t % 4294967296) m < s + k)) := by
  cases a with
  | false => simp
  | true =>
    by_cases h1 : ahd (t % 4294967296) m < s
    · have h2 : ahd (t % 4294967296) m < s + k := by omega
      simp [h1, h2]
    · have e : ahd ((t + s) % 4294967296) m = ahd (t % 4294967296) m - s := by
        unfold ahd at h1 ⊢
        omega
      have h3 : (ahd ((t + s) % 4294967296) m < k) ↔ (ahd (t % 4294967296) m < s + k) := by omega
      have hd : decide (0 < k) = true := decide_eq_true k0
      simp [h1, hd, h3]
end Go.Proofs.YtakkfgkogomjbaaDoor
