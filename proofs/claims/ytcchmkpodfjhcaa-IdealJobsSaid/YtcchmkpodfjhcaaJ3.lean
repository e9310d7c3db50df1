/-
  The walks of ideal.ordered and ideal.jobs.
-/
import Derived.Test.YtcchmkpodfjhcaaJ2
import Derived.Test.YtcchmkpodfjhcaaM1
namespace Go.Proofs.Ytcchmkpodfjhcaa
open Go.RowKit Go.Shelf
set_option linter.unusedVariables false
def ahd (ms : List QM) (k : Nat) : Int := if k = 0 then 0 else (ms[k - 1]?.getD default).a
def okAt (ms : List QM) (now : Int) (k : Nat) : Bool := decide (ahd ms k ≤ (ms[k]?.getD default).a) && decide ((ms[k]?.getD default).a ≤ now) && timeP (ms[k]?.getD default).a
/-- Marks are in order. -/
def ordB (ms : List QM) (now : Int) : Bool := (List.range ms.length).all (okAt ms now) && timeP now
theorem ahd_succ {ms : List QM} {k : Nat} {m : QM} (h : ms[k]? = some m) : ahd ms (k + 1) = m.a := by
  unfold ahd
  rw [if_neg (by omega), Nat.add_sub_cancel, h]; rfl
theorem ordB_bad {ms : List QM} {now : Int} {k : Nat} (hk : k < ms.length) (h : okAt ms now k = false) : ordB ms now = false := by
  unfold ordB
  rw [Bool.and_eq_false_iff]
  left
  rw [List.all_eq_false]
  exact ⟨k, List.mem_range.2 hk, by rw [h]; decide⟩
set_option maxRecDepth 100000 in
set_option maxHeartbeats 4000000 in
theorem ordered_any (A : Option Addr) (ms : List QM) (cap : Nat) (now : Int) (w : World) (hms : RM w w.heap.size A ms) (hl : ms.length ≤ 17592186044416) :
    Calls Try.prog 92 #[.slice A ms.length cap, .int .i64 now] w fun e w' => e = .returned (.bool (ordB ms now)) ∧ Below w.heap.size w w' := by
  have HI := Kept.mk hms
  clear hms
  go_enter Try.func92, Try.ntmps92
  go_wp2
  go_loopw [5, 10] (fun u t wr => ∃ k : Nat, k ≤ ms.length ∧ t = .int .i64 k ∧ u = .int .i64 (ahd ms k) ∧ Kept ((List.range k).all (okAt ms now) = true) ∧ Below w.heap.size w wr) (fun _ t _ => ms.length - (intOf t).toNat)
  case atStart => exact ⟨0, by omega, rfl, rfl, ⟨rfl⟩, Below.refl _ _⟩
  case round =>
    obtain ⟨k, hk, rfl, rfl, hA, hb⟩ := hrel
    by_cases hlt : k < ms.length
    · obtain ⟨b, off, rfl, hbB, hc⟩ := (HI.out.below hb) (by omega)
      obtain ⟨m, hm⟩ := some_atM hlt
      obtain ⟨e1, e2, e3, e4⟩ := hc k m hm
      have ik : (k : Int) < (ms.length : Int) := by omega
      have hsucc := ahd_succ hm
      have hok : okAt ms now k = (decide (ahd ms k ≤ m.a) && decide (m.a ≤ now) && timeP m.a) := by unfold okAt; rw [hm]; rfl
      have HBAD := Kept.mk (ordB_bad (now := now) hlt)
      have HST := Kept.mk (show okAt ms now k = true → (List.range (k + 1)).all (okAt ms now) = true from fun h => by
        rw [List.range_succ, List.all_append, hA.out]; simp [h])
      obtain ⟨ma, mb, mc, md⟩ := m
      simp only at e1 e2 e3 e4 hsucc hok
      have HB2 := Kept.mk (hb.alloc hb.size (.cells #[.int .i64 ma, .int .u8 mb, .int .i64 mc, .int .i64 md] 155))
      obtain ⟨a, ha⟩ : ∃ a, a = ahd ms k := ⟨_, rfl⟩
      rw [← ha] at hok ⊢
      have HOK := Kept.mk hok
      have HSU := Kept.mk hsucc
      have HT := Kept.mk (fun W => time_any ma W)
      clear hc hm hb hok hsucc ha
      by_cases h1 : ma < a
      · have HC := Kept.mk (HBAD.out (by rw [HOK.out]; simp; intro h; omega))
        go_wp2
        go_ret
        exact ⟨congrArg (fun v => Ending.returned (.bool v)) HC.out.symm, HB2.out⟩
      · have d1 : decide (ma < a) = false := decide_eq_false h1
        by_cases h2 : now < ma
        · have HC := Kept.mk (HBAD.out (by rw [HOK.out]; simp; intro h1 h; omega))
          go_wp2
          go_ret
          exact ⟨congrArg (fun v => Ending.returned (.bool v)) HC.out.symm, HB2.out⟩
        · have d2 : decide (now < ma) = false := decide_eq_false h2
          obtain ⟨tp, htp⟩ : ∃ tp, tp = timeP ma := ⟨_, rfl⟩
          rw [← htp] at HT HOK
          cases tp with
          | true =>
            have HN := Kept.mk (HST.out (by rw [HOK.out]; simp; omega))
            clear htp
            go_wp2_with ((go_at_call 101; refine (HT.out _).mono ?_; rintro e w' ⟨rfl, rfl⟩))
            go_roundw
            case rel => exact ⟨k + 1, by omega, by go_num, by rw [HSU.out], HN, HB2.out⟩
            case measure => simp [intOf]; omega
          | false =>
            have HC := Kept.mk (HBAD.out (by rw [HOK.out]; simp))
            clear htp
            go_wp2_with ((go_at_call 101; refine (HT.out _).mono ?_; rintro e w' ⟨rfl, rfl⟩))
            go_ret
            exact ⟨congrArg (fun v => Ending.returned (.bool v)) HC.out.symm, HB2.out⟩
    · have hke : k = ms.length := by omega
      have ik : decide ((k : Int) < (ms.length : Int)) = false := decide_eq_false (by omega)
      have HC := Kept.mk (show ordB ms now = timeP now by unfold ordB; rw [hke] at hA; rw [hA.out]; rfl)
      have HT := Kept.mk (fun W => time_any now W)
      clear hke hA
      go_wp2_with ((go_at_call 101; refine (HT.out _).mono ?_; rintro e w' ⟨rfl, rfl⟩))
      go_ret
      exact ⟨congrArg (fun v => Ending.returned (.bool v)) HC.out.symm, hb⟩
structure Tk where
  k : Int
  p : Int
  b : Int
  c : Int
  d : Int
  e : Int
  f : Int
  g : Int
  h : Int
  i : Int
instance : Inhabited Tk := ⟨⟨0, 0, 0, 0, 0, 0, 0, 0, 0, 0⟩⟩
abbrev Tk.arr (t : Tk) : Array Value := #[.int .u8 t.k, .int .i64 t.p, .int .i64 t.b, .int .i64 t.c, .int .i64 t.d, .int .i64 t.e, .int .i64 t.f, .int .i64 t.g, .int .i64 t.h, .int .i64 t.i]
/-- jobs tells an iterator. -/
theorem jobs_any (t : Tk) (i now : Int) (Am : Option Addr) (nm cm : Nat) (w : World) :
    Calls Try.prog 93 #[.agg t.arr, .int .i64 i, .slice Am nm cm, .int .i64 now] w fun e w' => e = .returned (.func (.func 104) #[] #[.pointer (some ⟨w.heap.size + 2, 0, none⟩), .pointer (some ⟨w.heap.size + 1, 0, none⟩), .pointer (some ⟨w.heap.size, 0, none⟩), .pointer (some ⟨w.heap.size + 3, 0, none⟩)]) ∧
      w' = (((w.alloc (.cells t.arr 152)).alloc (.cells #[.int .i64 i] 3)).alloc (.cells #[.slice Am nm cm] 102)).alloc (.cells #[.int .i64 now] 2) := by
  obtain ⟨k, p, b, c, d, e, f, g, h, i'⟩ := t
  go_enter Try.func93, Try.ntmps93
  go_wp2
  go_ret
  exact ⟨rfl, rfl⟩
theorem jobs_in_of {w W : World} {t : Tk} {i now : Int} {Am : Option Addr} {ms : List QM} {cm : Nat} (hm : RM w w.heap.size Am ms)
    (hW : W = (((w.alloc (.cells t.arr 152)).alloc (.cells #[.int .i64 i] 3)).alloc (.cells #[.slice Am ms.length cm] 102)).alloc (.cells #[.int .i64 now] 2)) :
    JIn W (w.heap.size + 2) (w.heap.size + 1) w.heap.size (w.heap.size + 3) t.p i now ms ∧ Below w.heap.size w W ∧ W.heap.size = w.heap.size + 4 := by
  have z1 : (w.alloc (.cells t.arr 152)).heap.size = w.heap.size + 1 := by simp
  have z2 : ((w.alloc (.cells t.arr 152)).alloc (.cells #[.int .i64 i] 3)).heap.size = w.heap.size + 2 := by simp
  have z3 : (((w.alloc (.cells t.arr 152)).alloc (.cells #[.int .i64 i] 3)).alloc (.cells #[.slice Am ms.length cm] 102)).heap.size = w.heap.size + 3 := by simp
  have b1 := below_box w (.cells t.arr 152)
  have b2 := below_box (w.alloc (.cells t.arr 152)) (.cells #[.int .i64 i] 3)
  have b3 := below_box ((w.alloc (.cells t.arr 152)).alloc (.cells #[.int .i64 i] 3)) (.cells #[.slice Am ms.length cm] 102)
  have b4 := below_box (((w.alloc (.cells t.arr 152)).alloc (.cells #[.int .i64 i] 3)).alloc (.cells #[.slice Am ms.length cm] 102)) (.cells #[.int .i64 now] 2)
  rw [← hW] at b4
  have k3 := (b4.mono (by rw [z3]; exact Nat.le_refl _) : Below (w.heap.size + 3) _ _)
  have k2 := (b3.mono (by rw [z2]; exact Nat.le_refl _) : Below (w.heap.size + 2) _ _).trans (k3.mono (by omega))
  have k1 := (b2.mono (by rw [z1]; exact Nat.le_refl _) : Below (w.heap.size + 1) _ _).trans (k2.mono (by omega))
  have k0 := b1.trans (k1.mono (by omega))
  have h1 : W.heap[w.heap.size]? = some (.cells t.arr 152) := by
    rw [k1.block _ (by omega)]; exact heap_alloc_new _ _
  have h2 : W.heap[w.heap.size + 1]? = some (.cells #[.int .i64 i] 3) := by
    rw [k2.block _ (by omega), ← z1]; exact heap_alloc_new _ _
  have h3 : W.heap[w.heap.size + 2]? = some (.cells #[.slice Am ms.length cm] 102) := by
    rw [k3.block _ (by omega), ← z2]; exact heap_alloc_new _ _
  have h4 : W.heap[w.heap.size + 3]? = some (.cells #[.int .i64 now] 2) := by
    rw [hW, ← z3]; exact heap_alloc_new _ _
  have hz : W.heap.size = w.heap.size + 4 := by rw [hW]; simp
  exact ⟨⟨⟨Am, cm, cell_of_row _ _ 0 _ _ _ h3, (hm.below k0).mono (by omega)⟩, cell_of_row _ _ 0 _ _ _ h2, cell_of_row _ _ 1 _ _ _ h1, cell_of_row _ _ 0 _ _ _ h4⟩, k0, hz⟩
end Go.Proofs.Ytcchmkpodfjhcaa
