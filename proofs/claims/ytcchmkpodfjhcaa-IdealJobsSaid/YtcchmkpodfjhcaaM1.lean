/-
  Pieces: which are right; the walks of ideal.time, right, Check, and of the reference's.
-/
import Derived.Test.YtcchmkpodfjhcaaV3
import Derived.Test.YtcchmkpodfjhcaaP0
namespace Go.Proofs.Ytcchmkpodfjhcaa
open Go.RowKit
set_option linter.unusedVariables false
def timeP (t : Int) : Bool := decide (0 ≤ t) && decide (t ≤ 4503599627370496)
theorem time_any (t : Int) (w : World) : Calls Try.prog 101 #[.int .i64 t] w fun e w' => e = .returned (.bool (timeP t)) ∧ w = w' := by
  by_cases h : 0 ≤ t
  · go_enter Try.func101, Try.ntmps101
    go_wp2
    go_ret
    exact ⟨by simp [timeP, h], rfl⟩
  · go_enter Try.func101, Try.ntmps101
    go_wp2
    go_ret
    exact ⟨by simp [timeP]; omega, rfl⟩
theorem rtime_any (t : Int) (w : World) : Calls Try.prog 91 #[.int .i64 t] w fun e w' => e = .returned (.bool (timeP t)) ∧ w = w' := by
  by_cases h : 0 ≤ t
  · go_enter Try.func91, Try.ntmps91
    go_wp2
    go_ret
    exact ⟨by simp [timeP, h], rfl⟩
  · go_enter Try.func91, Try.ntmps91
    go_wp2
    go_ret
    exact ⟨by simp [timeP]; omega, rfl⟩
structure okP (q : Q3) : Prop where
  a0 : 0 ≤ q.a
  a1 : q.a ≤ 63
  b0 : 0 ≤ q.b
  b1 : q.b ≤ 4503599627370496
  c0 : 1 ≤ q.c
  c1 : q.c ≤ 1099511627776
def okb (q : Q3) : Bool := decide (0 ≤ q.a) && decide (q.a ≤ 63) && timeP q.b && decide (1 ≤ q.c) && decide (q.c ≤ 1099511627776)
theorem okb_iff (q : Q3) : okb q = true ↔ okP q := by
  unfold okb timeP
  simp only [Bool.and_eq_true, decide_eq_true_eq]
  constructor
  · rintro ⟨⟨⟨⟨h1, h2⟩, h3, h4⟩, h5⟩, h6⟩; exact ⟨h1, h2, h3, h4, h5, h6⟩
  · rintro ⟨h1, h2, h3, h4, h5, h6⟩; exact ⟨⟨⟨⟨h1, h2⟩, h3, h4⟩, h5⟩, h6⟩
theorem right_any (a b c : Int) (w : World) : Calls Try.prog 90 #[.agg #[.int .i64 a, .int .i64 b, .int .i64 c]] w fun e w' => e = .returned (.bool (okb ⟨a, b, c⟩)) ∧ Below w.heap.size w w' := by
  have hb := below_box w (.cells #[.int .i64 a, .int .i64 b, .int .i64 c] 108)
  have HB := Kept.mk hb
  clear hb
  have HT := Kept.mk (fun W => time_any b W)
  obtain ⟨tb, htb⟩ : ∃ tb, tb = timeP b := ⟨_, rfl⟩
  have HR := Kept.mk (show okb ⟨a, b, c⟩ = (decide (0 ≤ a) && decide (a ≤ 63) && tb && decide (1 ≤ c) && decide (c ≤ 1099511627776)) by rw [htb]; rfl)
  rw [← htb] at HT
  rw [HR.out]
  clear HR htb
  by_cases h1 : 0 ≤ a
  · by_cases h2 : a ≤ 63
    · cases tb with
      | true =>
        by_cases h3 : 1 ≤ c
        · go_enter Try.func90, Try.ntmps90
          go_wp2_with (go_at_call 101; refine (HT.out _).mono ?_; rintro e w2 ⟨rfl, rfl⟩)
          go_ret
          exact ⟨by (first | (simp [*]; done) | (simp; intros; omega)), HB.out⟩
        · go_enter Try.func90, Try.ntmps90
          go_wp2_with (go_at_call 101; refine (HT.out _).mono ?_; rintro e w2 ⟨rfl, rfl⟩)
          go_ret
          exact ⟨by (first | (simp [*]; done) | (simp; intros; omega)), HB.out⟩
      | false =>
        go_enter Try.func90, Try.ntmps90
        go_wp2_with (go_at_call 101; refine (HT.out _).mono ?_; rintro e w2 ⟨rfl, rfl⟩)
        go_ret
        exact ⟨by (first | (simp [*]; done) | (simp; intros; omega)), HB.out⟩
    · go_enter Try.func90, Try.ntmps90
      go_wp2
      go_ret
      exact ⟨by (first | (simp [*]; done) | (simp; intros; omega)), HB.out⟩
  · go_enter Try.func90, Try.ntmps90
    go_wp2
    go_ret
    exact ⟨by (first | (simp [*]; done) | (simp; intros; omega)), HB.out⟩
/-- What Check tells. -/
def chk (xs : List Q3) : Int := if xs.length ≤ 4096 ∧ xs.all okb = true then 0 else 2
theorem check_any (A : Option Addr) (xs : List Q3) (cap : Nat) (w : World) (hxs : R3 w w.heap.size A xs) :
    Calls Try.prog 62 #[.slice A xs.length cap] w fun e w' => e = .returned (.int .i64 (chk xs)) ∧ Below w.heap.size w w' := by
  by_cases hl : xs.length ≤ 4096
  · have hl' : (xs.length : Int) ≤ 4096 := by omega
    have HI := Kept.mk hxs
    clear hxs
    go_enter Try.func62, Try.ntmps62
    go_wp2
    go_loopw [10] (fun t wr => ∃ k : Nat, k ≤ xs.length ∧ t = .int .i64 k ∧ Kept ((xs.take k).all okb = true) ∧ Below w.heap.size w wr) (fun t _ => xs.length - (intOf t).toNat)
    case atStart => exact ⟨0, by omega, rfl, ⟨rfl⟩, Below.refl _ _⟩
    case round =>
      obtain ⟨k, hk, rfl, hA, hb⟩ := hrel
      by_cases hlt : k < xs.length
      · obtain ⟨b, off, rfl, hbB, hc⟩ := (HI.out.below hb) (by omega)
        obtain ⟨y, hy⟩ := some3_at hlt
        obtain ⟨e1, e2, e3⟩ := hc k y hy
        have ik : (k : Int) < (xs.length : Int) := by omega
        have hst : (xs.take (k + 1)).all okb = (okb y) := by
          rw [List.take_add_one, hy, List.all_append, hA.out]; simp
        obtain ⟨ya, yb, yc⟩ := y
        simp only at e1 e2 e3
        have HST := Kept.mk hst
        have hb2 := hb.alloc hb.size (.cells #[.int .i64 ya, .int .i64 yb, .int .i64 yc] 108)
        have HB2 := Kept.mk hb2
        have HR := Kept.mk (fun W => right_any ya yb yc W)
        obtain ⟨ok, hok⟩ : ∃ ok, ok = okb ⟨ya, yb, yc⟩ := ⟨_, rfl⟩
        rw [← hok] at HST HR
        have HM := Kept.mk (show ok = false → chk xs = 2 from fun h => by
          unfold chk
          rw [if_neg]
          rintro ⟨_, h2⟩
          rw [List.all_eq_true] at h2
          have := h2 _ (List.mem_of_getElem? hy)
          rw [← hok, h] at this
          cases this)
        clear hc hy hst hb hb2 hok
        cases ok with
        | true =>
          go_wp2_with fail
          refine (HR.out _).mono ?_
          rintro e w2 ⟨rfl, hb3⟩
          have HB3 := Kept.mk (HB2.out.trans (hb3.mono HB2.out.size))
          clear hb3
          go_wp2
          go_roundw
          case rel => exact ⟨k + 1, by omega, by go_num, HST, HB3.out⟩
          case measure => simp [intOf]; omega
        | false =>
          have HC := Kept.mk (HM.out rfl)
          clear HM
          go_wp2_with fail
          refine (HR.out _).mono ?_
          rintro e w2 ⟨rfl, hb3⟩
          have HB3 := Kept.mk (HB2.out.trans (hb3.mono HB2.out.size))
          clear hb3
          go_wp2
          go_ret
          exact ⟨congrArg (fun v => Ending.returned (.int .i64 v)) HC.out.symm, HB3.out⟩
      · have hke : k = xs.length := by omega
        subst hke
        have hA' := hA.out
        rw [List.take_length] at hA'
        have HC := Kept.mk (show chk xs = 0 by unfold chk; rw [if_pos ⟨hl, hA'⟩])
        clear hA hA'
        go_wp2
        go_ret
        exact ⟨congrArg (fun v => Ending.returned (.int .i64 v)) HC.out.symm, hb⟩
  · have hl' : ¬ (xs.length : Int) ≤ 4096 := by omega
    have HC := Kept.mk (show chk xs = 2 by unfold chk; rw [if_neg (fun h => hl h.1)])
    go_enter Try.func62, Try.ntmps62
    go_wp2
    go_ret
    exact ⟨congrArg (fun v => Ending.returned (.int .i64 v)) HC.out.symm, Below.refl _ _⟩
theorem chk_ok {xs : List Q3} : chk xs = 0 ↔ xs.length ≤ 4096 ∧ ∀ q ∈ xs, okP q := by
  have h : xs.all okb = true ↔ ∀ q ∈ xs, okP q := by
    rw [List.all_eq_true]
    exact ⟨fun h q hq => (okb_iff q).1 (h q hq), fun h q hq => (okb_iff q).2 (h q hq)⟩
  unfold chk
  by_cases hc : xs.length ≤ 4096 ∧ xs.all okb = true
  · rw [if_pos hc]
    exact ⟨fun _ => ⟨hc.1, h.1 hc.2⟩, fun _ => rfl⟩
  · rw [if_neg hc]
    exact ⟨fun e => absurd e (by decide), fun e => absurd ⟨e.1, h.2 e.2⟩ hc⟩
theorem chk_bad {xs : List Q3} (h : chk xs ≠ 0) : chk xs = 2 := by
  unfold chk at h ⊢
  split at h
  · exact absurd rfl h
  · rename_i hc; rw [if_neg hc]
end Go.Proofs.Ytcchmkpodfjhcaa
