/-
  The queue of package ready in memory: what it tells; Len, Top.
-/
import Derived.Test.YtcchmkpodfjhcaaQ3
import Derived.OwnWalk
namespace Go.Proofs.Ytcchmkpodfjhcaa
open Go.RowKit Go.Shelf Go.Maps
set_option linter.unusedVariables false
/-- Where a queue's blocks lie. -/
structure LY (lo hi qb I M : Nat) : Prop where
  q1 : lo + 3 ≤ qb
  q2 : qb < hi
  i1 : lo + 3 ≤ I
  i2 : I < hi
  m1 : lo + 3 ≤ M
  m2 : M < hi
  qi : qb ≠ I
  qm : qb ≠ M
  im : I ≠ M
  lh : lo + 3 ≤ hi
structure QK (w : World) (lo hi qb I M p L K n : Nat) (S : PS) (ids : Nat → Int) (f : Int → Option Nat) (b : Nat) (Q : QL) : Prop where
  ly : LY lo hi qb I M
  hh : hi ≤ w.heap.size
  pa : PoolAt w lo (lo + 3) p L K n 64 S
  qc : QC w qb p I M n b
  nb : NB w I n ids
  mp : MapIs w M Q.length f
  co : Con n S ids Q
  fi : ∀ id x, f id = some x ↔ ∃ q : Nat, q < 64 ∧ x ∈ S.list (q : Int) ∧ ids x = id
  bl : b < 18446744073709551616
  bi : ∀ i, i < 64 → b.testBit i = decide (S.list ((i : Nat) : Int) ≠ [])
structure QAt (w : World) (lo hi qb I M p L K n : Nat) (Q : QL) : Prop where
  of : ∃ S ids f b, QK w lo hi qb I M p L K n S ids f b Q
theorem QK.below {w w' : World} {lo hi qb I M p L K n : Nat} {S : PS} {ids : Nat → Int} {f : Int → Option Nat} {b : Nat} {Q : QL} (h : QK w lo hi qb I M p L K n S ids f b Q) (hb : Below hi w w') : QK w' lo hi qb I M p L K n S ids f b Q :=
  ⟨h.ly, Nat.le_trans h.hh hb.size, h.pa.below_hi (hb.mono h.ly.lh), h.qc.kept (hb.block _ h.ly.q2), h.nb.kept (hb.block _ h.ly.i2), h.mp.kept (hb.block _ h.ly.m2), h.co, h.fi, h.bl, h.bi⟩
theorem QAt.below {w w' : World} {lo hi qb I M p L K n : Nat} {Q : QL} (h : QAt w lo hi qb I M p L K n Q) (hb : Below hi w w') : QAt w' lo hi qb I M p L K n Q := by
  obtain ⟨S, ids, f, b, h⟩ := h.of
  exact ⟨S, ids, f, b, h.below hb⟩
theorem QK.mem {w : World} {lo hi qb I M p L K n : Nat} {S : PS} {ids : Nat → Int} {f : Int → Option Nat} {b : Nat} {Q : QL} (h : QK w lo hi qb I M p L K n S ids f b Q) (id : Int) : (f id).isSome = decide (id ∈ Q.ids) := by
  by_cases hm : id ∈ Q.ids
  · rw [decide_eq_true hm]
    obtain ⟨⟨a, q⟩, hx, rfl⟩ := List.mem_map.1 hm
    obtain ⟨x, h1, h2⟩ := h.co.of hx
    rw [(h.fi a x).2 ⟨q, h.co.pr _ hx, h1, h2⟩]; rfl
  · rw [decide_eq_false hm]
    cases e : f id with
    | none => rfl
    | some x =>
      exfalso
      obtain ⟨q, h1, h2, h3⟩ := (h.fi id x).1 e
      exact hm (List.mem_map.2 ⟨_, h.co.mem h1 h2, h3⟩)
/-- The first one of the greatest priority. -/
def IsTop (Q : QL) : Option (Int × Nat) → Prop
  | none => ∀ q : Nat, q < 64 → Q.of q = []
  | some (id, p) => p < 64 ∧ (Q.of p).head? = some id ∧ ∀ q : Nat, p < q → q < 64 → Q.of q = []
theorem IsTop.one {Q : QL} : ∀ {o o' : Option (Int × Nat)}, IsTop Q o → IsTop Q o' → o = o'
  | none, none, _, _ => rfl
  | none, some (id, p), h, h' => by
    have := h'.2.1
    rw [h p h'.1] at this
    cases this
  | some (id, p), none, h', h => by
    have := h'.2.1
    rw [h p h'.1] at this
    cases this
  | some (id, p), some (id', p'), h, h' => by
    have e : p = p' := by
      rcases Nat.lt_trichotomy p p' with e | e | e
      · have := h'.2.1
        rw [h.2.2 p' e h'.1] at this
        cases this
      · exact e
      · have := h.2.1
        rw [h'.2.2 p e h.1] at this
        cases this
    subst e
    have := h.2.1.symm.trans h'.2.1
    rw [Option.some.inj this]
def topV : Option (Int × Nat) → Value
  | none => .tuple #[.int .i64 0, .int .i64 0, .bool false]
  | some (id, p) => .tuple #[.int .i64 id, .int .i64 (p : Int), .bool true]
theorem qlen_any {w : World} {lo hi qb I M p L K n : Nat} {Q : QL} (h : QAt w lo hi qb I M p L K n Q) :
    Calls Try.prog 52 #[.pointer (some ⟨qb, 0, none⟩)] w fun e w' => e = .returned (.int .i64 (Q.length : Nat)) ∧ w = w' := by
  obtain ⟨S, ids, f, b, h⟩ := h.of
  obtain ⟨D, hD, hsz, _⟩ := h.mp
  obtain ⟨c0, c1, c2, c3, qf⟩ := h.qc
  clear h
  go_enter Try.func52, Try.ntmps52
  go_wp2_with ((at_len; refine wpList_len_own _ rfl _ 132 rfl 3 3 Try.underlying132 _ M _ D rfl hD ?_))
  go_ret
  exact ⟨rfl, rfl⟩
theorem qtop_any {w : World} {lo hi qb I M p L K n : Nat} {Q : QL} (h : QAt w lo hi qb I M p L K n Q) :
    Calls Try.prog 40 #[.pointer (some ⟨qb, 0, none⟩)] w fun e w' => (∃ o, IsTop Q o ∧ e = .returned (topV o)) ∧ w = w' := by
  obtain ⟨S, ids, f, b, h⟩ := h.of
  have HL := last_any b h.bl w
  have HB := Kept.mk h.bi
  have HC := Kept.mk h.co
  have HF := fun k : Int => pfirst h.pa k
  have hnil : ∀ q : Nat, q < 64 → S.list ((q : Nat) : Int) = [] → Q.of q = [] := fun q hq e => by
    rw [← h.co.lists q hq, e]; rfl
  have HN := Kept.mk hnil
  obtain ⟨c0, c1, c2, c3, qf⟩ := h.qc
  obtain ⟨F, G, _, hG⟩ := h.pa.of
  unfold lastV at HL
  by_cases h0 : b = 0
  · rw [if_pos h0] at HL
    subst h0
    clear hnil
    go_enter Try.func40, Try.ntmps40
    go_wp2_with ((go_at_call 83; refine (HL).mono ?_; rintro e w' ⟨rfl, rfl⟩))
    go_ret3
    refine ⟨⟨none, fun q hq => HN.out q hq ?_, rfl⟩, rfl⟩
    have := HB.out q hq
    simpa using this
  · rw [if_neg h0] at HL
    have hbl := h.bl
    obtain ⟨l1, l2, l3, l4⟩ := len_bits h0 hbl
    obtain ⟨k, hk⟩ : ∃ k, Lib.bitLen b = k + 1 := ⟨Lib.bitLen b - 1, by omega⟩
    rw [hk] at l2 l3 l4 HL
    simp only [Nat.add_sub_cancel] at l3 l4
    have e1 : ((k + 1 : Nat) : Int) - 1 = (k : Int) := by omega
    rw [e1] at HL
    rw [h.bi k (by omega)] at l3
    have l3' : S.list ((k : Nat) : Int) ≠ [] := of_decide_eq_true l3
    have HF' := HF (k : Int)
    cases hx : S.list ((k : Nat) : Int) with
    | nil => exact absurd hx l3'
    | cons x r =>
      rw [hx] at HF'
      simp only [List.head?_cons, optV] at HF'
      have hxn : x < n := by
        have := (hG.list (show k < 64 by omega)).2.2.2 x (by rw [hx]; exact List.mem_cons_self ..)
        exact this
      have cx := h.nb.c x hxn
      have hn := h.pa.nb
      have hof : (Q.of k).head? = some (ids x) := by
        rw [← h.co.lists k (by omega), hx]; rfl
      have hup : ∀ q : Nat, k < q → q < 64 → Q.of q = [] := fun q h1 h2 => by
        refine hnil q h2 ?_
        have h3 := l4 q (by omega)
        rw [h.bi q h2] at h3
        simpa using h3
      have HO := Kept.mk hof
      have HU := Kept.mk hup
      clear hnil l3 l3' l4 HF hof hup hx h0 h hG
      go_enter Try.func40, Try.ntmps40
      go_wp2_with (first | (go_at_call 83; refine (HL).mono ?_; rintro e w' ⟨rfl, rfl⟩) | (go_at_call 31; refine (HF').mono ?_; rintro e w' ⟨rfl, rfl⟩))
      go_ret3
      exact ⟨⟨some (ids x, k), ⟨by omega, HO.out, HU.out⟩, rfl⟩, rfl⟩
end Go.Proofs.Ytcchmkpodfjhcaa
