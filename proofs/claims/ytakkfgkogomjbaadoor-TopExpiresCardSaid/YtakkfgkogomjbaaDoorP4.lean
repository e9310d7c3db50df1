/-
  The walks of the pool's acts, told by lists of entries.
-/
import Derived.Test.YtakkfgkogomjbaaDoorP3
import Derived.Test.YtakkfgkogomjbaaDoorQPL
namespace Go.Proofs.YtakkfgkogomjbaaDoor
open Go.RowKit
set_option linter.unusedVariables false
/-- A pool in memory. -/
structure PoolAt (w : World) (lo hi p L K n m : Nat) (S : PS) : Prop where
  pl : PL lo hi p L K
  hh : hi ≤ w.heap.size
  nb : n ≤ 4096
  mb : m ≤ 4096
  of : ∃ F G, PB w p L K n m F G (optI S.pile.getLast?) (S.pile.length : Nat) ∧ Good n m S F G
theorem PoolAt.below {w w' : World} {lo hi p L K n m : Nat} {S : PS} (h : PoolAt w lo hi p L K n m S) (hb : Below w.heap.size w w') : PoolAt w' lo hi p L K n m S := by
  obtain ⟨F, G, h1, h2⟩ := h.of
  exact ⟨h.pl, Nat.le_trans h.hh hb.size, h.nb, h.mb, F, G, h1.below hb h.pl h.hh, h2⟩
theorem PoolAt.below_hi {w w' : World} {lo hi p L K n m : Nat} {S : PS} (h : PoolAt w lo hi p L K n m S) (hb : Below hi w w') : PoolAt w' lo hi p L K n m S := by
  obtain ⟨F, G, h1, h2⟩ := h.of
  exact ⟨h.pl, Nat.le_trans h.hh hb.size, h.nb, h.mb, F, G, h1.kept (hb.block _ h.pl.p2) (hb.block _ h.pl.l2) (hb.block _ h.pl.k2), h2⟩
theorem whV_wh {n m : Nat} {S : PS} {F G : Nat → Int} (h : Good n m S F G) (i : Int) : whV n F i = wh n S i := by
  unfold whV wh
  split
  · rfl
  · rename_i hi
    obtain ⟨j, rfl⟩ : ∃ j : Nat, i = j := ⟨i.toNat, by omega⟩
    simp only [Int.toNat_natCast]
    rcases h.link (show j < n by omega) with ⟨h1, h2, h3⟩ | ⟨k, l, a, b, h1, h2, h3, h4, h5, _⟩
    · rw [h1, h3]; rfl
    · rw [h1, h5, if_neg (by omega)]
theorem pwhere {w : World} {lo hi p L K n m : Nat} {S : PS} (h : PoolAt w lo hi p L K n m S) (i : Int) :
    Calls Tryd.prog 71 #[.pointer (some ⟨p, 0, none⟩), .int .i64 i] w fun e w' => e = .returned (.tuple #[.int .i64 (wh n S i).1, .int .i64 (wh n S i).2]) ∧ w = w' := by
  obtain ⟨F, G, h1, h2⟩ := h.of
  rw [← whV_wh h2]
  exact where_any w p L K n m F G _ _ h1 h.nb i
theorem pfree {w : World} {lo hi p L K n m : Nat} {S : PS} (h : PoolAt w lo hi p L K n m S) :
    Calls Tryd.prog 15 #[.pointer (some ⟨p, 0, none⟩)] w fun e w' => e = .returned (.int .i64 (S.pile.length : Nat)) ∧ w = w' := by
  obtain ⟨F, G, h1, h2⟩ := h.of
  exact free_any w p L K n m F G _ _ h1
def optV : Option Nat → Value
  | some x => .tuple #[.int .i64 (x : Nat), .bool true]
  | none => .tuple #[.int .i64 0, .bool false]
theorem pfirst {w : World} {lo hi p L K n m : Nat} {S : PS} (h : PoolAt w lo hi p L K n m S) (k : Int) :
    Calls Tryd.prog 44 #[.pointer (some ⟨p, 0, none⟩), .int .i64 k] w fun e w' => e = .returned (optV (S.list k).head?) ∧ w = w' := by
  obtain ⟨F, G, h1, h2⟩ := h.of
  refine (first_any w p L K n m F G _ _ h1 h.mb k).mono ?_
  rintro e w' ⟨rfl, rfl⟩
  refine ⟨?_, rfl⟩
  congr 1
  by_cases hk : 0 ≤ k ∧ k < (m : Int)
  · obtain ⟨j, rfl⟩ : ∃ j : Nat, k = j := ⟨k.toNat, by omega⟩
    obtain ⟨_, g1, _⟩ := h2.list (show j < m by omega)
    simp only [Int.toNat_natCast]
    rw [g1]
    cases (S.list j).head? with
    | none => rw [if_neg (fun h => h.2.2 rfl)]; rfl
    | some x => rw [if_pos ⟨hk.1, hk.2, by simp [optI]⟩]; rfl
  · rw [if_neg (fun h => hk ⟨h.1, h.2.1⟩), list_out h2 hk]; rfl
theorem pnext {w : World} {lo hi p L K n m : Nat} {S : PS} (h : PoolAt w lo hi p L K n m S) (i : Int) :
    Calls Tryd.prog 67 #[.pointer (some ⟨p, 0, none⟩), .int .i64 i] w fun e w' => e = .returned (optV (nx n S i)) ∧ w = w' := by
  obtain ⟨F, G, h1, h2⟩ := h.of
  refine (next_any w p L K n m F G _ _ h1 h.nb i).mono ?_
  rintro e w' ⟨rfl, rfl⟩
  refine ⟨?_, rfl⟩
  congr 1
  unfold nxV nx
  by_cases hi' : i < 0 ∨ (n : Int) ≤ i
  · rw [if_neg (by omega), if_pos hi']; rfl
  · obtain ⟨j, rfl⟩ : ∃ j : Nat, i = j := ⟨i.toNat, by omega⟩
    rw [if_neg hi']
    simp only [Int.toNat_natCast]
    rcases h2.link (show j < n by omega) with ⟨q1, q2, q3⟩ | ⟨k, l, a, b, q1, q2, q3, q4, q5, q6, q7, q8, _⟩
    · rw [q1, if_neg (fun h => h.2.2.1 q3)]; rfl
    · rw [q1]
      have hl : S.list k = l := by unfold PS.list; rw [if_pos (by omega), Int.toNat_natCast, q2]; rfl
      show _ = optV (behind (S.list k) j)
      rw [hl, ← q8, q7]
      cases b with
      | none => rw [if_neg (fun h => h.2.2.2 rfl)]; rfl
      | some x => rw [if_pos ⟨by omega, by omega, by rw [q5]; omega, by simp [optI]⟩]; rfl
/-- What an act leaves. -/
def PRes (w : World) (lo hi p L K n m : Nat) (S : PS) (v : Value) (e : Ending) (w' : World) : Prop := e = .returned v ∧ PoolAt w' lo hi p L K n m S ∧ Kp lo hi w w'
theorem PRes.same {w : World} {lo hi p L K n m : Nat} {S : PS} (h : PoolAt w lo hi p L K n m S) (v : Value) : PRes w lo hi p L K n m S v (.returned v) w := ⟨rfl, h, Kp.refl _ _ _⟩
theorem out_good (w : World) (lo hi p L K n m : Nat) (S : PS) (F G : Nat → Int) (top free : Int) (hp : PL lo hi p L K) (hh : hi ≤ w.heap.size) (h : PB w p L K n m F G top free) (hn : n ≤ 4096) (hm : m ≤ 4096) (hg : Good n m S F G) (i k : Nat) (hi' : i < n) (hk : S.loc i = some k) :
    Calls Tryd.prog 79 #[.pointer (some ⟨p, 0, none⟩), .int .i64 (i : Int)] w (PAct w lo hi p L K n m (outF F i) (outG F G i) top free (.tuple #[])) := by
  rcases hg.link hi' with ⟨q1, _⟩ | ⟨k', l, a, b, q1, q2, q3, q4, q5, q6, q7, q8, q9, q10⟩
  · rw [q1] at hk; cases hk
  · cases a with
    | none => cases b with
      | none => exact out_nn w lo hi p L K n m F G top free hp hh h hn hm i k' hi' q4 q5 q6 q7
      | some y => exact out_ns w lo hi p L K n m F G top free hp hh h hn hm i k' y hi' q4 (q10 y rfl) q5 q6 q7
    | some x => cases b with
      | none => exact out_sn w lo hi p L K n m F G top free hp hh h hn hm i k' x hi' q4 (q9 x rfl) q5 q6 q7
      | some y => exact out_ss w lo hi p L K n m F G top free hp hh h hn hm i k' x y hi' q4 (q9 x rfl) (q10 y rfl) q5 q6 q7
theorem rep_end {n m : Nat} {S : PS} {F G : Nat → Int} (h : Rep n m S F G) {k : Nat} (hk : k < m) : G (k * 2 + 1) = -1 ∨ ∃ z : Nat, z < n ∧ G (k * 2 + 1) = z := by
  have hl : S.lists[k]? = some (S.lists[k]'(by rw [h.len]; exact hk)) := List.getElem?_eq_getElem _
  have := (h.ends k _ hl).2
  rw [this]
  cases e : (S.lists[k]'(by rw [h.len]; exact hk)).getLast? with
  | none => exact .inl rfl
  | some x => exact .inr ⟨x, h.llt k _ hl x (List.mem_of_getLast? e), rfl⟩
theorem nodup_len : ∀ {n : Nat} {l : List Nat}, l.Nodup → (∀ x ∈ l, x < n) → l.length ≤ n
  | 0, l, _, hb => by
    cases l with
    | nil => simp
    | cons x r => exact absurd (hb x (by simp)) (by omega)
  | n + 1, l, h, hb => by
    by_cases hm : n ∈ l
    · have := nodup_len (n := n) (l := l.erase n) (h.sublist List.erase_sublist) (fun x hx => by
        have h1 := (h.mem_erase_iff).1 hx
        have := hb x h1.2
        have := h1.1
        omega)
      rw [List.length_erase_of_mem hm] at this
      omega
    · have := nodup_len (n := n) (l := l) h (fun x hx => by
        have := hb x hx
        have : x ≠ n := by rintro rfl; exact hm hx
        omega)
      omega
theorem pb_top {w : World} {lo hi p L K n m : Nat} {F G : Nat → Int} {top free : Int} (h : PB w p L K n m F G top free) (hp : PL lo hi p L K) (v : Int) : PB (w.setCell ⟨p, 2, none⟩ (.int .i64 v)) p L K n m F G v free := by
  refine ⟨?_, ?_, ?_, ?_, ?_, h.l.far hp.pl _, h.k.far hp.pk _⟩
  · rw [World.cell?_setCell_other _ _ _ _ (by simp)]; exact h.c0
  · rw [World.cell?_setCell_other _ _ _ _ (by simp)]; exact h.c1
  · exact World.cell?_setCell_same' _ _ _ (by rw [h.c2]; rfl)
  · rw [World.cell?_setCell_other _ _ _ _ (by simp)]; exact h.c3
  · intro i; rw [World.frozen?_setCell]; exact h.pf i
theorem pb_free {w : World} {lo hi p L K n m : Nat} {F G : Nat → Int} {top free : Int} (h : PB w p L K n m F G top free) (hp : PL lo hi p L K) (v : Int) : PB (w.setCell ⟨p, 3, none⟩ (.int .i64 v)) p L K n m F G top v := by
  refine ⟨?_, ?_, ?_, ?_, ?_, h.l.far hp.pl _, h.k.far hp.pk _⟩
  · rw [World.cell?_setCell_other _ _ _ _ (by simp)]; exact h.c0
  · rw [World.cell?_setCell_other _ _ _ _ (by simp)]; exact h.c1
  · rw [World.cell?_setCell_other _ _ _ _ (by simp)]; exact h.c2
  · exact World.cell?_setCell_same' _ _ _ (by rw [h.c3]; rfl)
  · intro i; rw [World.frozen?_setCell]; exact h.pf i
set_option maxHeartbeats 2000000 in
theorem take_any {w : World} {lo hi p L K n m : Nat} {S : PS} (h : PoolAt w lo hi p L K n m S) (k : Int) :
    Calls Tryd.prog 31 #[.pointer (some ⟨p, 0, none⟩), .int .i64 k] w (PRes w lo hi p L K n m (tk m S k).2.2 (.tuple #[.int .i64 (tk m S k).1, .int .i64 (tk m S k).2.1])) := by
  have HA := Kept.mk h
  obtain ⟨hpl, hh, hn, hm, F, G, hB, hG⟩ := h
  by_cases hk : 0 ≤ k ∧ k < (m : Int)
  · obtain ⟨j, rfl⟩ : ∃ j : Nat, k = j := ⟨k.toNat, by omega⟩
    cases e : S.pile.getLast? with
    | none =>
      have et : tk m S j = ((0 : Int), (5 : Int), S) := by unfold tk; rw [if_neg (by simpa using hk.2), e]
      rw [et]
      rw [e] at hB
      have HH := Kept.mk (has_any w p L K n m F G _ _ hB hm j)
      have hd : decide (0 ≤ (j : Int) ∧ (j : Int) < (m : Int)) = true := decide_eq_true hk
      rw [hd] at HH
      obtain ⟨c0, c1, c2, c3, pf, hl, hk'⟩ := hB
      simp only [optI] at c2
      clear hd e et
      go_enter Tryd.func31, Tryd.ntmps31
      go_wp2_with ((go_at_call 49; refine (HH.out).mono ?_; rintro e w' ⟨rfl, rfl⟩))
      go_ret2
      exact PRes.same HA.out _
    | some i =>
      obtain ⟨P, hP⟩ := List.getLast?_eq_some_iff.1 e
      have et : tk m S j = ((i : Int), (0 : Int), S.take i j) := by unfold tk; rw [if_neg (by simpa using hk.2), e]; rfl
      rw [et]
      rw [e] at hB
      have HH := Kept.mk (has_any w p L K n m F G _ _ hB hm j)
      have hd : decide (0 ≤ (j : Int) ∧ (j : Int) < (m : Int)) = true := decide_eq_true hk
      rw [hd] at HH
      obtain ⟨PP, LL⟩ := S
      simp only at hP
      subst hP
      obtain ⟨r1, r2, r3, r4⟩ := rep_pop hG.rep
      have hg := good_take hG (show j < m by omega)
      have hz := rep_end r1 (show j < m by omega)
      obtain ⟨f, hf⟩ : ∃ f, f = F (i * 3 + 2) := ⟨_, rfl⟩
      have b0 := hB.l.c (i * 3 + 2) (by omega)
      rw [← hf] at b0 r4
      have R4 := Kept.mk r4
      have HB := Kept.mk hB
      have l1 : (P.length : Int) ≤ 4096 := by
        have := nodup_len hG.rep.pnd hG.rep.plt
        simp at this
        omega
      have e0 : ((P ++ [i]).length : Int) = (P.length : Int) + 1 := by simp
      rw [e0] at HB hB
      obtain ⟨c0, c1, c2, c3, pf, hl, hk'⟩ := hB
      simp only [optI] at c2
      have HP := Kept.mk (fun W h => put_any W lo hi p L K n m F G f (P.length : Int) hpl h hn hm i j r3 (by omega) hz)
      have HG := Kept.mk hg
      clear hd e et hf hl hk' r4 hz hg e0
      go_enter Tryd.func31, Tryd.ntmps31
      go_wp2_with fail
      refine HH.out.mono ?_
      rintro e w' ⟨rfl, rfl⟩
      go_wp2_with fail
      refine (HP.out _ (pb_free (pb_top HB.out hpl f) hpl (P.length : Int))).mono ?_
      rintro e w' ⟨rfl, hB', hK'⟩
      go_wp2_with fail
      go_ret2
      refine ⟨rfl, ⟨hpl, ?_, hn, hm, _, _, ?_, HG.out⟩, (kp_setP (kp_setP (Kp.refl lo hi w) hpl 2 _) hpl 3 _).trans hK'⟩
      · have := hK'.size
        simp at this
        omega
      · have e1 : (PS.take ⟨P ++ [i], LL⟩ i j).pile = P := by simp [PS.take, PS.put]
        rw [e1, ← R4.out]
        exact hB'
  · have et : tk m S k = ((0 : Int), (1 : Int), S) := by unfold tk; rw [if_pos hk]
    rw [et]
    have HH := Kept.mk (has_any w p L K n m F G _ _ hB hm k)
    have hd : decide (0 ≤ k ∧ k < (m : Int)) = false := decide_eq_false hk
    rw [hd] at HH
    clear hd et
    go_enter Tryd.func31, Tryd.ntmps31
    go_wp2_with ((go_at_call 49; refine (HH.out).mono ?_; rintro e w' ⟨rfl, rfl⟩))
    go_ret2
    exact PRes.same HA.out _
theorem wh_ok {n m : Nat} {S : PS} {F G : Nat → Int} (h : Good n m S F G) {i : Int} (hw : (wh n S i).2 = 0) : ∃ (j k : Nat) (l : List Nat), i = j ∧ j < n ∧ k < m ∧ S.loc j = some k ∧ S.lists[k]? = some l ∧ j ∈ l ∧ wh n S i = ((k : Int), (0 : Int)) := by
  unfold wh at hw
  split at hw
  · cases hw
  · rename_i hi
    obtain ⟨j, rfl⟩ : ∃ j : Nat, i = j := ⟨i.toNat, by omega⟩
    simp only [Int.toNat_natCast] at hw
    rcases h.link (show j < n by omega) with ⟨q1, _⟩ | ⟨k', l, a, b, q1, q2, q3, q4, _⟩
    · rw [q1] at hw; cases hw
    · refine ⟨j, k', l, rfl, by omega, q4, q1, q2, q3, ?_⟩
      unfold wh
      rw [if_neg hi, Int.toNat_natCast, q1]
set_option maxHeartbeats 2000000 in
theorem give_any {w : World} {lo hi p L K n m : Nat} {S : PS} (h : PoolAt w lo hi p L K n m S) (i : Int) :
    Calls Tryd.prog 72 #[.pointer (some ⟨p, 0, none⟩), .int .i64 i] w (PRes w lo hi p L K n m (gv n S i).2 (.int .i64 (gv n S i).1)) := by
  have HA := Kept.mk h
  have HW := pwhere h i
  obtain ⟨hpl, hh, hn, hm, F, G, hB, hG⟩ := h
  by_cases hw : (wh n S i).2 = 0
  · obtain ⟨j, k, l, rfl, hj, hk, q1, q2, q3, e⟩ := wh_ok hG hw
    have eg : gv n S j = ((0 : Int), S.give j) := by unfold gv; rw [if_pos hw, Int.toNat_natCast]
    rw [eg]
    rw [e] at HW
    have hW := Kept.mk HW
    have HO := Kept.mk (out_good w lo hi p L K n m S F G _ _ hpl hh hB hn hm hG j k hj q1)
    have HG := Kept.mk (good_give hG q2 q3)
    have hr := rep_out hG.rep q2 q3
    obtain ⟨t, ht⟩ : ∃ t, t = optI S.pile.getLast? := ⟨_, rfl⟩
    obtain ⟨f, hf⟩ : ∃ f, f = (S.pile.length : Int) := ⟨_, rfl⟩
    have l1 : 0 ≤ f ∧ f ≤ 4096 := by
      have := nodup_len hG.rep.pnd hG.rep.plt
      omega
    rw [← ht] at HO HG
    rw [← hf] at HO
    have HF := Kept.mk hf
    clear hw e eg HW q1 q2 q3 hr ht hf hG hB
    go_enter Tryd.func72, Tryd.ntmps72
    go_wp2_with fail
    refine hW.out.mono ?_
    rintro e w' ⟨rfl, rfl⟩
    go_wp2_with fail
    refine HO.out.mono ?_
    rintro e W1 ⟨rfl, hB1, hK1⟩
    have hz : hi ≤ W1.heap.size := Nat.le_trans hh hK1.size
    have HB := Kept.mk hB1
    have HK := Kept.mk hK1
    obtain ⟨c0, c1, c2, c3, pf, hl, hk'⟩ := hB1
    have a0 := hl.c (j * 3) (by omega)
    have a1 := hl.c (j * 3 + 1) (by omega)
    have a2 := hl.c (j * 3 + 2) (by omega)
    have lf := hl.f
    have hpl1 := hpl.pl
    have hpl2 := hpl.pl.symm
    clear hl hk' hK1
    go_wp2_with fail
    go_region
    go_wp2
    go_ret
    have q1 := (pb_free (pb_top (pb_link HB.out hpl (o := j * 3) (by omega) (-1) (-1) t) hpl j) hpl (f + 1)).drew
    have q2 := (kp_setP (kp_setP (kp_link HK.out hpl (j * 3) (-1) (-1) t) hpl 2 (.int .i64 j)) hpl 3 (.int .i64 (f + 1))).drew
    unfold link3 at q1 q2
    refine ⟨rfl, ⟨hpl, ?_, hn, hm, pushF (outF F j) j t, outG F G j, ?_, HG.out⟩, q2⟩
    · simpa using hz
    · have e1 : (PS.give S j).pile.getLast? = some j := by simp [PS.give]
      have e2 : ((PS.give S j).pile.length : Int) = f + 1 := by simp [PS.give, HF.out]
      rw [e1, e2]
      exact q1
  · have eg : gv n S i = ((wh n S i).2, S) := by unfold gv; rw [if_neg hw]
    rw [eg]
    obtain ⟨x, hx⟩ : ∃ x, x = (wh n S i).1 := ⟨_, rfl⟩
    obtain ⟨y, hy⟩ : ∃ x, x = (wh n S i).2 := ⟨_, rfl⟩
    rw [← hx, ← hy] at HW
    rw [← hy] at hw ⊢
    have hW := Kept.mk HW
    have hne : (y != 0) = true := by simp [hw]
    clear hx hy eg HW hw
    go_enter Tryd.func72, Tryd.ntmps72
    go_wp2_with fail
    refine hW.out.mono ?_
    rintro e w' ⟨rfl, rfl⟩
    go_wp2
    go_ret
    exact PRes.same HA.out _
set_option maxHeartbeats 2000000 in
theorem move_any {w : World} {lo hi p L K n m : Nat} {S : PS} (h : PoolAt w lo hi p L K n m S) (i k' : Int) :
    Calls Tryd.prog 65 #[.pointer (some ⟨p, 0, none⟩), .int .i64 i, .int .i64 k'] w (PRes w lo hi p L K n m (mv n m S i k').2 (.int .i64 (mv n m S i k').1)) := by
  have HA := Kept.mk h
  have HW := pwhere h i
  obtain ⟨hpl, hh, hn, hm, F, G, hB, hG⟩ := h
  have hH := has_any w p L K n m F G _ _ hB hm k'
  by_cases hk' : 0 ≤ k' ∧ k' < (m : Int)
  · rw [decide_eq_true hk'] at hH
    have HH := Kept.mk hH
    by_cases hw : (wh n S i).2 = 0
    · obtain ⟨j, k, l, rfl, hj, hk, q1, q2, q3, e⟩ := wh_ok hG hw
      obtain ⟨j', rfl⟩ : ∃ j' : Nat, k' = j' := ⟨k'.toNat, by omega⟩
      have eg : mv n m S j j' = ((0 : Int), S.move j j') := by unfold mv; rw [if_neg (by omega), if_pos hw, Int.toNat_natCast, Int.toNat_natCast]
      rw [eg]
      rw [e] at HW
      have hW := Kept.mk HW
      have HO := Kept.mk (out_good w lo hi p L K n m S F G _ _ hpl hh hB hn hm hG j k hj q1)
      have HG := Kept.mk (good_move hG q2 q3 (show j' < m by omega))
      have hr := rep_out hG.rep q2 q3
      have HP := Kept.mk (fun W h => put_any W lo hi p L K n m (outF F j) (outG F G j) (optI S.pile.getLast?) (S.pile.length : Int) hpl h hn hm j j' hj (by omega) (rep_end hr.1 (by omega)))
      obtain ⟨t, ht⟩ : ∃ t, t = optI S.pile.getLast? := ⟨_, rfl⟩
      obtain ⟨f, hf⟩ : ∃ f, f = (S.pile.length : Int) := ⟨_, rfl⟩
      rw [← ht, ← hf] at HO HP
      have HF := Kept.mk hf
      have HT := Kept.mk ht
      clear hw e eg HW q1 q2 q3 hr ht hf hG hB hH
      go_enter Tryd.func65, Tryd.ntmps65
      go_wp2_with fail
      refine hW.out.mono ?_
      rintro e w' ⟨rfl, rfl⟩
      go_wp2_with ((go_at_call 49; refine (HH.out).mono ?_; rintro e w' ⟨rfl, rfl⟩) )
      refine HO.out.mono ?_
      rintro e W1 ⟨rfl, hB1, hK1⟩
      have HK := Kept.mk hK1
      clear hK1
      go_wp2_with fail
      refine (HP.out _ hB1).mono ?_
      rintro e W2 ⟨rfl, hB2, hK2⟩
      go_wp2
      go_ret
      refine ⟨rfl, ⟨hpl, ?_, hn, hm, _, _, ?_, HG.out⟩, HK.out.trans hK2⟩
      · exact Nat.le_trans hh (Nat.le_trans HK.out.size hK2.size)
      · show PB W2 p L K n m _ _ (optI S.pile.getLast?) (S.pile.length : Int)
        rw [← HT.out, ← HF.out]
        exact hB2
    · obtain ⟨x, hx⟩ : ∃ x, x = (wh n S i).1 := ⟨_, rfl⟩
      obtain ⟨y, hy⟩ : ∃ x, x = (wh n S i).2 := ⟨_, rfl⟩
      by_cases hy1 : y = 1
      · have eg : mv n m S i k' = ((1 : Int), S) := by unfold mv; rw [if_pos (.inl (by rw [← hy]; exact hy1))]
        rw [eg]
        rw [← hx, ← hy, hy1] at HW
        have hW := Kept.mk HW
        clear hx hy eg HW hw hH hy1
        go_enter Tryd.func65, Tryd.ntmps65
        go_wp2_with fail
        refine hW.out.mono ?_
        rintro e w' ⟨rfl, rfl⟩
        go_wp2
        go_ret
        exact PRes.same HA.out _
      · have eg : mv n m S i k' = (y, S) := by unfold mv; rw [if_neg (by rw [← hy]; omega), if_neg hw, hy]
        rw [eg]
        rw [← hx, ← hy] at HW
        rw [← hy] at hw
        have hW := Kept.mk HW
        have hne : (y != 0) = true := by simp [hw]
        have hne1 : (y == 1) = false := by simp [hy1]
        clear hx hy eg HW hw hH hy1
        go_enter Tryd.func65, Tryd.ntmps65
        go_wp2_with fail
        refine hW.out.mono ?_
        rintro e w' ⟨rfl, rfl⟩
        go_wp2_with ((go_at_call 49; refine (HH.out).mono ?_; rintro e w' ⟨rfl, rfl⟩))
        go_ret
        exact PRes.same HA.out _
  · rw [decide_eq_false hk'] at hH
    have HH := Kept.mk hH
    obtain ⟨x, hx⟩ : ∃ x, x = (wh n S i).1 := ⟨_, rfl⟩
    obtain ⟨y, hy⟩ : ∃ x, x = (wh n S i).2 := ⟨_, rfl⟩
    have eg : mv n m S i k' = ((1 : Int), S) := by unfold mv; rw [if_pos (.inr hk')]
    rw [eg]
    rw [← hx, ← hy] at HW
    have hW := Kept.mk HW
    clear hx hy eg HW hH
    by_cases hy1 : y = 1
    · subst hy1
      go_enter Tryd.func65, Tryd.ntmps65
      go_wp2_with fail
      refine hW.out.mono ?_
      rintro e w' ⟨rfl, rfl⟩
      go_wp2
      go_ret
      exact PRes.same HA.out _
    · have hne1 : (y == 1) = false := by simp [hy1]
      clear hy1
      go_enter Tryd.func65, Tryd.ntmps65
      go_wp2_with fail
      refine hW.out.mono ?_
      rintro e w' ⟨rfl, rfl⟩
      go_wp2_with ((go_at_call 49; refine (HH.out).mono ?_; rintro e w' ⟨rfl, rfl⟩))
      go_ret
      exact PRes.same HA.out _
end Go.Proofs.YtakkfgkogomjbaaDoor
