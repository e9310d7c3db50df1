/-
  The wheel in memory: what is known of it; the walk of Insert.
-/
import Derived.Test.YtakkfgkogomjbaaDoorW2
import Derived.Deep.Cut
namespace Go.Proofs.YtakkfgkogomjbaaDoor
open Go.RowKit Go.Shelf Go.Maps Go.ChangeMaps Go.WideShapes Go.WideElems
set_option linter.unusedVariables false
/-- A timer: whose, when it is due, its turn. -/
structure Tm where
  id : Int
  du : Int
  tn : Int
deriving DecidableEq
def tmN (T : Nat → Tm) (j : Nat) : Int := if j % 3 = 0 then (T (j / 3)).id else if j % 3 = 1 then (T (j / 3)).du else (T (j / 3)).tn
theorem tmN_0 (T : Nat → Tm) (i : Nat) : tmN T (i * 3) = (T i).id := by unfold tmN; rw [if_pos (by omega)]; congr 2; omega
theorem tmN_1 (T : Nat → Tm) (i : Nat) : tmN T (i * 3 + 1) = (T i).du := by unfold tmN; rw [if_neg (by omega), if_pos (by omega)]; congr 2; omega
theorem tmN_2 (T : Nat → Tm) (i : Nat) : tmN T (i * 3 + 2) = (T i).tn := by unfold tmN; rw [if_neg (by omega), if_neg (by omega)]; congr 2; omega
def updT (T : Nat → Tm) (i : Nat) (t : Tm) (j : Nat) : Tm := if j = i then t else T j
theorem updT_same {T : Nat → Tm} {i : Nat} {t : Tm} : updT T i t i = t := by simp [updT]
theorem updT_ne {T : Nat → Tm} {i j : Nat} {t : Tm} (h : j ≠ i) : updT T i t j = T j := by simp [updT, h]
theorem tmN_upd (T : Nat → Tm) (i : Nat) (t : Tm) (j : Nat) : upd (upd (upd (tmN T) (i * 3) t.id) (i * 3 + 1) t.du) (i * 3 + 2) t.tn j = tmN (updT T i t) j := by
  by_cases h2 : j = i * 3 + 2
  · subst h2; rw [upd_same, tmN_2, updT_same]
  rw [upd_ne h2]
  by_cases h1 : j = i * 3 + 1
  · subst h1; rw [upd_same, tmN_1, updT_same]
  rw [upd_ne h1]
  by_cases h0 : j = i * 3
  · subst h0; rw [upd_same, tmN_0, updT_same]
  rw [upd_ne h0]
  unfold tmN updT
  rw [if_neg (show ¬ j / 3 = i by omega)]
/-- Where the wheel's blocks lie. -/
structure LW (lo hi wb I M : Nat) : Prop where
  q1 : lo + 3 ≤ wb
  q2 : wb < hi
  i1 : lo + 3 ≤ I
  i2 : I < hi
  m1 : lo + 3 ≤ M
  m2 : M < hi
  wi : wb ≠ I
  wm : wb ≠ M
  im : I ≠ M
  lh : lo + 3 ≤ hi
/-- The places' timers are those of A. -/
structure Cont (n : Nat) (S : PS) (T : Nat → Tm) (tu : Int) (A : List Tm) : Prop where
  len : S.pile.length + A.length = n
  mem : ∀ q : Nat, q < 258 → ∀ x ∈ S.list (q : Int), T x ∈ A
  all : ∀ t ∈ A, ∃ q : Nat, q < 258 ∧ ∃ x ∈ S.list (q : Int), T x = t
  ids : (A.map Tm.id).Nodup
  du : ∀ t ∈ A, 0 ≤ t.du ∧ t.du ≤ 4503599627370496
  tn : A.Pairwise fun a b => a.tn < b.tn
  tu : ∀ t ∈ A, t.tn ≤ tu
/-- The wheel in memory, but for the notes of some lists. -/
structure WK (w : World) (lo hi wb I M p L K n : Nat) (S : PS) (T : Nat → Tm) (f : Int → Option Nat) (F : Nat → Nat) (now tu : Int) (A : List Tm) (X : List Nat) : Prop where
  ly : LW lo hi wb I M
  hh : hi ≤ w.heap.size
  pa : PoolAt w lo (lo + 3) p L K n 258 S
  wc : WC w wb now tu p I M n F
  nb : NB w I (n * 3) (tmN T)
  mp : MapIs w M A.length f
  co : Cont n S T tu A
  fi : ∀ id x, f id = some x ↔ ∃ q : Nat, q < 258 ∧ x ∈ S.list (q : Int) ∧ (T x).id = id
  fl : ∀ l, l < 4 → F l < 18446744073709551616
  bi : ∀ l i, l < 4 → i < 64 → l * 64 + i ∉ X → (F l).testBit i = decide (S.list ((l * 64 + i : Nat) : Int) ≠ [])
  n0 : 0 ≤ now
  n1 : now ≤ 4503599627370496
  t0 : 0 ≤ tu
  t1 : tu ≤ 1000000000000
/-- Each timer stands in its list. -/
def Pl (S : PS) (T : Nat → Tm) (now : Int) : Prop := ∀ q : Nat, q < 258 → ∀ x ∈ S.list (q : Int), q = hm now (T x).du
/-- The wheel in memory. -/
structure WAt (w : World) (lo hi wb I M p L K n : Nat) (now tu : Int) (A : List Tm) : Prop where
  of : ∃ S T f F, WK w lo hi wb I M p L K n S T f F now tu A [] ∧ Pl S T now
theorem PoolAt.keptW {w w' : World} {lo hi p L K n m : Nat} {S : PS} (h : PoolAt w lo hi p L K n m S) (hs : w.heap.size ≤ w'.heap.size) (hk : ∀ i, i < hi → w'.heap[i]? = w.heap[i]?) : PoolAt w' lo hi p L K n m S := by
  obtain ⟨F, G, h1, h2⟩ := h.of
  exact ⟨h.pl, Nat.le_trans h.hh hs, h.nb, h.mb, F, G, h1.kept (hk _ h.pl.p2) (hk _ h.pl.l2) (hk _ h.pl.k2), h2⟩
theorem WK.below {w w' : World} {lo hi wb I M p L K n : Nat} {S : PS} {T : Nat → Tm} {f : Int → Option Nat} {F : Nat → Nat} {now tu : Int} {A : List Tm} {X : List Nat} (h : WK w lo hi wb I M p L K n S T f F now tu A X) (hb : Below hi w w') : WK w' lo hi wb I M p L K n S T f F now tu A X :=
  ⟨h.ly, Nat.le_trans h.hh hb.size, h.pa.below_hi (hb.mono h.ly.lh), h.wc.kept (hb.block _ h.ly.q2), h.nb.kept (hb.block _ h.ly.i2), h.mp.kept (hb.block _ h.ly.m2), h.co, h.fi, h.fl, h.bi, h.n0, h.n1, h.t0, h.t1⟩
theorem WAt.below {w w' : World} {lo hi wb I M p L K n : Nat} {now tu : Int} {A : List Tm} (h : WAt w lo hi wb I M p L K n now tu A) (hb : Below hi w w') : WAt w' lo hi wb I M p L K n now tu A := by
  obtain ⟨S, T, f, F, h, h2⟩ := h.of
  exact ⟨S, T, f, F, h.below hb, h2⟩
theorem WK.drewN {w : World} {lo hi wb I M p L K n : Nat} {S : PS} {T : Nat → Tm} {f : Int → Option Nat} {F : Nat → Nat} {now tu : Int} {A : List Tm} {X : List Nat} (h : WK w lo hi wb I M p L K n S T f F now tu A X) (k : Nat) : WK (w.drewN k) lo hi wb I M p L K n S T f F now tu A X :=
  h.below ((Below.refl _ _).drewN k)
/-- A number is noted just if it is a timer's. -/
theorem WK.memb {w : World} {lo hi wb I M p L K n : Nat} {S : PS} {T : Nat → Tm} {f : Int → Option Nat} {F : Nat → Nat} {now tu : Int} {A : List Tm} {X : List Nat} (h : WK w lo hi wb I M p L K n S T f F now tu A X) (id : Int) : (f id).isSome = decide (id ∈ A.map Tm.id) := by
  by_cases hm : id ∈ A.map Tm.id
  · rw [decide_eq_true hm]
    obtain ⟨t, ht, rfl⟩ := List.mem_map.1 hm
    obtain ⟨q, hq, x, hx, e⟩ := h.co.all t ht
    rw [(h.fi t.id x).2 ⟨q, hq, hx, by rw [e]⟩]; rfl
  · rw [decide_eq_false hm]
    cases e : f id with
    | none => rfl
    | some x =>
      exfalso
      obtain ⟨q, h1, h2, h3⟩ := (h.fi id x).1 e
      exact hm (List.mem_map.2 ⟨_, h.co.mem q h1 x h2, h3⟩)
/-- What note does to what is known. -/
theorem WK.note {w w' : World} {lo hi wb I M p L K n : Nat} {S : PS} {T : Nat → Tm} {f : Int → Option Nat} {F : Nat → Nat} {now tu : Int} {A : List Tm} {X Y : List Nat} {k : Nat} {e : Ending} (h : WK w lo hi wb I M p L K n S T f F now tu A X) (hX : ∀ y ∈ X, y = k ∨ y ∈ Y) (hk : WNote w wb now tu p I M n F k S e w') :
    e = .returned (.tuple #[]) ∧ Kp lo hi w w' ∧ ∃ F', WK w' lo hi wb I M p L K n S T f F' now tu A Y := by
  obtain ⟨rfl, F', hc, hkp, hb⟩ := hk
  have l := h.ly
  have l0 := l.lh
  have l1 := l.q1
  have l2 := l.q2
  have l3 := l.i2
  have l4 := l.m2
  have hh := h.hh
  have l5 := l.wi
  have l6 := l.wm
  refine ⟨rfl, ⟨hkp.os, hkp.tape, hkp.output, hkp.size, fun i h1 h2 => hkp.block i h1 (by omega)⟩, F', l, Nat.le_trans hh hkp.size, h.pa.keptW hkp.size fun i hi => hkp.block i (by omega) (by omega), hc, h.nb.kept (hkp.block _ (by omega) (by omega)), h.mp.kept (hkp.block _ (by omega) (by omega)), h.co, h.fi, fun l hl => (hb l hl).1, fun l i hl hi hy => ?_, h.n0, h.n1, h.t0, h.t1⟩
  rw [(hb l hl).2 i hi]
  by_cases e : l * 64 + i = k
  · rw [if_pos e, e]
  · rw [if_neg e]
    exact h.bi l i hl hi fun hx => (hX _ hx).elim e hy
theorem Kp.wide {lo hi hi' : Nat} {a w : World} (h : Kp lo hi a w) (hh : hi ≤ hi') : Kp lo hi' a w := ⟨h.os, h.tape, h.output, h.size, fun i h1 h2 => h.block i h1 (by omega)⟩
theorem WK.after {w w1 : World} {lo hi wb I M p L K n : Nat} {S : PS} {T : Nat → Tm} {f : Int → Option Nat} {F : Nat → Nat} {now tu : Int} {A : List Tm} {X : List Nat} (h : WK w lo hi wb I M p L K n S T f F now tu A X) (hk : Kp lo (lo + 3) w w1) : WC w1 wb now tu p I M n F ∧ NB w1 I (n * 3) (tmN T) ∧ MapIs w1 M A.length f := by
  have h1 := h.ly
  have h2 := h.hh
  exact ⟨h.wc.kept (hk.block _ (by have := h1.q2; omega) (.inr h1.q1)), h.nb.kept (hk.block _ (by have := h1.i2; omega) (.inr h1.i1)), h.mp.kept (hk.block _ (by have := h1.m2; omega) (.inr h1.m1))⟩
theorem list_takeW {n : Nat} {S : PS} {F G : Nat → Int} (hg : Good n 258 S F G) (i : Nat) {k : Nat} (hk : k < 258) (q : Nat) : (S.take i k).list (q : Int) = S.list (q : Int) ++ if k = q then [i] else [] := by
  unfold PS.take
  rw [list_put (by show k < S.lists.length; rw [hg.rep.len]; exact hk)]
  rfl
/-- Only the block M is another. -/
structure Only (w w' : World) (M : Nat) : Prop where
  os : w'.os = w.os
  tape : w'.tape = w.tape
  output : w'.output = w.output
  size : w'.heap.size = w.heap.size
  kept : ∀ i, i ≠ M → w'.heap[i]? = w.heap[i]?
theorem block_set (w : World) (M : Nat) (o : Obj) (h : M < w.heap.size) : Only w (setBlock w M o) M ∧ (setBlock w M o).heap[M]? = some o := by
  refine ⟨⟨rfl, rfl, rfl, by simp [setBlock], fun i hi => ?_⟩, by simp [setBlock, h]⟩
  have e : ¬ M = i := fun e => hi e.symm
  simp [setBlock, e]
/-- Putting in a number that is not there, in one step. -/
theorem map_put {w : World} {M N : Nat} {f : Int → Option Nat} (h : MapIs w M N f) {id : Int} (hid : (Lit.int .i64 id).wf = true) (hf : f id = none) (hN : N < 1000000) (x : Nat) (hx : (Lit.int .i64 (x : Int)).wf = true) :
    ∃ w', (Instr.mapUpdate 90 (.map (some M)) (.int .i64 id) (.int .i64 (x : Int))).run Tryd.prog w = .ok () w' ∧ Only w w' M ∧ MapIs w' M (N + 1) (fun a => if a = id then some x else f a) := by
  obtain ⟨st, o1, o2, m1, m2, m3, m4⟩ := map_entry h hid hf hN x hx
  obtain ⟨D, hown, hsz, h3⟩ := h
  obtain ⟨k1, _⟩ := h3 id hid
  rw [hf] at k1
  have hkey : keyOf Tryd.prog 3 (.int .i64 id) = some (.int .i64 id) := keyOf_int_mk Tryd.underlying3 hid
  have htidy := hown.tidy keyInt
  have hk : WideAt.IsKeyLit (.int .i64 id) := by trivial
  have hM := hown.lt
  obtain ⟨w', hrun, hown', es, clock, es', clock', hb, hg⟩ := hown.store keyInt Tryd.underlying90 (by simp only [maxLen]; omega) hkey (plainElem_int (H := Unit) Tryd.underlying3 hx)
  subst hg
  refine ⟨_, hrun, (block_set w M _ hM).1, D.put (.int .i64 id) (.lit (.int .i64 (x : Int))), hown', ?_, fun a ha => ?_⟩
  · rw [size_put htidy, k1, hsz]; rfl
  · by_cases e : a = id
    · subst e
      simp only [if_pos]
      refine ⟨has_put_same hown.isMap hk _, fun y hy z => ?_⟩
      cases hy
      exact atKey_put_same hown.isMap hk _ z
    · simp only [if_neg e]
      obtain ⟨q1, q2⟩ := h3 a ha
      have hne : (Lit.int .i64 a) ≠ .int .i64 id := fun h => e (by cases h; rfl)
      refine ⟨(has_put_other hne _).trans q1, fun y hy z => ?_⟩
      rw [atKey_put_other hne]
      exact q2 y hy z
def wIns (n : Nat) (A : List Tm) (tu id a : Int) : Int × Int × List Tm := if ¬ (0 ≤ a ∧ a ≤ 4503599627370496) then (1, tu, A) else if id ∈ A.map Tm.id then (4, tu, A) else if n ≤ A.length then (5, tu, A) else (0, tu + 1, A ++ [⟨id, a, tu + 1⟩])
def WRes (w : World) (lo hi wb I M p L K n : Nat) (now tu : Int) (A : List Tm) (v : Value) (e : Ending) (w' : World) : Prop := e = .returned v ∧ WAt w' lo hi wb I M p L K n now tu A ∧ Kp lo hi w w'
theorem cont_push {n : Nat} {S : PS} {F G : Nat → Int} {T : Nat → Tm} {tu : Int} {A : List Tm} (hg : Good n 258 S F G) (h : Cont n S T tu A) {i j : Nat} (hi : S.pile.getLast? = some i) (hj : j < 258) {t : Tm} (hm : t.id ∉ A.map Tm.id) (h0 : 0 ≤ t.du ∧ t.du ≤ 4503599627370496) (ht : t.tn = tu + 1) : Cont n (S.take i j) (updT T i t) (tu + 1) (A ++ [t]) := by
  have hip : i ∈ S.pile := List.mem_of_getLast? hi
  have hne : ∀ (q x : Nat), x ∈ S.list (q : Int) → x ≠ i := fun q x hx e => by subst e; exact not_listed hg hip q hx
  refine ⟨?_, fun q hq x hx => ?_, fun u hu => ?_, ?_, ?_, ?_, ?_⟩
  · have hne2 : S.pile ≠ [] := fun e => by rw [e] at hip; cases hip
    have h1 : (S.take i j).pile = S.pile.dropLast := rfl
    rw [h1, List.length_dropLast, List.length_append, List.length_singleton]
    have := List.length_pos_iff.2 hne2
    have := h.len
    omega
  · rw [list_takeW hg i hj] at hx
    rcases List.mem_append.1 hx with hx | hx
    · rw [updT_ne (hne q x hx)]
      exact List.mem_append_left _ (h.mem q hq x hx)
    · split at hx
      · rw [List.mem_singleton.1 hx, updT_same]; simp
      · cases hx
  · rcases List.mem_append.1 hu with hu | hu
    · obtain ⟨q, hq, x, hx, e⟩ := h.all u hu
      exact ⟨q, hq, x, by rw [list_takeW hg i hj]; exact List.mem_append_left _ hx, by rw [updT_ne (hne q x hx)]; exact e⟩
    · rw [List.mem_singleton.1 hu]
      exact ⟨j, hj, i, by rw [list_takeW hg i hj, if_pos rfl]; simp, updT_same⟩
  · rw [List.map_append, List.map_singleton]
    exact List.nodup_append.2 ⟨h.ids, by simp, fun a ha b hb e => by rw [List.mem_singleton.1 hb] at e; rw [e] at ha; exact hm ha⟩
  · intro u hu
    rcases List.mem_append.1 hu with hu | hu
    · exact h.du u hu
    · rw [List.mem_singleton.1 hu]; exact h0
  · refine List.pairwise_append.2 ⟨h.tn, by simp, fun a ha b hb => ?_⟩
    rw [List.mem_singleton.1 hb, ht]
    have := h.tu a ha
    omega
  · intro u hu
    rcases List.mem_append.1 hu with hu | hu
    · have := h.tu u hu; omega
    · rw [List.mem_singleton.1 hu, ht]; omega
theorem fi_pushW {n : Nat} {S : PS} {F G : Nat → Int} {T : Nat → Tm} {f : Int → Option Nat} {tu : Int} {A : List Tm} (hg : Good n 258 S F G) (hc : Cont n S T tu A) (h : ∀ id x, f id = some x ↔ ∃ q : Nat, q < 258 ∧ x ∈ S.list (q : Int) ∧ (T x).id = id) {i j : Nat} (hi : i ∈ S.pile) (hj : j < 258) {t : Tm} (hm : t.id ∉ A.map Tm.id) (a : Int) (x : Nat) :
    (if a = t.id then some i else f a) = some x ↔ ∃ q : Nat, q < 258 ∧ x ∈ (S.take i j).list (q : Int) ∧ (updT T i t x).id = a := by
  constructor
  · intro e
    by_cases ha : a = t.id
    · rw [if_pos ha] at e
      cases e
      exact ⟨j, hj, by rw [list_takeW hg i hj, if_pos rfl]; simp, by rw [updT_same, ha]⟩
    · rw [if_neg ha] at e
      obtain ⟨q, h1, h2, h3⟩ := (h a x).1 e
      refine ⟨q, h1, by rw [list_takeW hg i hj]; exact List.mem_append_left _ h2, ?_⟩
      rw [updT_ne (by rintro rfl; exact not_listed hg hi q h2), h3]
  · rintro ⟨q, h1, h2, h3⟩
    rw [list_takeW hg i hj] at h2
    rcases List.mem_append.1 h2 with h2' | h2
    · have hxi : x ≠ i := by rintro rfl; exact not_listed hg hi q h2'
      rw [updT_ne hxi] at h3
      have ha : a ≠ t.id := by
        rintro rfl
        exact hm (List.mem_map.2 ⟨_, hc.mem q h1 x h2', h3⟩)
      rw [if_neg ha]
      exact (h a x).2 ⟨q, h1, h2', h3⟩
    · split at h2
      · simp at h2
        subst h2
        rw [updT_same] at h3
        rw [if_pos h3.symm]
      · cases h2
theorem pl_push {n : Nat} {S : PS} {F G : Nat → Int} {T : Nat → Tm} {now : Int} (hg : Good n 258 S F G) (h : Pl S T now) {i : Nat} (hi : i ∈ S.pile) {t : Tm} : Pl (S.take i (hm now t.du)) (updT T i t) now := by
  intro q hq x hx
  rw [list_takeW hg i (hm_lt _ _)] at hx
  rcases List.mem_append.1 hx with hy | hy
  · rw [updT_ne (fun e => not_listed hg hi q (by rw [← e]; exact hy))]; exact h q hq x hy
  · split at hy
    · rename_i e; rw [List.mem_singleton.1 hy, updT_same]; exact e.symm
    · cases hy
set_option maxHeartbeats 4000000 in
set_option maxRecDepth 100000 in
theorem winsert_any {w : World} {lo hi wb I M p L K n : Nat} {now tu : Int} {A : List Tm} (h : WAt w lo hi wb I M p L K n now tu A) (htu : tu < 1000000000000) {id : Int} (hid : (Lit.int .i64 id).wf = true) (a : Int) :
    Calls Tryd.prog 16 #[.pointer (some ⟨wb, 0, none⟩), .int .i64 id, .int .i64 a] w (WRes w lo hi wb I M p L K n now (wIns n A tu id a).2.1 (wIns n A tu id a).2.2 (.int .i64 (wIns n A tu id a).1)) := by
  have HA := Kept.mk h
  by_cases hr : ¬ (0 ≤ a ∧ a ≤ 4503599627370496)
  · have e : wIns n A tu id a = (1, tu, A) := by unfold wIns; rw [if_pos hr]
    rw [e]
    by_cases h0 : a < 0
    · have d0 : decide (a < 0) = true := decide_eq_true h0
      clear h e hr h0
      go_enter Tryd.func16, Tryd.ntmps16
      go_wp2
      go_ret
      exact ⟨rfl, HA.out, Kp.refl _ _ _⟩
    · have d0 : decide (a < 0) = false := decide_eq_false h0
      have d1 : decide (4503599627370496 < a) = true := decide_eq_true (by omega)
      clear h e hr h0
      go_enter Tryd.func16, Tryd.ntmps16
      go_wp2
      go_ret
      exact ⟨rfl, HA.out, Kp.refl _ _ _⟩
  have hr' := Classical.not_not.1 hr
  obtain ⟨a0, a1⟩ := hr'
  obtain ⟨S, T, f, F, h, hpl⟩ := h.of
  have HL := map_look h.mp hid
  have hmem := h.memb id
  obtain ⟨c0, c1, c2, c3, c4, c5, c6, c7, c8, wf⟩ := h.wc
  by_cases hm' : id ∈ A.map Tm.id
  · have e : wIns n A tu id a = (4, tu, A) := by unfold wIns; rw [if_neg hr, if_pos hm']
    rw [e]
    rw [hmem, decide_eq_true hm'] at HL
    clear h e hr hm' hmem hpl
    go_enter Tryd.func16, Tryd.ntmps16
    go_wp2
    go_ret
    exact ⟨rfl, HA.out, Kp.refl _ _ _⟩
  rw [hmem, decide_eq_false hm'] at HL
  have hf : f id = none := by rw [decide_eq_false hm'] at hmem; cases e : f id with | none => rfl | some x => rw [e] at hmem; cases hmem
  have HH := home_any wb now a w c0 h.n0 h.n1 a0 a1
  have HW := Kept.mk h
  have HPL := Kept.mk hpl
  have hlen := h.co.len
  have htu0 := h.t0
  obtain ⟨j, hj⟩ : ∃ j, j = hm now a := ⟨_, rfl⟩
  have hjl : j < 258 := by rw [hj]; exact hm_lt _ _
  have HJ := Kept.mk hj
  rw [← hj] at HH
  have HF := Kept.mk hf
  have HMM := Kept.mk hm'
  have HR := Kept.mk hr
  by_cases hfull : n ≤ A.length
  · have hp : S.pile = [] := List.eq_nil_of_length_eq_zero (by omega)
    have et : tk 258 S j = (0, 5, S) := by
      unfold tk
      rw [if_neg (by omega), hp]; rfl
    have e : wIns n A tu id a = (5, tu, A) := by unfold wIns; rw [if_neg hr, if_neg hm', if_pos hfull]
    rw [e]
    have HT := Kept.mk (fun k => show _ from take_any (HW.out.drewN k).pa (j : Int))
    rw [et] at HT
    clear h e hr hm' hmem hpl hj hf hp et hfull hlen
    go_enter Tryd.func16, Tryd.ntmps16
    go_wp2_with fail
    refine HH.mono ?_
    rintro e w1 ⟨rfl, kk, rfl⟩
    have HT1 := HT.out kk
    go_wp2_with fail
    refine HT1.mono ?_
    rintro e w2 ⟨rfl, hp1, hk1⟩
    obtain ⟨g1, g2, g3⟩ := (HW.out.drewN kk).after hk1
    have h2 := HW.out
    have HFIN := Kept.mk (show WAt w2 lo hi wb I M p L K n now tu A ∧ Kp lo hi w w2 from
      ⟨⟨S, T, f, F, ⟨h2.ly, Nat.le_trans h2.hh hk1.size, hp1, g1, g2, g3, h2.co, h2.fi, h2.fl, h2.bi, h2.n0, h2.n1, h2.t0, h2.t1⟩, HPL.out⟩, ((Kp.refl lo hi w).drewN kk).trans (hk1.wide h2.ly.lh)⟩)
    clear HL HH HT HT1 hp1 hk1 g1 g2 g3 h2
    go_wp2
    go_ret
    exact ⟨rfl, HFIN.out⟩
  · obtain ⟨i, hgl⟩ : ∃ i, S.pile.getLast? = some i := by
      cases e : S.pile.getLast? with
      | some i => exact ⟨i, rfl⟩
      | none => rw [List.getLast?_eq_none_iff] at e; rw [e] at hlen; simp at hlen; omega
    have et : tk 258 S j = ((i : Int), 0, S.take i j) := by
      unfold tk
      rw [if_neg (by omega), hgl]; rfl
    have e : wIns n A tu id a = (0, tu + 1, A ++ [⟨id, a, tu + 1⟩]) := by unfold wIns; rw [if_neg hr, if_neg hm', if_neg hfull]
    rw [e]
    have hin : i < n := by
      obtain ⟨F, G, _, hG⟩ := h.pa.of
      exact hG.rep.plt i (List.mem_of_getLast? hgl)
    have HGL := Kept.mk hgl
    have hn4 : n ≤ 4096 := h.pa.nb
    have HT := Kept.mk (fun k => show _ from take_any (HW.out.drewN k).pa (j : Int))
    rw [et] at HT
    clear h e hr hm' hmem hpl hj hf et hfull hlen hgl
    go_enter Tryd.func16, Tryd.ntmps16
    go_wp2_with fail
    refine HH.mono ?_
    rintro e w1 ⟨rfl, kk, rfl⟩
    have HT1 := HT.out kk
    go_wp2_with fail
    refine HT1.mono ?_
    rintro e w2 ⟨rfl, hp2, hk2⟩
    obtain ⟨g1, g2, g3⟩ := (HW.out.drewN kk).after hk2
    have hly := HW.out.ly
    have K2 := Kept.mk (((Kp.refl lo hi w).drewN kk).trans (hk2.wide hly.lh))
    have P2 := Kept.mk hp2
    have G1 := Kept.mk g1
    have G2 := Kept.mk g2
    have G3 := Kept.mk g3
    have hhi2 : hi ≤ w2.heap.size := Nat.le_trans HW.out.hh K2.out.size
    clear c0 c1 c2 c3 c4 c5 c6 c7 c8 wf HL HH HT HT1 hp2 hk2 g1 g2 g3
    obtain ⟨c0, c1, c2, c3, c4, c5, c6, c7, c8, wf⟩ := G1.out
    go_upto_region 11 with fail
    obtain ⟨w3, hw3⟩ : ∃ w3, w3 = w2.setCell ⟨wb, 1, none⟩ (.int .i64 (tu + 1)) := ⟨_, rfl⟩
    rw [← hw3]
    have b3 : ∀ x, x ≠ wb → w3.heap[x]? = w2.heap[x]? := fun x hx => by rw [hw3]; exact Below.heap_setCell _ _ _ _ hx
    have z3 : w3.heap.size = w2.heap.size := by rw [hw3]; simp
    have C3 := Kept.mk (show WC w3 wb now (tu + 1) p I M n F by rw [hw3]; exact G1.out.setTu _)
    have N3 := Kept.mk (G2.out.kept (b3 I hly.wi.symm))
    have M3 := Kept.mk (G3.out.kept (b3 M hly.wm.symm))
    have K3 := Kept.mk (show Kp lo hi w w3 by rw [hw3]; exact K2.out.set (p := ⟨wb, 1, none⟩) (by have := hly.q1; show lo ≤ wb; omega) hly.q2 _)
    have P3 := Kept.mk (P2.out.keptW (by omega) fun x hx => b3 x (by have := hly.q1; omega))
    clear c0 c1 c2 c3 c4 c5 c6 c7 c8 wf hw3 b3 K2 P2 G1 G2 G3
    obtain ⟨c0, c1, c2, c3, c4, c5, c6, c7, c8, wf⟩ := C3.out
    have k0 := N3.out.c (i * 3) (by omega)
    have k1 := N3.out.c (i * 3 + 1) (by omega)
    have k2 := N3.out.c (i * 3 + 2) (by omega)
    have kf := N3.out.f
    have hwi := hly.wi
    have hwi' := hly.wi.symm
    have hIl : I < w3.heap.size := by have := hly.i2; omega
    have hin3 : (i : Int) < (n : Int) := by omega
    go_region
    obtain ⟨w4, hw4⟩ : ∃ w4, w4 = (((w3.setCell ⟨I, i * 3, none⟩ (.int .i64 id)).setCell ⟨I, i * 3 + 1, none⟩ (.int .i64 a)).setCell ⟨I, i * 3 + 2, none⟩ (.int .i64 (tu + 1))).drew := ⟨_, rfl⟩
    rw [← hw4]
    have b4 : ∀ x, x ≠ I → w4.heap[x]? = w3.heap[x]? := fun x hx => by
      rw [hw4]; exact (Below.heap_setCell _ _ _ _ hx).trans ((Below.heap_setCell _ _ _ _ hx).trans (Below.heap_setCell _ _ _ _ hx))
    have z4 : w4.heap.size = w3.heap.size := by rw [hw4]; simp
    have C4 := Kept.mk (C3.out.kept (b4 wb hwi))
    have M4 := M3.out.kept (b4 M hly.im.symm)
    have N4 := Kept.mk (show NB w4 I (n * 3) (tmN (updT T i ⟨id, a, tu + 1⟩)) from by
      have h1 := ((N3.out.set (o := i * 3) (by omega) id).set (o := i * 3 + 1) (by omega) a).set (o := i * 3 + 2) (by omega) (tu + 1)
      rw [hw4]
      exact (h1.drewN 1).congr fun x _ => tmN_upd T i ⟨id, a, tu + 1⟩ x)
    have K4 := Kept.mk (show Kp lo hi w w4 by rw [hw4]; exact (((K3.out.set (p := ⟨I, i * 3, none⟩) (by have := hly.i1; show lo ≤ I; omega) hly.i2 _).set (p := ⟨I, i * 3 + 1, none⟩) (by have := hly.i1; show lo ≤ I; omega) hly.i2 _).set (p := ⟨I, i * 3 + 2, none⟩) (by have := hly.i1; show lo ≤ I; omega) hly.i2 _).drewN 1)
    have P4 := Kept.mk (P3.out.keptW (by omega) fun x hx => b4 x (by have := hly.i1; omega))
    have hlen := HW.out.co.len
    obtain ⟨w5, m1, ho5, hm5⟩ := map_put M4 hid HF.out (by omega) i (by simp [Lit.wf, IntKind.min, IntKind.max, IntKind.signed, IntKind.bits]; omega)
    have h5 : WK w5 lo hi wb I M p L K n (S.take i j) (updT T i ⟨id, a, tu + 1⟩) (fun x => if x = id then some i else f x) F now (tu + 1) (A ++ [⟨id, a, tu + 1⟩]) [j] := by
      obtain ⟨F', G', _, hG⟩ := HW.out.pa.of
      have hip : i ∈ S.pile := List.mem_of_getLast? HGL.out
      refine ⟨hly, by rw [ho5.size, z4, z3]; exact hhi2, P4.out.keptW (by rw [ho5.size]; exact Nat.le_refl _) fun x hx => ho5.kept x (by have := hly.m1; omega), C4.out.kept (ho5.kept _ hly.wm), N4.out.kept (ho5.kept _ hly.im), ?_, cont_push hG HW.out.co HGL.out hjl HMM.out ⟨a0, a1⟩ rfl, fi_pushW (t := ⟨id, a, tu + 1⟩) hG HW.out.co HW.out.fi hip hjl HMM.out, HW.out.fl, fun l x hl hx hnx => ?_, HW.out.n0, HW.out.n1, by have := HW.out.t0; omega, by omega⟩
      · rw [List.length_append, List.length_singleton]; exact hm5
      · rw [list_takeW hG i hjl, HW.out.bi l x hl hx (by simp), if_neg (by simp at hnx; omega), List.append_nil]
    have H5 := Kept.mk h5
    have HN := wnote_any h5.pa h5.wc h5.fl j
    have HPL5 := Kept.mk (show Pl (S.take i j) (updT T i ⟨id, a, tu + 1⟩) now from by
      obtain ⟨F', G', _, hG⟩ := HW.out.pa.of
      rw [HJ.out]
      exact pl_push hG HPL.out (List.mem_of_getLast? HGL.out) (t := ⟨id, a, tu + 1⟩))
    have K5 := Kept.mk (show Kp lo hi w w5 from K4.out.trans ⟨ho5.os, ho5.tape, ho5.output, by rw [ho5.size]; exact Nat.le_refl _, fun x _ h2 => ho5.kept x (by have := hly.m1; have := hly.m2; omega)⟩)
    clear c0 c1 c2 c3 c4 c5 c6 c7 c8 wf k0 k1 k2 kf hw4 b4 h5 hm5 M4 N4 N3 K4 P4 K3 P3 C3 M3 ho5 hlen
    obtain ⟨c0, c1, c2, c3, c4, c5, c6, c7, c8, wf⟩ := C4.out
    go_wp2_with (go_at_call 32; refine (HN).mono ?_; rintro e w6 hn; obtain ⟨rfl, hk6, F6, h6⟩ := H5.out.note (Y := []) (fun y hy => .inl (List.mem_singleton.1 hy)) hn; have H6 := Kept.mk h6; have K6 := Kept.mk hk6; clear hn h6 hk6)
    go_ret
    exact ⟨rfl, ⟨_, _, _, F6, H6.out, HPL5.out⟩, K5.out.trans K6.out⟩
end Go.Proofs.YtakkfgkogomjbaaDoor
