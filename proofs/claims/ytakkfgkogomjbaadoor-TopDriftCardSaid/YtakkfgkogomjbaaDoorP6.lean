/-
  The walks of the pool's Each (an iterator) and List.
-/
import Derived.Test.YtakkfgkogomjbaaDoorGP
import Derived.Test.YtakkfgkogomjbaaDoorItW
import Derived.Laws.AppendOwnNone
namespace Go.Proofs.YtakkfgkogomjbaaDoor
open Go.RowKit Go.Shelf
set_option linter.unusedVariables false
attribute [local go_sem] Oper.semAt_some
/-- What a round keeps: all below n₀, but one block. -/
structure KpE (n₀ x : Nat) (W W' : World) : Prop where
  size : W.heap.size ≤ W'.heap.size
  block : ∀ i, i < n₀ → i ≠ x → W'.heap[i]? = W.heap[i]?
theorem KpE.trans {n₀ x : Nat} {A B C : World} (h : KpE n₀ x A B) (k : KpE n₀ x B C) : KpE n₀ x A C := ⟨Nat.le_trans h.size k.size, fun i hi hx => (k.block i hi hx).trans (h.block i hi hx)⟩
theorem KpE.of_below {n₀ x : Nat} {A B : World} (h : Below n₀ A B) : KpE n₀ x A B := ⟨h.size, fun i hi _ => h.block i hi⟩
theorem KpE.book {n₀ x : Nat} {w : World} (hn : n₀ ≤ w.heap.size) (W : World) (l : Nat) (o o' : Obj) (hl : w.heap.size ≤ l) (h : W.heap[l]? = some o) (hc : o.isCells = false) (hw : o.isWalk = false) : KpE n₀ x W (W.putObj l o') :=
  .of_below (belowK_b hn W l o o' hl h hc hw)
theorem KpE.cell {n₀ x : Nat} {W W' : World} (h : KpE n₀ x W W') {b o : Nat} (hb : b < n₀) (hx : b ≠ x) : W'.cell? ⟨b, o, none⟩ = W.cell? ⟨b, o, none⟩ := World.cell?_of_block (a := ⟨b, o, none⟩) (h.block b hb hx)
theorem PoolAt.keptE {w w' : World} {lo hi p L K n m : Nat} {S : PS} (h : PoolAt w lo hi p L K n m S) {n₀ x : Nat} (hk : KpE n₀ x w w') (hn : hi ≤ n₀) (hx : hi ≤ x) : PoolAt w' lo hi p L K n m S := by
  obtain ⟨F, G, h1, h2⟩ := h.of
  have := h.pl.p2
  have := h.pl.l2
  have := h.pl.k2
  exact ⟨h.pl, Nat.le_trans h.hh hk.size, h.nb, h.mb, F, G, h1.kept (hk.block _ (by omega) (by omega)) (hk.block _ (by omega) (by omega)) (hk.block _ (by omega) (by omega)), h2⟩
theorem nx_next {n m : Nat} {S : PS} {F G : Nat → Int} (h : Good n m S F G) {k : Nat} (hk : k < m) {a b : List Nat} {i : Nat} (e : S.list k = a ++ i :: b) : nx n S (i : Int) = b.head? := by
  obtain ⟨hl, _, _, hlt⟩ := h.list hk
  have hi : i ∈ S.list k := by rw [e]; simp
  have hloc := h.rep.loc hl hi
  have hnd := h.rep.lnd k _ hl
  unfold nx
  rw [if_neg (by have := hlt i hi; omega), Int.toNat_natCast, hloc]
  show behind (S.list k) i = _
  rw [e]
  apply behind_split
  rw [e] at hnd
  exact fun ha => (List.nodup_append.1 hnd).2.2 i ha i (by simp) rfl
theorem list_nodup {n m : Nat} {S : PS} {F G : Nat → Int} (h : Good n m S F G) (k : Int) : (S.list k).Nodup ∧ (S.list k).length ≤ n ∧ ∀ x ∈ S.list k, x < n := by
  by_cases hk : 0 ≤ k ∧ k < (m : Int)
  · obtain ⟨j, rfl⟩ : ∃ j : Nat, k = j := ⟨k.toNat, by omega⟩
    obtain ⟨hl, _, _, hlt⟩ := h.list (show j < m by omega)
    have hnd := h.rep.lnd j _ hl
    exact ⟨hnd, nodup_len hnd hlt, hlt⟩
  · rw [list_out h hk]; simp
abbrev encN (x : Nat) : Array Value := #[.int .i64 (x : Int)]
/-- What is left of a list, from one of its entries on. -/
def restL (l : List Nat) (t u : Value) : Nat := match u with | .bool true => (l.dropWhile (fun x : Nat => decide ((x : Int) ≠ intOf t))).length | _ => 0
theorem dropWhile_at {f : Nat → Bool} {a b : List Nat} {i : Nat} (h1 : ∀ x ∈ a, f x = true) (h2 : f i = false) : (a ++ i :: b).dropWhile f = i :: b := by
  rw [List.dropWhile_append_of_pos h1, List.dropWhile_cons_of_neg (by simp [h2])]
theorem restL_split {a b : List Nat} {i : Nat} (h : (a ++ i :: b).Nodup) : restL (a ++ i :: b) (.int .i64 i) (.bool true) = b.length + 1 := by
  have ha : i ∉ a := fun ha => (List.nodup_append.1 h).2.2 i ha i (by simp) rfl
  show (List.dropWhile _ (a ++ i :: b)).length = _
  rw [dropWhile_at]
  · rfl
  · intro x hx
    refine decide_eq_true (fun e => ha ?_)
    have e' : (x : Int) = (i : Int) := e
    have : x = i := by omega
    rw [← this]; exact hx
  · refine decide_eq_false (fun h => h ?_)
    rfl
def hdI (l : List Nat) : Int := match l.head? with | some x => x | none => 0
def hdB (l : List Nat) : Bool := l.head?.isSome
theorem optV_hd (l : List Nat) : optV l.head? = .tuple #[.int .i64 (hdI l), .bool (hdB l)] := by
  unfold hdI hdB
  cases l <;> rfl
set_option maxHeartbeats 1000000 in
theorem peach_inM (n : Nat) (hn : 1 ≤ n) (l B1 B2 n₀ x₀ : Nat) (lo hi p L K N m : Nat) (S : PS) (k : Int) (hhi : hi ≤ n₀) (hhx : hi ≤ x₀) (hB1n : B1 < n₀) (hB2n : B2 < n₀) (hB1x : B1 ≠ x₀) (hB2x : B2 ≠ x₀) (J Jx : List Nat → World → Prop)
    (hY : ∀ pre x W, x ∈ S.list k → J pre W → pre.length < 4096 → YieldAt Fence.wide (n - 1) Tryd.prog l (encN x) W fun e W' =>
      (e = .returned (.bool true) ∧ J (pre ++ [x]) W' ∧ KpE n₀ x₀ W W') ∨ (e = .returned (.bool false) ∧ Jx (pre ++ [x]) W'))
    (W : World) (hB1 : W.cell? ⟨B1, 0, none⟩ = some (.pointer (some ⟨p, 0, none⟩))) (hB2 : W.cell? ⟨B2, 0, none⟩ = some (.int .i64 k)) (hP : PoolAt W lo hi p L K N m S) (h0 : J [] W) :
    CallsIn Fence.wide n Tryd.prog 66 #[.func (.yield l) #[] #[], .pointer (some ⟨B1, 0, none⟩), .pointer (some ⟨B2, 0, none⟩)] W fun e W' => (∃ v, e = .returned v) ∧
      ((∃ l, l = S.list k ∧ J l W') ∨ (∃ pre, pre <+: S.list k ∧ Jx pre W')) := by
  have hnd : (S.list k).Nodup ∧ (S.list k).length ≤ 4096 := by
    obtain ⟨F, G, _, hG⟩ := hP.of
    obtain ⟨h1, h2, _⟩ := list_nodup hG k
    exact ⟨h1, Nat.le_trans h2 hP.nb⟩
  have HN := Kept.mk hnd
  have HF := Kept.mk (pfirst hP k)
  clear hnd
  refine callsIn_of_wp Tryd.func66 rfl trivial ?_ rfl
  simp only [Tryd.ntmps66, List.size_toArray, List.length_cons, List.length_nil, Nat.reduceAdd, Nat.reduceSub, Array.replicate_succ, Array.replicate_zero, List.push_toArray, List.append_toArray, List.nil_append, List.cons_append]
  gi_wp2_with fail
  refine ⟨trivial, ?_⟩
  refine (callsIn_wide.2 HF.out).mono ?_
  rintro e w1 ⟨rfl, rfl⟩
  rw [optV_hd]
  obtain ⟨t0, ht0⟩ : ∃ t, t = hdI (S.list k) := ⟨_, rfl⟩
  obtain ⟨u0, hu0⟩ : ∃ t, t = hdB (S.list k) := ⟨_, rfl⟩
  rw [← ht0, ← hu0]
  have HT0 := Kept.mk ht0
  have HU0 := Kept.mk hu0
  clear ht0 hu0
  gi_wp2_with fail
  gi_loopw [4, 5] (fun t u wr => ∃ (pre post : List Nat), Kept (S.list k = pre ++ post) ∧ t = .int .i64 (hdI post) ∧ u = .bool (hdB post) ∧ PoolAt wr lo hi p L K N m S ∧ wr.cell? ⟨B1, 0, none⟩ = some (.pointer (some ⟨p, 0, none⟩)) ∧ wr.cell? ⟨B2, 0, none⟩ = some (.int .i64 k) ∧ J pre wr)
    (fun t u _ => restL (S.list k) t u)
  case atStart => exact ⟨[], S.list k, ⟨rfl⟩, by rw [HT0.out], by rw [HU0.out], hP, hB1, hB2, h0⟩
  case round =>
    clear hP hB1 hB2 h0 HF
    obtain ⟨pre, post, hs, rfl, rfl, hP, hB1, hB2, hj⟩ := hrel
    cases post with
    | nil =>
      simp only [hdB, hdI, List.head?_nil, Option.isSome_none]
      have hs2 := hs.out
      rw [List.append_nil] at hs2
      have HS := Kept.mk hs2
      clear hs2
      gi_wp2
      go_end0
      exact ⟨⟨_, rfl⟩, .inl ⟨pre, HS.out.symm, hj⟩⟩
    | cons i r =>
      simp only [hdB, hdI, List.head?_cons, Option.isSome_some]
      have hnd := HN.out
      rw [hs.out] at hnd
      have hpl : pre.length < 4096 := by have := hnd.2; simp at this; omega
      have HND := Kept.mk hnd.1
      clear hnd
      obtain ⟨fn, tmps, assign, body, hy, hRd⟩ := hY _ i _ (by rw [hs.out]; simp) hj hpl
      dsimp only [encN] at hy
      gi_wp2
      refine hRd.mono ?_
      rintro e W3 (⟨rfl, hJ3, hk3⟩ | ⟨rfl, hJx3⟩)
      · have hP3 := hP.keptE hk3 hhi hhx
        have hB13 := (hk3.cell (o := 0) hB1n hB1x).trans hB1
        have hB23 := (hk3.cell (o := 0) hB2n hB2x).trans hB2
        have hN3 := pnext hP3 (i : Int)
        have hnx : nx N S (i : Int) = r.head? := by
          obtain ⟨F, G, _, hG⟩ := hP3.of
          by_cases hk : 0 ≤ k ∧ k < (m : Int)
          · obtain ⟨j, rfl⟩ : ∃ j : Nat, k = j := ⟨k.toNat, by omega⟩
            exact nx_next hG (show j < m by omega) hs.out
          · have := list_out hG hk
            rw [hs.out] at this
            simp at this
        rw [hnx, optV_hd] at hN3
        have HN3 := Kept.mk hN3
        clear hN3 hnx hk3 hy hRd hj hP hB1 hB2
        gi_wp2_with fail
        refine ⟨trivial, ?_⟩
        refine (callsIn_wide.2 HN3.out).mono ?_
        rintro e w4 ⟨rfl, rfl⟩
        gi_wp2
        go_roundw
        case rel => exact ⟨pre ++ [i], r, ⟨by rw [hs.out]; simp⟩, rfl, rfl, hP3, hB13, hB23, hJ3⟩
        case measure =>
          have h1 := restL_split HND.out
          rw [hs.out]
          refine Nat.lt_of_lt_of_eq ?_ h1.symm
          cases r with
          | nil => simp [restL, hdB]
          | cons j r =>
            have h2 := restL_split (a := pre ++ [i]) (b := r) (i := j) (by simpa using HND.out)
            simp only [List.append_assoc, List.cons_append, List.nil_append] at h2
            simp only [hdB, hdI, List.head?_cons, Option.isSome_some]
            rw [h2]
            simp
      · gi_wp2
        refine bodyPost_ret (results_none rfl _ _ _) rfl ?_
        exact ⟨⟨_, rfl⟩, .inr ⟨_, by rw [hs.out]; exact ⟨r, by simp⟩, hJx3⟩⟩
theorem peach_in (n : Nat) (hn : 1 ≤ n) (l B1 B2 n₀ x₀ : Nat) (lo hi p L K N m : Nat) (S : PS) (k : Int) (hhi : hi ≤ n₀) (hhx : hi ≤ x₀) (hB1n : B1 < n₀) (hB2n : B2 < n₀) (hB1x : B1 ≠ x₀) (hB2x : B2 ≠ x₀) (J Jx : List Nat → World → Prop)
    (hY : ∀ pre x W, J pre W → pre.length < 4096 → YieldAt Fence.wide (n - 1) Tryd.prog l (encN x) W fun e W' =>
      (e = .returned (.bool true) ∧ J (pre ++ [x]) W' ∧ KpE n₀ x₀ W W') ∨ (e = .returned (.bool false) ∧ Jx (pre ++ [x]) W'))
    (W : World) (hB1 : W.cell? ⟨B1, 0, none⟩ = some (.pointer (some ⟨p, 0, none⟩))) (hB2 : W.cell? ⟨B2, 0, none⟩ = some (.int .i64 k)) (hP : PoolAt W lo hi p L K N m S) (h0 : J [] W) :
    CallsIn Fence.wide n Tryd.prog 66 #[.func (.yield l) #[] #[], .pointer (some ⟨B1, 0, none⟩), .pointer (some ⟨B2, 0, none⟩)] W fun e W' => (∃ v, e = .returned v) ∧
      ((∃ l, l = S.list k ∧ J l W') ∨ (∃ pre, pre <+: S.list k ∧ Jx pre W')) :=
  peach_inM n hn l B1 B2 n₀ x₀ lo hi p L K N m S k hhi hhx hB1n hB2n hB1x hB2x J Jx (fun pre x W _ h1 h2 => hY pre x W h1 h2) W hB1 hB2 hP h0
end Go.Proofs.YtakkfgkogomjbaaDoor
