/-
  The walks of the reference pool's at, Where, List, Next.
-/
import Derived.Test.YtcchmkpodfjhcaaR0
namespace Go.Proofs.Ytcchmkpodfjhcaa
open Go.RowKit
set_option linter.unusedVariables false
def AtRes (w : World) (ls : List (List Int)) (i : Int) (e : Ending) (w' : World) : Prop :=
  Below w.heap.size w w' ∧ ((∃ (k j : Nat) (l : List Int), e = .returned (.tuple #[.int .i64 k, .int .i64 j, .bool true]) ∧ ls[k]? = some l ∧ l[j]? = some i ∧ (∀ (k' : Nat) (l' : List Int), k' < k → ls[k']? = some l' → i ∉ l') ∧ ∀ j', j' < j → l[j']? ≠ some i) ∨
    (e = .returned (.tuple #[.int .i64 0, .int .i64 0, .bool false]) ∧ ∀ l ∈ ls, i ∉ l))
def Sm (ls : List (List Int)) : Prop := ls.length ≤ 4096 ∧ ∀ l ∈ ls, l.length ≤ 4096
set_option maxHeartbeats 2000000 in
theorem rat_walk (A A2 : Option Addr) (a c c2 n hi : Nat) (ls : List (List Int)) (i : Int) (w : World) (h : RL w hi A2 ls) (hs : Sm ls) :
    Calls Try.prog 74 #[.agg (rC A a c A2 ls.length c2 n), .int .i64 i] w (AtRes w ls i) := by
  have HH := Kept.mk h
  have HS := Kept.mk hs
  have li : (ls.length : Int) ≤ 4096 := by have := hs.1; omega
  have hb := below_box w (.cells (rC A a c A2 ls.length c2 n) 31)
  have HR := Kept.mk (h.below hb)
  have HB := Kept.mk hb
  have c1 := box_cell (Below.refl (w.alloc (.cells (rC A a c A2 ls.length c2 n) 31)).heap.size _) 1 _ rfl
  clear h hs hb
  unfold rC at *
  go_enter Try.func74, Try.ntmps74
  go_wp2_with fail
  obtain ⟨W1, hW1⟩ : ∃ W1, W1 = w.alloc (.cells #[.slice A a c, .slice A2 ls.length c2, .int .i64 (n : Int)] 31) := ⟨_, rfl⟩
  rw [← hW1] at HR HB c1 ⊢
  clear hW1
  go_loop [14] (fun t => ∃ (k : Nat), k ≤ ls.length ∧ t = .int .i64 k ∧ Kept (∀ (k' : Nat) (l' : List Int), k' < k → ls[k']? = some l' → i ∉ l')) (fun t => ls.length - (intOf t).toNat)
  case atStart => exact ⟨0, by omega, rfl, ⟨fun k' _ h => by omega⟩⟩
  case round =>
    obtain ⟨k, hk, rfl, hp⟩ := hrel
    by_cases hlt : k < ls.length
    · obtain ⟨b, off, rfl, _, _, hc⟩ := HR.out (by omega)
      obtain ⟨l, hl⟩ : ∃ l, ls[k]? = some l := ⟨_, List.getElem?_eq_getElem hlt⟩
      obtain ⟨B, cb, hcl, hri⟩ := hc k l hl
      have HRI := Kept.mk hri.ints
      have HL := Kept.mk hl
      have ll : (l.length : Int) ≤ 4096 := by have := HS.out.2 l (List.mem_of_getElem? hl); omega
      have ik : (k : Int) < (ls.length : Int) := by omega
      clear hc hri hl
      go_wp2_with fail
      go_loop [21] (fun t => ∃ (j : Nat), j ≤ l.length ∧ t = .int .i64 j ∧ Kept (∀ j', j' < j → l[j']? ≠ some i)) (fun t => l.length - (intOf t).toNat)
      case atStart => exact ⟨0, by omega, rfl, ⟨fun j' h => by omega⟩⟩
      case round =>
        obtain ⟨j, hj, rfl, hq⟩ := hrel
        by_cases hlt2 : j < l.length
        · obtain ⟨b2, off2, rfl, _, hc2⟩ := HRI.out (by omega)
          obtain ⟨x, hx⟩ : ∃ x, l[j]? = some x := ⟨_, List.getElem?_eq_getElem hlt2⟩
          have hcx := hc2 j hlt2
          rw [hx, Option.getD_some] at hcx
          have HX := Kept.mk hx
          have ij : (j : Int) < (l.length : Int) := by omega
          clear hc2 hx
          by_cases hxi : x = i
          · subst hxi
            go_wp2
            go_ret3
            exact ⟨HB.out, .inl ⟨k, j, l, rfl, HL.out, HX.out, hp.out, hq.out⟩⟩
          · have hxi' : (x == i) = false := by simp [hxi]
            have HXI := Kept.mk hxi
            clear hxi
            go_wp2
            go_round
            case rel => exact ⟨j + 1, by omega, by go_num, ⟨fun j' h => by
              by_cases e : j' = j
              · subst e; rw [HX.out]; simpa using HXI.out
              · exact hq.out j' (by omega)⟩⟩
            case measure => simp [intOf]; omega
        · go_wp2
          go_round
          case rel => exact ⟨k + 1, by omega, by go_num, ⟨fun k' l' h h' => by
            by_cases e : k' = k
            · subst e
              rw [HL.out] at h'
              cases h'
              intro hm
              obtain ⟨j', hj'⟩ := List.getElem?_of_mem hm
              exact hq.out j' (by have := (List.getElem?_eq_some_iff.1 hj').1; omega) hj'
            · exact hp.out k' l' (by omega) h'⟩⟩
          case measure => simp [intOf]; omega
    · go_wp2
      go_ret3
      refine ⟨HB.out, .inr ⟨rfl, fun l hl hm => ?_⟩⟩
      obtain ⟨k', hk'⟩ := List.getElem?_of_mem hl
      exact hp.out k' l (by have := (List.getElem?_eq_some_iff.1 hk').1; omega) hk' hm
theorem natI_mem {l : List Nat} {i : Int} (h : i ∈ natI l) : ∃ x : Nat, i = x ∧ x ∈ l := by
  obtain ⟨x, hx, rfl⟩ := List.mem_map.1 h
  exact ⟨x, rfl, hx⟩
theorem natI_at {l : List Nat} {j : Nat} {i : Int} (h : (natI l)[j]? = some i) : ∃ x : Nat, i = x ∧ l[j]? = some x := by
  unfold natI at h
  rw [List.getElem?_map, Option.map_eq_some_iff] at h
  obtain ⟨x, hx, rfl⟩ := h
  exact ⟨x, rfl, hx⟩
theorem mem_natI {l : List Nat} {x : Nat} (h : x ∈ l) : (x : Int) ∈ natI l := List.mem_map.2 ⟨x, h, rfl⟩
theorem listsI_at {L : List (List Nat)} {k : Nat} {l : List Int} (h : (L.map natI)[k]? = some l) : ∃ l', L[k]? = some l' ∧ l = natI l' := by
  rw [List.getElem?_map, Option.map_eq_some_iff] at h
  obtain ⟨x, hx, rfl⟩ := h
  exact ⟨x, hx, rfl⟩
theorem good_sm {n m : Nat} {S : PS} {F G : Nat → Int} (h : Good n m S F G) (hn : n ≤ 4096) (hm : m ≤ 4096) : Sm (S.lists.map natI) := by
  refine ⟨by simp [h.rep.len]; omega, fun l hl => ?_⟩
  obtain ⟨l', hl', rfl⟩ := List.mem_map.1 hl
  obtain ⟨k, hk⟩ := List.getElem?_of_mem hl'
  rw [natI_len]
  exact Nat.le_trans (nodup_len (h.rep.lnd k l' hk) (h.rep.llt k l' hk)) hn
/-- A pool that may stand so. -/
def GoodS (n m : Nat) (S : PS) : Prop := n ≤ 4096 ∧ m ≤ 4096 ∧ ∃ F G, Good n m S F G
theorem GoodS.sm {n m : Nat} {S : PS} (h : GoodS n m S) : Sm (S.lists.map natI) := by
  obtain ⟨h1, h2, F, G, hG⟩ := h
  exact good_sm hG h1 h2
/-- What at tells. -/
def AtS (w : World) (n : Nat) (S : PS) (i : Int) (e : Ending) (w' : World) : Prop :=
  Below w.heap.size w w' ∧ ((∃ (k j x : Nat) (l : List Nat), e = .returned (.tuple #[.int .i64 k, .int .i64 j, .bool true]) ∧ i = x ∧ S.loc x = some k ∧ S.lists[k]? = some l ∧ l[j]? = some x ∧ x < n ∧ k < S.lists.length ∧ j < l.length ∧ nx n S x = l[j + 1]?) ∨
    (e = .returned (.tuple #[.int .i64 0, .int .i64 0, .bool false]) ∧ nx n S i = none ∧ ∀ x : Nat, i = x → S.loc x = none))
theorem rat_any {w : World} {hi n m : Nat} {S : PS} {v : Value} (h : RP w hi n S v) (hg : GoodS n m S) (i : Int) :
    Calls Try.prog 74 #[v, .int .i64 i] w (AtS w n S i) := by
  obtain ⟨A, c, A2, c2, rfl, h1, h2, h3⟩ := h.of
  have hw := rat_walk A A2 S.pile.length c c2 n hi _ i w h3 hg.sm
  rw [List.length_map] at hw
  refine hw.mono ?_
  rintro e w' ⟨hb, hr⟩
  refine ⟨hb, ?_⟩
  obtain ⟨hn, hm, F, G, hG⟩ := hg
  rcases hr with ⟨k, j, l, rfl, hl, hj, hp, hq⟩ | ⟨rfl, hno⟩
  · obtain ⟨l', hl', rfl⟩ := listsI_at hl
    obtain ⟨x, rfl, hx⟩ := natI_at hj
    have hxm := List.mem_of_getElem? hx
    have hloc := hG.rep.loc hl' hxm
    have hk := (List.getElem?_eq_some_iff.1 hl').1
    have hjl := (List.getElem?_eq_some_iff.1 hx).1
    have hxe := (List.getElem?_eq_some_iff.1 hx).2
    refine .inl ⟨k, j, x, l', rfl, rfl, hloc, hl', hx, hG.rep.llt k l' hl' x hxm, hk, hjl, ?_⟩
    have hll : S.list k = l' := by unfold PS.list; rw [if_pos (by omega), Int.toNat_natCast, hl']; rfl
    have e1 : S.list k = l'.take j ++ x :: l'.drop (j + 1) := by
      rw [hll, ← hxe, List.getElem_cons_drop, List.take_append_drop]
    rw [nx_next hG (by rw [← hG.rep.len]; exact hk) e1, List.head?_drop]
  · refine .inr ⟨rfl, ?_, fun x hx => ?_⟩
    · unfold nx
      split
      · rfl
      · rename_i hi'
        obtain ⟨x, rfl⟩ : ∃ x : Nat, i = x := ⟨i.toNat, by omega⟩
        rw [Int.toNat_natCast]
        have : S.loc x = none := by
          cases e : S.loc x with
          | none => rfl
          | some k =>
            obtain ⟨l, hl, hm'⟩ := loc_some e
            exact absurd (mem_natI hm') (hno _ (List.mem_map.2 ⟨l, List.mem_of_getElem? hl, rfl⟩))
        rw [this]
    · cases e : S.loc x with
      | none => rfl
      | some k =>
        obtain ⟨l, hl, hm'⟩ := loc_some e
        rw [hx] at hno
        exact absurd (mem_natI hm') (hno _ (List.mem_map.2 ⟨l, List.mem_of_getElem? hl, rfl⟩))
set_option maxHeartbeats 1000000 in
theorem rwhere_any {w : World} {hi n m : Nat} {S : PS} {v : Value} (h : RP w hi n S v) (hg : GoodS n m S) (i : Int) :
    Calls Try.prog 28 #[v, .int .i64 i] w fun e w' => e = .returned (.tuple #[.int .i64 (wh n S i).1, .int .i64 (wh n S i).2]) ∧ Below w.heap.size w w' := by
  obtain ⟨A, c, A2, c2, rfl, h1, h2, h3⟩ := h.of
  have hb := below_box w (.cells (rC A S.pile.length c A2 S.lists.length c2 n) 31)
  have HB := Kept.mk hb
  have HP := Kept.mk (h.below hb)
  have c0 := box_cell (Below.refl (w.alloc (.cells (rC A S.pile.length c A2 S.lists.length c2 n) 31)).heap.size _) 0 _ rfl
  have c1 := box_cell (Below.refl (w.alloc (.cells (rC A S.pile.length c A2 S.lists.length c2 n) 31)).heap.size _) 1 _ rfl
  have c2' := box_cell (Below.refl (w.alloc (.cells (rC A S.pile.length c A2 S.lists.length c2 n) 31)).heap.size _) 2 _ rfl
  have H3 := Kept.mk (h3.below hb)
  have ln : n ≤ 4096 := hg.1
  have lls : (S.lists.length : Int) ≤ 4096 := by have := hg.sm.1; simp at this; omega
  unfold rC at *
  clear h h1 h2 h3 hb
  by_cases h0 : i < 0
  · have e : wh n S i = (0, 1) := by unfold wh; rw [if_pos (.inl h0)]
    rw [e]
    clear e
    go_enter Try.func28, Try.ntmps28
    go_wp2
    go_ret2
    exact ⟨rfl, HB.out⟩
  · obtain ⟨x, rfl⟩ : ∃ x : Nat, i = x := ⟨i.toNat, by omega⟩
    by_cases hn : n ≤ x
    · have e : wh n S x = (0, 1) := by unfold wh; rw [if_pos (.inr (by omega))]
      rw [e]
      have hn' : (n : Int) ≤ (x : Int) := by omega
      clear e
      go_enter Try.func28, Try.ntmps28
      go_wp2
      go_ret2
      exact ⟨rfl, HB.out⟩
    · have hn' : ¬ (n : Int) ≤ (x : Int) := by omega
      have HA := Kept.mk (rat_any HP.out hg (x : Int))
      have HG := Kept.mk (show ∀ k, S.loc x = some k → wh n S x = ((k : Int), 0) from fun k hk => by unfold wh; rw [if_neg (by omega), Int.toNat_natCast, hk])
      have HN := Kept.mk (show S.loc x = none → wh n S x = (0, 3) from fun hk => by unfold wh; rw [if_neg (by omega), Int.toNat_natCast, hk])
      clear hg
      go_enter Try.func28, Try.ntmps28
      go_wp2_with fail
      refine HA.out.mono ?_
      rintro e w2 ⟨hb2, ⟨k, j, x', l, rfl, hx', hloc, _⟩ | ⟨rfl, _, hno⟩⟩
      · have e : x' = x := by omega
        subst e
        have HL := Kept.mk hloc
        clear hloc hx'
        go_wp2
        go_ret2
        exact ⟨by rw [HG.out k HL.out]; rfl, HB.out.trans (hb2.mono HB.out.size)⟩
      · have HL := Kept.mk (hno x rfl)
        clear hno
        go_wp2
        go_ret2
        exact ⟨by rw [HN.out HL.out]; rfl, HB.out.trans (hb2.mono HB.out.size)⟩
/-- A list as a result. -/
def RLRes (w : World) (hi : Nat) (l : List Nat) (e : Ending) (w' : World) : Prop := (∃ A c, e = .returned (.slice A l.length c) ∧ RI w' hi A (natI l)) ∧ Below w.heap.size w w'
set_option maxHeartbeats 1000000 in
theorem rlist_any {w : World} {hi n m : Nat} {S : PS} {v : Value} (h : RP w hi n S v) (hg : GoodS n m S) (k : Int) :
    Calls Try.prog 26 #[v, .int .i64 k] w (RLRes w hi (S.list k)) := by
  obtain ⟨A, c, A2, c2, rfl, h1, h2, h3⟩ := h.of
  have hb := below_box w (.cells (rC A S.pile.length c A2 S.lists.length c2 n) 31)
  have HB := Kept.mk hb
  have HP := Kept.mk (h.below hb)
  have c0 := box_cell (Below.refl (w.alloc (.cells (rC A S.pile.length c A2 S.lists.length c2 n) 31)).heap.size _) 0 _ rfl
  have c1 := box_cell (Below.refl (w.alloc (.cells (rC A S.pile.length c A2 S.lists.length c2 n) 31)).heap.size _) 1 _ rfl
  have c2' := box_cell (Below.refl (w.alloc (.cells (rC A S.pile.length c A2 S.lists.length c2 n) 31)).heap.size _) 2 _ rfl
  have H3 := Kept.mk (h3.below hb)
  have ln : n ≤ 4096 := hg.1
  have lls : (S.lists.length : Int) ≤ 4096 := by have := hg.sm.1; simp at this; omega
  unfold rC at *
  clear h h1 h2 h3 hb
  by_cases h0 : k < 0
  · have e : S.list k = [] := by unfold PS.list; rw [if_neg (by omega)]
    rw [e]
    clear e
    go_enter Try.func26, Try.ntmps26
    go_wp2
    go_ret
    exact ⟨⟨none, 0, rfl, fun h => by simp [natI] at h⟩, HB.out⟩
  · obtain ⟨x, rfl⟩ : ∃ x : Nat, k = x := ⟨k.toNat, by omega⟩
    by_cases hn : S.lists.length ≤ x
    · have e : S.list x = [] := by unfold PS.list; rw [if_pos (by omega), Int.toNat_natCast, List.getElem?_eq_none hn]; rfl
      rw [e]
      have hn' : (S.lists.length : Int) ≤ (x : Int) := by omega
      clear e
      go_enter Try.func26, Try.ntmps26
      go_wp2
      go_ret
      exact ⟨⟨none, 0, rfl, fun h => by simp [natI] at h⟩, HB.out⟩
    · have hn' : ¬ (S.lists.length : Int) ≤ (x : Int) := by omega
      obtain ⟨b, off, rfl, _, _, hc⟩ := H3.out (by simp; omega)
      obtain ⟨l, hl⟩ : ∃ l, S.lists[x]? = some l := ⟨_, List.getElem?_eq_getElem (by omega)⟩
      have e : S.list x = l := by unfold PS.list; rw [if_pos (by omega), Int.toNat_natCast, hl]; rfl
      rw [e]
      obtain ⟨B, cb, q1, q2⟩ := hc x (natI l) (by simp [hl])
      rw [natI_len] at q1
      have Q2 := Kept.mk q2
      clear e hl hc q2
      go_enter Try.func26, Try.ntmps26
      go_wp2
      go_ret
      exact ⟨⟨B, cb, rfl, Q2.out⟩, HB.out⟩
set_option maxHeartbeats 2000000 in
theorem rnext_any {w : World} {hi n m : Nat} {S : PS} {v : Value} (h : RP w hi n S v) (hg : GoodS n m S) (i : Int) :
    Calls Try.prog 30 #[v, .int .i64 i] w fun e w' => e = .returned (optV (nx n S i)) ∧ Below w.heap.size w w' := by
  obtain ⟨A, c, A2, c2, rfl, h1, h2, h3⟩ := h.of
  have hb := below_box w (.cells (rC A S.pile.length c A2 S.lists.length c2 n) 31)
  have HB := Kept.mk hb
  have HP := Kept.mk (h.below hb)
  have c0 := box_cell (Below.refl (w.alloc (.cells (rC A S.pile.length c A2 S.lists.length c2 n) 31)).heap.size _) 0 _ rfl
  have c1 := box_cell (Below.refl (w.alloc (.cells (rC A S.pile.length c A2 S.lists.length c2 n) 31)).heap.size _) 1 _ rfl
  have c2' := box_cell (Below.refl (w.alloc (.cells (rC A S.pile.length c A2 S.lists.length c2 n) 31)).heap.size _) 2 _ rfl
  have H3 := Kept.mk (h3.below hb)
  have ln : n ≤ 4096 := hg.1
  have lls : (S.lists.length : Int) ≤ 4096 := by have := hg.sm.1; simp at this; omega
  unfold rC at *
  clear h h1 h2 h3 hb
  have HA := Kept.mk (rat_any HP.out hg i)
  have HG := Kept.mk hg
  clear hg
  go_enter Try.func30, Try.ntmps30
  go_wp2_with fail
  refine HA.out.mono ?_
  rintro e w2 ⟨hb2, ⟨k, j, x, l, rfl, rfl, _, hl, hx, hxn, hk, hj, hnx⟩ | ⟨rfl, hno, _⟩⟩
  · have hsz := HB.out.size
    have d1 := (hb2.cell (p := ⟨w.heap.size, 1, none⟩) (cell_lt c1)).trans c1
    obtain ⟨b, off, rfl, _, hbl, hc⟩ := (H3.out.below hb2) (by simp; omega)
    obtain ⟨B, cb, q1, q2⟩ := hc k (natI l) (by simp [hl])
    rw [natI_len] at q1
    have lj : (l.length : Int) ≤ 4096 := by
      have := HG.out.sm.2 (natI l) (List.mem_map.2 ⟨l, List.mem_of_getElem? hl, rfl⟩)
      rw [natI_len] at this
      omega
    have HN := Kept.mk hnx
    have ik : (k : Int) < (S.lists.length : Int) := by omega
    have HBb := Kept.mk (HB.out.trans (hb2.mono HB.out.size))
    by_cases hj1 : j + 1 < l.length
    · obtain ⟨b2, off2, rfl, _, _, hc2⟩ := q2 (by rw [natI_len]; omega)
      obtain ⟨y, hy⟩ : ∃ y, l[j + 1]? = some y := ⟨_, List.getElem?_eq_getElem hj1⟩
      have q3 := hc2 (j + 1) (by rw [natI_len]; omega)
      have e1 : (natI l)[j + 1]?.getD 0 = (y : Int) := by unfold natI; rw [List.getElem?_map, hy]; rfl
      rw [e1] at q3
      have HY := Kept.mk hy
      have ij : (j : Int) + 1 < (l.length : Int) := by omega
      clear hc hc2 hl hx hnx hy e1 c1 c2' c0
      go_wp2
      go_ret2
      exact ⟨by rw [HN.out, HY.out]; rfl, HBb.out⟩
    · have ij : (l.length : Int) ≤ (j : Int) + 1 := by omega
      have HY := Kept.mk (show l[j + 1]? = none from List.getElem?_eq_none (by omega))
      clear hc hl hx hnx c1 c2' c0
      go_wp2
      go_ret2
      exact ⟨by rw [HN.out, HY.out]; rfl, HBb.out⟩
  · have HN := Kept.mk hno
    clear hno
    go_wp2
    go_ret2
    exact ⟨by rw [HN.out]; rfl, HB.out.trans (hb2.mono HB.out.size)⟩
end Go.Proofs.Ytcchmkpodfjhcaa
