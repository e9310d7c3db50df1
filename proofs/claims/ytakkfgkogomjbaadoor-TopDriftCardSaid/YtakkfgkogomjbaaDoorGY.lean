/-
  The law TopDrift: the wheel's next timer, where there is at most one.
-/
import Derived.Test.YtakkfgkogomjbaaDoorGX
import Derived.Maps.OwnSet
import Derived.WideKeyEntry
import Derived.StillTailTactics
namespace Go.Proofs.YtakkfgkogomjbaaDoor
open Go.RowKit Go.Shelf
set_option linter.unusedVariables false
set_option linter.unusedSimpArgs false
theorem minF_const {T : Nat → Tm} {d : Int} (hd : d ≤ 4503599627370496) : ∀ {l : List Nat}, l ≠ [] → (∀ y ∈ l, (T y).du = d) → minF T l = d := by
  have key : ∀ (l : List Nat) (m : Int), (∀ y ∈ l, (T y).du = d) → d ≤ m → l.foldl (fun m x => min m (T x).du) m = if l = [] then m else d := by
    intro l
    induction l with
    | nil => intro m _ _; rfl
    | cons y r ih =>
      intro m h hm
      rw [List.foldl_cons, h y (by simp), show min m d = d by omega, ih d (fun z hz => h z (by simp [hz])) (Int.le_refl _)]
      by_cases hr : r = []
      · rw [if_pos hr, if_neg (by simp)]
      · rw [if_neg hr, if_neg (by simp)]
  intro l hl h
  unfold minF
  rw [key l _ h hd, if_neg hl]
/-- What is next. -/
def nextV (A : List Tm) : Value := .tuple #[.int .i64 ((A.head?.map Tm.du).getD 0), .bool A.head?.isSome]
set_option maxRecDepth 100000 in
set_option maxHeartbeats 4000000 in
theorem wnext_any {w : World} {lo hi wb I M p L K n : Nat} {now tu : Int} {A : List Tm} (h : WAt w lo hi wb I M p L K n now tu A) (hT : Tab w) (hA : A.length ≤ 1) :
    Calls Tryd.prog 53 #[.pointer (some ⟨wb, 0, none⟩)] w fun e w' => e = .returned (nextV A) ∧ Below w.heap.size w w' := by
  obtain ⟨S, T, f, F, h, hpl⟩ := h.of
  have HF := pfirst h.pa ((257 : Nat) : Int)
  have HAH := wahead_any h hpl hT
  have HL := fun (w' : World) (hb : Below w.heap.size w w') (j : Nat) => wleast_any (h.below (hb.mono h.hh)) j
  have HK := Kept.mk h
  obtain ⟨c0, c1, c2, c3, c4, c5, c6, c7, c8, wf⟩ := h.wc
  have HONE := Kept.mk (fun (q : Nat) (hq : q < 258) (hne : S.list (q : Int) ≠ []) => show nextV A = .tuple #[.int .i64 (minF T (S.list (q : Int))), .bool true] from by
    obtain ⟨y, hy⟩ := List.exists_mem_of_ne_nil _ hne
    have hm := h.co.mem q hq y hy
    obtain ⟨x, rfl⟩ : ∃ x, A = [x] := by
      cases A with
      | nil => cases hm
      | cons x r => cases r with
        | nil => exact ⟨x, rfl⟩
        | cons _ _ => simp at hA
    have hdu := h.co.du x (by simp)
    rw [minF_const (d := x.du) hdu.2 hne (fun z hz => by have := h.co.mem q hq z hz; rw [List.mem_singleton] at this; rw [this])]
    rfl)
  clear hA
  cases hd : S.list ((257 : Nat) : Int) with
  | cons y r =>
    rw [hd] at HF
    simp only [List.head?_cons, List.head?_nil, optV] at HF
    have HD := Kept.mk (show S.list ((257 : Nat) : Int) ≠ [] by rw [hd]; simp)
    clear hd h hpl HAH
    go_enter Tryd.func53, Tryd.ntmps53
    go_wp2_with fail
    refine HF.mono ?_
    rintro e w1 ⟨rfl, rfl⟩
    go_wp2_with fail
    refine (HL w (Below.refl _ _) 257).mono ?_
    rintro e w1 ⟨rfl, hb⟩
    have HB := Kept.mk hb
    clear hb HL
    go_wp2_with fail
    go_ret2
    exact ⟨by rw [HONE.out 257 (by omega) HD.out]; rfl, HB.out⟩
  | nil =>
    rw [hd] at HF
    simp only [List.head?_cons, List.head?_nil, optV] at HF
    have HD := Kept.mk hd
    clear hd hpl
    go_enter Tryd.func53, Tryd.ntmps53
    go_wp2_with fail
    refine HF.mono ?_
    rintro e w1 ⟨rfl, rfl⟩
    go_wp2_with fail
    refine HAH.mono ?_
    rintro e w1 ⟨o, ho, rfl, hb⟩
    have HB := Kept.mk hb
    cases o with
    | none =>
      have HFIN := Kept.mk (show nextV A = .tuple #[.int .i64 0, .bool false] from by
        have : A = [] := by
          cases A with
          | nil => rfl
          | cons x r =>
            exfalso
            obtain ⟨q, hq, y, hy, _⟩ := h.co.all x (by simp)
            by_cases h7 : q = 257
            · subst h7; rw [HD.out] at hy; cases hy
            · have : S.list (q : Int) = [] := ho q (by omega)
              rw [this] at hy; cases hy
        rw [this]; rfl)
      clear h ho hb
      unfold ahV
      go_wp2_with fail
      go_ret2
      exact ⟨by rw [HFIN.out]; rfl, HB.out⟩
    | some kb =>
      obtain ⟨k, b⟩ := kb
      have HKB := Kept.mk (show k < 257 ∧ S.list (k : Int) ≠ [] from ⟨ho.1, ho.2.1⟩)
      have HLL := HL w1 hb k
      clear h ho hb HL
      unfold ahV
      go_wp2_with fail
      refine HLL.mono ?_
      rintro e w2 ⟨rfl, hb2⟩
      have HB2 := Kept.mk (HB.out.trans (hb2.mono HB.out.size))
      clear hb2 HLL
      go_wp2_with fail
      go_ret2
      exact ⟨by rw [HONE.out k (by have := HKB.out.1; omega) HKB.out.2]; rfl, HB2.out⟩
end Go.Proofs.YtakkfgkogomjbaaDoor
namespace Go.Proofs.YtakkfgkogomjbaaDoor
open Go.RowKit Go.Shelf
set_option linter.unusedVariables false
set_option linter.unusedSimpArgs false
theorem cmake_any (s : Int) (h0 : 0 ≤ s) (h1 : s ≤ 4503599627370496) (w : World) : Calls Tryd.prog 22 #[.int .i64 s] w fun e w' => e = .returned (.tuple #[.agg #[.int .u32 (s % 4294967296), .int .u32 0, .bool false, .bool false, .int .i64 s], .int .i64 0]) ∧ Below w.heap.size w w' := by
  have d0 : decide (s < 0) = false := decide_eq_false (by omega)
  have d1 : decide (4503599627370496 < s) = false := decide_eq_false (by omega)
  have HL := low_any s h0 (by omega)
  clear h0 h1
  go_enter Tryd.func22, Tryd.ntmps22
  go_wp2_with fail
  refine (HL _).mono ?_
  rintro e w1 ⟨rfl, rfl⟩
  go_wp2_with fail
  refine bodyPost_ret (results_row2 (p := 2) (u := 3) rfl _ _ w.heap.size 64 #[.int .u32 (s % 4294967296), .int .u32 0, .bool false, .bool false, .int .i64 s] (0, 0) _ rfl (heap_alloc_new _ _) Tryd.underlying64 rfl (by kernel_rfl)) rfl ?_
  exact ⟨rfl, below_box _ _⟩
theorem tlast_any (w : World) : Calls Tryd.prog 56 #[] w fun e w' => e = .returned (.int .u32 0) ∧ w = w' := by
  go_enter Tryd.func56, Tryd.ntmps56
  go_wp2
  go_ret
  exact ⟨by first | rfl | decide, rfl⟩
/-- Fresh timers. -/
def TNewRes (w : World) (n : Nat) (now : Int) (e : Ending) (w' : World) : Prop :=
  ∃ tb pm hi wb I M p L K, e = .returned (.tuple #[.pointer (some ⟨tb, 0, none⟩), .int .i64 0]) ∧ WAt w' w.heap.size hi wb I M p L K n now 0 [] ∧ Below w.heap.size w w' ∧ hi ≤ pm ∧ pm < tb ∧ w'.heap[tb]? = some (.cells #[.pointer (some ⟨wb, 0, none⟩), .map (some pm)] 71) ∧ w'.heap[pm]? = some (.map #[] 0)
theorem tnew_any (now : Int) (n : Nat) (n0 : 0 ≤ now) (n1 : now ≤ 4503599627370496) (h1 : 1 ≤ n) (h2 : n ≤ 4096) (w : World) : Calls Tryd.prog 7 #[.int .i64 now, .int .i64 n] w (TNewRes w n now) := by
  have HN := wnew_any now n n0 n1 h1 h2 w
  have hmm := @run_makeMap Tryd.prog
  clear n0 n1 h1 h2
  go_enter Tryd.func7, Tryd.ntmps7
  go_wp2_with fail
  refine HN.mono ?_
  rintro e w1 ⟨hi, wb, I, M, p, L, K, rfl, hW, hb⟩
  have HW := Kept.mk hW
  have HB := Kept.mk hb
  have HH := Kept.mk (show hi ≤ w1.heap.size by obtain ⟨S, T, f, F, h, _⟩ := hW.of; exact h.hh)
  clear HN hW hb
  go_wp2_with fail
  go_ret2
  have b2 : Below w1.heap.size w1 ((w1.alloc (.map #[] 0)).alloc (.cells #[.pointer (some ⟨wb, 0, none⟩), .map (some w1.heap.size)] 71)) := two_below _ _ _
  exact ⟨w1.heap.size + 1, w1.heap.size, hi, wb, I, M, p, L, K, rfl, HW.out.below (b2.mono HH.out), HB.out.trans (b2.mono HB.out.size), HH.out, Nat.lt_succ_self _, heap_alloc2_new _ _ _, (heap_alloc_old _ _ (by simp)).trans (heap_alloc_new w1 _)⟩
end Go.Proofs.YtakkfgkogomjbaaDoor
namespace Go.Proofs.YtakkfgkogomjbaaDoor
open Go.RowKit Go.Maps Go.ChangeMaps Go.WideShapes Go.WideElems
set_option maxRecDepth 4000
set_option linter.unusedVariables false
theorem keyInt6 : Keyed Tryd.prog 3 := int_keyed Tryd.underlying3
theorem zeroInt6 (w : World) : (zeroValue 2).run Tryd.prog w = .ok (.int .i64 0) w := by kernel_rfl
/-- The block M is a map of N entries, from a number to the place that f tells. -/
def MapI6 (w : World) (M N : Nat) (f : Int → Option Nat) : Prop :=
  ∃ D : DataW Unit, w.ownsMap Tryd.prog 3 (plainElem Tryd.prog 2) M N D ∧ Maps.size D = N ∧ ∀ id : Int, (Lit.int .i64 id).wf = true → Maps.has D (.int .i64 id) = (f id).isSome ∧ ∀ x, f id = some x → ∀ z, D.atKey (.int .i64 id) z = .lit (.int .i64 (x : Int))
def optN6 : Option Nat → Int
  | some x => (x : Int)
  | none => 0
theorem MapI6.kept {w w' : World} {M N : Nat} {f : Int → Option Nat} (h : MapI6 w M N f) (hb : w'.heap[M]? = w.heap[M]?) : MapI6 w' M N f := by
  obtain ⟨D, ⟨es, clock, h1, h2⟩, h3⟩ := h
  exact ⟨D, ⟨es, clock, hb.trans h1, h2⟩, h3⟩
theorem MapI6.lt {w : World} {M N : Nat} {f : Int → Option Nat} (h : MapI6 w M N f) : M < w.heap.size := by
  obtain ⟨D, h1, _⟩ := h
  exact h1.lt
theorem MapI6.new (w : World) : MapI6 (w.alloc (.map #[] 0)) w.heap.size 0 (fun _ => none) :=
  ⟨.map [], World.ownsMap_made w Tryd.prog 3 _, rfl, fun id _ => ⟨rfl, fun x h => by cases h⟩⟩
theorem map_look6 {w : World} {M N : Nat} {f : Int → Option Nat} (h : MapI6 w M N f) {id : Int} (hid : (Lit.int .i64 id).wf = true) :
    (Instr.lookup 69 (.map (some M)) (.int .i64 id) true).run Tryd.prog w = .ok (.tuple #[.int .i64 (optN6 (f id)), .bool (f id).isSome]) w := by
  obtain ⟨D, h1, _, h3⟩ := h
  obtain ⟨v, ps, hrun, hv⟩ := h1.look_ok keyInt6 Tryd.underlying69 (zeroInt6 w) (zd := .lit (.int .i64 0)) (zp := []) (plainElem_int Tryd.underlying2 (by decide)) (keyOf_int_mk Tryd.underlying3 hid)
  obtain ⟨k1, k2⟩ := h3 id hid
  obtain ⟨c, rfl, hc, _⟩ := plainElem_int_inv Tryd.underlying2 hv
  rw [hrun, k1]
  have hc' := congrArg Prod.fst hc
  simp only at hc'
  cases e : f id with
  | none =>
    rw [e] at k1
    rw [atKey_of_not_has k1] at hc'
    cases hc'
    rfl
  | some x =>
    rw [k2 x e] at hc'
    cases hc'
    rfl
/-- Putting in a number that is not there, in two steps. -/
theorem map_entry6 {w : World} {M N : Nat} {f : Int → Option Nat} (h : MapI6 w M N f) {id : Int} (hid : (Lit.int .i64 id).wf = true) (hf : f id = none) (hN : N < 1000000) (x : Nat) (hx : (Lit.int .i64 (x : Int)).wf = true) :
    ∃ (st : Value) (o1 o2 : Obj), (∀ W : World, W.heap[M]? = w.heap[M]? → (Instr.mapEntry 69 (.map (some M)) (.int .i64 id)).run Tryd.prog W = .ok (.tuple #[.int .i64 0, st]) (setBlock W M o1)) ∧
      (∀ W : World, W.heap[M]? = some o1 → (Instr.entryStore 69 (.map (some M)) st (.int .i64 (x : Int))).run Tryd.prog W = .ok () (setBlock W M o2)) ∧
      (∀ W : World, W.heap[M]? = some o2 → MapI6 W M (N + 1) (fun a => if a = id then some x else f a)) ∧ st.oneCell' = true := by
  obtain ⟨D, ⟨es, clock, hb, F, hs, hD⟩, hsz, h3⟩ := h
  have hkey : keyOf Tryd.prog 3 (.int .i64 id) = some (.int .i64 id) := keyOf_int_mk Tryd.underlying3 hid
  have hown : w.ownsMap Tryd.prog 3 (plainElem Tryd.prog 2) M N D := ⟨es, clock, hb, F, hs, hD⟩
  obtain ⟨k1, _⟩ := h3 id hid
  rw [hf] at k1
  have habs : ∀ w : World, (Instr.findKey 3 (.int .i64 id) es.toList).run Tryd.prog w = .ok none w ∧ ∀ x ∈ es.toList, x.key ≠ .int .i64 id := by
    intro W
    have hks : ∀ e ∈ es.toList, ∃ l, keyOf Tryd.prog 3 e.key = some l := fun e he => by
      obtain ⟨y, hy⟩ := F.reads e he
      exact ⟨_, rd_key hy⟩
    rcases keyInt6.find W hkey es.toList hks with h | ⟨j, e0, h1, h2, h4⟩
    · exact h
    · exfalso
      have hm := List.mem_of_getElem? h2
      obtain ⟨y, hy⟩ := F.reads e0 hm
      have hyk := rd_key hy
      rw [h4, hkey] at hyk
      have hy1 : y.1 = .int .i64 id := (Option.some.inj hyk).symm
      have hh : Maps.has D (.int .i64 id) = true := by
        rw [hD, has_eq]
        refine List.any_eq_true.2 ⟨y, ?_, ?_⟩
        · refine (sorted_perm _).mem_iff.2 (List.mem_map.2 ⟨e0, hm, ?_⟩)
          rw [rg_of hy]
        · rw [hy1]; exact WideAt.sameKey_self (by trivial)
      rw [hh] at k1
      cases k1
  obtain ⟨s1, s2, _⟩ := F.stamped
  have hidx : ∀ v : Value, (es.push ⟨.int .i64 id, v, clock⟩).findIdx? (fun e => ((e.born : Nat) : Int) == ((clock : Nat) : Int)) = some es.size := by
    intro v
    rw [findIdx_arr]
    have := findIdx_born (l := (es.push ⟨.int .i64 id, v, clock⟩).toList) (j := es.size) (e0 := ⟨.int .i64 id, v, clock⟩) (by
      simp only [Array.toList_push, List.map_append, List.map_cons, List.map_nil]
      refine List.nodup_append.2 ⟨s2, by simp, fun a ha c hc e1 => ?_⟩
      simp only [List.mem_singleton] at hc
      obtain ⟨x, hx, rfl⟩ := List.mem_map.1 ha
      have := s1 x hx
      omega) (by simp)
    exact this
  have hmod : ∀ v u : Value, (es.push ⟨.int .i64 id, v, clock⟩).modify es.size (fun e => { e with val := u }) = es.push ⟨.int .i64 id, u, clock⟩ := by
    intro v u
    apply Array.ext'
    rw [Array.toList_modify, Array.toList_push, Array.toList_push, ← Array.length_toList, modify_last]
  refine ⟨goInt clock, .map (es.push ⟨.int .i64 id, .int .i64 0, clock⟩) (clock + 1), .map (es.push ⟨.int .i64 id, .int .i64 (x : Int), clock⟩) (clock + 1), fun W hW => ?_, fun W hW => ?_, fun W hW => ?_, rfl⟩
  · have hbW : W.heap[M]? = some (.map es clock) := hW.trans hb
    simp [Instr.mapEntry, run_underlying Tryd.underlying69, MapKept.run_getObj_map hbW, keyInt6.check W false hkey, (habs W).1, MapKept.run_setObj_map _ hbW, Result.andThen, setBlock]
  · simp [Instr.entryStore, MapKept.run_getObj_map hW, asInt, asIntOf, goInt, hidx, hmod, MapKept.run_setObj_map _ hW, Result.andThen, setBlock]
  · obtain ⟨w', hrun, hown', _⟩ := hown.store keyInt6 Tryd.underlying69 (by simp only [maxLen]; omega) hkey (plainElem_int (H := Unit) Tryd.underlying2 hx)
    have hrun2 : (Instr.mapUpdate 69 (.map (some M)) (.int .i64 id) (.int .i64 (x : Int))).run Tryd.prog w = .ok () (setBlock w M (.map (es.push ⟨.int .i64 id, .int .i64 (x : Int), clock⟩) (clock + 1))) := by
      simp [Instr.mapUpdate, run_underlying Tryd.underlying69, MapKept.run_getObj_map hb, keyInt6.check w false hkey, (habs w).1, MapKept.run_setObj_map _ hb, Result.andThen, setBlock]
    rw [hrun2] at hrun
    have hw' : w' = setBlock w M (.map (es.push ⟨.int .i64 id, .int .i64 (x : Int), clock⟩) (clock + 1)) := by cases hrun; rfl
    obtain ⟨es', clock', hb', r⟩ := hown'
    rw [hw', heap_setBlock_same hb] at hb'
    have htidy := hown.tidy keyInt6
    have hk : WideAt.IsKeyLit (.int .i64 id) := by trivial
    refine ⟨D.put (.int .i64 id) (.lit (.int .i64 (x : Int))), ⟨es', clock', hW.trans hb', r⟩, ?_, fun a ha => ?_⟩
    · rw [size_put htidy, k1, hsz]; rfl
    · by_cases e : a = id
      · subst e
        simp only [if_pos]
        refine ⟨has_put_same hown.isMap hk _, fun y hy z => ?_⟩
        cases hy
        exact atKey_put_same hown.isMap hk _ z
      · simp only [if_neg e]
        obtain ⟨q1, q2⟩ := h3 a ha
        have hne : (Lit.int .i64 a) ≠ .int .i64 id := fun h => e (by cases h; rfl)
        refine ⟨(has_put_other hne _).trans q1, fun y hy z => ?_⟩
        rw [atKey_put_other hne]
        exact q2 y hy z
theorem own_tight6 {w : World} {M n : Nat} {D : DataW Unit} (h : w.ownsMap Tryd.prog 3 (plainElem Tryd.prog 2) M n D) : w.ownsMap Tryd.prog 3 (plainElem Tryd.prog 2) M (Maps.size D) D := by
  obtain ⟨es, clock, hb, F, _, rfl⟩ := h
  exact ⟨es, clock, hb, F, by simp [Maps.size, length_sorted], rfl⟩
theorem MapI6.del {w w1 : World} {M N n : Nat} {f : Int → Option Nat} {D : DataW Unit} (h0 : w.ownsMap Tryd.prog 3 (plainElem Tryd.prog 2) M n D) (hsz : Maps.size D = N + 1) (h3 : ∀ id : Int, (Lit.int .i64 id).wf = true → Maps.has D (.int .i64 id) = (f id).isSome ∧ ∀ x, f id = some x → ∀ z, D.atKey (.int .i64 id) z = .lit (.int .i64 (x : Int))) {id : Int} (hid : (Lit.int .i64 id).wf = true) {x : Nat} (hf : f id = some x)
    (h : w1.ownsMap Tryd.prog 3 (plainElem Tryd.prog 2) M n (D.del (.int .i64 id))) : MapI6 w1 M N (fun a => if a = id then none else f a) := by
  obtain ⟨k1, _⟩ := h3 id hid
  rw [hf] at k1
  have e := size_del (k := .int .i64 id) (h0.tidy keyInt6)
  rw [k1, hsz] at e
  have e2 : Maps.size (D.del (.int .i64 id)) = N := by simpa using e
  refine ⟨_, e2 ▸ own_tight6 h, e2, fun a ha => ?_⟩
  by_cases e : a = id
  · subst e
    simp only [if_pos]
    exact ⟨has_del_same, fun y hy => by cases hy⟩
  · simp only [if_neg e]
    obtain ⟨q1, q2⟩ := h3 a ha
    have hne : (Lit.int .i64 a) ≠ .int .i64 id := fun h => e (by cases h; rfl)
    refine ⟨(has_del_other hne).trans q1, fun y hy z => ?_⟩
    rw [atKey_del_other hne]
    exact q2 y hy z
theorem map_put6 {w : World} {M N : Nat} {f : Int → Option Nat} (h : MapI6 w M N f) {id : Int} (hid : (Lit.int .i64 id).wf = true) (hf : f id = none) (hN : N < 1000000) (x : Nat) (hx : (Lit.int .i64 (x : Int)).wf = true) :
    ∃ w', (Instr.mapUpdate 69 (.map (some M)) (.int .i64 id) (.int .i64 (x : Int))).run Tryd.prog w = .ok () w' ∧ Only w w' M ∧ MapI6 w' M (N + 1) (fun a => if a = id then some x else f a) := by
  obtain ⟨st, o1, o2, m1, m2, m3, m4⟩ := map_entry6 h hid hf hN x hx
  obtain ⟨D, hown, hsz, h3⟩ := h
  obtain ⟨k1, _⟩ := h3 id hid
  rw [hf] at k1
  have hkey : keyOf Tryd.prog 3 (.int .i64 id) = some (.int .i64 id) := keyOf_int_mk Tryd.underlying3 hid
  have htidy := hown.tidy keyInt6
  have hk : WideAt.IsKeyLit (.int .i64 id) := by trivial
  have hM := hown.lt
  obtain ⟨w', hrun, hown', es, clock, es', clock', hb, hg⟩ := hown.store keyInt6 Tryd.underlying69 (by simp only [maxLen]; omega) hkey (plainElem_int (H := Unit) Tryd.underlying2 hx)
  subst hg
  refine ⟨_, hrun, (block_set w M _ hM).1, D.put (.int .i64 id) (.lit (.int .i64 (x : Int))), hown', ?_, fun a ha => ?_⟩
  · rw [size_put htidy, k1, hsz]; rfl
  · by_cases e : a = id
    · subst e
      simp only [if_pos]
      refine ⟨has_put_same hown.isMap hk _, fun y hy z => ?_⟩
      cases hy
      exact atKey_put_same hown.isMap hk _ z
    · simp only [if_neg e]
      obtain ⟨q1, q2⟩ := h3 a ha
      have hne : (Lit.int .i64 a) ≠ .int .i64 id := fun h => e (by cases h; rfl)
      refine ⟨(has_put_other hne _).trans q1, fun y hy z => ?_⟩
      rw [atKey_put_other hne]
      exact q2 y hy z
end Go.Proofs.YtakkfgkogomjbaaDoor
namespace Go.Proofs.YtakkfgkogomjbaaDoor
open Go.RowKit Go.Shelf
set_option linter.unusedVariables false
set_option linter.unusedSimpArgs false
/-- Timers in memory: the wheel, and a map of periods. -/
structure TmAt (w : World) (lo hi wb I M p L K n tb pm : Nat) (now tu : Int) (A : List Tm) (N : Nat) (f : Int → Option Nat) : Prop where
  wh : WAt w lo hi wb I M p L K n now tu A
  h1 : hi ≤ pm
  h2 : pm < tb
  bl : w.heap[tb]? = some (.cells #[.pointer (some ⟨wb, 0, none⟩), .map (some pm)] 71)
  mp : MapI6 w pm N f
theorem TmAt.below {w w' : World} {lo hi wb I M p L K n tb pm : Nat} {now tu : Int} {A : List Tm} {N : Nat} {f : Int → Option Nat} (h : TmAt w lo hi wb I M p L K n tb pm now tu A N f) (hb : Below (tb + 1) w w') : TmAt w' lo hi wb I M p L K n tb pm now tu A N f :=
  ⟨h.wh.below (hb.mono (by have := h.h1; have := h.h2; omega)), h.h1, h.h2, (hb.block tb (by omega)).trans h.bl, h.mp.kept (hb.block pm (by have := h.h2; omega))⟩
theorem TmAt.of_new {w w' : World} {n : Nat} {now : Int} {e : Ending} (h : TNewRes w n now e w') : ∃ tb pm hi wb I M p L K, e = .returned (.tuple #[.pointer (some ⟨tb, 0, none⟩), .int .i64 0]) ∧ TmAt w' w.heap.size hi wb I M p L K n tb pm now 0 [] 0 (fun _ => none) ∧ Below w.heap.size w w' := by
  obtain ⟨tb, pm, hi, wb, I, M, p, L, K, he, hw, hb, h1, h2, h3, h4⟩ := h
  refine ⟨tb, pm, hi, wb, I, M, p, L, K, he, ⟨hw, h1, h2, h3, ?_⟩, hb⟩
  exact ⟨.map [], ⟨#[], 0, h4, by
    have := World.ownsMap_made w' Tryd.prog 3 (plainElem (H := Unit) Tryd.prog 2)
    obtain ⟨es, cl, g1, g2⟩ := this
    rw [heap_alloc_new] at g1
    injection g1 with g1
    injection g1 with g1 g3
    subst g1
    subst g3
    exact g2⟩, rfl, fun id _ => ⟨rfl, fun x h => by cases h⟩⟩
set_option maxHeartbeats 2000000 in
theorem tevery_any {w : World} {lo hi wb I M p L K n tb pm : Nat} {now : Int} (h : TmAt w lo hi wb I M p L K n tb pm now 0 [] 0 (fun _ => none)) (hn : 1 ≤ n) (a : Int) (a0 : 0 ≤ a) (a1 : a ≤ 4503599627370496) (per : Nat) (p0 : 1 ≤ per) (p1 : per ≤ 4503599627370496) :
    Calls Tryd.prog 10 #[.pointer (some ⟨tb, 0, none⟩), .int .i64 1, .int .i64 a, .int .i64 (per : Int)] w fun e w' => e = .returned (.int .i64 0) ∧ TmAt w' lo hi wb I M p L K n tb pm now 1 [⟨1, a, 1⟩] 1 (fun x => if x = 1 then some per else none) ∧ Kp lo tb w w' := by
  have d0 : decide ((per : Int) < 1) = false := decide_eq_false (by omega)
  have d1 : decide (4503599627370496 < (per : Int)) = false := decide_eq_false (by omega)
  have HI := winsert_any h.wh (by omega) (id := 1) (by decide) a
  rw [show wIns n [] 0 1 a = (0, 1, [⟨1, a, 1⟩]) from by
    unfold wIns
    rw [if_neg (by omega), if_neg (by simp), if_neg (by simp; omega)]; rfl] at HI
  have b0 := cell_of_row _ _ 0 _ _ _ h.bl
  have b1 := cell_of_row _ _ 1 _ _ _ h.bl
  have H := Kept.mk h
  have HP := Kept.mk (And.intro p0 p1)
  clear h hn a0 a1 p0 p1
  go_enter Tryd.func10, Tryd.ntmps10
  go_wp2_with fail
  refine HI.mono ?_
  rintro e w1 ⟨rfl, hW, hk⟩
  have htl := (Array.getElem?_eq_some_iff.1 H.out.bl).1
  have hbl : w1.heap[tb]? = some (.cells #[.pointer (some ⟨wb, 0, none⟩), .map (some pm)] 71) := (hk.block tb htl (.inr (by have := H.out.h1; have := H.out.h2; omega))).trans H.out.bl
  have hmp : MapI6 w1 pm 0 (fun _ => none) := H.out.mp.kept (hk.block pm H.out.mp.lt (.inr H.out.h1))
  obtain ⟨w2, hrun, hon, hm2⟩ := map_put6 hmp (id := 1) (by decide) rfl (by omega) per (by have := HP.out; simp [Lit.wf, IntKind.min, IntKind.max, IntKind.signed, IntKind.bits]; omega)
  have e0 := cell_of_row _ _ 0 _ _ _ hbl
  have e1 := cell_of_row _ _ 1 _ _ _ hbl
  have HFIN := Kept.mk (show TmAt w2 lo hi wb I M p L K n tb pm now 1 [⟨1, a, 1⟩] 1 (fun x => if x = 1 then some per else none) ∧ Kp lo tb w w2 from by
    have k2 : Kp lo tb w1 w2 := ⟨hon.os, hon.tape, hon.output, by rw [hon.size]; exact Nat.le_refl _, fun x _ h2 => hon.kept x (by
      rcases h2 with h2 | h2
      · have := H.out.h1
        obtain ⟨S, T, f, F, hq, _⟩ := hW.of
        have := hq.ly.lh
        omega
      · have := H.out.h2; omega)⟩
    refine ⟨⟨?_, H.out.h1, H.out.h2, (hon.kept tb (by have := H.out.h2; omega)).trans hbl, hm2⟩, (hk.wide (by have := H.out.h1; have := H.out.h2; omega)).trans k2⟩
    exact hW.below ⟨hon.os, hon.tape, hon.output, by rw [hon.size]; exact Nat.le_refl _, fun x hx => hon.kept x (by have := H.out.h1; omega)⟩)
  clear HI hW hk hbl hmp hon hm2 b0 b1
  go_wp2_with fail
  go_ret
  exact ⟨rfl, HFIN.out⟩
end Go.Proofs.YtakkfgkogomjbaaDoor
namespace Go.Proofs.YtakkfgkogomjbaaDoor
open Go.RowKit Go.Shelf Go.Maps Go.ChangeMaps Go.WideShapes Go.WideElems
set_option linter.unusedVariables false
set_option linter.unusedSimpArgs false
theorem map_get6 {w : World} {M N : Nat} {f : Int → Option Nat} (h : MapI6 w M N f) {id : Int} (hid : (Lit.int .i64 id).wf = true) :
    (Instr.lookup 69 (.map (some M)) (.int .i64 id) false).run Tryd.prog w = .ok (.int .i64 (optN6 (f id))) w := by
  obtain ⟨D, h1, _, h3⟩ := h
  obtain ⟨c, hrun, hc, _⟩ := h1.lookup_int keyInt6 Tryd.underlying69 Tryd.underlying2 (zeroInt6 w) (keyOf_int_mk Tryd.underlying3 hid)
  obtain ⟨k1, k2⟩ := h3 id hid
  rw [hrun]
  cases e : f id with
  | none =>
    rw [e] at k1
    rw [atKey_of_not_has k1] at hc
    cases hc
    rfl
  | some x =>
    rw [k2 x e] at hc
    cases hc
    rfl
/-- The timers behind one that fired: it is put in again, or is no more. -/
def TAg (lo hi wb I M p L K n tb pm : Nat) (now tu a : Int) (per : Nat) (w' : World) : Prop := if a + per ≤ 4503599627370496 then TmAt w' lo hi wb I M p L K n tb pm now (tu + 1) [⟨1, a + per, tu + 1⟩] 1 (fun x => if x = 1 then some per else none) else TmAt w' lo hi wb I M p L K n tb pm now tu [] 0 (fun x => if x = 1 then none else if x = 1 then some per else none)
theorem map_drop6 {w : World} {M N : Nat} {f : Int → Option Nat} (h : MapI6 w M (N + 1) f) {id : Int} (hid : (Lit.int .i64 id).wf = true) {x : Nat} (hf : f id = some x) (ty : TypeId) :
    ∃ w', (Builtin.delete_ #[69, 3] ty #[.map (some M), .int .i64 id]).run Tryd.prog w = .ok (.tuple #[]) w' ∧ Only w w' M ∧ MapI6 w' M N (fun a => if a = id then none else f a) := by
  obtain ⟨D, hown, hsz, h3⟩ := h
  obtain ⟨w', hrun, hown', ht⟩ := hown.drop keyInt6 Tryd.underlying69 (keyOf_int_mk Tryd.underlying3 hid) ty
  exact ⟨w', hrun, only_of_turned ht, MapI6.del hown hsz h3 hid hf hown'⟩
set_option maxRecDepth 100000 in
set_option maxHeartbeats 2000000 in
theorem tagain_any {w : World} {lo hi wb I M p L K n tb pm : Nat} {now tu : Int} {per : Nat} (h : TmAt w lo hi wb I M p L K n tb pm now tu [] 1 (fun x => if x = 1 then some per else none)) (hn : 1 ≤ n) (htu : tu < 1000000000000) (a : Int) (a0 : 0 ≤ a) (a1 : a ≤ 4503599627370496) (p0 : 1 ≤ per) (p1 : per ≤ 4503599627370496) :
    Calls Tryd.prog 29 #[.pointer (some ⟨tb, 0, none⟩), .agg #[.int .i64 1, .int .i64 a]] w fun e w' => e = .returned (.tuple #[]) ∧ TAg lo hi wb I M p L K n tb pm now tu a per w' ∧ Kp lo tb w w' := by
  have htl := (Array.getElem?_eq_some_iff.1 h.bl).1
  have hb : Below w.heap.size w (w.alloc (.cells #[.int .i64 1, .int .i64 a] 52)) := below_box _ _
  obtain ⟨w0, hw0⟩ : ∃ w0, w0 = w.alloc (.cells #[.int .i64 1, .int .i64 a] 52) := ⟨_, rfl⟩
  have hx : w0.heap[w.heap.size]? = some (.cells #[.int .i64 1, .int .i64 a] 52) := by rw [hw0]; exact heap_alloc_new _ _
  rw [← hw0] at hb
  have h0 := h.below (hb.mono htl)
  have x0 := cell_of_row _ _ 0 _ _ _ hx
  have x1 := cell_of_row _ _ 1 _ _ _ hx
  have b0 := cell_of_row _ _ 0 _ _ _ h0.bl
  have b1 := cell_of_row _ _ 1 _ _ _ h0.bl
  have HL : ∀ k : Nat, (Instr.lookup 69 (.map (some pm)) (.int .i64 1) false).run Tryd.prog (w0.drewN k) = .ok (.int .i64 (per : Int)) (w0.drewN k) := fun k => by
    have := map_get6 (w := w0.drewN k) (h0.mp.kept rfl) (id := 1) (by decide)
    rw [show optN6 ((fun x : Int => if x = 1 then some per else none) 1) = (per : Int) by simp [optN6]] at this
    exact this
  have e0 : ((per : Int) == 0) = false := by simp; omega
  have H0 := Kept.mk h0
  clear h
  go_enter Tryd.func29, Tryd.ntmps29
  go_upto_region 1 with fail
  rw [← hw0]
  clear hw0
  go_quiet (fail)
  go_wp2_with fail
  have XX := Kept.mk hx
  have HBE := Kept.mk hb
  obtain ⟨W, hW⟩ : ∃ W, W = w0.drewN nq := ⟨_, rfl⟩
  have hbW : Below w.heap.size w W := by rw [hW]; exact hb.drewN nq
  have hxW : W.heap[w.heap.size]? = some (.cells #[.int .i64 1, .int .i64 a] 52) := by rw [hW]; exact hx
  have hTW : TmAt W lo hi wb I M p L K n tb pm now tu [] 1 (fun x => if x = 1 then some per else none) := by rw [hW]; exact H0.out.below ((Below.refl _ _).drewN nq)
  rw [← hW]
  clear hW x0 x1 b0 b1 HL hx hb h0
  have x0 := cell_of_row _ _ 0 _ _ _ hxW
  have x1 := cell_of_row _ _ 1 _ _ _ hxW
  have b0 := cell_of_row _ _ 0 _ _ _ hTW.bl
  have b1 := cell_of_row _ _ 1 _ _ _ hTW.bl
  have HTW := Kept.mk (hTW.below ((Below.refl _ _).drewN 1))
  have HXW := Kept.mk hxW
  have HBW := Kept.mk (hbW.drewN 1)
  clear hxW hTW hbW
  go_still_tail 10, (by kernel_rfl)
  change wpList _ _ _ _ _ W.drew
  obtain ⟨W1, hW1⟩ : ∃ W1, W1 = W.drew := ⟨_, rfl⟩
  have HT1 := Kept.mk (show TmAt W1 lo hi wb I M p L K n tb pm now tu [] 1 (fun x => if x = 1 then some per else none) by rw [hW1]; exact HTW.out)
  have HX1 := Kept.mk (show W1.heap[w.heap.size]? = some (.cells #[.int .i64 1, .int .i64 a] 52) by rw [hW1]; exact HXW.out)
  have HB1 := Kept.mk (show Below w.heap.size w W1 by rw [hW1]; exact HBW.out)
  rw [← hW1]
  clear hW1 x0 x1 b0 b1
  have HI := winsert_any HT1.out.wh htu (id := 1) (by decide) (a + per)
  by_cases hle : a + per ≤ 4503599627370496
  · have HLE := Kept.mk hle
    rw [show wIns n [] tu 1 (a + per) = (0, tu + 1, [⟨1, a + per, tu + 1⟩]) from by
      unfold wIns
      rw [if_neg (by omega), if_neg (by simp), if_neg (by simp; omega)]; rfl] at HI
    clear hle
    go_wp2_with fail
    refine HI.mono ?_
    rintro e w2 ⟨rfl, hW2, hk⟩
    have htl1 := (Array.getElem?_eq_some_iff.1 HT1.out.bl).1
    have HFIN := Kept.mk (show TmAt w2 lo hi wb I M p L K n tb pm now (tu + 1) [⟨1, a + per, tu + 1⟩] 1 (fun x => if x = 1 then some per else none) ∧ Kp lo tb w w2 from by
      have q1 := HT1.out.h1
      have q2 := HT1.out.h2
      refine ⟨⟨hW2, q1, q2, (hk.block tb htl1 (.inr (by omega))).trans HT1.out.bl, HT1.out.mp.kept (hk.block pm (by omega) (.inr q1))⟩, ?_⟩
      exact (Kp.of_below HB1.out).trans (hk.wide (by omega)))
    clear HI hW2 hk
    go_wp2_with fail
    go_end0
    exact ⟨rfl, by unfold TAg; rw [if_pos HLE.out]; exact HFIN.out.1, HFIN.out.2⟩
  · have HLE := Kept.mk (show 4503599627370496 < a + per by omega)
    rw [show wIns n [] tu 1 (a + per) = (1, tu, []) from by
      unfold wIns
      rw [if_pos (by omega)]] at HI
    clear hle
    go_wp2_with fail
    refine HI.mono ?_
    rintro e w2 ⟨rfl, hW2, hk⟩
    have htl1 := (Array.getElem?_eq_some_iff.1 HT1.out.bl).1
    have q1 := HT1.out.h1
    have q2 := HT1.out.h2
    have HT2 := Kept.mk (show TmAt w2 lo hi wb I M p L K n tb pm now tu [] 1 (fun x => if x = 1 then some per else none) from ⟨hW2, q1, q2, (hk.block tb htl1 (.inr (by omega))).trans HT1.out.bl, HT1.out.mp.kept (hk.block pm (by omega) (.inr q1))⟩)
    have HK2 := Kept.mk (show Kp lo tb w w2 from (Kp.of_below HB1.out).trans (hk.wide (by omega)))
    have HX2 := Kept.mk ((hk.block w.heap.size (by have := HB1.out.size; have := (Array.getElem?_eq_some_iff.1 HX1.out).1; omega) (.inr (by omega))).trans HX1.out)
    clear HI hW2 hk
    go_upto_region 5 with fail
    have y0 := cell_of_row _ _ 0 _ _ _ HX2.out
    have y1 := cell_of_row _ _ 1 _ _ _ HX2.out
    have b0 := cell_of_row _ _ 0 _ _ _ HT2.out.bl
    have b1 := cell_of_row _ _ 1 _ _ _ HT2.out.bl
    go_still_tail 6, (by kernel_rfl)
    change wpList _ _ _ _ _ w2.drew
    have HT3 := Kept.mk (HT2.out.below ((Below.refl _ _).drewN 1))
    have HK3 := Kept.mk (show Kp lo tb w w2.drew from HK2.out.trans (Kp.of_below ((Below.refl _ _).drewN 1)))
    obtain ⟨w3, hw3⟩ : ∃ w3, w3 = w2.drew := ⟨_, rfl⟩
    have HT4 := Kept.mk (show TmAt w3 lo hi wb I M p L K n tb pm now tu [] 1 (fun x => if x = 1 then some per else none) by rw [hw3]; exact HT3.out)
    have HK4 := Kept.mk (show Kp lo tb w w3 by rw [hw3]; exact HK3.out)
    rw [← hw3]
    clear hw3 y0 y1 b0 b1
    obtain ⟨w4, hrun, hon, hm4⟩ := map_drop6 (N := 0) HT4.out.mp (id := 1) (by decide) (x := per) rfl 0
    have HFIN := Kept.mk (show TmAt w4 lo hi wb I M p L K n tb pm now tu [] 0 (fun x => if x = 1 then none else if x = 1 then some per else none) ∧ Kp lo tb w w4 from by
      have k2 : Kp lo tb w3 w4 := ⟨hon.os, hon.tape, hon.output, by rw [hon.size]; exact Nat.le_refl _, fun x _ h2 => hon.kept x (by
        rcases h2 with h2 | h2
        · obtain ⟨S, T, f, F, hq, _⟩ := HT4.out.wh.of
          have := hq.ly.lh
          omega
        · omega)⟩
      exact ⟨⟨HT4.out.wh.below ⟨hon.os, hon.tape, hon.output, by rw [hon.size]; exact Nat.le_refl _, fun x hx => hon.kept x (by omega)⟩, q1, q2, (hon.kept tb (by omega)).trans HT4.out.bl, hm4⟩, HK4.out.trans k2⟩)
    clear hon hm4
    go_wp2_with fail
    go_end0
    exact ⟨rfl, by unfold TAg; rw [if_neg (by have := HLE.out; omega)]; exact HFIN.out.1, HFIN.out.2⟩
end Go.Proofs.YtakkfgkogomjbaaDoor
namespace Go.Proofs.YtakkfgkogomjbaaDoor
open Go.RowKit Go.Shelf
set_option linter.unusedVariables false
set_option linter.unusedSimpArgs false
/-- The service's cells: the timing, the clock (count, compare, armed, latch, last), the timers, armed, the goal, whether it is past. -/
def svC (mn mx c m : Int) (a l : Bool) (t : Int) (tb : Nat) (ar : Bool) (g : Int) (nf : Bool) : Array Value := #[.int .i64 mn, .int .i64 mx, .int .u32 c, .int .u32 m, .bool a, .bool l, .int .i64 t, .pointer (some ⟨tb, 0, none⟩), .bool ar, .int .i64 g, .bool nf]
theorem snow_any {w : World} {sb : Nat} {mn mx c m : Int} {a l : Bool} {t : Int} {tb : Nat} {ar : Bool} {g : Int} {nf : Bool} (h : w.heap[sb]? = some (.cells (svC mn mx c m a l t tb ar g nf) 68)) :
    Calls Tryd.prog 8 #[.pointer (some ⟨sb, 0, none⟩)] w fun e w' => e = .returned (.int .i64 t) ∧ w = w' := by
  have c6 : w.cell? ⟨sb, 6, none⟩ = some (.int .i64 t) := cell_of_row _ _ 6 _ _ _ h
  clear h
  go_enter Tryd.func8, Tryd.ntmps8
  go_wp2
  go_ret
  exact ⟨rfl, rfl⟩
/-- When it wakes. -/
def wakeV (c m : Int) (a : Bool) (t : Int) (ar nf : Bool) : Value := if ar = false then .tuple #[.int .i64 0, .bool false] else if nf = true then .tuple #[.int .i64 t, .bool true] else if a = true then .tuple #[.int .i64 (t + (ahd c m + 1)), .bool true] else .tuple #[.int .i64 t, .bool true]
set_option maxHeartbeats 2000000 in
theorem swake_any {w : World} {sb : Nat} {mn mx c m : Int} {a l : Bool} {t : Int} {tb : Nat} {ar : Bool} {g : Int} {nf : Bool} (h : w.heap[sb]? = some (.cells (svC mn mx c m a l t tb ar g nf) 68)) (t0 : 0 ≤ t) (t1 : t ≤ 4503599627370496) :
    Calls Tryd.prog 24 #[.pointer (some ⟨sb, 0, none⟩)] w fun e w' => e = .returned (wakeV c m a t ar nf) ∧ Below w.heap.size w w' := by
  have c2 : w.cell? ⟨sb, 2, none⟩ = some (.int .u32 c) := cell_of_row _ _ 2 _ _ _ h
  have c3 : w.cell? ⟨sb, 3, none⟩ = some (.int .u32 m) := cell_of_row _ _ 3 _ _ _ h
  have c4 : w.cell? ⟨sb, 4, none⟩ = some (.bool a) := cell_of_row _ _ 4 _ _ _ h
  have c5 : w.cell? ⟨sb, 5, none⟩ = some (.bool l) := cell_of_row _ _ 5 _ _ _ h
  have HH := Kept.mk h
  obtain ⟨V, hV⟩ : ∃ V, V = wakeV c m a t ar nf := ⟨_, rfl⟩
  have HV := Kept.mk hV
  rw [← hV]
  clear h hV
  have hd : 0 ≤ ahd c m ∧ ahd c m < 4294967296 := by unfold ahd; omega
  obtain ⟨hd0, hd1⟩ := hd
  go_enter Tryd.func24, Tryd.ntmps24
  go_wp2_with fail
  refine (hleft_any c m a l _).mono ?_
  rintro e w1 ⟨rfl, hb⟩
  have h1 := (hb.block sb (Array.getElem?_eq_some_iff.1 HH.out).1).trans HH.out
  have HN := snow_any h1
  have c8 : w1.cell? ⟨sb, 8, none⟩ = some (.bool ar) := cell_of_row _ _ 8 _ _ _ h1
  have c10 : w1.cell? ⟨sb, 10, none⟩ = some (.bool nf) := cell_of_row _ _ 10 _ _ _ h1
  have HB := Kept.mk hb
  clear c2 c3 c4 c5 hb h1
  cases ar with
  | false =>
    go_wp2_with fail
    all_goals go_ret2
    all_goals exact ⟨by rw [HV.out]; rfl, HB.out⟩
  | true =>
    cases nf with
    | true =>
      go_wp2_with (go_at_call 8; refine (HN).mono ?_; rintro e w' ⟨rfl, rfl⟩)
      all_goals go_ret2
      all_goals exact ⟨by rw [HV.out]; rfl, HB.out⟩
    | false =>
      cases a with
      | true =>
        go_wp2_with (go_at_call 8; refine (HN).mono ?_; rintro e w' ⟨rfl, rfl⟩)
        go_ret2
        exact ⟨by rw [HV.out]; first | rfl | (unfold wakeV; simp), HB.out⟩
      | false =>
        go_wp2_with (go_at_call 8; refine (HN).mono ?_; rintro e w' ⟨rfl, rfl⟩)
        go_ret2
        exact ⟨by rw [HV.out]; rfl, HB.out⟩
end Go.Proofs.YtakkfgkogomjbaaDoor
namespace Go.Proofs.YtakkfgkogomjbaaDoor
open Go.RowKit Go.Shelf
set_option linter.unusedVariables false
set_option linter.unusedSimpArgs false
theorem size_hw4 (c m : Int) (a l : Bool) : (Tryd.prog.info? 62).map (·.size) = some (#[Value.int .u32 c, .int .u32 m, .bool a, .bool l] : Array Value).size := by kernel_rfl
set_option maxHeartbeats 2000000 in
theorem srest_any {w : World} {sb : Nat} {mn mx c m : Int} {a l : Bool} {t : Int} {tb : Nat} {ar : Bool} {g : Int} {nf : Bool} (h : w.heap[sb]? = some (.cells (svC mn mx c m a l t tb ar g nf) 68)) :
    Calls Tryd.prog 41 #[.pointer (some ⟨sb, 0, none⟩)] w fun e w' => e = .returned (.tuple #[]) ∧ w'.heap[sb]? = some (.cells (svC mn mx c m false l t tb false g false) 68) ∧ Kp sb (sb + 1) w w' := by
  have hsl := (Array.getElem?_eq_some_iff.1 h).1
  have f8 := frozen_of_row _ _ 8 _ _ h
  have f10 := frozen_of_row _ _ 10 _ _ h
  have c8 : w.cell? ⟨sb, 8, none⟩ = some (.bool ar) := cell_of_row _ _ 8 _ _ _ h
  have c10 : w.cell? ⟨sb, 10, none⟩ = some (.bool nf) := cell_of_row _ _ 10 _ _ _ h
  have c2 : w.cell? ⟨sb, 2, none⟩ = some (.int .u32 c) := cell_of_row _ _ 2 _ _ _ h
  have c3 : w.cell? ⟨sb, 3, none⟩ = some (.int .u32 m) := cell_of_row _ _ 3 _ _ _ h
  have c4 : w.cell? ⟨sb, 4, none⟩ = some (.bool a) := cell_of_row _ _ 4 _ _ _ h
  have c5 : w.cell? ⟨sb, 5, none⟩ = some (.bool l) := cell_of_row _ _ 5 _ _ _ h
  have H1 := Kept.mk (show ((w.setCell ⟨sb, 8, none⟩ (.bool false)).setCell ⟨sb, 10, none⟩ (.bool false)).heap[sb]? = some (.cells (svC mn mx c m a l t tb false g false) 68) from
    heap_setCell_same _ sb 10 _ _ _ (heap_setCell_same w sb 8 _ _ _ h))
  have K1 := Kept.mk (show Kp sb (sb + 1) w ((w.setCell ⟨sb, 8, none⟩ (.bool false)).setCell ⟨sb, 10, none⟩ (.bool false)) from
    (Kp.refl _ _ _ |>.set (p := ⟨sb, 8, none⟩) (Nat.le_refl _) (Nat.lt_succ_self _) _).set (p := ⟨sb, 10, none⟩) (Nat.le_refl _) (Nat.lt_succ_self _) _)
  clear h
  go_enter Tryd.func41, Tryd.ntmps41
  go_wp2_with fail
  refine (hdis_any c m a l _).mono ?_
  rintro e w1 ⟨rfl, hb⟩
  have H2 := Kept.mk ((hb.block sb (by simpa using hsl)).trans H1.out)
  have K2 := Kept.mk (K1.out.trans (Kp.of_below hb))
  clear c2 c3 c4 c5 c8 c10 f8 f10 hb
  go_wp2_with (refine wpList_store_at rfl 62 _ _ rfl sb 2 rfl #[.int .u32 c, .int .u32 m, .bool false, .bool l] rfl 68 (svC mn mx c m a l t tb false g false) (svC mn mx c m false l t tb false g false) H2.out (size_hw4 _ _ _ _) (by simp [svC]) hw_one rfl ?_; intro w2 hp; have HP := Kept.mk hp; clear hp)
  go_end0
  exact ⟨rfl, HP.out.here, K2.out.trans ⟨(HP.out.below sb (Nat.le_refl _)).os, (HP.out.below sb (Nat.le_refl _)).tape, (HP.out.below sb (Nat.le_refl _)).output, by rw [HP.out.size]; exact Nat.le_refl _, fun i _ hi => HP.out.far i (by omega)⟩⟩
end Go.Proofs.YtakkfgkogomjbaaDoor
namespace Go.Proofs.YtakkfgkogomjbaaDoor
open Go.RowKit Go.Shelf
set_option linter.unusedVariables false
set_option linter.unusedSimpArgs false
/-- What arming gives, in five cells, a kind and an error. -/
theorem armV_form (c m : Int) (a l : Bool) (t : Int) (x : Int × Int) : ∃ c' m' a' l' t' kd er, armV c m a l t x = .tuple #[.agg #[.int .u32 c', .int .u32 m', .bool a', .bool l', .int .i64 t'], .int .u8 kd, .int .i64 er] ∧
    ((er = 0 ∧ x.2 ≤ 4503599627370496 ∧ c' = c ∧ l' = l ∧ t' = t ∧ kd = x.1 ∧ (x.1 = 1 → m' = m ∧ a' = false) ∧ (x.1 ≠ 1 → m' = x.2 % 4294967296 ∧ a' = true)) ∨ (er = 6 ∧ 4503599627370496 < x.2)) := by
  unfold armV
  by_cases h1 : x.2 ≤ 4503599627370496
  · rw [if_pos h1]
    by_cases h2 : x.1 = 1
    · rw [if_pos h2]
      exact ⟨c, m, false, l, t, 1, 0, rfl, .inl ⟨rfl, h1, rfl, rfl, rfl, h2.symm, fun _ => ⟨rfl, rfl⟩, fun h => absurd h2 h⟩⟩
    · rw [if_neg h2]
      exact ⟨c, _, true, l, t, x.1, 0, rfl, .inl ⟨rfl, h1, rfl, rfl, rfl, rfl, fun h => absurd h h2, fun _ => ⟨rfl, rfl⟩⟩⟩
  · rw [if_neg h1]
    exact ⟨0, 0, false, false, 0, 0, 6, rfl, .inr ⟨rfl, by omega⟩⟩
set_option maxRecDepth 100000 in
set_option maxHeartbeats 4000000 in
/-- There is no timer: it rests. -/
theorem slook_none {w : World} {sb : Nat} {mn mx c m : Int} {a l : Bool} {t : Int} {ar : Bool} {g : Int} {nf : Bool} {lo hi wb I M p L K n tb pm : Nat} {now tu : Int} {N : Nat} {f : Int → Option Nat}
    (h : w.heap[sb]? = some (.cells (svC mn mx c m a l t tb ar g nf) 68)) (hw : TmAt w lo hi wb I M p L K n tb pm now tu [] N f) (hT : Tab w) (hs : tb < sb) :
    Calls Tryd.prog 34 #[.pointer (some ⟨sb, 0, none⟩)] w fun e w' => e = .returned (.tuple #[]) ∧ w'.heap[sb]? = some (.cells (svC mn mx c m false l t tb false g false) 68) ∧ Kp sb (sb + 1) w w' := by
  have HN := wnext_any hw.wh hT (by simp)
  have c7 : w.cell? ⟨sb, 7, none⟩ = some (.pointer (some ⟨tb, 0, none⟩)) := cell_of_row _ _ 7 _ _ _ h
  have b0 := cell_of_row _ _ 0 _ _ _ hw.bl
  have HH := Kept.mk h
  clear h hT
  go_enter Tryd.func34, Tryd.ntmps34
  go_wp2_with fail
  refine HN.mono ?_
  rintro e w1 ⟨rfl, hb⟩
  have HR := srest_any ((hb.block sb (Array.getElem?_eq_some_iff.1 HH.out).1).trans HH.out)
  have HB := Kept.mk (Kp.of_below (lo := sb) (hi := sb + 1) hb)
  clear hb c7 b0 HN
  simp only [nextV, List.head?_nil, Option.map_none, Option.getD_none, Option.isSome_none]
  go_wp2_with fail
  refine HR.mono ?_
  rintro e w2 ⟨rfl, h2, k2⟩
  have HF := Kept.mk (And.intro h2 (HB.out.trans k2))
  clear h2 k2 HR
  go_wp2_with fail
  refine bodyPost_ret (results_none rfl _ _ _) rfl ?_
  exact ⟨rfl, HF.out⟩
end Go.Proofs.YtakkfgkogomjbaaDoor
