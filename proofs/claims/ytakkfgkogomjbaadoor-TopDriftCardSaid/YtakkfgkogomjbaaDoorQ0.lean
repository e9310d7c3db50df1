/-
  A map from numbers to places, in memory: what a look-up, a new entry, a deletion, its length give.
-/
import Derived.Test.YtakkfgkogomjbaaDoorVk
import Derived.Maps.OwnSet
import Derived.WideKeyEntry
namespace Go.Proofs.YtakkfgkogomjbaaDoor
open Go.RowKit Go.Maps Go.ChangeMaps Go.WideShapes Go.WideElems
set_option maxRecDepth 4000
set_option linter.unusedVariables false
theorem keyInt : Keyed Tryd.prog 3 := int_keyed Tryd.underlying3
theorem zeroInt (w : World) : (zeroValue 3).run Tryd.prog w = .ok (.int .i64 0) w := by kernel_rfl
/-- The block M is a map of N entries, from a number to the place that f tells. -/
def MapIs (w : World) (M N : Nat) (f : Int → Option Nat) : Prop :=
  ∃ D : DataW Unit, w.ownsMap Tryd.prog 3 (plainElem Tryd.prog 3) M N D ∧ Maps.size D = N ∧ ∀ id : Int, (Lit.int .i64 id).wf = true → Maps.has D (.int .i64 id) = (f id).isSome ∧ ∀ x, f id = some x → ∀ z, D.atKey (.int .i64 id) z = .lit (.int .i64 (x : Int))
def optN : Option Nat → Int
  | some x => (x : Int)
  | none => 0
theorem MapIs.kept {w w' : World} {M N : Nat} {f : Int → Option Nat} (h : MapIs w M N f) (hb : w'.heap[M]? = w.heap[M]?) : MapIs w' M N f := by
  obtain ⟨D, ⟨es, clock, h1, h2⟩, h3⟩ := h
  exact ⟨D, ⟨es, clock, hb.trans h1, h2⟩, h3⟩
theorem MapIs.lt {w : World} {M N : Nat} {f : Int → Option Nat} (h : MapIs w M N f) : M < w.heap.size := by
  obtain ⟨D, h1, _⟩ := h
  exact h1.lt
theorem MapIs.new (w : World) : MapIs (w.alloc (.map #[] 0)) w.heap.size 0 (fun _ => none) :=
  ⟨.map [], World.ownsMap_made w Tryd.prog 3 _, rfl, fun id _ => ⟨rfl, fun x h => by cases h⟩⟩
theorem map_look {w : World} {M N : Nat} {f : Int → Option Nat} (h : MapIs w M N f) {id : Int} (hid : (Lit.int .i64 id).wf = true) :
    (Instr.lookup 90 (.map (some M)) (.int .i64 id) true).run Tryd.prog w = .ok (.tuple #[.int .i64 (optN (f id)), .bool (f id).isSome]) w := by
  obtain ⟨D, h1, _, h3⟩ := h
  obtain ⟨v, ps, hrun, hv⟩ := h1.look_ok keyInt Tryd.underlying90 (zeroInt w) (zd := .lit (.int .i64 0)) (zp := []) (plainElem_int Tryd.underlying3 (by decide)) (keyOf_int_mk Tryd.underlying3 hid)
  obtain ⟨k1, k2⟩ := h3 id hid
  obtain ⟨c, rfl, hc, _⟩ := plainElem_int_inv Tryd.underlying3 hv
  rw [hrun, k1]
  have hc' := congrArg Prod.fst hc
  simp only at hc'
  cases e : f id with
  | none =>
    rw [e] at k1
    rw [atKey_of_not_has k1] at hc'
    cases hc'
    rfl
  | some x =>
    rw [k2 x e] at hc'
    cases hc'
    rfl
/-- Putting in a number that is not there, in two steps. -/
theorem map_entry {w : World} {M N : Nat} {f : Int → Option Nat} (h : MapIs w M N f) {id : Int} (hid : (Lit.int .i64 id).wf = true) (hf : f id = none) (hN : N < 1000000) (x : Nat) (hx : (Lit.int .i64 (x : Int)).wf = true) :
    ∃ (st : Value) (o1 o2 : Obj), (∀ W : World, W.heap[M]? = w.heap[M]? → (Instr.mapEntry 90 (.map (some M)) (.int .i64 id)).run Tryd.prog W = .ok (.tuple #[.int .i64 0, st]) (setBlock W M o1)) ∧
      (∀ W : World, W.heap[M]? = some o1 → (Instr.entryStore 90 (.map (some M)) st (.int .i64 (x : Int))).run Tryd.prog W = .ok () (setBlock W M o2)) ∧
      (∀ W : World, W.heap[M]? = some o2 → MapIs W M (N + 1) (fun a => if a = id then some x else f a)) ∧ st.oneCell' = true := by
  obtain ⟨D, ⟨es, clock, hb, F, hs, hD⟩, hsz, h3⟩ := h
  have hkey : keyOf Tryd.prog 3 (.int .i64 id) = some (.int .i64 id) := keyOf_int_mk Tryd.underlying3 hid
  have hown : w.ownsMap Tryd.prog 3 (plainElem Tryd.prog 3) M N D := ⟨es, clock, hb, F, hs, hD⟩
  obtain ⟨k1, _⟩ := h3 id hid
  rw [hf] at k1
  have habs : ∀ w : World, (Instr.findKey 3 (.int .i64 id) es.toList).run Tryd.prog w = .ok none w ∧ ∀ x ∈ es.toList, x.key ≠ .int .i64 id := by
    intro W
    have hks : ∀ e ∈ es.toList, ∃ l, keyOf Tryd.prog 3 e.key = some l := fun e he => by
      obtain ⟨y, hy⟩ := F.reads e he
      exact ⟨_, rd_key hy⟩
    rcases keyInt.find W hkey es.toList hks with h | ⟨j, e0, h1, h2, h4⟩
    · exact h
    · exfalso
      have hm := List.mem_of_getElem? h2
      obtain ⟨y, hy⟩ := F.reads e0 hm
      have hyk := rd_key hy
      rw [h4, hkey] at hyk
      have hy1 : y.1 = .int .i64 id := (Option.some.inj hyk).symm
      have hh : Maps.has D (.int .i64 id) = true := by
        rw [hD, has_eq]
        refine List.any_eq_true.2 ⟨y, ?_, ?_⟩
        · refine (sorted_perm _).mem_iff.2 (List.mem_map.2 ⟨e0, hm, ?_⟩)
          rw [rg_of hy]
        · rw [hy1]; exact WideAt.sameKey_self (by trivial)
      rw [hh] at k1
      cases k1
  obtain ⟨s1, s2, _⟩ := F.stamped
  have hidx : ∀ v : Value, (es.push ⟨.int .i64 id, v, clock⟩).findIdx? (fun e => ((e.born : Nat) : Int) == ((clock : Nat) : Int)) = some es.size := by
    intro v
    rw [findIdx_arr]
    have := findIdx_born (l := (es.push ⟨.int .i64 id, v, clock⟩).toList) (j := es.size) (e0 := ⟨.int .i64 id, v, clock⟩) (by
      simp only [Array.toList_push, List.map_append, List.map_cons, List.map_nil]
      refine List.nodup_append.2 ⟨s2, by simp, fun a ha c hc e1 => ?_⟩
      simp only [List.mem_singleton] at hc
      obtain ⟨x, hx, rfl⟩ := List.mem_map.1 ha
      have := s1 x hx
      omega) (by simp)
    exact this
  have hmod : ∀ v u : Value, (es.push ⟨.int .i64 id, v, clock⟩).modify es.size (fun e => { e with val := u }) = es.push ⟨.int .i64 id, u, clock⟩ := by
    intro v u
    apply Array.ext'
    rw [Array.toList_modify, Array.toList_push, Array.toList_push, ← Array.length_toList, modify_last]
  refine ⟨goInt clock, .map (es.push ⟨.int .i64 id, .int .i64 0, clock⟩) (clock + 1), .map (es.push ⟨.int .i64 id, .int .i64 (x : Int), clock⟩) (clock + 1), fun W hW => ?_, fun W hW => ?_, fun W hW => ?_, rfl⟩
  · have hbW : W.heap[M]? = some (.map es clock) := hW.trans hb
    simp [Instr.mapEntry, run_underlying Tryd.underlying90, MapKept.run_getObj_map hbW, keyInt.check W false hkey, (habs W).1, MapKept.run_setObj_map _ hbW, Result.andThen, setBlock]
  · simp [Instr.entryStore, MapKept.run_getObj_map hW, asInt, asIntOf, goInt, hidx, hmod, MapKept.run_setObj_map _ hW, Result.andThen, setBlock]
  · obtain ⟨w', hrun, hown', _⟩ := hown.store keyInt Tryd.underlying90 (by simp only [maxLen]; omega) hkey (plainElem_int (H := Unit) Tryd.underlying3 hx)
    have hrun2 : (Instr.mapUpdate 90 (.map (some M)) (.int .i64 id) (.int .i64 (x : Int))).run Tryd.prog w = .ok () (setBlock w M (.map (es.push ⟨.int .i64 id, .int .i64 (x : Int), clock⟩) (clock + 1))) := by
      simp [Instr.mapUpdate, run_underlying Tryd.underlying90, MapKept.run_getObj_map hb, keyInt.check w false hkey, (habs w).1, MapKept.run_setObj_map _ hb, Result.andThen, setBlock]
    rw [hrun2] at hrun
    have hw' : w' = setBlock w M (.map (es.push ⟨.int .i64 id, .int .i64 (x : Int), clock⟩) (clock + 1)) := by cases hrun; rfl
    obtain ⟨es', clock', hb', r⟩ := hown'
    rw [hw', heap_setBlock_same hb] at hb'
    have htidy := hown.tidy keyInt
    have hk : WideAt.IsKeyLit (.int .i64 id) := by trivial
    refine ⟨D.put (.int .i64 id) (.lit (.int .i64 (x : Int))), ⟨es', clock', hW.trans hb', r⟩, ?_, fun a ha => ?_⟩
    · rw [size_put htidy, k1, hsz]; rfl
    · by_cases e : a = id
      · subst e
        simp only [if_pos]
        refine ⟨has_put_same hown.isMap hk _, fun y hy z => ?_⟩
        cases hy
        exact atKey_put_same hown.isMap hk _ z
      · simp only [if_neg e]
        obtain ⟨q1, q2⟩ := h3 a ha
        have hne : (Lit.int .i64 a) ≠ .int .i64 id := fun h => e (by cases h; rfl)
        refine ⟨(has_put_other hne _).trans q1, fun y hy z => ?_⟩
        rw [atKey_put_other hne]
        exact q2 y hy z
theorem own_tight {w : World} {M n : Nat} {D : DataW Unit} (h : w.ownsMap Tryd.prog 3 (plainElem Tryd.prog 3) M n D) : w.ownsMap Tryd.prog 3 (plainElem Tryd.prog 3) M (Maps.size D) D := by
  obtain ⟨es, clock, hb, F, _, rfl⟩ := h
  exact ⟨es, clock, hb, F, by simp [Maps.size, length_sorted], rfl⟩
theorem MapIs.del {w w1 : World} {M N n : Nat} {f : Int → Option Nat} {D : DataW Unit} (h0 : w.ownsMap Tryd.prog 3 (plainElem Tryd.prog 3) M n D) (hsz : Maps.size D = N + 1) (h3 : ∀ id : Int, (Lit.int .i64 id).wf = true → Maps.has D (.int .i64 id) = (f id).isSome ∧ ∀ x, f id = some x → ∀ z, D.atKey (.int .i64 id) z = .lit (.int .i64 (x : Int))) {id : Int} (hid : (Lit.int .i64 id).wf = true) {x : Nat} (hf : f id = some x)
    (h : w1.ownsMap Tryd.prog 3 (plainElem Tryd.prog 3) M n (D.del (.int .i64 id))) : MapIs w1 M N (fun a => if a = id then none else f a) := by
  obtain ⟨k1, _⟩ := h3 id hid
  rw [hf] at k1
  have e := size_del (k := .int .i64 id) (h0.tidy keyInt)
  rw [k1, hsz] at e
  have e2 : Maps.size (D.del (.int .i64 id)) = N := by simpa using e
  refine ⟨_, e2 ▸ own_tight h, e2, fun a ha => ?_⟩
  by_cases e : a = id
  · subst e
    simp only [if_pos]
    exact ⟨has_del_same, fun y hy => by cases hy⟩
  · simp only [if_neg e]
    obtain ⟨q1, q2⟩ := h3 a ha
    have hne : (Lit.int .i64 a) ≠ .int .i64 id := fun h => e (by cases h; rfl)
    refine ⟨(has_del_other hne).trans q1, fun y hy z => ?_⟩
    rw [atKey_del_other hne]
    exact q2 y hy z
end Go.Proofs.YtakkfgkogomjbaaDoor
