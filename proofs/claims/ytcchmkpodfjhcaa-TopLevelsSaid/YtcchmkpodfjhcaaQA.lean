/-
  A queue's plain law: the pool's lists, and who stands at a place, tell one list of ids with their priorities, in the order in which they came. No program in sight.
-/
import Derived.Test.YtcchmkpodfjhcaaPA
namespace Go.Proofs.Ytcchmkpodfjhcaa
set_option linter.unusedVariables false
/-- Ids, each with its priority, as they came. -/
abbrev QL := List (Int × Nat)
def QL.ids (L : QL) : List Int := L.map (·.1)
def QL.of (L : QL) (p : Nat) : List Int := (L.filter fun x => decide (x.2 = p)).map (·.1)
def QL.rem (L : QL) (id : Int) : QL := L.filter fun x => decide (x.1 ≠ id)
structure Con (n : Nat) (S : PS) (ids : Nat → Int) (L : QL) : Prop where
  lists : ∀ p : Nat, p < 64 → (S.list (p : Int)).map ids = L.of p
  nd : L.ids.Nodup
  pr : ∀ x ∈ L, x.2 < 64
  len : S.pile.length + L.length = n
theorem nodup_pair : ∀ {L : QL}, L.ids.Nodup → ∀ {a : Int} {p q : Nat}, (a, p) ∈ L → (a, q) ∈ L → p = q
  | [], _, a, p, q, h, _ => by cases h
  | x :: r, h, a, p, q, h1, h2 => by
    unfold QL.ids at h
    rw [List.map_cons, List.nodup_cons] at h
    rcases List.mem_cons.1 h1 with e1 | h1 <;> rcases List.mem_cons.1 h2 with e2 | h2
    · have := e1.trans e2.symm
      exact (Prod.mk.inj this).2
    · exact absurd (List.mem_map.2 ⟨(a, q), h2, by rw [← e1]⟩) h.1
    · exact absurd (List.mem_map.2 ⟨(a, p), h1, by rw [← e2]⟩) h.1
    · exact nodup_pair h.2 h1 h2
theorem of_mem {L : QL} {p : Nat} {a : Int} : a ∈ L.of p ↔ (a, p) ∈ L := by
  unfold QL.of
  rw [List.mem_map]
  constructor
  · rintro ⟨⟨b, q⟩, h1, rfl⟩
    rw [List.mem_filter] at h1
    have : q = p := of_decide_eq_true h1.2
    rw [← this]; exact h1.1
  · intro h
    exact ⟨(a, p), List.mem_filter.2 ⟨h, decide_eq_true rfl⟩, rfl⟩
theorem of_nodup {L : QL} (h : L.ids.Nodup) (p : Nat) : (L.of p).Nodup := h.sublist (List.filter_sublist.map _)
theorem of_app (L : QL) (id : Int) (q p : Nat) : QL.of (L ++ [(id, q)]) p = L.of p ++ if q = p then [id] else [] := by
  unfold QL.of
  rw [List.filter_append, List.map_append]
  congr 1
  by_cases h : q = p <;> simp [h]
theorem of_rem (L : QL) (id : Int) (p : Nat) : (L.rem id).of p = (L.of p).filter fun a => decide (a ≠ id) := by
  unfold QL.of QL.rem
  rw [List.filter_map, List.filter_filter, List.filter_filter]
  congr 1
  apply List.filter_congr
  intro x _
  simp only [Function.comp]
  exact Bool.and_comm _ _
theorem rem_ids (L : QL) (id : Int) : (L.rem id).ids = L.ids.filter fun a => decide (a ≠ id) := by
  unfold QL.ids QL.rem
  rw [List.filter_map]
  rfl
theorem rem_len {L : QL} (h : L.ids.Nodup) {id : Int} (hm : id ∈ L.ids) : (L.rem id).length + 1 = L.length := by
  have e1 : (L.rem id).length = (L.rem id).ids.length := by unfold QL.ids; rw [List.length_map]
  have e2 : L.length = L.ids.length := by unfold QL.ids; rw [List.length_map]
  rw [e1, e2, rem_ids]
  generalize L.ids = l at h hm
  induction l with
  | nil => cases hm
  | cons y r ih =>
    rw [List.nodup_cons] at h
    rcases List.mem_cons.1 hm with rfl | hm
    · rw [List.filter_cons_of_neg (by simp), List.filter_eq_self.2 fun x hx => decide_eq_true (by rintro rfl; exact h.1 hx)]
      rfl
    · have hy : y ≠ id := by rintro rfl; exact h.1 hm
      rw [List.filter_cons_of_pos (by simpa using hy), List.length_cons, List.length_cons, ih h.2 hm]
theorem Con.mem {n : Nat} {S : PS} {ids : Nat → Int} {L : QL} (h : Con n S ids L) {p x : Nat} (hp : p < 64) (hx : x ∈ S.list (p : Int)) : (ids x, p) ∈ L := by
  rw [← of_mem, ← h.lists p hp]
  exact List.mem_map.2 ⟨x, hx, rfl⟩
theorem Con.of {n : Nat} {S : PS} {ids : Nat → Int} {L : QL} (h : Con n S ids L) {a : Int} {p : Nat} (hm : (a, p) ∈ L) : ∃ x, x ∈ S.list (p : Int) ∧ ids x = a := by
  have hp : p < 64 := h.pr _ hm
  have := of_mem.2 hm
  rw [← h.lists p hp] at this
  obtain ⟨x, hx, e⟩ := List.mem_map.1 this
  exact ⟨x, hx, e⟩
theorem map_inj {f : Nat → Int} : ∀ {l : List Nat}, (l.map f).Nodup → ∀ {x y : Nat}, x ∈ l → y ∈ l → f x = f y → x = y
  | [], _, x, y, hx, _, _ => by cases hx
  | z :: r, h, x, y, hx, hy, e => by
    rw [List.map_cons, List.nodup_cons] at h
    rcases List.mem_cons.1 hx with e1 | hx' <;> rcases List.mem_cons.1 hy with e2 | hy'
    · rw [e1, e2]
    · exact absurd (List.mem_map.2 ⟨y, hy', by rw [← e, e1]⟩) h.1
    · exact absurd (List.mem_map.2 ⟨x, hx', by rw [e, e2]⟩) h.1
    · exact map_inj h.2 hx' hy' e
theorem Con.inj {n : Nat} {S : PS} {ids : Nat → Int} {L : QL} (h : Con n S ids L) {p q x y : Nat} (hp : p < 64) (hq : q < 64) (hx : x ∈ S.list (p : Int)) (hy : y ∈ S.list (q : Int)) (e : ids x = ids y) : x = y := by
  have h1 := h.mem hp hx
  have h2 := h.mem hq hy
  rw [e] at h1
  have epq := nodup_pair h.nd h1 h2
  subst epq
  exact map_inj (by rw [h.lists p hp]; exact of_nodup h.nd p) hx hy e
/-! ### what a pool's act does to a list -/
theorem list_put {S : PS} {i k : Nat} (hk : k < S.lists.length) (q : Nat) : (S.put i k).list (q : Int) = S.list (q : Int) ++ if k = q then [i] else [] := by
  unfold PS.list PS.put
  rw [if_pos (by omega), if_pos (by omega), Int.toNat_natCast, List.getElem?_modify]
  by_cases e : k = q
  · subst e
    rw [if_pos rfl, List.getElem?_eq_getElem hk]
    simp
  · rw [if_neg e]
    cases S.lists[q]? <;> simp [e]
theorem list_outq (S : PS) (i q : Nat) : (S.out i).list (q : Int) = (S.list (q : Int)).filter fun x => decide (x ≠ i) := by
  unfold PS.list PS.out
  rw [if_pos (by omega), if_pos (by omega), Int.toNat_natCast, List.getElem?_map]
  cases S.lists[q]? <;> simp
theorem map_upd {f : Nat → Int} {i : Nat} {v : Int} {l : List Nat} (h : i ∉ l) : l.map (upd f i v) = l.map f :=
  List.map_congr_left fun x hx => upd_ne (by rintro rfl; exact h hx)
theorem map_filter_inj {f : Nat → Int} {l : List Nat} {x : Nat} (h : ∀ y ∈ l, f y = f x → y = x) : (l.filter fun y => decide (y ≠ x)).map f = (l.map f).filter fun a => decide (a ≠ f x) := by
  rw [List.filter_map]
  congr 1
  apply List.filter_congr
  intro y hy
  simp only [Function.comp]
  exact decide_eq_decide.2 ⟨fun h1 h2 => h1 (h y hy h2), fun h1 h2 => h1 (by rw [h2])⟩
theorem not_listed {n m : Nat} {S : PS} {F G : Nat → Int} (h : Good n m S F G) {i : Nat} (hp : i ∈ S.pile) (q : Nat) : i ∉ S.list (q : Int) := by
  intro hx
  unfold PS.list at hx
  rw [if_pos (by omega), Int.toNat_natCast] at hx
  cases e : S.lists[q]? with
  | none => rw [e] at hx; cases hx
  | some l => rw [e] at hx; exact h.rep.notP e hx hp
theorem con_new (n : Nat) (ids : Nat → Int) : Con n (newS n 64) ids [] := by
  refine ⟨fun p hp => ?_, List.nodup_nil, fun x hx => (by cases hx), by simp [newS]⟩
  have : (newS n 64).list (p : Int) = [] := by
    unfold PS.list newS
    rw [if_pos (by omega), Int.toNat_natCast, List.getElem?_replicate, if_pos hp]
    rfl
  rw [this]
  rfl
theorem con_push {n : Nat} {S : PS} {F G ids : Nat → Int} {L : QL} (hg : Good n 64 S F G) (h : Con n S ids L) {i : Nat} (hi : S.pile.getLast? = some i) {id : Int} {p : Nat} (hp : p < 64) (hid : id ∉ L.ids) :
    Con n (S.take i p) (upd ids i id) (L ++ [(id, p)]) := by
  have hip : i ∈ S.pile := List.mem_of_getLast? hi
  have hlen : (PS.mk S.pile.dropLast S.lists).lists.length = 64 := hg.rep.len
  refine ⟨fun q hq => ?_, ?_, fun x hx => ?_, ?_⟩
  · have e : (S.take i p).list (q : Int) = S.list (q : Int) ++ if p = q then [i] else [] := by
      unfold PS.take
      rw [list_put (by rw [hlen]; exact hp)]
      rfl
    rw [e, List.map_append, map_upd (not_listed hg hip q), h.lists q hq, of_app]
    congr 1
    split <;> simp [upd_same]
  · unfold QL.ids at *
    rw [List.map_append, List.nodup_append]
    refine ⟨h.nd, by simp, fun a ha b hb => ?_⟩
    simp at hb
    subst hb
    rintro rfl
    exact hid ha
  · rcases List.mem_append.1 hx with hx | hx
    · exact h.pr x hx
    · simp at hx; subst hx; exact hp
  · have h1 := h.len
    have h2 : S.pile.length ≠ 0 := by
      intro e
      rw [List.eq_nil_of_length_eq_zero e] at hi
      simp at hi
    show S.pile.dropLast.length + _ = n
    simp
    omega
theorem Con.filter {n m : Nat} {S : PS} {F G ids : Nat → Int} {L : QL} (hg : Good n 64 S F G) (h : Con n S ids L) {x p : Nat} (hp : p < 64) (hx : x ∈ S.list (p : Int)) (q : Nat) (hq : q < 64) :
    ((S.out x).list (q : Int)).map ids = (L.rem (ids x)).of q := by
  rw [list_outq, of_rem, ← h.lists q hq]
  exact map_filter_inj fun y hy e => h.inj hq hp hy hx e
theorem rem_nodup {L : QL} (h : L.ids.Nodup) (id : Int) : (L.rem id).ids.Nodup := by rw [rem_ids]; exact h.sublist List.filter_sublist
theorem con_give {n : Nat} {S : PS} {F G ids : Nat → Int} {L : QL} (hg : Good n 64 S F G) (h : Con n S ids L) {x p : Nat} (hp : p < 64) (hx : x ∈ S.list (p : Int)) : Con n (S.give x) ids (L.rem (ids x)) := by
  refine ⟨fun q hq => ?_, rem_nodup h.nd _, fun y hy => h.pr y (List.mem_filter.1 hy).1, ?_⟩
  · show ((S.out x).list (q : Int)).map ids = _
    exact Con.filter (m := 0) hg h hp hx q hq
  · have h1 := h.len
    have h2 := rem_len h.nd (id := ids x) (List.mem_map.2 ⟨_, h.mem hp hx, rfl⟩)
    show (S.pile ++ [x]).length + _ = n
    simp
    omega
theorem con_move {n : Nat} {S : PS} {F G ids : Nat → Int} {L : QL} (hg : Good n 64 S F G) (h : Con n S ids L) {x p k : Nat} (hp : p < 64) (hx : x ∈ S.list (p : Int)) (hk : k < 64) : Con n (S.move x k) ids (L.rem (ids x) ++ [(ids x, k)]) := by
  have hlen : (S.out x).lists.length = 64 := by unfold PS.out; rw [List.length_map]; exact hg.rep.len
  have hmem : ids x ∈ L.ids := List.mem_map.2 ⟨_, h.mem hp hx, rfl⟩
  refine ⟨fun q hq => ?_, ?_, fun y hy => ?_, ?_⟩
  · show (((S.out x).put x k).list (q : Int)).map ids = _
    rw [list_put (by rw [hlen]; exact hk), List.map_append, Con.filter (m := 0) hg h hp hx q hq, of_app]
    congr 1
    split <;> rfl
  · show (L.rem (ids x) ++ [(ids x, k)]).ids.Nodup
    unfold QL.ids
    rw [List.map_append, List.nodup_append]
    refine ⟨rem_nodup h.nd _, by simp, fun a ha b hb => ?_⟩
    simp at hb
    subst hb
    rintro rfl
    have ha' : ids x ∈ (L.rem (ids x)).ids := ha
    rw [rem_ids] at ha'
    simp at ha'
  · rcases List.mem_append.1 hy with hy | hy
    · exact h.pr y (List.mem_filter.1 hy).1
    · simp at hy; subst hy; exact hk
  · have h1 := h.len
    have h2 := rem_len h.nd hmem
    show S.pile.length + _ = n
    simp
    omega
end Go.Proofs.Ytcchmkpodfjhcaa
