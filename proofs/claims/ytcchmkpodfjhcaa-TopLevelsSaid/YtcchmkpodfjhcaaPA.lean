/-
  The pool's acts, by lists of entries; what Where, First and Next tell of them. No program in sight.
-/
import Derived.Test.YtcchmkpodfjhcaaPQ2
namespace Go.Proofs.Ytcchmkpodfjhcaa
set_option linter.unusedVariables false

def PS.loc (S : PS) (i : Nat) : Option Nat := S.lists.findIdx? (fun l => decide (i ∈ l))
def wh (n : Nat) (S : PS) (i : Int) : Int × Int := if i < 0 ∨ (n : Int) ≤ i then (0, 1) else match S.loc i.toNat with | none => (0, 3) | some k => ((k : Nat), 0)
def tk (m : Nat) (S : PS) (k : Int) : Int × Int × PS := if ¬ (0 ≤ k ∧ k < (m : Int)) then (0, 1, S) else match S.pile.getLast? with | none => (0, 5, S) | some i => (i, 0, S.take i k.toNat)
def gv (n : Nat) (S : PS) (i : Int) : Int × PS := if (wh n S i).2 = 0 then (0, S.give i.toNat) else ((wh n S i).2, S)
def mv (n m : Nat) (S : PS) (i k : Int) : Int × PS := if (wh n S i).2 = 1 ∨ ¬ (0 ≤ k ∧ k < (m : Int)) then (1, S) else if (wh n S i).2 = 0 then (0, S.move i.toNat k.toNat) else ((wh n S i).2, S)
/-- A list; none where there is no such one. -/
def PS.list (S : PS) (k : Int) : List Nat := if 0 ≤ k then S.lists[k.toNat]?.getD [] else []
/-- The one behind an entry in a list. -/
def behind (l : List Nat) (i : Nat) : Option Nat := ((l.dropWhile (fun x => decide (x ≠ i))).drop 1).head?
def nx (n : Nat) (S : PS) (i : Int) : Option Nat := if i < 0 ∨ (n : Int) ≤ i then none else match S.loc i.toNat with | none => none | some k => behind (S.list k) i.toNat

theorem loc_some {S : PS} {i k : Nat} (h : S.loc i = some k) : ∃ l, S.lists[k]? = some l ∧ i ∈ l := by
  unfold PS.loc at h
  rw [List.findIdx?_eq_some_iff_getElem] at h
  obtain ⟨hk, h1, _⟩ := h
  exact ⟨_, List.getElem?_eq_getElem hk, of_decide_eq_true h1⟩
theorem loc_none {S : PS} {i : Nat} (h : S.loc i = none) : ∀ (k : Nat) (l : List Nat), S.lists[k]? = some l → i ∉ l := by
  intro k l hl
  unfold PS.loc at h
  rw [List.findIdx?_eq_none_iff] at h
  exact of_decide_eq_false (h l (List.mem_of_getElem? hl))
theorem Rep.loc {n m : Nat} {S : PS} {F G : Nat → Int} (h : Rep n m S F G) {i k : Nat} {l : List Nat} (hl : S.lists[k]? = some l) (hi : i ∈ l) : S.loc i = some k := by
  cases e : S.loc i with
  | none => exact absurd hi (loc_none e k l hl)
  | some k' =>
    obtain ⟨l', hl', hi'⟩ := loc_some e
    rw [(h.one hl hl' hi hi').1]
theorem behind_split {a b : List Nat} {i : Nat} (h : i ∉ a) : behind (a ++ i :: b) i = b.head? := by
  unfold behind
  rw [List.dropWhile_append_of_pos (fun x hx => decide_eq_true (by rintro rfl; exact h hx)), List.dropWhile_cons_of_neg (by simp)]
  simp
/-- What the links tell of an entry. -/
theorem Good.link {n m : Nat} {S : PS} {F G : Nat → Int} (h : Good n m S F G) {i : Nat} (hi : i < n) :
    (S.loc i = none ∧ i ∈ S.pile ∧ F (i * 3) = -1) ∨
    (∃ k l a b, S.loc i = some k ∧ S.lists[k]? = some l ∧ i ∈ l ∧ k < m ∧ F (i * 3) = (k : Nat) ∧ F (i * 3 + 1) = optI a ∧ F (i * 3 + 2) = optI b ∧ b = behind l i ∧ (∀ x, a = some x → x < n) ∧ (∀ x, b = some x → x < n)) := by
  rcases h.all i hi with hp | ⟨k, l, hl, hm⟩
  · left
    refine ⟨?_, hp, h.rep.numP hp⟩
    cases e : S.loc i with
    | none => rfl
    | some k' =>
      obtain ⟨l', hl', hi'⟩ := loc_some e
      exact absurd hp (h.rep.notP hl' hi')
  · right
    obtain ⟨a, b, e⟩ := List.append_of_mem hm
    obtain ⟨f0, f1, f2⟩ := h.rep.link k l hl a i b e
    have hnd := h.rep.lnd k l hl
    have ha : i ∉ a := by
      rw [e] at hnd
      exact fun ha => (List.nodup_append.1 hnd).2.2 i ha i (by simp) rfl
    have hlt := h.rep.llt k l hl
    refine ⟨k, l, a.getLast?, b.head?, h.rep.loc hl hm, hl, hm, ?_, f0, f1, f2, by rw [e, behind_split ha], fun x hx => hlt x ?_, fun x hx => hlt x ?_⟩
    · have := (List.getElem?_eq_some_iff.1 hl).1
      rw [h.rep.len] at this
      exact this
    · rw [e]; simp [List.mem_of_getLast? hx]
    · rw [e]; simp [List.mem_of_head? hx]
theorem Good.list {n m : Nat} {S : PS} {F G : Nat → Int} (h : Good n m S F G) {k : Nat} (hk : k < m) : S.lists[k]? = some (S.list k) ∧ G (k * 2) = optI (S.list k).head? ∧ G (k * 2 + 1) = optI (S.list k).getLast? ∧ ∀ x ∈ S.list k, x < n := by
  have hl : S.lists[k]? = some (S.list k) := by
    unfold PS.list
    rw [if_pos (by omega), Int.toNat_natCast, List.getElem?_eq_getElem (by rw [h.rep.len]; exact hk)]
    rfl
  exact ⟨hl, (h.rep.ends k _ hl).1, (h.rep.ends k _ hl).2, h.rep.llt k _ hl⟩
theorem list_out {n m : Nat} {S : PS} {F G : Nat → Int} (h : Good n m S F G) {k : Int} (hk : ¬ (0 ≤ k ∧ k < (m : Int))) : S.list k = [] := by
  unfold PS.list
  split
  · rw [List.getElem?_eq_none (by rw [h.rep.len]; omega)]; rfl
  · rfl
end Go.Proofs.Ytcchmkpodfjhcaa
