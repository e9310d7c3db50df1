/-
  A configuration's text: its lines.
-/
import Derived.Test.YtfneloplbkjbhaaDoorTS7
namespace Go.Proofs.YtfneloplbkjbhaaDoor
open Go.RowKit Go.Shelf
open Go.Lib (byteCells itoa)
set_option linter.unusedVariables false
abbrev wT : List UInt8 := [116, 105, 109, 105, 110, 103]
abbrev wS : List UInt8 := [115, 119, 105, 116, 99, 104]
abbrev wP : List UInt8 := [112, 101, 114, 105, 111, 100, 105, 99]
abbrev wQ : List UInt8 := [115, 112, 111, 114, 97, 100, 105, 99]
abbrev wK : List UInt8 := [108, 111, 99, 107]
abbrev wL : List UInt8 := [108, 105, 110, 101]
def tkWord (t : Tk) : List UInt8 := if t.k = 2 then wQ else wP
def tkT (t : Tk) : List UInt8 := tkWord t ++ numsL (tkNums t) ++ (if t.g < 0 then [] else 32 :: (wK ++ numsL (lkNums t)))
def svT (x y : Q4) : List UInt8 := wL ++ numsL (svNums x y)
def linesT (L : List (List UInt8)) : List UInt8 := L.flatMap (· ++ [10])
def l1T (mn mx : Int) : List UInt8 := wT ++ numsL [mn, mx]
def l2T (sw : Int) : List UInt8 := wS ++ numsL [sw]
def cfgL (c : Cf) : List (List UInt8) := l1T c.mn c.mx :: l2T c.sw :: (c.ts.map tkT ++ List.zipWith svT c.ls c.hs)
def cfgT (c : Cf) : List UInt8 := linesT (cfgL c)
theorem lines_snoc (L : List (List UInt8)) (l : List UInt8) : linesT (L ++ [l]) = linesT L ++ (l ++ [10]) := by
  unfold linesT
  rw [List.flatMap_append]
  simp
theorem lines_cons (l : List UInt8) (L : List (List UInt8)) : linesT (l :: L) = (l ++ [10]) ++ linesT L := by
  unfold linesT
  rw [List.flatMap_cons]
theorem lines_len : ∀ {L : List (List UInt8)}, (∀ l ∈ L, l.length ≤ 400) → (linesT L).length ≤ 401 * L.length
  | [], _ => by simp [linesT]
  | l :: L, h => by
    have h1 := lines_len (L := L) (fun x hx => h x (by simp [hx]))
    have h2 := h l (by simp)
    rw [lines_cons, List.length_append, List.length_append, List.length_cons, List.length_cons, List.length_nil]
    omega
theorem told_tn {ns : List Int} (h : toldB ns = true) : ∀ n ∈ ns, TN n := by
  intro n hn
  have := List.all_eq_true.1 h n hn
  simpa [timeB, TN] using this
theorem odd_parts {t : Tk} (h : oddT t = false) : t.k ≠ 0 ∧ t.k < 3 ∧ (∀ n ∈ tkNums t, TN n) ∧ (t.g < 0 → t.g = -1 ∧ t.h = 0 ∧ t.i = 0) ∧ (0 ≤ t.g → ∀ n ∈ lkNums t, TN n) := by
  unfold oddT at h
  simp only [Bool.or_eq_false_iff] at h
  obtain ⟨⟨⟨h1, h2⟩, h3⟩, h4⟩ := h
  refine ⟨by simpa using h1, by simpa using h2, told_tn (by simpa using h3), fun hg => ?_, fun hg => ?_⟩
  · rw [if_pos hg] at h4
    simp only [Bool.not_eq_false', Bool.and_eq_true, beq_iff_eq] at h4
    exact ⟨h4.1.1, h4.1.2, h4.2⟩
  · rw [if_neg (by omega)] at h4
    exact told_tn (by simpa using h4)
theorem tkWord_len (t : Tk) : (tkWord t).length = 8 := by
  unfold tkWord
  split <;> rfl
theorem tkT_len {t : Tk} (h : oddT t = false) : (tkT t).length ≤ 400 := by
  obtain ⟨_, _, h1, _, h2⟩ := odd_parts h
  have a := nums_len h1
  have e1 : (tkNums t).length = 6 := rfl
  have e2 := tkWord_len t
  unfold tkT
  rw [List.length_append, List.length_append]
  by_cases hg : t.g < 0
  · rw [if_pos hg]
    simp only [List.length_nil]
    omega
  · rw [if_neg hg]
    have b := nums_len (h2 (by omega))
    have e3 : (lkNums t).length = 3 := rfl
    simp only [List.length_cons, List.length_append, List.length_nil]
    omega
theorem svT_len {x y : Q4} (h : toldB (svNums x y) = true) : (svT x y).length ≤ 400 := by
  have a := nums_len (told_tn h)
  have e1 : (svNums x y).length = 8 := rfl
  unfold svT
  simp only [List.length_cons, List.length_append, List.length_nil]
  omega
theorem nums_le {ns : List Int} (h : ∀ n ∈ ns, TN n) {k : Nat} (hk : ns.length ≤ k) : (numsL ns).length ≤ 22 * k := by
  have := nums_len h
  omega
/-- All lines are short. -/
theorem cfgL_len {c : Cf} (h : okC c) : ∀ l ∈ cfgL c, l.length ≤ 400 := by
  intro l hl
  have tm := told_tn h.tm
  unfold cfgL at hl
  simp only [List.mem_cons, List.mem_append, List.mem_map] at hl
  rcases hl with rfl | rfl | ⟨t, ht, rfl⟩ | hl
  · have := nums_le (ns := [c.mn, c.mx]) (k := 2) (fun n hn => tm n (by simp at hn ⊢; omega)) (by simp)
    unfold l1T
    simp only [List.length_append, List.length_cons, List.length_nil]
    omega
  · have := nums_le (ns := [c.sw]) (k := 1) (fun n hn => tm n (by simp at hn ⊢; omega)) (by simp)
    unfold l2T
    simp only [List.length_append, List.length_cons, List.length_nil]
    omega
  · exact tkT_len (h.ts t ht)
  · obtain ⟨k, e⟩ := List.mem_iff_getElem?.1 hl
    rw [List.getElem?_zipWith] at e
    cases hx : c.ls[k]? with
    | none => rw [hx] at e; simp at e
    | some x =>
      cases hy : c.hs[k]? with
      | none => rw [hx, hy] at e; simp at e
      | some y =>
        rw [hx, hy] at e
        simp at e
        subst e
        exact svT_len (h.ls k x y hx hy)
/-- The first k lines' text. -/
def cfgK (c : Cf) (k : Nat) : List UInt8 := linesT ((cfgL c).take k)
theorem cfgK_len {c : Cf} (h : okC c) (k : Nat) : (cfgK c k).length ≤ 39300 := by
  have hl : (cfgL c).length ≤ 98 := by
    unfold cfgL
    have := h.nt
    have := h.nl
    have := h.nh
    simp only [List.length_cons, List.length_append, List.length_map, List.length_zipWith]
    omega
  have := lines_len (L := (cfgL c).take k) (fun l hl => cfgL_len h l (List.mem_of_mem_take hl))
  have h2 : ((cfgL c).take k).length ≤ (cfgL c).length := by rw [List.length_take]; omega
  unfold cfgK
  omega
theorem cfgK_succ {c : Cf} {k : Nat} {l : List UInt8} (h : (cfgL c)[k]? = some l) : cfgK c (k + 1) = cfgK c k ++ (l ++ [10]) := by
  unfold cfgK
  rw [List.take_add_one, h, Option.toList_some, lines_snoc]
theorem cfgK_head (c : Cf) (k : Nat) : (cfgK c (k + 1)).head? = some 116 := rfl
theorem cfgL_task {c : Cf} {k : Nat} {t : Tk} (h : c.ts[k]? = some t) : (cfgL c)[k + 2]? = some (tkT t) := by
  unfold cfgL
  rw [List.getElem?_cons_succ, List.getElem?_cons_succ, List.getElem?_append_left (by simp; exact (List.getElem?_eq_some_iff.1 h).1), List.getElem?_map, h]
  rfl
theorem cfgL_line {c : Cf} {k : Nat} {x y : Q4} (h : c.ls[k]? = some x) (h' : c.hs[k]? = some y) : (cfgL c)[c.ts.length + k + 2]? = some (svT x y) := by
  unfold cfgL
  rw [List.getElem?_cons_succ, List.getElem?_cons_succ, List.getElem?_append_right (by simp), List.length_map, Nat.add_sub_cancel_left, List.getElem?_zipWith, h, h']
theorem cfgK_all {c : Cf} (h : c.hs.length = c.ls.length) : cfgK c (c.ts.length + c.ls.length + 2) = cfgT c := by
  unfold cfgK cfgT
  rw [List.take_of_length_le (by unfold cfgL; simp only [List.length_cons, List.length_append, List.length_map, List.length_zipWith]; omega)]
end Go.Proofs.YtfneloplbkjbhaaDoor
