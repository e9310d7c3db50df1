/-
  Marks as text: the plain law.
-/
import Derived.Test.YtfneloplbkjbhaaDoorTM0
import Derived.Test.YtfneloplbkjbhaaDoorVm
namespace Go.Proofs.YtfneloplbkjbhaaDoor
open Go.Lib
set_option linter.unusedVariables false
/-- The kinds' words. -/
def words : List (List UInt8) := [[], [114, 101, 108, 101, 97, 115, 101], [100, 111, 110, 101], [108, 111, 115, 116], [101, 110, 116, 101, 114], [115, 101, 114, 118, 101, 100], [109, 101, 114, 103, 101, 100], [109, 97, 115, 107, 101, 100], [117, 110, 109, 97, 115, 107, 101, 100], [98, 111, 116, 116, 111, 109], [100, 114, 111, 112, 112, 101, 100], [114, 117, 110]]
def wordL (k : Nat) : List UInt8 := words.getD k []
/-- A mark is right. -/
def okM (q : QM) : Prop := 0 < q.b ∧ q.b < 12 ∧ 0 ≤ q.a ∧ q.a ≤ 4503599627370496 ∧ 0 ≤ q.c ∧ q.c ≤ 63 ∧ 0 ≤ q.d ∧ q.d ≤ 4503599627370496
instance (q : QM) : Decidable (okM q) := by unfold okM; exact inferInstance
def lineL (q : QM) : List UInt8 := itoa q.a ++ 32 :: (wordL q.b.toNat ++ 32 :: (itoa q.c ++ 32 :: itoa q.d))
def textL (l : List QM) : List UInt8 := l.flatMap fun q => lineL q ++ [10]
theorem word_no (k : Nat) : (32 : UInt8) ∉ wordL k ∧ (10 : UInt8) ∉ wordL k := by
  unfold wordL
  have h : ∀ l ∈ words, (32 : UInt8) ∉ l ∧ (10 : UInt8) ∉ l := by decide
  rcases Nat.lt_or_ge k words.length with hk | hk
  · rw [List.getD_eq_getElem?_getD, List.getElem?_eq_getElem hk]
    exact h _ (List.getElem_mem hk)
  · rw [List.getD_eq_getElem?_getD, List.getElem?_eq_none hk]
    simp
/-- Which kind a word is. -/
theorem word_inj {j k : Nat} (hj : j < 12) (hk : k < 12) (h : wordL j = wordL k) : j = k := by
  have : ∀ j : Fin 12, ∀ k : Fin 12, wordL j = wordL k → j = k := by decide
  have := this ⟨j, hj⟩ ⟨k, hk⟩ h
  injection this
theorem word_len (k : Nat) : (wordL k).length ≤ 8 := by
  unfold wordL
  have h : ∀ l ∈ words, l.length ≤ 8 := by decide
  rcases Nat.lt_or_ge k words.length with hk | hk
  · rw [List.getD_eq_getElem?_getD, List.getElem?_eq_getElem hk]
    exact h _ (List.getElem_mem hk)
  · rw [List.getD_eq_getElem?_getD, List.getElem?_eq_none hk]
    simp
theorem line_no {q : QM} (h : okM q) : (10 : UInt8) ∉ lineL q := by
  unfold lineL
  obtain ⟨_, _, h1, _, h2, _, h3, _⟩ := h
  simp only [List.mem_append, List.mem_cons, not_or]
  exact ⟨itoa_no h1 (by decide), by decide, (word_no _).2, by decide, itoa_no h2 (by decide), by decide, itoa_no h3 (by decide)⟩
theorem line_split {q : QM} (h : okM q) : countB (BA (lineL q)) (BA [32]) = 3 ∧ splitB (BA [32]) 0 3 (BA (lineL q)) = [BA (itoa q.a), BA (wordL q.b.toNat), BA (itoa q.c), BA (itoa q.d)] := by
  obtain ⟨_, _, h1, _, h2, _, h3, _⟩ := h
  exact split_four (itoa_no h1 (by decide)) (word_no _).1 (itoa_no h2 (by decide)) (itoa_no h3 (by decide))
theorem text_cons (q : QM) (l : List QM) : textL (q :: l) = lineL q ++ 10 :: textL l := by
  unfold textL
  rw [List.flatMap_cons, List.append_assoc]
  rfl
theorem text_snoc (l : List QM) (q : QM) : textL (l ++ [q]) = textL l ++ (lineL q ++ [10]) := by
  unfold textL
  rw [List.flatMap_append]
  simp
theorem text_cut {q : QM} (h : okM q) (l : List QM) : cut (textL (q :: l)) [10] = (lineL q, textL l, true) := by
  rw [text_cons]
  exact cut_at (line_no h)
theorem itoa_len {n : Int} (h0 : 0 ≤ n) (h1 : n ≤ 4503599627370496) : (itoa n).length ≤ 21 := itoa_length_le n (by omega) (by omega)
theorem line_len {q : QM} (h : okM q) : (lineL q).length ≤ 74 := by
  obtain ⟨_, _, h1, h1', h2, h2', h3, h3'⟩ := h
  have a := itoa_len h1 h1'
  have b := itoa_len h2 (by omega)
  have c := itoa_len h3 h3'
  have d := word_len q.b.toNat
  unfold lineL
  simp only [List.length_append, List.length_cons]
  omega
theorem text_len : ∀ {l : List QM}, (∀ q ∈ l, okM q) → (textL l).length ≤ 75 * l.length
  | [], _ => by simp [textL]
  | q :: l, h => by
    have h1 := line_len (h q (by simp))
    have h2 := text_len (l := l) (fun x hx => h x (by simp [hx]))
    rw [text_cons, List.length_append, List.length_cons, List.length_cons]
    omega
end Go.Proofs.YtfneloplbkjbhaaDoor
