/-
  Numerals, lines and their parts as bytes: the plain law of marks as text.
-/
import Derived.Test.YtfneloplbkjbhaaDoorVk
import Derived.Lib.Split
import Derived.Lib.ParseIntB
import Derived.Lib.ItoaNum
import Derived.Lib.ItoaLen
import Derived.Test.YtfneloplbkjbhaaDoorVm
namespace Go.Proofs.YtfneloplbkjbhaaDoor
open Go.Lib
set_option linter.unusedVariables false
theorem dig_byte (k : Nat) (h : k < 10) : (UInt8.ofNat (48 + k)).toNat = 48 + k := by
  rw [UInt8.toNat_ofNat']
  omega
theorem dig_bytes (u : Nat) : ∀ b ∈ decDigits u, 48 ≤ b.toNat ∧ b.toNat ≤ 57 := by
  induction u using Nat.strongRecOn with
  | _ u ih =>
    intro b hb
    rw [decDigits] at hb
    split at hb
    · rename_i h
      rw [List.mem_singleton] at hb
      subst hb
      rw [dig_byte u h]
      omega
    · rename_i h
      rcases List.mem_append.1 hb with hb | hb
      · exact ih (u / 10) (by omega) b hb
      · rw [List.mem_singleton] at hb
        subst hb
        rw [dig_byte _ (Nat.mod_lt _ (by decide))]
        omega
theorem dig_ne (u : Nat) : decDigits u ≠ [] := by
  rw [decDigits]
  split
  · simp
  · simp
theorem parse_app (M : Nat) (r : List UInt8) : ∀ (l : List UInt8) (acc a : Nat), parseUintM M acc l = .ok a → parseUintM M acc (l ++ r) = parseUintM M a r
  | [], acc, a, h => by simp only [parseUintM, NumEnd.ok.injEq] at h; rw [h]; rfl
  | c :: l, acc, a, h => by
    rw [List.cons_append]
    rw [parseUintM]
    rw [parseUintM] at h
    split at h
    · rename_i h1
      rw [if_pos h1]
      split at h
      · cases h
      · rename_i h2
        rw [if_neg h2]
        split at h
        · cases h
        · rename_i h3
          rw [if_neg h3]
          exact parse_app M r l _ a h
    · cases h
theorem parse_dig {M : Nat} (hM : M ≤ 18446744073709551615) (u : Nat) : u ≤ M → parseUintM M 0 (decDigits u) = .ok u := by
  induction u using Nat.strongRecOn with
  | _ u ih =>
    intro hu
    rw [decDigits]
    split
    · rename_i h
      unfold parseUintM
      rw [dig_byte u h, if_pos (by omega), if_neg (by decide), if_neg (by omega)]
      simp [parseUintM]
    · rename_i h
      rw [parse_app M _ _ 0 (u / 10) (ih (u / 10) (by omega) (by omega))]
      unfold parseUintM
      rw [dig_byte _ (Nat.mod_lt _ (by decide)), if_pos (by omega), if_neg (by omega), if_neg (by omega)]
      simp only [parseUintM, NumEnd.ok.injEq]
      omega
theorem itoa_nat {n : Int} (h : 0 ≤ n) : itoa n = decDigits n.toNat := by unfold itoa; rw [if_neg (by omega)]
/-- What a numeral spells. -/
theorem parse_itoa {n : Int} (h0 : 0 ≤ n) (h1 : n ≤ 4503599627370496) : parseIntB 64 (itoa n) = .ok n := by
  rw [itoa_nat h0]
  cases hl : decDigits n.toNat with
  | nil => exact absurd hl (dig_ne _)
  | cons c r =>
    have hc := dig_bytes n.toNat c (by rw [hl]; simp)
    have hp := parse_dig (M := 2 ^ 64 - 1) (by decide) n.toNat (by omega)
    rw [hl] at hp
    unfold parseIntB
    simp only
    rw [if_neg (by omega)]
    unfold parseUintB
    rw [if_neg (by simp), hp]
    simp only
    rw [if_neg (by omega), if_neg (by omega), if_neg (by omega)]
    congr 1
    omega
theorem itoa_no {n : Int} (h : 0 ≤ n) {c : UInt8} (hc : c.toNat < 48) : c ∉ itoa n := by
  rw [itoa_nat h]
  intro hm
  have := dig_bytes _ c hm
  omega
/-- Bytes as a string. -/
abbrev BA (l : List UInt8) : ByteArray := ⟨l.toArray⟩
theorem index_skip {c : UInt8} (r : List UInt8) : ∀ {a : List UInt8}, c ∉ a → index (a ++ c :: r) [c] = (a.length : Int)
  | [], _ => by simp [index, List.isPrefixOf]
  | b :: a, h => by
    rw [List.mem_cons, not_or] at h
    have ih := index_skip r h.2
    rw [List.cons_append]
    unfold index
    rw [ih]
    have h1 : ([c].isPrefixOf (b :: (a ++ c :: r))) = false := by simp [List.isPrefixOf, h.1]
    have h2 : ((a.length : Int) == -1) = false := by rw [beq_eq_false_iff_ne]; omega
    rw [h1, h2]
    simp
theorem index_no {c : UInt8} : ∀ {a : List UInt8}, c ∉ a → index a [c] = -1
  | [], _ => by simp [index]
  | b :: a, h => by
    rw [List.mem_cons, not_or] at h
    have ih := index_no h.2
    unfold index
    rw [ih]
    have h1 : ([c].isPrefixOf (b :: a)) = false := by simp [List.isPrefixOf, h.1]
    rw [h1]
    simp
theorem cut_at {c : UInt8} {a r : List UInt8} (h : c ∉ a) : cut (a ++ c :: r) [c] = (a, r, true) := by
  unfold cut
  rw [index_skip r h, if_pos (by omega)]
  simp
theorem ext_fst (a r : List UInt8) (c : UInt8) : (BA (a ++ c :: r)).extract 0 (a.length + 0) = BA a := by
  apply ByteArray.ext
  simp [ByteArray.extract, ByteArray.copySlice]
theorem ext_snd (a r : List UInt8) (c : UInt8) : (BA (a ++ c :: r)).extract (a.length + (BA [c]).size) (BA (a ++ c :: r)).size = BA r := by
  apply ByteArray.ext
  apply Array.ext'
  rw [Go.Lib.extract_data]
  simp [ByteArray.size, List.drop_append]
  rw [List.drop_eq_nil_of_le (by omega), List.nil_append, List.take_of_length_le (by omega)]
theorem split_hit {c : UInt8} {a r : List UInt8} (h : c ∉ a) : countB (BA (a ++ c :: r)) (BA [c]) = 1 + countB (BA r) (BA [c]) ∧ ∀ k, splitB (BA [c]) 0 (k + 1) (BA (a ++ c :: r)) = BA a :: splitB (BA [c]) 0 k (BA r) := by
  have hi : indexB (BA (a ++ c :: r)) (BA [c]) = (a.length : Int) := index_skip r h
  constructor
  · rw [countB_hit (BA (a ++ c :: r)) (BA [c]) a.length (Nat.le_refl 1) hi, ext_snd]
  · intro k
    rw [splitB_hit (BA [c]) 0 k (BA (a ++ c :: r)) a.length hi, ext_fst, ext_snd]
theorem split_none {c : UInt8} {a : List UInt8} (h : c ∉ a) : countB (BA a) (BA [c]) = 0 ∧ ∀ k, splitB (BA [c]) 0 k (BA a) = [BA a] := by
  have hi : indexB (BA a) (BA [c]) = -1 := index_no h
  exact ⟨countB_miss _ _ hi, fun k => splitB_miss _ _ _ _ hi⟩
/-- Four parts that are parted by one byte. -/
theorem split_four {c : UInt8} {a b d e : List UInt8} (ha : c ∉ a) (hb : c ∉ b) (hd : c ∉ d) (he : c ∉ e) :
    countB (BA (a ++ c :: (b ++ c :: (d ++ c :: e)))) (BA [c]) = 3 ∧ splitB (BA [c]) 0 3 (BA (a ++ c :: (b ++ c :: (d ++ c :: e)))) = [BA a, BA b, BA d, BA e] := by
  obtain ⟨a1, a2⟩ := split_hit (r := b ++ c :: (d ++ c :: e)) ha
  obtain ⟨b1, b2⟩ := split_hit (r := d ++ c :: e) hb
  obtain ⟨d1, d2⟩ := split_hit (r := e) hd
  obtain ⟨e1, e2⟩ := split_none he
  exact ⟨by rw [a1, b1, d1, e1], by rw [a2 2, b2 1, d2 0, e2 0]⟩
end Go.Proofs.YtfneloplbkjbhaaDoor
namespace Go.Proofs.YtfneloplbkjbhaaDoor
open Go.Lib
set_option linter.unusedVariables false
/-- The kinds' words. -/
def words : List (List UInt8) := [[], [114, 101, 108, 101, 97, 115, 101], [100, 111, 110, 101], [108, 111, 115, 116], [101, 110, 116, 101, 114], [115, 101, 114, 118, 101, 100], [109, 101, 114, 103, 101, 100], [109, 97, 115, 107, 101, 100], [117, 110, 109, 97, 115, 107, 101, 100], [98, 111, 116, 116, 111, 109], [100, 114, 111, 112, 112, 101, 100], [114, 117, 110]]
def wordL (k : Nat) : List UInt8 := words.getD k []
/-- A mark is right. -/
def okM (q : QM) : Prop := 0 < q.b ∧ q.b < 12 ∧ 0 ≤ q.a ∧ q.a ≤ 4503599627370496 ∧ 0 ≤ q.c ∧ q.c ≤ 63 ∧ 0 ≤ q.d ∧ q.d ≤ 4503599627370496
instance (q : QM) : Decidable (okM q) := by unfold okM; exact inferInstance
def lineL (q : QM) : List UInt8 := itoa q.a ++ 32 :: (wordL q.b.toNat ++ 32 :: (itoa q.c ++ 32 :: itoa q.d))
def textL (l : List QM) : List UInt8 := l.flatMap fun q => lineL q ++ [10]
theorem word_no (k : Nat) : (32 : UInt8) ∉ wordL k ∧ (10 : UInt8) ∉ wordL k := by
  unfold wordL
  have h : ∀ l ∈ words, (32 : UInt8) ∉ l ∧ (10 : UInt8) ∉ l := by decide
  rcases Nat.lt_or_ge k words.length with hk | hk
  · rw [List.getD_eq_getElem?_getD, List.getElem?_eq_getElem hk]
    exact h _ (List.getElem_mem hk)
  · rw [List.getD_eq_getElem?_getD, List.getElem?_eq_none hk]
    simp
/-- Which kind a word is. -/
theorem word_inj {j k : Nat} (hj : j < 12) (hk : k < 12) (h : wordL j = wordL k) : j = k := by
  have : ∀ j : Fin 12, ∀ k : Fin 12, wordL j = wordL k → j = k := by decide
  have := this ⟨j, hj⟩ ⟨k, hk⟩ h
  injection this
theorem word_len (k : Nat) : (wordL k).length ≤ 8 := by
  unfold wordL
  have h : ∀ l ∈ words, l.length ≤ 8 := by decide
  rcases Nat.lt_or_ge k words.length with hk | hk
  · rw [List.getD_eq_getElem?_getD, List.getElem?_eq_getElem hk]
    exact h _ (List.getElem_mem hk)
  · rw [List.getD_eq_getElem?_getD, List.getElem?_eq_none hk]
    simp
theorem line_no {q : QM} (h : okM q) : (10 : UInt8) ∉ lineL q := by
  unfold lineL
  obtain ⟨_, _, h1, _, h2, _, h3, _⟩ := h
  simp only [List.mem_append, List.mem_cons, not_or]
  exact ⟨itoa_no h1 (by decide), by decide, (word_no _).2, by decide, itoa_no h2 (by decide), by decide, itoa_no h3 (by decide)⟩
theorem line_split {q : QM} (h : okM q) : countB (BA (lineL q)) (BA [32]) = 3 ∧ splitB (BA [32]) 0 3 (BA (lineL q)) = [BA (itoa q.a), BA (wordL q.b.toNat), BA (itoa q.c), BA (itoa q.d)] := by
  obtain ⟨_, _, h1, _, h2, _, h3, _⟩ := h
  exact split_four (itoa_no h1 (by decide)) (word_no _).1 (itoa_no h2 (by decide)) (itoa_no h3 (by decide))
theorem text_cons (q : QM) (l : List QM) : textL (q :: l) = lineL q ++ 10 :: textL l := by
  unfold textL
  rw [List.flatMap_cons, List.append_assoc]
  rfl
theorem text_snoc (l : List QM) (q : QM) : textL (l ++ [q]) = textL l ++ (lineL q ++ [10]) := by
  unfold textL
  rw [List.flatMap_append]
  simp
theorem text_cut {q : QM} (h : okM q) (l : List QM) : cut (textL (q :: l)) [10] = (lineL q, textL l, true) := by
  rw [text_cons]
  exact cut_at (line_no h)
theorem itoa_len {n : Int} (h0 : 0 ≤ n) (h1 : n ≤ 4503599627370496) : (itoa n).length ≤ 21 := itoa_length_le n (by omega) (by omega)
theorem line_len {q : QM} (h : okM q) : (lineL q).length ≤ 74 := by
  obtain ⟨_, _, h1, h1', h2, h2', h3, h3'⟩ := h
  have a := itoa_len h1 h1'
  have b := itoa_len h2 (by omega)
  have c := itoa_len h3 h3'
  have d := word_len q.b.toNat
  unfold lineL
  simp only [List.length_append, List.length_cons]
  omega
theorem text_len : ∀ {l : List QM}, (∀ q ∈ l, okM q) → (textL l).length ≤ 75 * l.length
  | [], _ => by simp [textL]
  | q :: l, h => by
    have h1 := line_len (h q (by simp))
    have h2 := text_len (l := l) (fun x hx => h x (by simp [hx]))
    rw [text_cons, List.length_append, List.length_cons, List.length_cons]
    omega
end Go.Proofs.YtfneloplbkjbhaaDoor
