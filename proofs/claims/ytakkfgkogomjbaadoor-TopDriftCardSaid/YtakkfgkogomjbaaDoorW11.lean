/-
  The wheel: slices.SortFunc at timers.
-/
import Derived.Test.YtakkfgkogomjbaaDoorW10
namespace Go.Proofs.YtakkfgkogomjbaaDoor
open Go.RowKit Go.Sort
set_option linter.unusedVariables false
/-- Timers in memory. -/
def TmR (w : World) (A : Option Addr) (l : List Tm) : Prop := 0 < l.length → ∃ b, A = some ⟨b, 0, none⟩ ∧ b < w.heap.size ∧ ∀ k x, l[k]? = some x → ∀ o v, (encT x)[o]? = some v → w.cell? ⟨b, k * 3 + o, none⟩ = some v
theorem encT_len (l : List Tm) : (l.flatMap encT).length = l.length * 3 := by
  induction l with
  | nil => rfl
  | cons t r ih => rw [List.flatMap_cons, List.length_append, ih, List.length_cons]; simp [encT]; omega
theorem encT_at : ∀ (l : List Tm) (k o : Nat) (x : Tm), l[k]? = some x → o < 3 → (l.flatMap encT)[k * 3 + o]? = (encT x)[o]?
  | [], k, o, x, h, ho => by simp at h
  | t :: r, 0, o, x, h, ho => by
    simp at h
    subst h
    rw [List.flatMap_cons, List.getElem?_append_left (by simp [encT]; omega)]
    simp
  | t :: r, k + 1, o, x, h, ho => by
    rw [List.flatMap_cons, List.getElem?_append_right (by simp [encT]; omega)]
    have := encT_at r k o x (by simpa using h) ho
    rw [← this]
    congr 1
    simp [encT]
    omega
/-- What slices.SortFunc does with timers. -/
def SortOk : Prop := ∀ (A0 : Option Addr) (l : List Tm) (c base : Nat) (w : World), w.ownsRow base 100 3 (.slice A0 l.length c) l.length (l.flatMap encT) → l.length ≤ 4096 → (l.Pairwise fun a b => a.tn ≠ b.tn) →
    Calls Tryd.prog 52 #[.slice A0 l.length c, .func (.func 46) #[] #[]] w fun e w' => e = .returned (.tuple #[]) ∧ ∃ l', Srt l' ∧ l'.Perm l ∧ TmR w' A0 l' ∧ Below base w w'
end Go.Proofs.YtakkfgkogomjbaaDoor
