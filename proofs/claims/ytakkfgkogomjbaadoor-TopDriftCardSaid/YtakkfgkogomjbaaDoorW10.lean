/-
  The wheel's plain law: the order in which timers are told.
-/
import Derived.Test.YtakkfgkogomjbaaDoorW9
import Derived.Shelf.SlSortCmp.Insertion
namespace Go.Proofs.YtakkfgkogomjbaaDoor
open Go.RowKit Go.Sort
set_option linter.unusedVariables false
instance : Inhabited Tm := ⟨⟨0, 0, 0⟩⟩
/-- One comes ahead of another one. -/
def ltT (x y : Tm) : Prop := x.du < y.du ∨ (x.du = y.du ∧ x.tn < y.tn)
instance (x y : Tm) : Decidable (ltT x y) := by unfold ltT; infer_instance
theorem cfT_lt (x y : Tm) : cfT x y < 0 ↔ ltT x y := by
  unfold cfT cmpI ltT
  by_cases h1 : x.du < y.du
  · simp [h1]
  · by_cases h2 : y.du < x.du
    · simp [h1, h2]; omega
    · by_cases h3 : x.tn < y.tn
      · simp [h1, h2, h3]; omega
      · by_cases h4 : y.tn < x.tn
        · simp [h1, h2, h3, h4]
        · simp [h1, h2, h3, h4]
theorem cfT_neg (x y : Tm) : ltOf cfT x y = decide (ltT x y) := by
  unfold ltOf
  rw [Bool.eq_iff_iff, decide_eq_true_iff, decide_eq_true_iff]
  exact cfT_lt x y
theorem swoT : SWO (ltOf cfT) where
  irrefl x := by rw [cfT_neg]; exact decide_eq_false (by unfold ltT; omega)
  trans x y z h1 h2 := by
    rw [cfT_neg] at *
    have h1 := of_decide_eq_true h1
    have h2 := of_decide_eq_true h2
    exact decide_eq_true (by unfold ltT at *; omega)
  ntrans x y z h1 h2 := by
    rw [cfT_neg] at *
    have h1 := of_decide_eq_false h1
    have h2 := of_decide_eq_false h2
    exact decide_eq_false (by unfold ltT at *; omega)
/-- In the order in which they are told. -/
def Srt (l : List Tm) : Prop := l.Pairwise ltT
theorem ltT_asymm {x y : Tm} (h : ltT x y) (k : ltT y x) : False := by unfold ltT at h k; omega
theorem srt_eq {l m : List Tm} (hl : Srt l) (hm : Srt m) (h : l.Perm m) : l = m :=
  h.eq_of_pairwise (fun a b _ _ h1 h2 => (ltT_asymm h1 h2).elim) hl hm
theorem srt_filter {l : List Tm} (h : Srt l) (p : Tm → Bool) : Srt (l.filter p) := List.Pairwise.filter p h
/-- What the sort leaves. -/
theorem srt_of {d d' : Array Tm} (hp : PermIn 0 d.size d d') (hs : SortedIn (ltOf cfT) 0 d.size d') (hn : d.toList.Pairwise fun a b => a.tn ≠ b.tn) : Srt d'.toList ∧ d'.toList.Perm d.toList := by
  obtain ⟨h1, _, h2⟩ := hp
  have e1 : d.extract 0 d.size = d := by simp
  have e2 : d'.extract 0 d.size = d' := by rw [← h1]; simp
  rw [e1, e2] at h2
  refine ⟨?_, h2⟩
  have hn' : d'.toList.Pairwise fun a b => a.tn ≠ b.tn := (h2.pairwise_iff (fun {a b} h => h.symm)).2 hn
  refine List.pairwise_iff_getElem.2 fun i j hi hj hij => ?_
  have h3 := hs i j (by omega) hij (by simpa [h1] using hj)
  have h4 := List.pairwise_iff_getElem.1 hn' i j hi hj hij
  rw [cfT_neg] at h3
  simp only [Array.length_toList] at hi hj
  rw [getElem!_pos d' j hj, getElem!_pos d' i hi] at h3
  simp only [Array.getElem_toList] at h4 ⊢
  have h5 := of_decide_eq_false h3
  unfold ltT at h5 ⊢
  omega
/-- Where the law puts one in: behind all that are due no later. -/
def insT (l : List Tm) (x : Tm) : List Tm := l.filter (fun y => decide (y.du ≤ x.du)) ++ x :: l.filter (fun y => decide (x.du < y.du))
theorem srt_parts {l : List Tm} (h : Srt l) (t : Int) : l = l.filter (fun y => decide (y.du ≤ t)) ++ l.filter (fun y => decide (t < y.du)) := by
  induction l with
  | nil => rfl
  | cons x r ih =>
    have hr := (List.pairwise_cons.1 h).2
    have hx := (List.pairwise_cons.1 h).1
    by_cases hxt : x.du ≤ t
    · rw [List.filter_cons_of_pos (by simpa using hxt), List.filter_cons_of_neg (by simp; omega), List.cons_append, ← ih hr]
    · have hall : ∀ y ∈ r, t < y.du := fun y hy => by have := hx y hy; unfold ltT at this; omega
      rw [List.filter_cons_of_neg (by simpa using hxt), List.filter_cons_of_pos (by simp; omega), List.filter_eq_nil_iff.2 (fun y hy => by have := hall y hy; simp; omega), List.filter_eq_self.2 (fun y hy => by have := hall y hy; simpa using this), List.nil_append]
theorem srt_ins {l : List Tm} (h : Srt l) {x : Tm} (hx : ∀ y ∈ l, y.tn < x.tn) : Srt (insT l x) := by
  unfold insT
  refine List.pairwise_append.2 ⟨srt_filter h _, List.pairwise_cons.2 ⟨fun y hy => ?_, srt_filter h _⟩, fun a ha b hb => ?_⟩
  · have := (List.mem_filter.1 hy).2; simp at this; exact .inl this
  · obtain ⟨h1, h2⟩ := List.mem_filter.1 ha
    simp at h2
    rcases List.mem_cons.1 hb with rfl | hb
    · have := hx a h1; unfold ltT; omega
    · have := (List.mem_filter.1 hb).2; simp at this; unfold ltT; omega
theorem perm_ins {l A : List Tm} (h : l.Perm A) (hs : Srt l) (x : Tm) : (insT l x).Perm (A ++ [x]) := by
  have e := srt_parts hs x.du
  unfold insT
  refine List.perm_middle.trans ?_
  rw [← e]
  exact ((h.cons x).trans (List.perm_append_singleton x A).symm)
/-- What is told by a time, of what is left; and what is then left. -/
theorem told_parts {O A L : List Tm} {t : Int} (ho : Srt O) (hp : O.Perm A) (hl : Srt L) (hL : L.Perm (A.filter fun y => decide (y.du ≤ t))) : O = L ++ O.filter (fun y => decide (t < y.du)) ∧ (O.filter fun y => decide (t < y.du)).Perm (A.filter fun y => decide (t < y.du)) := by
  have e := srt_parts ho t
  have h1 : L = O.filter fun y => decide (y.du ≤ t) := srt_eq hl (srt_filter ho _) (hL.trans (hp.filter _).symm)
  exact ⟨by rw [h1]; exact e, hp.filter _⟩
end Go.Proofs.YtakkfgkogomjbaaDoor
