/-
  TopJoined's plain law: what joining one more task does to what is looked at, and to the bound.
-/
import Derived.Test.YtfneloplbkjbhaaN10
namespace Go.Proofs.Ytfneloplbkjbhaa
open Go.RowKit
set_option linter.unusedVariables false
theorem ixF_zero {α : Type} (p : Int) (f : α → Int) (l : List α) : (∀ x ∈ ixF p f l l.length, x.y = 0) ↔ ∀ a ∈ l, f a = 0 := by
  constructor
  · intro h a ha
    obtain ⟨k, hk⟩ := mem_ixF (p := p) (f := f) ha
    exact h _ hk
  · intro h x hx
    obtain ⟨k, hk, rfl⟩ := List.mem_map.1 hx
    have hk' := List.mem_range.1 hk
    show (l[k]?.map f).getD 0 = 0
    rw [List.getElem?_eq_getElem hk']
    exact h _ (List.getElem_mem hk')
theorem prF_zero (ps : List Int) : (∀ x ∈ prF ps ps.length, x.y = 0) ↔ ps.Nodup := by
  constructor
  · intro h
    refine List.pairwise_iff_getElem.2 fun i j hi hj hij e => ?_
    have h1 := h ⟨7, (j : Int), if (ps.take j).contains (ps[j]?.getD 0) then 12 else 0⟩ (List.mem_map.2 ⟨j, List.mem_range.2 hj, rfl⟩)
    have h2 : (ps.take j).contains (ps[j]?.getD 0) = true := by
      rw [List.getElem?_eq_getElem hj]
      show (ps.take j).contains ps[j] = true
      rw [← e]
      refine List.contains_iff_mem.2 (List.mem_iff_getElem?.2 ⟨i, ?_⟩)
      rw [List.getElem?_take_of_lt hij, List.getElem?_eq_getElem hi]
    simp only [h2, if_true] at h1
    omega
  · intro h x hx
    obtain ⟨j, hj, rfl⟩ := List.mem_map.1 hx
    have hj' := List.mem_range.1 hj
    show (if (ps.take j).contains (ps[j]?.getD 0) then (12 : Int) else 0) = 0
    rw [if_neg]
    intro hc
    obtain ⟨i, hi⟩ := List.mem_iff_getElem?.1 (List.contains_iff_mem.1 hc)
    have hil : i < (ps.take j).length := (List.getElem?_eq_some_iff.1 hi).1
    rw [List.length_take] at hil
    rw [List.getElem?_take_of_lt (by omega), List.getElem?_eq_getElem hj', List.getElem?_eq_getElem (show i < ps.length by omega)] at hi
    injection hi with hi
    exact List.pairwise_iff_getElem.1 h i j (by omega) hj' (by omega) hi
theorem allz_iff (c : Cf) : (∀ x ∈ allF c, x.y = 0) ↔ (tmE c.mn c.mx = 0 ∧ chE c.sw = 0 ∧ maE c = 0) ∧ (∀ t ∈ c.ts, tkE t c.sw = 0) ∧ (∀ l ∈ c.ls, lnE' l = 0) ∧ (∀ x ∈ c.hs, thE' x = 0) ∧ (psC c).Nodup := by
  rw [← ixF_zero 4 (fun t => tkE t c.sw) c.ts, ← ixF_zero 5 lnE' c.ls, ← ixF_zero 6 thE' c.hs, ← prF_zero]
  unfold allF hdF
  constructor
  · intro h
    refine ⟨⟨h ⟨1, 0, tmE c.mn c.mx⟩ (by simp), h ⟨2, 0, chE c.sw⟩ (by simp), h ⟨3, 0, maE c⟩ (by simp)⟩, fun x hx => h x ?_, fun x hx => h x ?_, fun x hx => h x ?_, fun x hx => h x ?_⟩ <;> simp only [List.mem_append] <;> simp [hx]
  · rintro ⟨⟨h1, h2, h3⟩, h4, h5, h6, h7⟩ x hx
    simp only [List.mem_append] at hx
    rcases hx with (((hx | hx) | hx) | hx) | hx
    · simp at hx
      rcases hx with rfl | rfl | rfl
      · exact h1
      · exact h2
      · exact h3
    · exact h4 x hx
    · exact h5 x hx
    · exact h6 x hx
    · exact h7 x hx
/-- Permuted tasks are all right together. -/
theorem allz_perm {c : Cf} {us : List Tk} (h : us.Perm c.ts) : (∀ x ∈ allF { c with ts := us }, x.y = 0) ↔ (∀ x ∈ allF c, x.y = 0) := by
  rw [allz_iff, allz_iff]
  have h1 : maE { c with ts := us } = maE c := by unfold maE; simp only [h.length_eq]
  have h2 : (psC { c with ts := us }).Perm (psC c) := by unfold psC; exact (h.map _).append_right _
  rw [h1, h2.nodup_iff]
  simp only [h.mem_iff]
theorem ceil_perm {us ts : List Tk} (h : us.Perm ts) (r : Int) : ceil us r = ceil ts r := by
  unfold ceil
  refine h.foldl_eq' (fun x _ y _ z => ?_) 0
  unfold ceilF
  split <;> split <;> omega
theorem blk_perm {us ts : List Tk} (h : us.Perm ts) (p : Int) : blk us p = blk ts p := by
  have e : blkF p us = blkF p ts := by
    funext m t
    unfold blkF
    rw [ceil_perm h]
  unfold blk
  rw [e]
  refine h.foldl_eq' (fun x _ y _ z => ?_) 0
  unfold blkF
  repeat' split
  all_goals first | rfl | omega
theorem tfold_mono {f g : Int → Tk → Int} (h : ∀ m m' t, m ≤ m' → f m t ≤ g m' t) : ∀ (ts : List Tk) (m m' : Int), m ≤ m' → ts.foldl f m ≤ ts.foldl g m'
  | [], m, m', hm => hm
  | t :: r, m, m', hm => tfold_mono h r _ _ (h _ _ t hm)
theorem ceil_more (ts : List Tk) (t : Tk) (r : Int) : ceil ts r ≤ ceil (ts ++ [t]) r := by
  unfold ceil
  rw [List.foldl_append]
  show _ ≤ ceilF r _ t
  unfold ceilF
  split <;> omega
theorem blk_more (ts : List Tk) (t : Tk) (p : Int) : blk ts p ≤ blk (ts ++ [t]) p := by
  have h1 : ts.foldl (blkF p ts) 0 ≤ ts.foldl (blkF p (ts ++ [t])) 0 := by
    refine tfold_mono (fun m m' u hm => ?_) ts 0 0 (Int.le_refl _)
    have := ceil_more ts t u.g
    unfold blkF
    split <;> (try split) <;> (try split) <;> omega
  unfold blk
  rw [List.foldl_append]
  refine Int.le_trans h1 ?_
  show _ ≤ blkF p _ _ t
  generalize ts.foldl (blkF p (ts ++ [t])) 0 = m
  unfold blkF
  split <;> (try split) <;> omega
theorem urg_perm {c : Cf} {us : List Tk} (h : us.Perm c.ts) (p : Int) : (urg { c with ts := us } p us).Perm (urg c p c.ts) := (h.filter _).map _
/-- The bound is the same where the tasks are permuted. -/
theorem bnd_perm {c : Cf} {us : List Tk} (h : us.Perm c.ts) (x : Tk) : bndE { c with ts := us } x = bndE c x ∧ bndV { c with ts := us } x = bndV c x := by
  have hb : bas { c with ts := us } x = bas c x := by unfold bas; rw [blk_perm h]
  have hl : (bndL { c with ts := us } x).Perm (bndL c x) := (urg_perm h x.p).append_right _
  have h1 := st_perm hl (bas c x) (x.d - lagV c.mn x)
  have he : bndE { c with ts := us } x = bndE c x := by unfold bndE; rw [hb, h1.1]
  refine ⟨he, ?_⟩
  unfold bndV
  rw [he, hb, h1.2]
/-- With one more task the bound is no less. -/
theorem bnd_more {c : Cf} (t x : Tk) (h1 : bndE c x = 0) (h2 : bndE { c with ts := c.ts ++ [t] } x = 0) : bndV c x ≤ bndV { c with ts := c.ts ++ [t] } x := by
  have hb : bas c x ≤ bas { c with ts := c.ts ++ [t] } x := by unfold bas; have := blk_more c.ts t x.p; simp only; omega
  obtain ⟨m, hm⟩ : ∃ m, (bndL c x ++ m).Perm (bndL { c with ts := c.ts ++ [t] } x) := by
    refine ⟨(if x.p < t.p then [ldT c t] else []), ?_⟩
    have hu : urg { c with ts := c.ts ++ [t] } x.p (c.ts ++ [t]) = urg c x.p c.ts ++ (if x.p < t.p then [ldT c t] else []) := by
      unfold urg
      rw [List.filter_append, List.map_append]
      by_cases hp : x.p < t.p
      · simp [hp]; exact ⟨fun _ _ _ => rfl, rfl⟩
      · simp [hp]; exact fun _ _ _ => rfl
    unfold bndL
    simp only
    rw [hu, List.append_assoc, List.append_assoc]
    exact (List.perm_append_comm).append_left _
  have k1 : stE (bas c x) (bndL c x) (x.d - lagV c.mn x) = 0 := by
    unfold bndE at h1
    split at h1
    · omega
    split at h1
    · omega
    · exact h1
  have k2 : stE (bas { c with ts := c.ts ++ [t] } x) (bndL { c with ts := c.ts ++ [t] } x) (x.d - lagV c.mn x) = 0 := by
    unfold bndE at h2
    split at h2
    · omega
    split at h2
    · omega
    · exact h2
  have p1 := st_perm hm (bas { c with ts := c.ts ++ [t] } x) (x.d - lagV c.mn x)
  have k3 := so_more (m := m) hb k1 (p1.1.trans k2)
  unfold bndV
  rw [if_neg (by omega), if_neg (by omega)]
  rw [p1.2] at k3
  simp only
  omega
end Go.Proofs.Ytfneloplbkjbhaa
