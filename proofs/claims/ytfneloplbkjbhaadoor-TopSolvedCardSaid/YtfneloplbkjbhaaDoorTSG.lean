/-
  A configuration is read again: how far it is read behind some lines; a line of it, whenever it comes.
-/
import Derived.Test.YtfneloplbkjbhaaDoorTSD
namespace Go.Proofs.YtfneloplbkjbhaaDoor
open Go.RowKit Go.Shelf
open Go.Lib (byteCells itoa)
set_option linter.unusedVariables false
/-- What is read behind k lines. -/
def dK (c : Cf) (k : Nat) : Rd := ⟨if 1 ≤ k then c.mn else 0, if 1 ≤ k then c.mx else 0, if 2 ≤ k then c.sw else 0, c.ts.take (k - 2), c.ls.take (k - 2 - c.ts.length), c.hs.take (k - 2 - c.ts.length), (k : Int)⟩
/-- A configuration that may be told, its tasks' kinds no negative numbers. -/
structure okCC (c : Cf) : Prop where
  ok : okC c
  kd : ∀ t ∈ c.ts, 0 ≤ t.k
theorem okCC.tk {c : Cf} (h : okCC c) {t : Tk} (ht : t ∈ c.ts) : okTk t := by
  obtain ⟨h1, h2, h3, h4, h5⟩ := odd_parts (h.ok.ts t ht)
  have := h.kd t ht
  exact ⟨by omega, h3, h4, h5⟩
theorem nums_no10 {ns : List Int} (h : ∀ n ∈ ns, TN n) : (10 : UInt8) ∉ numsL ns := by
  unfold numsL
  intro hm
  obtain ⟨n, hn, hx⟩ := List.mem_flatMap.1 hm
  rcases List.mem_cons.1 hx with hx | hx
  · cases hx
  · exact itoa_no (h n hn).1 (by decide) hx
/-- A line's kind. -/
theorem line_kind {c : Cf} {l : List UInt8} (h : l ∈ cfgL c) : l = l1T c.mn c.mx ∨ l = l2T c.sw ∨ (∃ t ∈ c.ts, l = tkT t) ∨ ∃ (k : Nat) (x y : Q4), c.ls[k]? = some x ∧ c.hs[k]? = some y ∧ l = svT x y := by
  unfold cfgL at h
  simp only [List.mem_cons, List.mem_append, List.mem_map] at h
  rcases h with rfl | rfl | ⟨t, ht, rfl⟩ | h
  · exact .inl rfl
  · exact .inr (.inl rfl)
  · exact .inr (.inr (.inl ⟨t, ht, rfl⟩))
  · obtain ⟨k, e⟩ := List.mem_iff_getElem?.1 h
    rw [List.getElem?_zipWith] at e
    cases hx : c.ls[k]? with
    | none => rw [hx] at e; simp at e
    | some x =>
      cases hy : c.hs[k]? with
      | none => rw [hx, hy] at e; simp at e
      | some y =>
        rw [hx, hy] at e
        simp at e
        exact .inr (.inr (.inr ⟨k, x, y, hx, hy, e.symm⟩))
theorem cfg_no10 {c : Cf} (h : okCC c) : ∀ l ∈ cfgL c, (10 : UInt8) ∉ l := by
  intro l hl
  have tm := told_tn h.ok.tm
  rcases line_kind hl with rfl | rfl | ⟨t, ht, rfl⟩ | ⟨k, x, y, hx, hy, rfl⟩
  · unfold l1T
    rw [List.mem_append, not_or]
    exact ⟨by decide, nums_no10 fun n hn => tm n (by simp at hn ⊢; omega)⟩
  · unfold l2T
    rw [List.mem_append, not_or]
    exact ⟨by decide, nums_no10 fun n hn => tm n (by simp at hn ⊢; omega)⟩
  · have ho := h.tk ht
    unfold tkT
    rw [List.mem_append, List.mem_append, not_or, not_or]
    refine ⟨⟨?_, nums_no10 ho.n⟩, ?_⟩
    · unfold tkWord
      split <;> decide
    · split
      · simp
      · rw [List.mem_cons, List.mem_append, not_or, not_or]
        exact ⟨by decide, by decide, nums_no10 (ho.l (by omega))⟩
  · unfold svT
    rw [List.mem_append, not_or]
    exact ⟨by decide, nums_no10 (told_tn (h.ok.ls k x y hx hy))⟩
/-- How much there may be behind k lines. -/
structure Lens (d : Rd) (k : Nat) : Prop where
  a : d.at' = (k : Int)
  t : d.ts.length ≤ k
  l : d.ls.length ≤ k
  h : d.hs.length ≤ k
theorem Lens.dK (c : Cf) (k : Nat) : Lens (dK c k) k :=
  ⟨rfl, by show (c.ts.take (k - 2)).length ≤ k; rw [List.length_take]; omega, by show (c.ls.take (k - 2 - c.ts.length)).length ≤ k; rw [List.length_take]; omega, by show (c.hs.take (k - 2 - c.ts.length)).length ≤ k; rw [List.length_take]; omega⟩
theorem AddRes.cast {B g : Nat} {d d' : Rd} {ok ok' : Bool} {w w' : World} {e : Ending} (h : AddRes B g d ok w e w') (hd : d = d') (ho : ok = ok') : AddRes B g d' ok' w e w' := by
  subst hd ho
  exact h
/-- The line that is to come. -/
theorem add_right {c : Cf} (hc : okCC c) {B g k : Nat} {l : List UInt8} {vt vl vh : Value} {w : World} (hl : (cfgL c)[k]? = some l) (hRD : RD B g (dK c k) vt vl vh w) (EN : EnvS g w) (hgB : g < B) (hBw : B ≤ w.heap.size) :
    Calls Tryd.prog 33 #[.pointer (some ⟨g, 0, none⟩), .string (BA l)] w (AddRes B g (dK c (k + 1)) true w) := by
  have tm := told_tn hc.ok.tm
  have nt := hc.ok.nt
  have nl := hc.ok.nl
  have nh := hc.ok.nh
  have hll : l.length ≤ 65536 := by have := cfgL_len hc.ok l (List.mem_of_getElem? hl); omega
  match k, hl, hRD with
  | 0, hl, hRD =>
    obtain rfl : l1T c.mn c.mx = l := Option.some.inj hl
    have hd : dK c 0 = ⟨0, 0, 0, [], [], [], 0⟩ := by simp [dK]
    rw [hd] at hRD
    exact (add_timing B g c.mn c.mx 0 0 0 0 [] [] [] vt vl vh true w hRD EN hgB hBw (tm _ (by simp)) (tm _ (by simp)) (by omega) (by omega) rfl).mono fun e w' h => h.cast (by simp [dK]) rfl
  | 1, hl, hRD =>
    obtain rfl : l2T c.sw = l := Option.some.inj hl
    have hd : dK c 1 = ⟨c.mn, c.mx, 0, [], [], [], 1⟩ := by simp [dK]
    rw [hd] at hRD
    exact (add_switch B g c.mn c.mx c.sw 0 1 [] [] [] vt vl vh true w hRD EN hgB hBw (tm _ (by simp)) (by omega) (by omega) rfl).mono fun e w' h => h.cast (by simp [dK]) rfl
  | k + 2, hl, hRD =>
    by_cases hk : k < c.ts.length
    · obtain ⟨t, ht⟩ : ∃ t, c.ts[k]? = some t := ⟨c.ts[k], List.getElem?_eq_getElem _⟩
      rw [cfgL_task ht] at hl
      obtain rfl := Option.some.inj hl
      have hd : dK c (k + 2) = ⟨c.mn, c.mx, c.sw, c.ts.take k, [], [], ((k : Int) + 2)⟩ := by
        unfold dK
        rw [if_pos (by omega), if_pos (by omega), if_pos (by omega), show k + 2 - 2 = k from by omega, show k - c.ts.length = 0 from by omega]
        simp
      have hd2 : dK c (k + 2 + 1) = ⟨c.mn, c.mx, c.sw, c.ts.take k ++ [t], [], [], ((k : Int) + 2 + 1)⟩ := by
        unfold dK
        rw [if_pos (by omega), if_pos (by omega), if_pos (by omega), show k + 2 + 1 - 2 = k + 1 from by omega, show k + 1 - c.ts.length = 0 from by omega, List.take_add_one, ht]
        simp
      have e1 : (c.ts.take k).length = k := by rw [List.length_take]; omega
      rw [hd] at hRD
      refine (add_task B g c.mn c.mx c.sw ((k : Int) + 2) (c.ts.take k) [] [] t vt vl vh w hRD EN hgB hBw (hc.tk (List.mem_of_getElem? ht)) (by omega) (by simp) (by omega) (by omega) hll).mono fun e w' h => h.cast hd2.symm ?_
      rw [e1]
      simp
      omega
    · have hlt : k + 2 < (cfgL c).length := (List.getElem?_eq_some_iff.1 hl).1
      unfold cfgL at hlt
      simp only [List.length_cons, List.length_append, List.length_map, List.length_zipWith] at hlt
      obtain ⟨j, rfl⟩ : ∃ j, k = c.ts.length + j := ⟨k - c.ts.length, by omega⟩
      obtain ⟨x, hx⟩ := some_at (show j < c.ls.length by omega)
      obtain ⟨y, hy⟩ := some_at (show j < c.hs.length by omega)
      rw [cfgL_line hx hy] at hl
      obtain rfl := Option.some.inj hl
      have et : c.ts.take (c.ts.length + j) = c.ts := List.take_of_length_le (by omega)
      have et1 : c.ts.take (c.ts.length + j + 1) = c.ts := List.take_of_length_le (by omega)
      have hd : dK c (c.ts.length + j + 2) = ⟨c.mn, c.mx, c.sw, c.ts, c.ls.take j, c.hs.take j, ((c.ts.length : Int) + j + 2)⟩ := by
        unfold dK
        rw [if_pos (by omega), if_pos (by omega), if_pos (by omega), show c.ts.length + j + 2 - 2 = c.ts.length + j from by omega, show c.ts.length + j - c.ts.length = j from by omega, et]
        simp
      have hd2 : dK c (c.ts.length + j + 2 + 1) = ⟨c.mn, c.mx, c.sw, c.ts, c.ls.take j ++ [x], c.hs.take j ++ [y], ((c.ts.length : Int) + j + 2 + 1)⟩ := by
        unfold dK
        rw [if_pos (by omega), if_pos (by omega), if_pos (by omega), show c.ts.length + j + 2 + 1 - 2 = c.ts.length + j + 1 from by omega, show c.ts.length + j + 1 - c.ts.length = j + 1 from by omega, et1, List.take_add_one, List.take_add_one, hx, hy]
        simp
      have e1 : (c.ls.take j).length ≤ 64 := by rw [List.length_take]; omega
      have e2 : (c.hs.take j).length ≤ 64 := by rw [List.length_take]; omega
      have e3 : decide ((c.ls.take j).length < 64) = true := by rw [List.length_take]; simp; omega
      have htn := told_tn (hc.ok.ls j x y hx hy)
      rw [hd] at hRD
      obtain ⟨xa, xb, xc, xd⟩ := x
      obtain ⟨ya, yb, yc, yd⟩ := y
      exact (add_line B g c.mn c.mx c.sw ((c.ts.length : Int) + j + 2) c.ts (c.ls.take j) (c.hs.take j) xa xb xc xd ya yb yc yd vt vl vh true true w hRD EN hgB hBw htn (by omega) (by omega) (by omega) (by omega) hll (by simp; omega) e3).mono fun e w' h => h.cast hd2.symm rfl
/-- Any line of it, at any time. -/
theorem add_tot {c : Cf} (hc : okCC c) {B g k : Nat} {l : List UInt8} {d : Rd} {vt vl vh : Value} {w : World} (hl : l ∈ cfgL c) (hRD : RD B g d vt vl vh w) (hd : Lens d k) (hk : k ≤ 500) (EN : EnvS g w) (hgB : g < B) (hBw : B ≤ w.heap.size) :
    Calls Tryd.prog 33 #[.pointer (some ⟨g, 0, none⟩), .string (BA l)] w fun e w' => ∃ ok d', AddRes B g d' ok w e w' ∧ Lens d' (k + 1) ∧ ((cfgL c)[k]? = some l ∧ d = dK c k → d' = dK c (k + 1) ∧ ok = true) := by
  by_cases hg : (cfgL c)[k]? = some l ∧ d = dK c k
  · obtain ⟨h1, rfl⟩ := hg
    exact (add_right hc h1 hRD EN hgB hBw).mono fun e w' h => ⟨true, _, h, Lens.dK c (k + 1), fun _ => ⟨rfl, rfl⟩⟩
  · obtain ⟨m0, x0, s0, ts, ls, hs, a⟩ := d
    obtain ⟨ha, ht, hls, hhs⟩ := hd
    simp only at ha ht hls hhs
    have tm := told_tn hc.ok.tm
    have hll : l.length ≤ 65536 := by have := cfgL_len hc.ok l hl; omega
    rcases line_kind hl with rfl | rfl | ⟨t, ht', rfl⟩ | ⟨j, x, y, hx, hy, rfl⟩
    · exact (add_timing B g c.mn c.mx m0 x0 s0 a ts ls hs vt vl vh _ w hRD EN hgB hBw (tm _ (by simp)) (tm _ (by simp)) (by omega) (by omega) rfl).mono fun e w' h => ⟨_, _, h, ⟨by simp [ha], by simp only; omega, by simp only; omega, by simp only; omega⟩, fun hh => absurd hh hg⟩
    · exact (add_switch B g m0 x0 c.sw s0 a ts ls hs vt vl vh _ w hRD EN hgB hBw (tm _ (by simp)) (by omega) (by omega) rfl).mono fun e w' h => ⟨_, _, h, ⟨by simp [ha], by simp only; omega, by simp only; omega, by simp only; omega⟩, fun hh => absurd hh hg⟩
    · exact (add_task B g m0 x0 s0 a ts ls hs t vt vl vh w hRD EN hgB hBw (hc.tk ht') (by omega) (by omega) (by omega) (by omega) hll).mono fun e w' h => ⟨_, _, h, ⟨by simp [ha], by simp; omega, by simp only; omega, by simp only; omega⟩, fun hh => absurd hh hg⟩
    · have htn := told_tn (hc.ok.ls j x y hx hy)
      obtain ⟨xa, xb, xc, xd⟩ := x
      obtain ⟨ya, yb, yc, yd⟩ := y
      exact (add_line B g m0 x0 s0 a ts ls hs xa xb xc xd ya yb yc yd vt vl vh _ _ w hRD EN hgB hBw htn (by omega) (by omega) (by omega) (by omega) hll rfl rfl).mono fun e w' h => ⟨_, _, h, ⟨by simp [ha], by simp only; omega, by simp; omega, by simp; omega⟩, fun hh => absurd hh hg⟩
end Go.Proofs.YtfneloplbkjbhaaDoor
