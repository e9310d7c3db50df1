/-
  The laws' common frame: arguments opened (structs of numbers, slices of numbers), and 'returns true, all reads as before' closed, by what is below the old heap staying as it was.
-/
import Derived.Test.YtfneloplbkjbhaaDoorVi
import Derived.ProofKit
import Derived.OpenShut
namespace Go.Proofs.YtfneloplbkjbhaaDoor
open Go.ChangeShapes Go.WideShapes Go.ChangeAt Go.RowKit
set_option linter.unusedVariables false

section
variable {H : Type} {enc : TypeId × Value → H} {P : Program}

theorem trodAll_below (hl : laidOutB P = true) {W W' : World} (hb : Below W.heap.size W W') : ∀ {ts : List TypeId} {vs : List Value} {ds : List (DataW H)} {ps : List MemPlace},
    ts.all (fun t => P.readableRec t && decide (t < P.types.size)) = true → DataW.TrodAll enc P W 0 (fun _ => true) true ts vs ds ps → (∀ x ∈ ps, x.block < W.heap.size) →
    DataW.TrodAll enc P W' 0 (fun b => decide (b < W.heap.size)) true ts vs ds ps
  | [], vs, ds, ps, _, h, _ => by
    obtain ⟨rfl, rfl, rfl⟩ := trodAll_nil h
    exact trodAll_mk0
  | t :: ts, vs, ds, ps, hr, h, hlt => by
    obtain ⟨v, vs', d, ds', p, q, rfl, rfl, rfl, h1, h2⟩ := trodAll_cons h
    simp only [List.all_cons, Bool.and_eq_true, decide_eq_true_eq] at hr
    exact trodAll_cons_mk (Below.trod hl hr.1.1 hr.1.2 h1 hb fun x hx => hlt x (by simp [hx])) (trodAll_below hl hb (by simpa using hr.2) h2 fun x hx => hlt x (by simp [hx]))

/-- A law's end: it returned true, and below the old heap nothing has turned. -/
theorem law_post {f : Func} {s : ChangeSpec} {tb : TypeId} (hl : laidOutB P = true) (hr : f.params.toList.all (fun t => P.readableRec t && decide (t < P.types.size)) = true) (hv : s.vars = []) (hres : f.resultTypes = #[tb]) (htb : P.underlying tb = some .bool)
    {W W' : World} {args : Array Value} {ds gs : List (DataW H)} {before : List MemPlace} (hW : DataW.Whole enc P f.params.toList s.vars false W args.toList ds gs before)
    (h1 : (s.fn H (ds ++ gs)).results = [.lit (.bool true)]) (h2 : (s.fn H (ds ++ gs)).args = ds) (h3 : (s.fn H (ds ++ gs)).vars = [])
    (hb : Below W.heap.size W W') : s.post enc P f false true false false W args (.bool true) W' := by
  have hlt := hW.lt
  obtain ⟨p, q, hA, hV, rfl, hfz, hnd⟩ := id hW
  rw [hv] at hV
  obtain ⟨rfl, rfl⟩ := trodVars_none hV
  refine ⟨ds, [], p ++ [], [], p, [], hW, ?_, ?_, ?_, hb.frame _, fun h => by cases h⟩
  · rw [hres, h1]
    exact trodAll_mk1 (shut_bool htb true)
  · rw [h2]
    exact trodAll_below hl hb hr hA fun x hx => hlt x (by simp [hx])
  · rw [hv, h3]
    rfl

/-! ### structs of numbers and bools, nested or not -/
def leavesF (P : Program) (L : TypeId → Option (List (Option IntKind))) : Nat → List Field → Option (List (Option IntKind))
  | _, [] => some []
  | off, f :: r => (L f.type).bind fun l => if f.offset = off ∧ P.cellsOf f.type = l.length then (leavesF P L (off + l.length) r).map (l ++ ·) else none
def leaves (P : Program) : Nat → TypeId → Option (List (Option IntKind))
  | 0, _ => none
  | n + 1, t => match P.underlying t with
    | some (.int k) => some [some k]
    | some .bool => some [none]
    | some (.struct fs) => (leavesF P (leaves P n) 0 fs.toList).bind fun l => if P.cellsOf t = l.length then some l else none
    | _ => none
def Leafy : List (Option IntKind) → List Value → Prop
  | [], vs => vs = []
  | some k :: ks, vs => ∃ n r, vs = .int k n :: r ∧ (Lit.int k n).wf = true ∧ Leafy ks r
  | none :: ks, vs => ∃ b r, vs = .bool b :: r ∧ Leafy ks r
theorem Leafy.append : ∀ {a b : List (Option IntKind)} {xs ys : List Value}, Leafy a xs → Leafy b ys → Leafy (a ++ b) (xs ++ ys)
  | [], _, xs, ys, h, k => by subst h; exact k
  | some q :: a, b, xs, ys, h, k => by
    obtain ⟨n, r, rfl, hw, hr⟩ := h
    exact ⟨n, r ++ ys, rfl, hw, hr.append k⟩
  | none :: a, b, xs, ys, h, k => by
    obtain ⟨n, r, rfl, hr⟩ := h
    exact ⟨n, r ++ ys, rfl, hr.append k⟩

variable {w : World} {base : Nat} {spare : Nat → Bool} {held : Bool}
theorem leafyF {L : TypeId → Option (List (Option IntKind))} {m : Nat} {cs : List Value}
    (hL : ∀ t l cs x, L t = some l → DataW.trod enc P w base spare held m t cs = some x → Leafy l cs) :
    ∀ (fs : List Field) (off : Nat) (l : List (Option IntKind)), leavesF P L off fs = some l → cs.length = off + l.length →
      (∀ f ∈ fs, ∃ x, DataW.trod enc P w base spare held m f.type ((cs.drop f.offset).take (P.cellsOf f.type)) = some x) → Leafy l (cs.drop off)
  | [], off, l, h, hc, hf => by
    simp only [leavesF, Option.some.injEq] at h
    subst h
    exact List.drop_eq_nil_of_le (by simp at hc; omega)
  | f :: r, off, l, h, hc, hf => by
    simp only [leavesF, Option.bind_eq_some_iff] at h
    obtain ⟨l1, h1, h2⟩ := h
    split at h2
    · rename_i hc2
      simp only [Option.map_eq_some_iff] at h2
      obtain ⟨l2, h3, rfl⟩ := h2
      obtain ⟨x, hx⟩ := hf f (by simp)
      rw [hc2.1, hc2.2] at hx
      have k1 := hL _ _ _ _ h1 hx
      have k2 := leafyF hL r (off + l1.length) l2 h3 (by simp at hc; omega) fun g hg => hf g (by simp [hg])
      rw [← List.drop_drop] at k2
      have := k1.append k2
      rwa [List.take_append_drop] at this
    · cases h2
theorem leafy_of_trod : ∀ (n : Nat) (t : TypeId) (l : List (Option IntKind)) (m : Nat) (cs : List Value) (x : DataW H × List MemPlace), leaves P n t = some l → DataW.trod enc P w base spare held m t cs = some x → Leafy l cs
  | 0, t, l, m, cs, x, h, _ => by simp [leaves] at h
  | n + 1, t, l, m, cs, x, h, hx => by
    unfold leaves at h
    split at h
    · rename_i k hk
      obtain rfl := Option.some.inj h
      obtain ⟨q, rfl, _, hw⟩ := DataW.trod_int hk hx
      exact ⟨q, [], rfl, hw, rfl⟩
    · rename_i hk
      obtain rfl := Option.some.inj h
      obtain ⟨q, rfl, _⟩ := DataW.trod_bool hk hx
      exact ⟨q, [], rfl, rfl⟩
    · rename_i fs hk
      simp only [Option.bind_eq_some_iff] at h
      obtain ⟨l', h1, h2⟩ := h
      split at h2
      · rename_i hc
        obtain rfl := Option.some.inj h2
        obtain ⟨xs, m', rfl, _, hlen, hxl, hf⟩ := DataW.trod_struct hk hx
        have := leafyF (P := P) (enc := enc) (w := w) (base := base) (spare := spare) (held := held) (m := m') (cs := cs) (fun t l cs x => leafy_of_trod n t l m' cs x) fs.toList 0 l' h1 (by omega) (fun f hf' => by
          obtain ⟨i, hi⟩ := List.getElem?_of_mem hf'
          rw [Array.getElem?_toList] at hi
          have hil : i < fs.size := (Array.getElem?_eq_some_iff.1 hi).1
          have := hf i f hi
          rw [List.getElem?_eq_getElem (by omega)] at this
          exact ⟨_, this⟩)
        simpa using this
      · cases h2
    · cases h

/-- A struct of numbers, by value. -/
theorem open_leafy {r : Reach} {b0 : Nat} {t : TypeId} {fs : Array Field} {l : List (Option IntKind)} {v : Value} {d : DataW H} {p : List MemPlace} (n : Nat) (hl : leaves P n t = some l) (hs : P.underlying t = some (.struct fs))
    (hv : Value.okWide P w r b0 t v) (h : DataW.Trod enc P w base spare held t v d p) : ∃ cs : List Value, v = .agg cs.toArray ∧ Leafy l cs := by
  obtain ⟨cs, rfl, hsz⟩ := okWide_struct hs hv
  obtain ⟨fuel, hf⟩ := h
  exact ⟨cs.toList, by simp, leafy_of_trod n t l fuel _ _ hl (by simpa [Value.cells] using hf)⟩

theorem cell_some_lt {w : World} {a : Addr} {v : Value} (h : w.cell? a = some v) : a.block < w.heap.size ∧ a = ⟨a.block, a.off, none⟩ := by
  unfold World.cell? at h
  split at h
  · rename_i hh
    refine ⟨(Array.getElem?_eq_some_iff.1 hh).1, ?_⟩
    split at h
    · cases h
    · rename_i hs
      cases a with | mk b o s => cases s <;> simp_all
  · cases h

theorem add_at (b o j : Nat) : (⟨b, o, none⟩ : Addr).add j = ⟨b, o + j, none⟩ := by unfold Addr.add; split <;> simp_all

/-- A slice of int64 (or int). -/
theorem open_i64s {r : Reach} {b0 : Nat} {t e : TypeId} {v : Value} {d : DataW H} {p : List MemPlace} (ht : P.underlying t = some (.slice e)) (he : P.underlying e = some (.int .i64)) (hc : P.cellsOf e = 1)
    (hv : Value.okWide P w r b0 t v) (h : DataW.Trod enc P w base spare held t v d p) : ∃ (A : Option Addr) (xs : List Int) (cap : Nat), v = .slice A xs.length cap ∧ Ints w w.heap.size A xs ∧ xs.length ≤ 9223372036854775807 ∧ ∀ x ∈ xs, (Lit.int .i64 x).wf = true := by
  obtain ⟨a0, l0, c0, rfl⟩ := okWide_slice ht hv
  obtain ⟨fuel, hf⟩ := h
  have hf' : DataW.trod enc P w base spare held fuel t [.slice a0 l0 c0] = some (d, p) := hf
  rcases open_ints ht he hc hf' with ⟨h1, _⟩ | ⟨a, len, cap, zs, h1, hb, hle, hmax, hz, _, hcell, hw⟩
  · simp only [List.cons.injEq, and_true] at h1
    rw [h1]
    exact ⟨none, [], 0, rfl, Ints.nil _ _ _, by simp, by simp⟩
  · simp only [List.cons.injEq, and_true] at h1
    rw [h1]
    have hzl : len ≤ zs.length := by rw [hz]; split <;> omega
    have hlen : (zs.take len).length = len := by rw [List.length_take]; omega
    refine ⟨some a, zs.take len, cap, by rw [hlen], fun h0 => ?_, by rw [hlen]; unfold maxLen at hmax; omega, fun x hx => hw x (List.mem_of_mem_take hx)⟩
    rw [hlen] at h0
    obtain ⟨hlt, ha⟩ := cell_some_lt (hcell 0 (by omega))
    have e0 : a.add 0 = a := by simp [Addr.add]
    rw [e0] at hlt ha
    refine ⟨a.block, a.off, by rw [← ha], hlt, fun j hj => ?_⟩
    rw [hlen] at hj
    have := hcell j (by omega)
    have h2 := add_at a.block a.off j
    rw [← ha] at h2
    rw [← h2, this]
    simp [hj]
end

theorem try_laidOut : laidOutB Tryd.prog = true := by kernel_rfl
theorem own : ownKnob Tryd.prog.godebug = none := by kernel_rfl
end Go.Proofs.YtfneloplbkjbhaaDoor
