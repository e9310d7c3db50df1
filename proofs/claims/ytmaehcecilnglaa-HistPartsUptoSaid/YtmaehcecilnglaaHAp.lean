/-
  Appending a slice of int64, nil or not, to an own one.
-/
import Derived.Test.YtmaehcecilnglaaOsz
import Derived.Laws.AppendOwnNone
namespace Go.Proofs.Ytmaehcecilnglaa
open Go.ChangeShapes Go.WideShapes Go.ChangeAt Go.RowKit
set_option linter.unusedVariables false
theorem wpList_appI {P : Program} {w : World} {ops : Array Oper} {rest : List Oper} {o : Oper} {a : Act} {Q : Exit → Act → World → Prop} (hgd : o.guard = none) (s x : Operand) (t : TypeId)
    (ho : o.op = .call { callee := .builtin .append, args := #[s, x], argTypes := #[t, t] })
    (base : Nat) (e : TypeId) (i : TypeInfo) (z : Value) (bytes : Nat) (ht : P.underlying t = some (.slice e)) (hi : P.info? e = some i) (hz : i.zero = some z)
    (hsize : i.size = 1) (hby : i.bytes = bytes) (hzs : z.cells.size = 1) (hbb : bytes ≤ 65536)
    (v : Value) (n : Nat) (ys : List Int) (hs : a.eval s = v) (hown : w.ownsRow base e 1 v n (ys.map (Value.int .i64)))
    (A : Option Addr) (xs : List Int) (c B : Nat) (hx : a.eval x = .slice A xs.length c) (hR : Ints w B A xs) (hn : A = none → c = 0) (hlen : n + xs.length ≤ 2147483648) (hbase : base ≤ w.heap.size)
    (h : ∀ v' w', w'.ownsRow base e 1 v' (n + xs.length) ((ys ++ xs).map (Value.int .i64)) → Below base w w' → wpList P ops Q rest (a.put o.dst v') w') : wpList P ops Q (o :: rest) a w := by
  cases A with
  | none =>
    have h0 : xs.length = 0 := by
      rcases Nat.eq_zero_or_pos xs.length with h0 | h0
      · exact h0
      · obtain ⟨_, _, e, _⟩ := hR h0; cases e
    have : xs = [] := List.eq_nil_of_length_eq_zero h0
    subst this
    refine wpList_append_own_none hgd s x t ho base e i 1 ht hi v n _ hs hown (by rw [hx, hn rfl]; rfl) ?_
    exact h v w (by simpa using hown) (Below.refl _ _)
  | some ad =>
    obtain ⟨b, off, ic⟩ := ad
    refine wpList_append_own w hgd s x t ho base e i z 1 bytes ht hi hz hsize hby hzs (by omega) v n _ hs hown ⟨b, off, ic⟩ xs.length c (xs.map (Value.int .i64)) hx (by simp) ?_ ?_ (by simp only [maxLen]; omega) ?_ hbase ?_
    · intro j u hu
      have hj : j < xs.length := by
        have := (List.getElem?_eq_some_iff.1 hu).1
        simpa using this
      obtain ⟨b', off', e', hb, hc⟩ := hR (by omega)
      cases e'
      have hcj := hc j hj
      rw [add_at, hcj]
      rw [List.getElem?_map, List.getElem?_eq_getElem hj] at hu
      rw [List.getElem?_eq_getElem hj]
      simpa using hu
    · intro u hu
      obtain ⟨x, _, rfl⟩ := List.mem_map.1 hu
      rfl
    · calc (n + xs.length) * bytes ≤ 2147483648 * 65536 := Nat.mul_le_mul hlen hbb
        _ ≤ 140737488355328 := by omega
    · intro v' w' hw hg _
      exact h v' w' (by rw [List.map_append]; exact hw) ((Below.refl _ _).grown hg hbase fun k hk => (hown.lt k hk).1)
/-- A slice freshly made, empty. -/
theorem own_made {e : TypeId} {base : Nat} (w : World) (n : Nat) (hn : n = w.heap.size) (hb : base ≤ n) : (w.alloc (.cells #[] e)).ownsRow base e 1 (.slice (some ⟨n, 0, none⟩) 0 0) 0 (([] : List Int).map (Value.int .i64)) := by
  subst hn
  exact World.ownsRow_made w #[] 0 hb (by decide) rfl
section
variable {H : Type} {enc : TypeId × Value → H} {P : Program} {w : World} {base : Nat} {spare : Nat → Bool} {held : Bool}
/-- A nil slice has no capacity. -/
theorem open_nilcap {t e : TypeId} {A : Option Addr} {n c : Nat} {d : DataW H} {p : List MemPlace} (ht : P.underlying t = some (.slice e))
    (h : DataW.Trod enc P w base spare held t (.slice A n c) d p) : A = none → c = 0 := by
  obtain ⟨fuel, hf⟩ := h
  have hf' : DataW.trod enc P w base spare held fuel t [.slice A n c] = some (d, p) := hf
  rcases Go.Deep.open_slice ht hf' with ⟨h1, _⟩ | ⟨a, len, cap, m, n', D, Pl, h1, _⟩
  · simp only [List.cons.injEq, and_true, Value.slice.injEq] at h1
    exact fun _ => h1.2.2
  · simp only [List.cons.injEq, and_true, Value.slice.injEq] at h1
    intro e; rw [e] at h1; cases h1.1
end
end Go.Proofs.Ytmaehcecilnglaa
