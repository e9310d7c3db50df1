/-
  The law TopExpires: what its walk wants beside the wheel: timers that came in, begins, where one is put in.
-/
import Derived.Test.YtakkfgkogomjbaaDoorW14
import Derived.Test.YtakkfgkogomjbaaDoorLw
import Derived.Deep.Slices
import Derived.Test.YtakkfgkogomjbaaDoorCalm2
import Derived.Deep.RegionLaw
import Derived.Deep.RegionLawGrows
import Derived.Laws.AppendOwnNone
namespace Go.Proofs.YtakkfgkogomjbaaDoor
open Go.ChangeShapes Go.WideShapes Go.RowKit
set_option linter.unusedVariables false
theorem low_any (t : Int) (h0 : 0 ≤ t) (h1 : t < 9223372036854775808) (w : World) : Calls Tryd.prog 19 #[.int .i64 t] w fun e w' => e = .returned (.int .u32 (t % 4294967296)) ∧ w = w' := by
  go_enter Tryd.func19, Tryd.ntmps19
  go_wp2
  go_ret
  exact ⟨by first | rfl | (simp [IntKind.wrap]; omega), rfl⟩
theorem diff35 (w : World) : Calls Tryd.prog 20 #[.int .u32 3, .int .u32 5] w fun e w' => e = .returned (.int .i64 (-2)) ∧ w = w' := by
  go_enter Tryd.func20, Tryd.ntmps20
  go_wp2
  go_ret
  exact ⟨by first | rfl | exact ret_i (by decide +kernel) | exact ret_i (by unfold wrap64 wrap32; decide +kernel), rfl⟩
theorem begins_any (w : World) : Calls Tryd.prog 5 #[] w fun e w' => e = .returned (.bool true) ∧ w = w' := by
  go_enter Tryd.func5, Tryd.ntmps5
  go_wp2_with (first | (go_at_call 19; refine (low_any _ (by decide) (by decide) _).mono ?_; rintro e w' ⟨rfl, rfl⟩) | (go_at_call 20; refine (diff35 _).mono ?_; rintro e w' ⟨rfl, rfl⟩))
  go_ret
  exact ⟨by first | rfl | decide, rfl⟩
structure Q2 where
  a : Int
  b : Int
instance : Inhabited Q2 := ⟨⟨0, 0⟩⟩
def Q2.wf (q : Q2) : Prop := (Lit.int .i64 q.a).wf = true ∧ (Lit.int .i64 q.b).wf = true
/-- The slice at A reads as xs, whose cells lie in a block below B. -/
def R2 (w : World) (B : Nat) (A : Option Addr) (xs : List Q2) : Prop :=
  0 < xs.length → ∃ b off, A = some ⟨b, off, none⟩ ∧ b < B ∧ ∀ j x, xs[j]? = some x → w.cell? ⟨b, off + j * 2, none⟩ = some (.int .i64 x.a) ∧ w.cell? ⟨b, off + j * 2 + 1, none⟩ = some (.int .i64 x.b)
theorem R2.nil (w : World) (B : Nat) (A : Option Addr) : R2 w B A [] := fun h => by simp at h
theorem R2.below {w w' : World} {B : Nat} {A : Option Addr} {xs : List Q2} (h : R2 w B A xs) (hb : Below B w w') : R2 w' B A xs := fun h0 => by
  obtain ⟨b, off, e, hlt, hc⟩ := h h0
  refine ⟨b, off, e, hlt, fun j x hj => ?_⟩
  obtain ⟨h1, h2⟩ := hc j x hj
  exact ⟨(hb.cell (p := ⟨b, off + j * 2, none⟩) hlt).trans h1, (hb.cell (p := ⟨b, off + j * 2 + 1, none⟩) hlt).trans h2⟩
section
variable {H : Type} {enc : TypeId × Value → H} {P : Program} {w : World} {base : Nat} {spare : Nat → Bool} {held : Bool}
/-- A slice of records of three int64 or int. -/
theorem open_r2 {r : Reach} {b0 : Nat} {t e : TypeId} {v : Value} {d : DataW H} {p : List MemPlace} (n : Nat) (ht : P.underlying t = some (.slice e)) (hl : leaves P n e = some [some .i64, some .i64]) (hc : P.cellsOf e = 2)
    (hv : Value.okWide P w r b0 t v) (h : DataW.Trod enc P w base spare held t v d p) : ∃ (A : Option Addr) (xs : List Q2) (cap : Nat), v = .slice A xs.length cap ∧ R2 w w.heap.size A xs ∧ xs.length ≤ 9223372036854775807 ∧ ∀ x ∈ xs, x.wf := by
  obtain ⟨a0, l0, c0, rfl⟩ := okWide_slice ht hv
  obtain ⟨fuel, hf⟩ := h
  have hf' : DataW.trod enc P w base spare held fuel t [.slice a0 l0 c0] = some (d, p) := hf
  rcases Go.Deep.open_slice ht hf' with ⟨h1, _⟩ | ⟨a, len, cap, m, n', D, Pl, h1, hb, hle, hmax, hm, _, hx⟩
  · simp only [List.cons.injEq, and_true] at h1
    rw [h1]
    exact ⟨none, [], 0, rfl, R2.nil _ _ _, by simp, by simp⟩
  · simp only [List.cons.injEq, and_true] at h1
    rw [h1]
    have hlm : len ≤ m := by rw [hm]; split <;> omega
    have each : ∀ i, i < len → ∃ q : Q2, q.wf ∧ w.cell? (a.add (i * 2)) = some (.int .i64 q.a) ∧ w.cell? (a.add (i * 2 + 1)) = some (.int .i64 q.b) := by
      intro i hi
      obtain ⟨cs, hcs, ht'⟩ := hx i (by omega)
      rw [hc] at hcs
      obtain ⟨q1, _, rfl, w1, q2, _, rfl, w2, rfl⟩ := leafy_of_trod n e _ n' cs _ hl ht'
      obtain ⟨_, _, hcell⟩ := World.cells?_some hcs
      refine ⟨⟨q1, q2⟩, ⟨w1, w2⟩, ?_, ?_⟩
      · have := hcell 0 (by omega); rw [Go.Deep.add_add] at this; simpa using this
      · have := hcell 1 (by omega); rw [Go.Deep.add_add] at this; simpa using this
    obtain ⟨f, hfq⟩ := Go.Deep.choose_lt (α := Q2) (p := fun i q => q.wf ∧ w.cell? (a.add (i * 2)) = some (.int .i64 q.a) ∧ w.cell? (a.add (i * 2 + 1)) = some (.int .i64 q.b)) each
    refine ⟨some a, (List.range len).map f, cap, by simp, fun h0 => ?_, by simp; unfold maxLen at hmax; omega, fun x hx => ?_⟩
    · simp only [List.length_map, List.length_range] at h0
      obtain ⟨hlt, ha⟩ := cell_some_lt (hfq 0 h0).2.1
      have e0 : a.add (0 * 2) = a := by simp [Addr.add]
      rw [e0] at hlt ha
      refine ⟨a.block, a.off, by rw [← ha], hlt, fun j x hj => ?_⟩
      obtain ⟨hj', e⟩ := List.getElem?_eq_some_iff.1 hj
      simp only [List.length_map, List.length_range] at hj'
      simp only [List.getElem_map, List.getElem_range] at e
      subst e
      obtain ⟨_, c1, c2⟩ := hfq j hj'
      have g : ∀ o, a.add o = ⟨a.block, a.off + o, none⟩ := fun o => by
        have h2 := add_at a.block a.off o
        rw [← ha] at h2
        exact h2
      rw [g] at c1 c2
      exact ⟨c1, c2⟩
    · simp only [List.mem_map, List.mem_range] at hx
      obtain ⟨i, hi, rfl⟩ := hx
      exact (hfq i hi).1
end

theorem wp_appD {P : Program} {w : World} {o : Oper} {a : Act} {K : Act → World → Prop} {Q : Exit → Act → World → Prop} (s x : Operand) (t : TypeId)
    (ho : o.op = .call { callee := .builtin .append, args := #[s, x], argTypes := #[t, t] })
    (base : Nat) (e : TypeId) (i : TypeInfo) (z : Value) (bytes : Nat) (ht : P.underlying t = some (.slice e)) (hi : P.info? e = some i) (hz : i.zero = some z)
    (hsize : i.size = 2) (hby : i.bytes = bytes) (hzs : z.cells.size = 2)
    (v : Value) (n : Nat) (ys : List Value) (hs : a.eval s = v) (hown : w.ownsRow base e 2 v n ys)
    (A : Option Addr) (m c : Nat) (news : List Value) (hx : a.eval x = .slice A m c) (hn : news.length = m * 2) (hnone : A = none → m = 0 ∧ c = 0) (hc : ∀ ad, A = some ad → ∀ j u, news[j]? = some u → w.cell? (ad.add j) = some u) (h1c : ∀ u ∈ news, u.oneCell' = true) (hmax : n + m ≤ maxLen) (hlen : (n + m) * bytes ≤ 140737488355328) (hbase : base ≤ w.heap.size)
    (h : ∀ v' w', w'.ownsRow base e 2 v' (n + m) (ys ++ news) → w.grownBy w' v.ownBlock → K (a.put o.dst v') w') : o.wp P a w K Q := by
  cases A with
  | none =>
    obtain ⟨rfl, rfl⟩ := hnone rfl
    have : news = [] := List.eq_nil_of_length_eq_zero (by omega)
    subst this
    have hrun := run_append_owned_none (P := P) (w := w) base t o.type e i 2 ht hi v n _ hown
    unfold Oper.wp
    simp only [execOp, ho, resolve, invoke, builtin, Sem.run_bind, Sem.run_pure, Result.andThen_ok, List.map_toArray, List.map_cons, List.map_nil, hs, hx, hrun]
    exact h v w (by simpa using hown) ⟨rfl, rfl, rfl, Nat.le_refl _, fun _ _ _ => rfl⟩
  | some ad =>
    refine wp_append_own w s x t ho base e i z 2 bytes ht hi hz hsize hby hzs (by omega) v n ys hs hown ad m c news hx hn (hc ad rfl) h1c hmax hlen hbase ?_
    intro v' w' hw hg _
    exact h v' w' hw hg
theorem step_wp {P : Program} {w : World} {ops : Array Oper} {o : Oper} {a : Act} {K : Act → World → Prop} {Q : Exit → Act → World → Prop} {E : Prop} (hg : o.guard = none) (h : o.wp P a w K Q) :
    if Region.wanted o (yielded ops a.tmps) = true then Oper.wp P o a w K Q else E := by
  rw [if_pos (by simp [Region.wanted, hg])]
  exact h
theorem own_lit {e : TypeId} {size : Nat} (w : World) (cur : Array Value) (n : Nat) (hm : n ≤ maxLen) (hs : cur.size = n * size) : (w.alloc (.cells cur e)).ownsRow w.heap.size e size (.slice (some ⟨w.heap.size, 0, none⟩) n n) n cur.toList :=
  ⟨by simpa using hs, .inr ⟨w.heap.size, n, cur, rfl, Nat.le_refl _, heap_alloc_new w _, Nat.le_refl _, hm, hs, by rw [← hs, ← Array.length_toList, List.take_length]⟩⟩
theorem wp_region_late {P : Program} {ops : Array Oper} {Q : Exit → Act → World → Prop} {id : Nat} {a : Act} {w : World} (S : World → Prop) (T : Nat → Bool) (hm : P.follows .mixedOrders = true)
    (h : wpAnyT P .any ops Q S T ops.size (Array.replicate ops.size false) a w.drew) : (Code.region id ops true).wp P Q a w := wp_region_any hm (wpAny_of_T _ _ _ _ h)
/-- The order that the law keeps: where one is put in. -/
theorem ins_at {O : List Tm} (hs : Srt O) {x : Tm} {i : Nat} (hi : i ≤ O.length) (h1 : ∀ m y, i ≤ m → O[m]? = some y → x.du < y.du) (h2 : i = 0 ∨ ∃ y, O[i - 1]? = some y ∧ y.du ≤ x.du) : insT O x = O.take i ++ x :: O.drop i := by
  have e : O = O.take i ++ O.drop i := (List.take_append_drop i O).symm
  have hd : ∀ y ∈ O.drop i, x.du < y.du := fun y hy => by
    obtain ⟨k, hk⟩ := List.mem_iff_getElem?.1 hy
    rw [List.getElem?_drop] at hk
    exact h1 (i + k) y (by omega) hk
  have ht : ∀ y ∈ O.take i, y.du ≤ x.du := fun y hy => by
    rcases h2 with rfl | ⟨z, hz, hzx⟩
    · rw [List.take_zero] at hy; cases hy
    · obtain ⟨k, hk⟩ := List.mem_iff_getElem?.1 hy
      have hki : k < i := by
        have := (List.getElem?_eq_some_iff.1 hk).1
        rw [List.length_take] at this
        omega
      rw [List.getElem?_take_of_lt hki] at hk
      by_cases hkz : k = i - 1
      · subst hkz; rw [hz] at hk; injection hk with hk; rw [← hk]; exact hzx
      · obtain ⟨a1, a2⟩ := List.getElem?_eq_some_iff.1 hk
        obtain ⟨b1, b2⟩ := List.getElem?_eq_some_iff.1 hz
        have := List.pairwise_iff_getElem.1 hs k (i - 1) a1 b1 (by omega)
        rw [a2, b2] at this
        unfold ltT at this
        omega
  unfold insT
  rw [e, List.filter_append, List.filter_append]
  rw [List.filter_eq_self.2 (fun y hy => by simpa using ht y hy), List.filter_eq_nil_iff.2 (fun y hy => by have := hd y hy; simp; omega), List.filter_eq_nil_iff.2 (fun y hy => by have := ht y hy; simp; omega), List.filter_eq_self.2 (fun y hy => by simpa using hd y hy)]
  rw [List.append_nil, List.nil_append, ← e]
/-- The order, in memory: a slice of what is told, from the head of a block. -/
theorem DuR.below {w w' : World} {B : Nat} {A : Option Addr} {l : List Tm} (h : DuR w A l) (hk : ∀ b, A = some ⟨b, 0, none⟩ → b < w.heap.size → w'.heap[b]? = w.heap[b]?) (hs : w.heap.size ≤ w'.heap.size) : DuR w' A l := fun h0 => by
  obtain ⟨b, e, hb, hc⟩ := h h0
  refine ⟨b, e, by omega, fun k x hx => ?_⟩
  obtain ⟨h1, h2⟩ := hc k x hx
  exact ⟨(World.cell?_of_block (a := ⟨b, k * 2, none⟩) (hk b e hb)).trans h1, (World.cell?_of_block (a := ⟨b, k * 2 + 1, none⟩) (hk b e hb)).trans h2⟩
theorem own_fit {w : World} {base b2 : Nat} {e : TypeId} {size n n2 : Nat} {v : Value} {xs ys : List Value} (h : w.ownsRow base e size v n xs) (hb : b2 ≤ base) (hn : n = n2) (hx : xs = ys) : w.ownsRow b2 e size v n2 ys := by
  subst hn hx
  exact ⟨h.1, h.2.imp id fun ⟨g, cap, cur, e, hb2, rest⟩ => ⟨g, cap, cur, e, by omega, rest⟩⟩
theorem add0 (g o j : Nat) : (⟨g, o, none⟩ : Addr).add j = ⟨g, o + j, none⟩ := by unfold Addr.add; split <;> simp_all
theorem flat_split (O : List Tm) (i : Nat) : O.flatMap encD = (O.take i).flatMap encD ++ (O.drop i).flatMap encD := by rw [← List.flatMap_append, List.take_append_drop]
theorem encD_cell (l : List Tm) : ∀ u ∈ l.flatMap encD, u.oneCell' = true := fun u hu => by
  obtain ⟨t, _, h⟩ := List.mem_flatMap.1 hu
  simp only [encD, List.mem_cons, List.not_mem_nil, or_false] at h
  rcases h with rfl | rfl <;> rfl
theorem encD_cells (a b : Int) (l : List Tm) : ∀ u ∈ [Value.int .i64 a, .int .i64 b] ++ l.flatMap encD, u.oneCell' = true := fun u hu => by
  rcases List.mem_append.1 hu with h | h
  · simp only [List.mem_cons, List.not_mem_nil, or_false] at h
    rcases h with rfl | rfl <;> rfl
  · exact encD_cell l u h
theorem own_olds {w : World} {base : Nat} {e : TypeId} {g c : Nat} {O : List Tm} {i : Nat} (h : w.ownsRow base e 2 (.slice (some ⟨g, 0, none⟩) O.length c) O.length (O.flatMap encD)) : ∀ j u, ((O.take i).flatMap encD)[j]? = some u → w.cell? ((⟨g, 0, none⟩ : Addr).add j) = some u := fun j u hj => by
  refine h.cells (g := g) rfl j u ?_
  rw [flat_split O i, List.getElem?_append_left ((List.getElem?_eq_some_iff.1 hj).1)]
  exact hj
theorem own_news {w : World} {base : Nat} {e : TypeId} {g c : Nat} {O : List Tm} {i : Nat} (hi : i ≤ O.length) (h : w.ownsRow base e 2 (.slice (some ⟨g, 0, none⟩) O.length c) O.length (O.flatMap encD)) : ∀ j u, ((O.drop i).flatMap encD)[j]? = some u → w.cell? ((⟨g, i * 2, none⟩ : Addr).add j) = some u := fun j u hj => by
  have := h.cells (g := g) rfl (i * 2 + j) u (by
    have hl : ((O.take i).flatMap encD).length = i * 2 := by rw [encD_len, List.length_take, Nat.min_eq_left hi]
    rw [flat_split O i, List.getElem?_append_right (by omega), hl, Nat.add_sub_cancel_left]
    exact hj)
  rw [add0] at this ⊢
  simpa using this
theorem WAt.dus {w : World} {lo hi wb I M p L K n : Nat} {now tu : Int} {A : List Tm} (h : WAt w lo hi wb I M p L K n now tu A) : ∀ t ∈ A, 0 ≤ t.du ∧ t.du ≤ 4503599627370496 := by
  obtain ⟨S, T, f, F, h, _⟩ := h.of
  exact h.co.du
theorem WAt.turn {w : World} {lo hi wb I M p L K n : Nat} {now tu : Int} {A : List Tm} (h : WAt w lo hi wb I M p L K n now tu A) : ∀ t ∈ A, t.tn ≤ tu := by
  obtain ⟨S, T, f, F, h, _⟩ := h.of
  exact h.co.tu
theorem info_64 : (Tryd.prog.info? 2).map (fun i => (i.zero, i.size, i.bytes)) = some (some (.int .i64 0), 1, 8) := by kernel_rfl
theorem wpList_app64 {P : Program} {w : World} {ops : Array Oper} {rest : List Oper} {o : Oper} {a : Act} {Q : Exit → Act → World → Prop} (hgd : o.guard = none) (s x : Operand) (t : TypeId)
    (ho : o.op = .call { callee := .builtin .append, args := #[s, x], argTypes := #[t, t] })
    (base : Nat) (e : TypeId) (i : TypeInfo) (z : Value) (bytes : Nat) (ht : P.underlying t = some (.slice e)) (hi : P.info? e = some i) (hz : i.zero = some z)
    (hsize : i.size = 1) (hby : i.bytes = bytes) (hzs : z.cells.size = 1)
    (v : Value) (n : Nat) (ys : List Int) (hs : a.eval s = v) (hown : w.ownsRow base e 1 v n (ys.map (Value.int .i64)))
    (A : Option Addr) (xs : List Int) (c B : Nat) (hx : a.eval x = .slice A xs.length c) (hR : Ints w B A xs) (hn : A = none → c = 0) (hmax : n + xs.length ≤ maxLen) (hlen : (n + xs.length) * bytes ≤ 140737488355328) (hbase : base ≤ w.heap.size)
    (h : ∀ v' w', w'.ownsRow base e 1 v' (n + xs.length) ((ys ++ xs).map (Value.int .i64)) → Below base w w' → wpList P ops Q rest (a.put o.dst v') w') : wpList P ops Q (o :: rest) a w := by
  cases A with
  | none =>
    have h0 : xs.length = 0 := by
      rcases Nat.eq_zero_or_pos xs.length with h0 | h0
      · exact h0
      · obtain ⟨_, _, e, _⟩ := hR h0; cases e
    have : xs = [] := List.eq_nil_of_length_eq_zero h0
    subst this
    refine wpList_append_own_none hgd s x t ho base e i 1 ht hi v n _ hs hown (by rw [hx, hn rfl]; rfl) ?_
    exact h v w (by simpa using hown) (Below.refl _ _)
  | some ad =>
    obtain ⟨b, off, ic⟩ := ad
    refine wpList_append_own w hgd s x t ho base e i z 1 bytes ht hi hz hsize hby hzs (by omega) v n _ hs hown ⟨b, off, ic⟩ xs.length c (xs.map (Value.int .i64)) hx (by simp) ?_ ?_ hmax hlen hbase ?_
    · intro j u hu
      have hj : j < xs.length := by
        have := (List.getElem?_eq_some_iff.1 hu).1
        simpa using this
      obtain ⟨b', off', e', hb, hc⟩ := hR (by omega)
      cases e'
      have hcj := hc j hj
      rw [add_at, hcj]
      rw [List.getElem?_map, List.getElem?_eq_getElem hj] at hu
      rw [List.getElem?_eq_getElem hj]
      simpa using hu
    · intro u hu
      obtain ⟨x, _, rfl⟩ := List.mem_map.1 hu
      rfl
    · intro v' w' hw hg _
      exact h v' w' (by rw [List.map_append]; exact hw) ((Below.refl _ _).grown hg hbase fun k hk => (hown.lt k hk).1)
theorem ints_one (w : World) (x : Int) (e : TypeId) : Ints (w.alloc (.cells #[.int .i64 x] e)) (w.heap.size + 1) (some ⟨w.heap.size, 0, none⟩) [x] := fun _ => by
  refine ⟨w.heap.size, 0, rfl, Nat.lt_succ_self _, fun j hj => ?_⟩
  have : j = 0 := by simp at hj; omega
  subst this
  exact cell_of_row _ _ 0 _ _ _ (heap_alloc_new w _)
end Go.Proofs.YtakkfgkogomjbaaDoor
