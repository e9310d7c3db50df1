/-
  A configuration is read again: add, of a line with its thread.
-/
import Derived.Test.YtfneloplbkjbhaaDoorTSA
namespace Go.Proofs.YtfneloplbkjbhaaDoor
open Go.RowKit Go.Shelf
open Go.Lib (byteCells itoa)
set_option linter.unusedVariables false
set_option linter.unusedSimpArgs false
/-- A task's words behind its first one. -/
def tkWs (t : Tk) : List (List UInt8) := if t.g < 0 then tkW t else tkL t
/-- A task that was told. -/
structure okTk (t : Tk) : Prop where
  k : t.k = 1 ∨ t.k = 2
  n : ∀ n ∈ tkNums t, TN n
  f : t.g < 0 → t.g = -1 ∧ t.h = 0 ∧ t.i = 0
  l : 0 ≤ t.g → ∀ n ∈ lkNums t, TN n
theorem okTk.N {t : Tk} (h : okTk t) : tkN t := by
  have := h.n
  simp only [tkNums, List.mem_cons, List.not_mem_nil, or_false] at this
  exact ⟨this _ (.inl rfl), this _ (.inr (.inl rfl)), this _ (.inr (.inr (.inl rfl))), this _ (.inr (.inr (.inr (.inl rfl)))), this _ (.inr (.inr (.inr (.inr (.inl rfl))))), this _ (.inr (.inr (.inr (.inr (.inr rfl)))))⟩
theorem okTk.no {t : Tk} (h : okTk t) : ∀ x ∈ tkWs t, (32 : UInt8) ∉ x := by
  have h1 := nums_no h.n
  intro x hx
  unfold tkWs at hx
  by_cases hg : t.g < 0
  · rw [if_pos hg] at hx
    exact h1 x hx
  · rw [if_neg hg] at hx
    unfold tkL at hx
    rcases List.mem_append.1 hx with hx | hx
    · exact h1 x hx
    · rcases List.mem_cons.1 hx with rfl | hx
      · decide
      · exact nums_no (h.l (by omega)) x hx
theorem task_any (B g K : Nat) (hd : List UInt8) (t : Tk) (w : World) (ht : okTk t) (h : WS g K (hd :: tkWs t) 1 false w) (EN : EnvS B w) (hB : B ≤ g) :
    Calls Tryd.prog 47 #[.pointer (some ⟨g, 0, none⟩), .int .u8 t.k] w fun e w' => e = .returned (.agg t.arr) ∧ WS g K (hd :: tkWs t) ((tkWs t).length + 1) false w' ∧ w.grownBy w' (some g) := by
  by_cases hg : t.g < 0
  · have e : tkWs t = tkW t := if_pos hg
    obtain ⟨e1, e2, e3⟩ := ht.f hg
    rw [e] at h ⊢
    refine (wtask_free B g K hd false t w ht.N h EN hB).mono fun e w' ⟨h1, h2, h3⟩ => ⟨?_, h2, h3⟩
    rw [h1]
    unfold Tk.arr
    rw [e1, e2, e3]
  · have e : tkWs t = tkL t := if_neg hg
    rw [e] at h ⊢
    have hl := ht.l (by omega)
    simp only [lkNums, List.mem_cons, List.not_mem_nil, or_false] at hl
    exact wtask_lock B g K hd t w ⟨ht.N, hl _ (.inl rfl), hl _ (.inr (.inl rfl)), hl _ (.inr (.inr rfl))⟩ h EN hB
theorem info_tk : (Tryd.prog.info? 54).map (fun i => (i.zero, i.size, i.bytes)) = some (some (.agg #[.int .u8 0, .int .i64 0, .int .i64 0, .int .i64 0, .int .i64 0, .int .i64 0, .int .i64 0, .int .i64 0, .int .i64 0, .int .i64 0]), 10, 80) := by kernel_rfl
theorem cells_new (w : World) (n : Nat) (hn : n = w.heap.size) (l : List Value) (T : TypeId) : ∀ (j : Nat) (u : Value), l[j]? = some u → (w.alloc (.cells l.toArray T)).cell? ((⟨n, 0, none⟩ : Addr).add j) = some u := by
  intro j u hj
  subst hn
  have e : (⟨w.heap.size, 0, none⟩ : Addr).add j = ⟨w.heap.size, j, none⟩ := by
    have := add_at w.heap.size 0 j
    rwa [Nat.zero_add] at this
  rw [e, cell_of_row _ _ j _ _ _ (heap_alloc_new w _)]
  simpa using hj
theorem tk_cells_one (t : Tk) : ∀ u ∈ t.cells, u.oneCell' = true := by
  intro v hv; simp [Tk.cells] at hv; rcases hv with rfl | rfl | rfl | rfl | rfl | rfl | rfl | rfl | rfl | rfl <;> rfl
theorem own_ne' {w : World} {B n sz : Nat} {e : TypeId} {v : Value} {xs : List Value} (h : w.ownsRow B e sz v n xs) {K : Nat} {cs : Array Value} {t : TypeId} {fr : Nat × Nat} (hK : w.heap[K]? = some (.cells cs t fr)) (ht : t ≠ e) : some K ≠ v.ownBlock := by
  intro e1
  rcases h.2 with ⟨rfl, _⟩ | ⟨g, cap, cur, rfl, _, h3, _⟩
  · cases e1
  · simp only [Value.ownBlock, Option.some.injEq] at e1
    subst e1
    rw [hK] at h3
    injection h3 with h3
    injection h3 with _ h4
    exact ht h4
theorem own_len {w : World} {B n m sz : Nat} {e : TypeId} {v : Value} {xs : List Value} (h : w.ownsRow B e sz v n xs) (hm : n = m) : w.ownsRow B e sz v m xs := hm ▸ h
theorem step_wp' {P : Program} {w : World} {ops : Array Oper} {o : Oper} {a : Act} {K : Act → World → Prop} {Q : Exit → Act → World → Prop} {E : Prop} (hg : o.guard = none) (h : o.wp P a w K Q) :
    if Region.wanted o (yielded ops a.tmps) = true then Oper.wp P o a w K Q else E := by
  rw [if_pos (by simp [Region.wanted, hg])]
  exact h
/-- The reader, and the words up to place o, from world w0 on. -/
structure Mid (B g gw K : Nat) (ss : List (List UInt8)) (w0 : World) (d : Rd) (vt vl vh : Value) (o : Nat) (w : World) : Prop where
  rd : RD B g d vt vl vh w
  ws : WS gw K ss o false w
  fx : FX B g w0 w
  en : EnvS g w0
  gB : g < B
  Bg : B ≤ gw
  Bw : B ≤ w0.heap.size
  Kn : B ≤ K
  sl : ss.length ≤ 65536
variable {B g gw K : Nat} {ss : List (List UInt8)} {w0 : World} {d : Rd} {vt vl vh : Value} {o : Nat} {w w' : World}
theorem Mid.env (h : Mid B g gw K ss w0 d vt vl vh o w) : EnvS g w := h.en.on (h.fx.below (Nat.le_of_lt h.gB))
theorem Mid.call {o' : Nat} (h : Mid B g gw K ss w0 d vt vl vh o w) (h1 : WS gw K ss o' false w') (hg : w.grownBy w' (some gw)) : Mid B g gw K ss w0 d vt vl vh o' w' := by
  obtain ⟨a, _, hm⟩ := h.ws.me
  have ne : ∀ {v : Value} {e : TypeId} {sz n : Nat} {xs : List Value}, w.ownsRow B e sz v n xs → 106 ≠ e → v.ownBlock = none ∨ v.ownBlock ≠ some gw := fun {v e sz n xs} ho ht => .inr fun e1 => own_ne' ho hm ht e1.symm
  have hgl := h.gB
  have hBg := h.Bg
  exact ⟨⟨(hg.block g h.rd.lt (by intro e; injection e with e; omega)).trans h.rd.me, h.rd.ot.kept hg (ne h.rd.ot (by decide)), h.rd.ol.kept hg (ne h.rd.ol (by decide)), h.rd.oh.kept hg (ne h.rd.oh (by decide))⟩,
    h1, h.fx.trans (FX.of_gb hg (by have := h.fx.size; have := h.Bw; omega) (fun k hk => by injection hk with hk; omega) (fun j o hj ho => by injection hj with hj; subst hj; rw [hm] at ho; injection ho with ho; subst ho; rfl)), h.en, h.gB, h.Bg, h.Bw, h.Kn, h.sl⟩
theorem Mid.num (h : Mid B g gw K ss w0 d vt vl vh o w) {n : Int} (hs : ss[o]? = some (itoa n)) (hn : TN n) : Calls Tryd.prog 46 #[.pointer (some ⟨gw, 0, none⟩)] w fun e w' => e = .returned (.int .i64 n) ∧ Mid B g gw K ss w0 d vt vl vh (o + 1) w' :=
  (num_any gw K ss o false n g w h.ws hs h.sl hn.1 hn.2 h.env (by have := h.gB; have := h.Bg; omega)).mono fun e w' ⟨h1, h2, h3⟩ => ⟨h1, h.call h2 h3⟩
theorem Mid.count (h : Mid B g gw K ss w0 d vt vl vh o w) {n : Int} (hs : ss[o]? = some (itoa n)) (hn : TN n) : Calls Tryd.prog 48 #[.pointer (some ⟨gw, 0, none⟩)] w fun e w' => e = .returned (.int .i64 n) ∧ Mid B g gw K ss w0 d vt vl vh (o + 1) w' :=
  (wcount_any gw K ss o false n g w h.ws hs h.sl hn h.env (by have := h.gB; have := h.Bg; omega)).mono fun e w' ⟨h1, h2, h3⟩ => ⟨h1, h.call h2 h3⟩
theorem Mid.on (h : Mid B g gw K ss w0 d vt vl vh o w) (hb : Below w.heap.size w w') : Mid B g gw K ss w0 d vt vl vh o w' :=
  ⟨h.rd.below hb, h.ws.on hb, h.fx.trans (FX.of_below hb (by have := h.fx.size; have := h.Bw; omega)), h.en, h.gB, h.Bg, h.Bw, h.Kn, h.sl⟩
theorem own_apart {v1 v2 : Value} {e1 e2 : TypeId} {s1 s2 n1 n2 : Nat} {xs ys : List Value} (h1 : w.ownsRow B e1 s1 v1 n1 xs) (h2 : w.ownsRow B e2 s2 v2 n2 ys) (ne : e1 ≠ e2) : v1.ownBlock = none ∨ v1.ownBlock ≠ v2.ownBlock := by
  rcases h1.2 with ⟨rfl, _⟩ | ⟨g, cap, cur, rfl, _, h3, _⟩
  · exact .inl rfl
  · exact .inr fun e => own_ne' h2 h3 ne e
theorem own_isCells {v : Value} {e : TypeId} {sz n : Nat} {xs : List Value} (h : w.ownsRow B e sz v n xs) : ∀ (j : Nat) (o : Obj), v.ownBlock = some j → w.heap[j]? = some o → o.isCells = true := by
  intro j o hj ho
  rcases h.2 with ⟨rfl, _⟩ | ⟨g, cap, cur, rfl, _, hg, _⟩
  · simp [Value.ownBlock] at hj
  · simp only [Value.ownBlock, Option.some.injEq] at hj
    subst hj
    rw [hg] at ho
    cases ho
    rfl
/-- What an append to one of the reader's rows leaves. -/
structure Grown (B g gw K : Nat) (ss : List (List UInt8)) (w0 : World) (d : Rd) (vt vl vh : Value) (o : Nat) (w w' : World) (v : Value) : Prop where
  me : w'.heap[g]? = some (.cells #[.int .i64 d.mn, .int .i64 d.mx, .int .i64 d.sw, vt, vl, vh, .int .i64 d.at'] 85 (0, 0))
  ws : WS gw K ss o false w'
  fx : FX B g w0 w'
theorem Mid.grown (h : Mid B g gw K ss w0 d vt vl vh o w) {v : Value} {e : TypeId} {sz n : Nat} {xs : List Value} (ho : w.ownsRow B e sz v n xs) (e1 : 106 ≠ e) (e2 : 9 ≠ e) (hg : w.grownBy w' v.ownBlock) : Grown B g gw K ss w0 d vt vl vh o w w' v := by
  obtain ⟨a, _, hm⟩ := h.ws.me
  have hgl := h.gB
  refine ⟨(hg.block g h.rd.lt (by intro e; have := (ho.lt g e.symm).1; omega)).trans h.rd.me, h.ws.keep (hg.block gw h.ws.lt (own_ne' ho hm e1)) (hg.block K (Array.getElem?_eq_some_iff.1 h.ws.row).1 (own_ne' ho h.ws.row e2)), h.fx.trans (FX.of_gb hg (by have := h.fx.size; have := h.Bw; omega) (fun k hk => .inl (ho.lt k hk).1) (own_isCells ho))⟩
theorem Mid.task (h : Mid B g gw K ss w0 d vt vl vh o w) {x : Tk} {v : Value} {m : Nat} (ho : w'.ownsRow B 54 10 v m ((d.ts ++ [x]).flatMap Tk.cells)) (hm : m = (d.ts ++ [x]).length) (hg : w.grownBy w' vt.ownBlock) :
    Mid B g gw K ss w0 ⟨d.mn, d.mx, d.sw, d.ts ++ [x], d.ls, d.hs, d.at'⟩ v vl vh o (w'.setCell ⟨g, 3, none⟩ v) := by
  subst hm
  have G := h.grown h.rd.ot (by decide) (by decide) hg
  have hne := h.gB
  have hbg := h.Bg
  have hk := h.Kn
  have G1 := gb_set w' g 3 v
  refine ⟨⟨set_at G.me v, own_gb ho G1 h.gB, own_gb (h.rd.ol.kept hg (own_apart h.rd.ol h.rd.ot (by decide))) G1 h.gB, own_gb (h.rd.oh.kept hg (own_apart h.rd.oh h.rd.ot (by decide))) G1 h.gB⟩,
    G.ws.keep (heap_setCell_other w' ⟨g, 3, none⟩ gw v (by simp; omega)) (heap_setCell_other w' ⟨g, 3, none⟩ K v (by simp; omega)), G.fx.trans (FX.set B g 3 w' v), h.en, h.gB, h.Bg, h.Bw, h.Kn, h.sl⟩
theorem Mid.line (h : Mid B g gw K ss w0 d vt vl vh o w) {x : Q4} {v : Value} {m : Nat} (ho : w'.ownsRow B 79 4 v m ((d.ls ++ [x]).flatMap Q4.cells)) (hm : m = (d.ls ++ [x]).length) (hg : w.grownBy w' vl.ownBlock) :
    Mid B g gw K ss w0 ⟨d.mn, d.mx, d.sw, d.ts, d.ls ++ [x], d.hs, d.at'⟩ vt v vh o (w'.setCell ⟨g, 4, none⟩ v) := by
  subst hm
  have G := h.grown h.rd.ol (by decide) (by decide) hg
  have hne := h.gB
  have hbg := h.Bg
  have hk := h.Kn
  have G1 := gb_set w' g 4 v
  refine ⟨⟨set_at G.me v, own_gb (h.rd.ot.kept hg (own_apart h.rd.ot h.rd.ol (by decide))) G1 h.gB, own_gb ho G1 h.gB, own_gb (h.rd.oh.kept hg (own_apart h.rd.oh h.rd.ol (by decide))) G1 h.gB⟩,
    G.ws.keep (heap_setCell_other w' ⟨g, 4, none⟩ gw v (by simp; omega)) (heap_setCell_other w' ⟨g, 4, none⟩ K v (by simp; omega)), G.fx.trans (FX.set B g 4 w' v), h.en, h.gB, h.Bg, h.Bw, h.Kn, h.sl⟩
theorem Mid.thread (h : Mid B g gw K ss w0 d vt vl vh o w) {x : Q4} {v : Value} {m : Nat} (ho : w'.ownsRow B 82 4 v m ((d.hs ++ [x]).flatMap Q4.cells)) (hm : m = (d.hs ++ [x]).length) (hg : w.grownBy w' vh.ownBlock) :
    Mid B g gw K ss w0 ⟨d.mn, d.mx, d.sw, d.ts, d.ls, d.hs ++ [x], d.at'⟩ vt vl v o (w'.setCell ⟨g, 5, none⟩ v) := by
  subst hm
  have G := h.grown h.rd.oh (by decide) (by decide) hg
  have hne := h.gB
  have hbg := h.Bg
  have hk := h.Kn
  have G1 := gb_set w' g 5 v
  refine ⟨⟨set_at G.me v, own_gb (h.rd.ot.kept hg (own_apart h.rd.ot h.rd.oh (by decide))) G1 h.gB, own_gb (h.rd.ol.kept hg (own_apart h.rd.ol h.rd.oh (by decide))) G1 h.gB, own_gb ho G1 h.gB⟩,
    G.ws.keep (heap_setCell_other w' ⟨g, 5, none⟩ gw v (by simp; omega)) (heap_setCell_other w' ⟨g, 5, none⟩ K v (by simp; omega)), G.fx.trans (FX.set B g 5 w' v), h.en, h.gB, h.Bg, h.Bw, h.Kn, h.sl⟩
theorem info_ln : (Tryd.prog.info? 79).map (fun i => (i.zero, i.size, i.bytes)) = some (some (.agg #[.int .i64 0, .int .i64 0, .int .i64 0, .int .i64 0]), 4, 32) := by kernel_rfl
theorem info_th : (Tryd.prog.info? 82).map (fun i => (i.zero, i.size, i.bytes)) = some (some (.agg #[.int .i64 0, .int .i64 0, .int .i64 0, .int .i64 0]), 4, 32) := by kernel_rfl
theorem q4_one (x : Q4) : ∀ u ∈ x.cells, u.oneCell' = true := by
  intro v hv; simp [Q4.cells] at hv; rcases hv with rfl | rfl | rfl | rfl <;> rfl
end Go.Proofs.YtfneloplbkjbhaaDoor
