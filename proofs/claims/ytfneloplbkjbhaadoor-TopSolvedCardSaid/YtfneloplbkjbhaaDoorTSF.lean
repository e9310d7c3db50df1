/-
  A configuration is read again: Get.
-/
import Derived.Test.YtfneloplbkjbhaaDoorTSE
import Derived.Test.YtfneloplbkjbhaaDoorTSG
import Derived.Test.YtfneloplbkjbhaaDoorCalmR
namespace Go.Proofs.YtfneloplbkjbhaaDoor
open Go.RowKit Go.Shelf
set_option linter.unusedVariables false
set_option linter.unusedSimpArgs false
attribute [local go_sem] Oper.semAt_some
section
variable {F : Fence} {n : Nat} {P : Program}
theorem wpListIn_store_at {w : World} {ops : Array Oper} {rest : List Oper} {o : Oper} {a : Act} {Q : Exit → Act → World → Prop} (hgd : o.guard = none) (ty : TypeId) (x y : Operand) (ho : o.op = .store ty x y)
    (g k : Nat) (hx : a.eval x = .pointer (some ⟨g, k, none⟩)) (new : Array Value) (hy : a.eval y = .agg new) (t : TypeId) (cs cs' : Array Value) (hg : w.heap[g]? = some (.cells cs t (0, 0)))
    (hi : (P.info? ty).map (·.size) = some new.size) (hs : k + new.size ≤ cs.size) (h1 : ∀ v ∈ new.toList, v.oneCell' = true) (hc : (cs.toList.take k ++ new.toList ++ cs.toList.drop (k + new.size)).toArray = cs')
    (h : ∀ w', PutAt g cs' t w w' → wpListIn F n P ops Q rest (a.put o.dst undef) w') : wpListIn F n P ops Q (o :: rest) a w := by
  refine wpListIn_plain hgd fun K hK' => ?_
  unfold Oper.wpIn
  refine ⟨by simp [Oper.about, ho], ?_⟩
  rw [Oper.semAt_eq _ _ _ (by rw [ho]; intro c hc'; cases hc')]
  unfold execOp
  simp only [ho, hx, hy, Instr.storeAt, Instr.sureAddr, Sem.run_bind, Sem.run_pure, Result.andThen_ok, run_storeVar_at w g k t ty cs new hg hi hs h1]
  refine hK' _ _ (h _ ⟨?_, fun i hi => setRow_other w g i _ hi, fun B hB => ⟨rfl, rfl, rfl, by simp, fun i hi => setRow_other w g i _ (by omega)⟩, by simp⟩)
  rw [hc]
  exact setRow_heap w g _ _ _ _ hg
end
section
variable {P : Program}
theorem run_load_part (w : World) (g : Nat) (t ty : TypeId) (cs new : Array Value) (fr : Nat × Nat) (d : TypeDesc) (hg : w.heap[g]? = some (.cells cs t fr)) (hn : ∀ (j : Nat) v, new[j]? = some v → cs[j]? = some v)
    (hu : P.underlying ty = some d) (hd : (match d with | .struct _ | .array _ _ => true | _ => false) = true) (hi : (P.info? ty).map (·.size) = some new.size) :
    (loadVar ty ⟨g, 0, none⟩).run P w = .ok (.agg new) w := by
  have hl : (loadCells ⟨g, 0, none⟩ new.toList.length).run P w = .ok new.toList.toArray w :=
    run_loadCells_list (P := P) w ⟨g, 0, none⟩ new.toList (fun j v hv => by
      have e : (⟨g, 0, none⟩ : Addr).add j = ⟨g, j, none⟩ := by
        have := add_at g 0 j
        rwa [Nat.zero_add] at this
      rw [e, cell_of_row w g j cs t fr hg]
      exact hn j v (by simpa using hv))
  cases hq : P.info? ty with
  | none => simp [hq] at hi
  | some i =>
    have hs : i.size = new.size := by simpa [hq] using hi
    have hagg : (isAgg ty).run P w = .ok true w := by
      unfold isAgg
      rw [Sem.run_bind, run_underlying hu w]
      cases d <;> simp_all
    simp only [Array.length_toList, Array.toArray_toList] at hl
    simp [loadVar, Sem.run_bind, hagg, sizeOf, typeInfo, hq, hs, hl]
theorem wpList_load_part {ops : Array Oper} {rest : List Oper} {o : Oper} {a : Act} {w : World} {Q : Exit → Act → World → Prop} (hgd : o.guard = none) (ty : TypeId) (x : Operand) (ho : o.op = .load ty x)
    (g : Nat) (hx : a.eval x = .pointer (some ⟨g, 0, none⟩)) (t : TypeId) (cs new : Array Value) (fr : Nat × Nat) (d : TypeDesc) (hg : w.heap[g]? = some (.cells cs t fr)) (hn : ∀ (j : Nat) v, new[j]? = some v → cs[j]? = some v)
    (hu : P.underlying ty = some d) (hd : (match d with | .struct _ | .array _ _ => true | _ => false) = true) (hi : (P.info? ty).map (·.size) = some new.size)
    (h : wpList P ops Q rest (a.put o.dst (.agg new)) w) : wpList P ops Q (o :: rest) a w :=
  wpList_plain hgd fun K hK => by
    unfold Oper.wp execOp
    simp only [ho, hx, Instr.loadAt, Instr.sureAddr, Sem.run_bind, Sem.run_pure, Result.andThen_ok, run_load_part w g t ty cs new fr d hg hn hu hd hi]
    exact hK _ _ h
end
theorem pre6 (c0 c1 c2 c3 c4 c5 c6 : Value) : ∀ (j : Nat) v, (#[c0, c1, c2, c3, c4, c5] : Array Value)[j]? = some v → (#[c0, c1, c2, c3, c4, c5, c6] : Array Value)[j]? = some v := by
  intro j v h
  match j, h with
  | 0, h => exact h
  | 1, h => exact h
  | 2, h => exact h
  | 3, h => exact h
  | 4, h => exact h
  | 5, h => exact h
  | j + 6, h => simp at h
theorem cellsT_length (ts : List Tk) : (ts.flatMap Tk.cells).length = ts.length * 10 := by
  induction ts with
  | nil => rfl
  | cons t r ih => rw [List.flatMap_cons, List.length_append, ih, List.length_cons]; simp [Tk.cells]; omega
theorem cellsT_at : ∀ (ts : List Tk) (k o : Nat) (x : Tk), ts[k]? = some x → o < 10 → (ts.flatMap Tk.cells)[k * 10 + o]? = x.cells[o]?
  | [], k, o, x, h, ho => by simp at h
  | t :: r, 0, o, x, h, ho => by
    simp at h
    subst h
    rw [List.flatMap_cons, List.getElem?_append_left (by simp [Tk.cells]; omega)]
    simp
  | t :: r, k + 1, o, x, h, ho => by
    rw [List.flatMap_cons, List.getElem?_append_right (by simp [Tk.cells]; omega)]
    have := cellsT_at r k o x (by simpa using h) ho
    rw [← this]
    congr 1
    simp [Tk.cells]
    omega
theorem RT.of_cells {w : World} {g off : Nat} {ts : List Tk} (hlt : g < w.heap.size) (h : ∀ (j : Nat) (u : Value), (ts.flatMap Tk.cells)[j]? = some u → w.cell? ⟨g, off + j, none⟩ = some u) : RT w w.heap.size (some ⟨g, off, none⟩) ts := fun h0 =>
  ⟨g, off, rfl, hlt, fun j x o u hj ho => by
    have ho' : o < 10 := by
      have := (Array.getElem?_eq_some_iff.1 ho).1
      simpa using this
    have := h (j * 10 + o) u (by rw [cellsT_at ts j o x hj ho']; simpa [Tk.cells] using ho)
    rwa [show off + (j * 10 + o) = off + j * 10 + o from by omega] at this⟩
theorem RT.of_own {w : World} {base : Nat} {e : TypeId} {v : Value} {n : Nat} {ts : List Tk} (h : w.ownsRow base e 10 v n (ts.flatMap Tk.cells)) : ∃ A c, v = .slice A ts.length c ∧ RT w w.heap.size A ts := by
  have hl := h.1
  rw [cellsT_length] at hl
  have hn : n = ts.length := by omega
  subst hn
  have h2 := h.2
  obtain ⟨A, c, rfl⟩ := own_slice h
  refine ⟨A, c, rfl, fun h0 => ?_⟩
  obtain ⟨g, cap, hv, _, hlt⟩ := h.form (by omega)
  have hA : A = some ⟨g, 0, none⟩ := by injection hv
  subst hA
  exact RT.of_cells hlt (fun i v hi => by
    have := h.cells (g := g) rfl i v hi
    rwa [add_at] at this) h0
/-- The state between two lines. -/
structure GS (n2 n3 n4 g n5 n6 B : Nat) (d : Rd) (k : Nat) (W : World) : Prop where
  rd : ∃ vt vl vh, RD B g d vt vl vh W
  c2 : W.heap[n2]? = some (.cells #[.int .i64 0, .int .i64 0, .int .i64 0, .slice none 0 0, .slice none 0 0, .slice none 0 0] 47 (0, 0))
  c3 : W.heap[n3]? = some (.cells #[.int .i64 0] 3 (0, 0))
  c4 : W.heap[n4]? = some (.cells #[.int .i64 0] 27 (0, 0))
  c5 : W.heap[n5]? = some (.cells #[.pointer (some ⟨g, 0, none⟩)] 83 (0, 0))
  c6 : W.heap[n6]? = some (.cells #[.int .i64 (k : Int)] 3 (0, 0))
  sz : B ≤ W.heap.size
theorem row_kept {W W' : World} {g : Nat} {cs : Array Value} {ty : TypeId} {row : Option Nat} (h : W.heap[g]? = some (.cells cs ty (0, 0))) (hg : W.grownBy W' row) (hr : ∀ r, row = some r → ∃ o : Obj, W.heap[r]? = some o ∧ o.isCells = false) : W'.heap[g]? = some (.cells cs ty (0, 0)) := by
  refine (hg.block g (Array.getElem?_eq_some_iff.1 h).1 fun e => ?_).trans h
  obtain ⟨o, ho, hc⟩ := hr g e.symm
  rw [h] at ho
  injection ho with ho
  subst ho
  cases hc
theorem own_kept' {W W' : World} {B n sz : Nat} {e : TypeId} {v : Value} {xs : List Value} {row : Option Nat} (h : W.ownsRow B e sz v n xs) (hg : W.grownBy W' row) (hr : ∀ r, row = some r → ∃ o : Obj, W.heap[r]? = some o ∧ o.isCells = false) : W'.ownsRow B e sz v n xs := by
  refine h.kept hg ?_
  cases hv : v.ownBlock with
  | none => exact .inl rfl
  | some j =>
    right
    intro e1
    obtain ⟨o, ho, hc⟩ := hr j e1.symm
    rw [own_isCells h j o hv ho] at hc
    cases hc
theorem RD.book {B g : Nat} {d : Rd} {vt vl vh : Value} {W W' : World} {row : Option Nat} (h : RD B g d vt vl vh W) (hg : W.grownBy W' row) (hr : ∀ r, row = some r → ∃ o : Obj, W.heap[r]? = some o ∧ o.isCells = false) : RD B g d vt vl vh W' :=
  ⟨row_kept h.me hg hr, own_kept' h.ot hg hr, own_kept' h.ol hg hr, own_kept' h.oh hg hr⟩
variable {n2 n3 n4 g n5 n6 B : Nat} {d : Rd} {k : Nat} {W W' : World}
theorem GS.book {row : Option Nat} (h : GS n2 n3 n4 g n5 n6 B d k W) (hg : W.grownBy W' row) (hr : ∀ r, row = some r → ∃ o : Obj, W.heap[r]? = some o ∧ o.isCells = false) : GS n2 n3 n4 g n5 n6 B d k W' := by
  obtain ⟨vt, vl, vh, h0⟩ := h.rd
  exact ⟨⟨vt, vl, vh, h0.book hg hr⟩, row_kept h.c2 hg hr, row_kept h.c3 hg hr, row_kept h.c4 hg hr, row_kept h.c5 hg hr, row_kept h.c6 hg hr, Nat.le_trans h.sz hg.size⟩
/-- Where the places lie. -/
structure GO (n2 n3 n4 g n5 n6 n7 B : Nat) (w : World) : Prop where
  a2 : n2 = w.heap.size
  a3 : n3 = w.heap.size + 1
  a4 : n4 = w.heap.size + 2
  ag : g = w.heap.size + 3
  a5 : n5 = w.heap.size + 4
  a6 : n6 = w.heap.size + 5
  a7 : n7 = w.heap.size + 6
  aB : B = w.heap.size + 7
theorem six_one : ∀ v ∈ (#[.int .i64 0, .int .i64 0, .int .i64 0, .slice none 0 0, .slice none 0 0, .slice none 0 0] : Array Value).toList, v.oneCell' = true := by
  intro v hv; simp at hv; rcases hv with rfl | rfl <;> rfl
theorem size_cfg : (Tryd.prog.info? 47).map (·.size) = some 6 := by kernel_rfl
theorem world7 (w : World) (o2 o3 o4 og o5 o6 o7 : Obj) : let W := ((((((w.alloc o2).alloc o3).alloc o4).alloc og).alloc o5).alloc o6).alloc o7
    W.heap[w.heap.size]? = some o2 ∧ W.heap[w.heap.size + 1]? = some o3 ∧ W.heap[w.heap.size + 2]? = some o4 ∧ W.heap[w.heap.size + 3]? = some og ∧ W.heap[w.heap.size + 4]? = some o5 ∧ W.heap[w.heap.size + 5]? = some o6 ∧ W.heap[w.heap.size + 6]? = some o7 ∧ Below w.heap.size w W ∧ W.heap.size = w.heap.size + 7 := by
  intro W
  have s1 : (w.alloc o2).heap.size = w.heap.size + 1 := by simp
  have s2 : ((w.alloc o2).alloc o3).heap.size = w.heap.size + 2 := by simp
  have s3 : (((w.alloc o2).alloc o3).alloc o4).heap.size = w.heap.size + 3 := by simp
  have s4 : ((((w.alloc o2).alloc o3).alloc o4).alloc og).heap.size = w.heap.size + 4 := by simp
  have s5 : (((((w.alloc o2).alloc o3).alloc o4).alloc og).alloc o5).heap.size = w.heap.size + 5 := by simp
  have s6 : ((((((w.alloc o2).alloc o3).alloc o4).alloc og).alloc o5).alloc o6).heap.size = w.heap.size + 6 := by simp
  have k2 := heap_alloc_new w o2
  have k3 := heap_alloc_new (w.alloc o2) o3
  have k4 := heap_alloc_new ((w.alloc o2).alloc o3) o4
  have kg := heap_alloc_new (((w.alloc o2).alloc o3).alloc o4) og
  have k5 := heap_alloc_new ((((w.alloc o2).alloc o3).alloc o4).alloc og) o5
  have k6 := heap_alloc_new (((((w.alloc o2).alloc o3).alloc o4).alloc og).alloc o5) o6
  have k7 := heap_alloc_new ((((((w.alloc o2).alloc o3).alloc o4).alloc og).alloc o5).alloc o6) o7
  rw [s1] at k3
  rw [s2] at k4
  rw [s3] at kg
  rw [s4] at k5
  rw [s5] at k6
  rw [s6] at k7
  have up : ∀ (V : World) (o x : Obj) (i : Nat), V.heap[i]? = some x → (V.alloc o).heap[i]? = some x := fun V o x i h => (heap_alloc_old V o (Array.getElem?_eq_some_iff.1 h).1).trans h
  refine ⟨up _ _ _ _ (up _ _ _ _ (up _ _ _ _ (up _ _ _ _ (up _ _ _ _ (up _ _ _ _ k2))))), up _ _ _ _ (up _ _ _ _ (up _ _ _ _ (up _ _ _ _ (up _ _ _ _ k3)))), up _ _ _ _ (up _ _ _ _ (up _ _ _ _ (up _ _ _ _ k4))), up _ _ _ _ (up _ _ _ _ (up _ _ _ _ kg)), up _ _ _ _ (up _ _ _ _ k5), up _ _ _ _ k6, k7, ?_, by show (World.alloc _ _).heap.size = _; simp⟩
  exact ((((((Below.refl _ w).alloc (Nat.le_refl _) _).alloc (by omega) _).alloc (by omega) _).alloc (by omega) _).alloc (by omega) _).alloc (by omega) _ |>.alloc (by omega) _
theorem wp_region_lateE {P : Program} {ops : Array Oper} {Q : Exit → Act → World → Prop} {id : Nat} {a : Act} {w : World} (S : World → Prop) (T : Nat → Bool) (hm : P.follows .mixedOrders = true)
    (h : wpAnyT P .any ops (EndN Q) S T ops.size (Array.replicate ops.size false) a w.drew) : (Code.region id ops true).wp P Q a w :=
  Code.wp_mono (fun e a w hq => by cases e <;> first | exact hq | exact hq.elim) (wp_region_late S T hm h)
theorem load_int {w : World} {n : Nat} {x : Int} (r : w.cell? ⟨n, 0, none⟩ = some (.int .i64 x)) : (loadVar 3 ⟨n, 0, none⟩).run Tryd.prog w = .ok (.int .i64 x) w := by
  go_simp
theorem load_errno {w : World} {n : Nat} {x : Int} (r : w.cell? ⟨n, 0, none⟩ = some (.int .i64 x)) : (loadVar 27 ⟨n, 0, none⟩).run Tryd.prog w = .ok (.int .i64 x) w := by
  go_simp
theorem results_get {fn : Func} {p2 p3 p4 : Tmp} (h : fn.results = #[.cell p2 47, .cell p3 3, .cell p4 27]) (tmps : Array Value) (w : World) (n2 n3 n4 : Nat) (cs : Array Value) (x y : Int)
    (h2 : tmps.getD p2 undef = .pointer (some ⟨n2, 0, none⟩)) (h3 : tmps.getD p3 undef = .pointer (some ⟨n3, 0, none⟩)) (h4 : tmps.getD p4 undef = .pointer (some ⟨n4, 0, none⟩))
    (hl : (loadVar 47 ⟨n2, 0, none⟩).run Tryd.prog w = .ok (.agg cs) w) (r3 : w.cell? ⟨n3, 0, none⟩ = some (.int .i64 x)) (r4 : w.cell? ⟨n4, 0, none⟩ = some (.int .i64 y)) :
    (results fn tmps).run Tryd.prog w = .ok (.tuple #[.agg cs, .int .i64 x, .int .i64 y]) w := by
  have k2 : tmps[p2]?.getD undef = .pointer (some ⟨n2, 0, none⟩) := by simpa using h2
  have k3 : tmps[p3]?.getD undef = .pointer (some ⟨n3, 0, none⟩) := by simpa using h3
  have k4 : tmps[p4]?.getD undef = .pointer (some ⟨n4, 0, none⟩) := by simpa using h4
  have l3 := load_int r3
  have l4 := load_errno r4
  simp [results, h, k2, k3, k4, asAddr, Sem.run_bind, hl, l3, l4]
/-- Some first lines of a text. -/
def PreOf (L : List (List UInt8)) (xs : List (Ln L)) : Prop := xs.map (·.1) <+: L
/-- What Get answers. -/
def GetRes (c : Cf) (L : List (List UInt8)) (w : World) (e : Ending) (w' : World) : Prop :=
  Below w.heap.size w w' ∧ ((L = cfgL c ∧ ∃ At ct Al nl cl Ah nh ch, e = .returned (.tuple #[.agg #[.int .i64 c.mn, .int .i64 c.mx, .int .i64 c.sw, .slice At c.ts.length ct, .slice Al nl cl, .slice Ah nh ch], .int .i64 0, .int .i64 0]) ∧ RT w' w'.heap.size At c.ts) ∨
    (L = [] ∧ e = .returned (.tuple #[.agg #[.int .i64 0, .int .i64 0, .int .i64 0, .slice none 0 0, .slice none 0 0, .slice none 0 0], .int .i64 1, .int .i64 8])))
set_option maxRecDepth 100000 in
set_option maxHeartbeats 4000000 in
theorem get_any (c : Cf) (L : List (List UInt8)) (hL : (L = cfgL c ∧ okCC c) ∨ L = []) (w : World) (EN : EnvS w.heap.size w) :
    Calls Tryd.prog 12 #[.string (BA (linesT L))] w (GetRes c L w) := by
  have hlen : (linesT L).length ≤ 100000 := by
    rcases hL with ⟨rfl, hc⟩ | rfl
    · have := cfgK_len hc.ok (c.ts.length + c.ls.length + 2)
      rw [cfgK_all hc.ok.nh] at this
      unfold cfgT at this
      omega
    · simp [linesT]
  have hno : ∀ x ∈ L, (10 : UInt8) ∉ x := by
    rcases hL with ⟨rfl, hc⟩ | rfl
    · exact cfg_no10 hc
    · intro x hx; cases hx
  have hN98 : L.length ≤ 98 := by
    rcases hL with ⟨rfl, hc⟩ | rfl
    · have h1 := hc.ok.nt
      have h2 := hc.ok.nl
      unfold cfgL
      simp only [List.length_cons, List.length_append, List.length_map, List.length_zipWith]
      omega
    · simp
  obtain ⟨ys, hys⟩ : ∃ ys : List (Ln L), ys.map (·.1) = L := ⟨L.attach, by simp⟩
  have HLL := Kept.mk hL
  have HYS := Kept.mk hys
  have HN := Kept.mk (show ys.length ≤ 98 from by have := congrArg List.length hys; rw [List.length_map] at this; omega)
  clear hL hN98
  refine (callsIn_wide (n := 4)).1 ?_
  refine callsIn_of_wp_marks Tryd.func12 rfl trivial ?_ rfl
  simp only [Tryd.ntmps12, List.size_toArray, List.length_cons, List.length_nil, Nat.reduceAdd, Nat.reduceSub, Array.replicate_succ, Array.replicate_zero, List.push_toArray, List.append_toArray, List.nil_append, List.cons_append]
  gi_wp2_with fail
  refine ⟨trivial, ?_⟩
  refine (callsIn_wide.2 (each_any _ _)).mono ?_
  rintro e w2 ⟨rfl, rfl⟩
  gi_wp2_with fail
  obtain ⟨W7, hW7⟩ : ∃ W7, W7 = ((((((w.alloc (.cells #[.int .i64 0, .int .i64 0, .int .i64 0, .slice none 0 0, .slice none 0 0, .slice none 0 0] 47)).alloc (.cells #[.int .i64 0] 3)).alloc (.cells #[.int .i64 0] 27)).alloc (.cells #[.int .i64 0, .int .i64 0, .int .i64 0, .slice none 0 0, .slice none 0 0, .slice none 0 0, .int .i64 0] 85)).alloc (.cells #[.pointer (some ⟨w.heap.size + 1 + 1 + 1, 0, none⟩)] 83)).alloc (.cells #[.int .i64 0] 3)).alloc (.cells #[.string (BA (linesT L))] 9) := ⟨_, rfl⟩
  obtain ⟨k2, k3, k4, kg, k5, k6, k7, kb, ks⟩ := world7 w (.cells #[.int .i64 0, .int .i64 0, .int .i64 0, .slice none 0 0, .slice none 0 0, .slice none 0 0] 47) (.cells #[.int .i64 0] 3) (.cells #[.int .i64 0] 27) (.cells #[.int .i64 0, .int .i64 0, .int .i64 0, .slice none 0 0, .slice none 0 0, .slice none 0 0, .int .i64 0] 85) (.cells #[.pointer (some ⟨w.heap.size + 1 + 1 + 1, 0, none⟩)] 83) (.cells #[.int .i64 0] 3) (.cells #[.string (BA (linesT L))] 9)
  rw [← hW7] at k2 k3 k4 kg k5 k6 k7 kb ks ⊢
  obtain ⟨n7, h7⟩ : ∃ x, x = w.heap.size + 1 + 1 + 1 + 1 + 1 + 1 := ⟨_, rfl⟩
  obtain ⟨n6, h6⟩ : ∃ x, x = w.heap.size + 1 + 1 + 1 + 1 + 1 := ⟨_, rfl⟩
  obtain ⟨n5, h5⟩ : ∃ x, x = w.heap.size + 1 + 1 + 1 + 1 := ⟨_, rfl⟩
  obtain ⟨g, hg⟩ : ∃ x, x = w.heap.size + 1 + 1 + 1 := ⟨_, rfl⟩
  obtain ⟨n4, h4⟩ : ∃ x, x = w.heap.size + 1 + 1 := ⟨_, rfl⟩
  obtain ⟨n3, h3⟩ : ∃ x, x = w.heap.size + 1 := ⟨_, rfl⟩
  obtain ⟨n2, h2⟩ : ∃ x, x = w.heap.size := ⟨_, rfl⟩
  obtain ⟨B, hB⟩ : ∃ x, x = w.heap.size + 7 := ⟨_, rfl⟩
  have HGO := Kept.mk (show GO n2 n3 n4 g n5 n6 n7 B w from ⟨by omega, by omega, by omega, by omega, by omega, by omega, by omega, by omega⟩)
  rw [show w.heap.size + 6 = n7 from by omega] at k7
  rw [show w.heap.size + 5 = n6 from by omega] at k6
  rw [show w.heap.size + 4 = n5 from by omega] at k5
  rw [show w.heap.size + 3 = g from by omega] at kg
  rw [show w.heap.size + 2 = n4 from by omega] at k4
  rw [show w.heap.size + 1 = n3 from by omega] at k3
  rw [show w.heap.size = n2 from by omega] at k2
  rw [show w.heap.size + 1 + 1 + 1 = g from by omega] at k5
  rw [← h7, ← h6, ← h5, ← hg, ← h4, ← h3]
  have hGS : GS n2 n3 n4 g n5 n6 B ⟨0, 0, 0, [], [], [], 0⟩ 0 W7 := ⟨⟨_, _, _, ⟨kg, World.ownsRow_nil _ _ _ _, World.ownsRow_nil _ _ _ _, World.ownsRow_nil _ _ _ _⟩⟩, k2, k3, k4, k5, k6, by omega⟩
  have HEN := Kept.mk (fun (V : World) (hV : Below w.heap.size w V) => show EnvS g V from (EN.on hV).mono (by have := HGO.out.ag; omega))
  have HMX := Kept.mk (show ∃ m, W7.cell? ⟨1, 0, none⟩ = some (.int .i64 m) from (EN.on kb).mx)
  have HB1 := Kept.mk (show 1 < W7.heap.size from by have := EN.b2; omega)
  have HK7 := Kept.mk k7
  have HKB := Kept.mk kb
  have HE1 := Kept.mk (show 1 < w.heap.size from EN.b2)
  have HKS := Kept.mk (show W7.heap.size = B from by omega)
  have hb7 : n7 < W7.heap.size := by have := HGO.out.a7; omega
  have HN7 := Kept.mk hb7
  clear hW7 k2 k3 k4 kg k5 k6 k7 kb ks h7 h6 h5 hg h4 h3 hB hb7
  rw [show (.pointer (some ⟨w.heap.size, 0, none⟩) : Value) = .pointer (some ⟨n2, 0, none⟩) from by rw [h2]]
  clear h2 EN
  refine wpIn_rangeFunc_ownF rfl (by omega) (gf := 44) (lb := #[.pointer (some ⟨n7, 0, none⟩)]) rfl trivial (enters_of Tryd.func44 (by kernel_rfl) rfl)
    (each_stops (4 - 1) (by omega) n7 L ys hys hno hlen W7 (cell_of_row _ _ 0 _ _ _ HK7.out) HN7.out HMX.out HB1.out)
    KpL.trans (fun W l o o' _ h hc _ => KpL.book W l o o' h hc) (Below.refl _ _) (fun _ => rfl)
    (fun pre W => (∃ d, GS n2 n3 n4 g n5 n6 B d pre.length W ∧ Lens d pre.length ∧ Kept (PreOf L pre → L = cfgL c → d = dK c pre.length)) ∧ Below w.heap.size w W)
    (fun cc pre W => (¬ PreOf L pre) ∧ Below w.heap.size w W)
    (OwnFrom.and (Own.from (fun s A B row hs hg hr => by
      obtain ⟨d, h1, h2, h3⟩ := hs
      exact ⟨d, h1.book hg hr, h2, h3⟩) _) (ownFrom_below (by have := HKB.out.size; omega) (by have := HKB.out.size; omega)))
    (fun cc => OwnFrom.and (Own.from (fun s A B row hs hg hr => hs) _) (ownFrom_below (by have := HKB.out.size; omega) (by have := HKB.out.size; omega)))
    ⟨⟨_, hGS, ⟨rfl, by simp, by simp, by simp⟩, ⟨fun _ _ => by simp [dK]⟩⟩, HKB.out⟩
    (fun x => { tmps := #[.string (BA (linesT L)), undef, .pointer (some ⟨n2, 0, none⟩), .pointer (some ⟨n3, 0, none⟩), .pointer (some ⟨n4, 0, none⟩), .pointer (some ⟨n5, 0, none⟩), .pointer (some ⟨n6, 0, none⟩), .string (BA x.1), .bool true, .agg #[.int .i64 0, .int .i64 0, .int .i64 0, .slice none 0 0, .slice none 0 0, .slice none 0 0, .int .i64 0], .pointer (some ⟨g, 0, none⟩), .string (BA (linesT L)), .func (.func 44) #[] #[.pointer (some ⟨n7, 0, none⟩)], .string (BA x.1), .bool true, undef, undef, undef, undef, undef, undef, undef, undef, undef, undef, undef, undef, undef, undef, undef, undef, undef, undef, undef, undef, undef], defers := [] }) ?assign ?body ?done ?stop
  case assign =>
    intro l x W K hK
    gi_wp2
    exact hK
  case body =>
    rintro l pre ⟨x, hx⟩ W ⟨⟨d, hG, hLn, hD⟩, hbW⟩ hpl
    rcases HLL.out with ⟨hLc, hcc⟩ | hLe
    · have hxc : x ∈ cfgL c := hLc ▸ hx
      obtain ⟨k, hk⟩ : ∃ k, k = pre.length := ⟨_, rfl⟩
      rw [← hk] at hG hLn hD hpl
      have HK := Kept.mk hk
      clear hk
      have k97 : k ≤ 97 := by have := HN.out; omega
      obtain ⟨vt, vl, vh, hrd⟩ := hG.rd
      have ho := HGO.out
      have hgB : g < B := by have := ho.ag; have := ho.aB; omega
      have h6B : n6 < B := by have := ho.a6; have := ho.aB; omega
      have hg6 : g ≠ n6 := by have := ho.ag; have := ho.a6; omega
      have h56 : n5 ≠ n6 := by have := ho.a5; have := ho.a6; omega
      have hw6 : w.heap.size ≤ n6 := by have := ho.a6; omega
      have GB6 := gb_set W n6 0 (.int .i64 ((k : Int) + 1))
      have hrd1 : RD B g d vt vl vh (W.setCell ⟨n6, 0, none⟩ (.int .i64 ((k : Int) + 1))) := ⟨(heap_setCell_other W ⟨n6, 0, none⟩ g _ hg6).trans hrd.me, own_gb hrd.ot GB6 h6B, own_gb hrd.ol GB6 h6B, own_gb hrd.oh GB6 h6B⟩
      have hbW1 : Below w.heap.size w (W.setCell ⟨n6, 0, none⟩ (.int .i64 ((k : Int) + 1))) := hbW.setCell (p := ⟨n6, 0, none⟩) hw6 _
      have HADD := Kept.mk (add_tot hcc hxc hrd1 hLn (by omega) (HEN.out _ hbW1) hgB (by have := hG.sz; simp; omega))
      have c6 := cell_of_row _ _ 0 _ _ _ hG.c6
      have f6 : W.frozen? ⟨n6, 0, none⟩ = false := by simp [World.frozen?, hG.c6]
      have c5 := cell_of_row _ _ 0 _ _ _ hG.c5
      have c51 : (W.setCell ⟨n6, 0, none⟩ (.int .i64 ((k : Int) + 1))).cell? ⟨n5, 0, none⟩ = some (.pointer (some ⟨g, 0, none⟩)) := by
        rw [cell_of_row _ _ 0 _ _ _ ((heap_setCell_other W ⟨n6, 0, none⟩ n5 _ h56).trans hG.c5)]
        rfl
      simp only [List.getElem?_toArray, List.getElem?_cons_zero] at c6 c5
      have HLC := Kept.mk hLc
      have HG := Kept.mk hG
      have HBW1 := Kept.mk hbW1
      have HDK := Kept.mk (fun (h : PreOf L (pre ++ [(⟨x, hx⟩ : Ln L)])) => show (cfgL c)[k]? = some x ∧ d = dK c k from by
        unfold PreOf at h
        rw [List.map_append] at h
        have h1 : pre.map (·.1) <+: L := (List.prefix_append _ _).trans h
        refine ⟨?_, hD.out h1 hLc⟩
        obtain ⟨r, hr⟩ := h
        rw [← hLc, ← hr, HK.out]
        simp)
      clear hG hD hrd hrd1 hbW1 GB6 hLc hys
      gi_wp2_with fail
      refine ⟨trivial, ?_⟩
      refine (CallsIn.inRound l (callsIn_wide.2 HADD.out)).mono ?_
      rintro e w5 ⟨ok, d', ⟨rfl, ⟨vt', vl', vh', hrd'⟩, hfx⟩, hl', hgood⟩
      have HB5 := Kept.mk (show Below w.heap.size (W.setCell ⟨n6, 0, none⟩ (.int .i64 ((k : Int) + 1))) w5 from (hfx.below (Nat.le_of_lt hgB)).mono (by have := ho.ag; omega))
      have HKO := Kept.mk ((KeepsOthers.setCell W ⟨n6, 0, none⟩ (.int .i64 ((k : Int) + 1))).trans hfx.others)
      have HKL := Kept.mk (show KpL W w5 from fun v hv => by
        have h1 : (W.setCell ⟨n6, 0, none⟩ (.int .i64 ((k : Int) + 1))).cell? ⟨1, 0, none⟩ = W.cell? ⟨1, 0, none⟩ := World.cell?_setCell_other _ _ _ _ (by intro e; have h9 := congrArg Addr.block e; have := HE1.out; simp only at h9; omega)
        exact (HB5.out.cell (p := ⟨1, 0, none⟩) HE1.out).trans (h1.trans hv))
      have up : ∀ (i : Nat) (x : Obj), i < B → i ≠ g → i ≠ n6 → W.heap[i]? = some x → w5.heap[i]? = some x := fun i x h1 h2 h3 h4 => (hfx.block i h1 h2).trans ((heap_setCell_other W ⟨n6, 0, none⟩ i _ h3).trans h4)
      have HG5 := Kept.mk (show GS n2 n3 n4 g n5 n6 B d' (k + 1) w5 from ⟨⟨_, _, _, hrd'⟩, up _ _ (by have := ho.a2; have := ho.aB; omega) (by have := ho.a2; have := ho.ag; omega) (by have := ho.a2; have := ho.a6; omega) HG.out.c2, up _ _ (by have := ho.a3; have := ho.aB; omega) (by have := ho.a3; have := ho.ag; omega) (by have := ho.a3; have := ho.a6; omega) HG.out.c3, up _ _ (by have := ho.a4; have := ho.aB; omega) (by have := ho.a4; have := ho.ag; omega) (by have := ho.a4; have := ho.a6; omega) HG.out.c4, up _ _ (by have := ho.a5; have := ho.aB; omega) (by have := ho.a5; have := ho.ag; omega) (by have := ho.a5; have := ho.a6; omega) HG.out.c5,
        by rw [hfx.block n6 h6B (Ne.symm hg6)]; exact set_at HG.out.c6 _, by have := HG.out.sz; have := hfx.size; simp at this; omega⟩)
      clear up hfx hrd' c6 f6 c5 c51 HADD HG
      cases ok
      · have HNO := Kept.mk (show ¬ PreOf L (pre ++ [(⟨x, hx⟩ : Ln L)]) from fun h => by have := (hgood (HDK.out h)).2; cases this)
        clear hgood HDK
        gi_wp2_with fail
        refine wpIn_round_late (fun V : World => V.cell? ⟨n6, 0, none⟩ = some (.int .i64 ((k : Int) + 1))) (fun _ => false) (by kernel_rfl) (by kernel_rfl) ?_
        obtain ⟨wd, hwd⟩ : ∃ wd, wd = w5.drew := ⟨_, rfl⟩
        have hbd : Below w5.heap.size w5 wd := by rw [hwd]; exact (Below.refl _ _).drewN 1
        have HOd := Kept.mk (show KeepsOthers w5 wd from KeepsOthers.of_grownBy (row := none) ⟨hbd.os, hbd.tape, hbd.output, hbd.size, fun i hi _ => hbd.block i hi⟩ (fun _ _ hj => by cases hj))
        have hd2 := (hbd.block n2 (Array.getElem?_eq_some_iff.1 HG5.out.c2).1).trans HG5.out.c2
        have HD3 := Kept.mk ((hbd.block n3 (Array.getElem?_eq_some_iff.1 HG5.out.c3).1).trans HG5.out.c3)
        have HD4 := Kept.mk ((hbd.block n4 (Array.getElem?_eq_some_iff.1 HG5.out.c4).1).trans HG5.out.c4)
        have HD6 := Kept.mk ((hbd.block n6 (Array.getElem?_eq_some_iff.1 HG5.out.c6).1).trans HG5.out.c6)
        have hk1 : (((k + 1 : Nat) : Int)) = (k : Int) + 1 := by omega
        have HS0 := Kept.mk (show (fun V : World => V.cell? ⟨n6, 0, none⟩ = some (.int .i64 ((k : Int) + 1))) wd from by
          have h6 := cell_of_row _ _ 0 _ _ _ HD6.out
          rw [hk1] at h6
          exact h6)
        have HBd := Kept.mk (hbd.mono (show w.heap.size ≤ w5.heap.size from by have := HB5.out.size; have := HBW1.out.size; omega))
        rw [← hwd]
        have o26 : n6 ≠ n2 := by have := ho.a2; have := ho.a6; omega
        have o36 : n6 ≠ n3 := by have := ho.a3; have := ho.a6; omega
        have o46 : n6 ≠ n4 := by have := ho.a4; have := ho.a6; omega
        have o23 : n3 ≠ n2 := by have := ho.a2; have := ho.a3; omega
        have o24 : n4 ≠ n2 := by have := ho.a2; have := ho.a4; omega
        have o34 : n4 ≠ n3 := by have := ho.a3; have := ho.a4; omega
        clear hwd hbd hk1
        refine wpAnyT_take (i := 0) (v := ?v0) [0] (by simp only [List.getElem?_toArray, List.getElem?_cons_succ, List.getElem?_cons_zero]; exact rfl) (by kernel_rfl) (by kernel_rfl) (by kernel_rfl) (by kernel_rfl) (by intro _ _ _ h; exact h) (Or.inl ⟨by rfl, ?hy0⟩) HS0.out ?rest0
        case hy0 => (intro w hSw; go_simp; try with_reducible rfl)
        try simp only [Act.put, List.setIfInBounds_toArray, List.set_cons_zero, List.set_cons_succ]
        refine wpAnyT_take (i := 1) (v := ?v1) [1] (by simp only [List.getElem?_toArray, List.getElem?_cons_succ, List.getElem?_cons_zero]; exact rfl) (by kernel_rfl) (by kernel_rfl) (by kernel_rfl) (by kernel_rfl) (by intro _ _ _ h; exact h) (Or.inl ⟨by rfl, ?hy1⟩) HS0.out ?rest1
        case hy1 => (intro w hSw; go_simp; try with_reducible rfl)
        try simp only [Act.put, List.setIfInBounds_toArray, List.set_cons_zero, List.set_cons_succ]
        refine wpAnyT_one 2 (by kernel_rfl) (by simp only [List.getElem?_toArray, List.getElem?_cons_succ, List.getElem?_cons_zero]; exact rfl) (fun K hK => ?_)
        refine step_wp' rfl (wp_store_at 47 _ _ rfl n2 0 rfl #[.int .i64 0, .int .i64 0, .int .i64 0, .slice none 0 0, .slice none 0 0, .slice none 0 0] rfl 47 #[.int .i64 0, .int .i64 0, .int .i64 0, .slice none 0 0, .slice none 0 0, .slice none 0 0] #[.int .i64 0, .int .i64 0, .int .i64 0, .slice none 0 0, .slice none 0 0, .slice none 0 0] hd2 size_cfg (by simp) six_one rfl ?_)
        intro w6 hp
        have P6 := Kept.mk hp
        have H63 := Kept.mk ((hp.far n3 o23).trans HD3.out)
        have H64 := Kept.mk ((hp.far n4 o24).trans HD4.out)
        have HO6 := Kept.mk (keeps_putAt hp hd2)
        have HS6 := Kept.mk (show (fun V : World => V.cell? ⟨n6, 0, none⟩ = some (.int .i64 ((k : Int) + 1))) w6 from by
          have := HS0.out
          have e : w6.cell? ⟨n6, 0, none⟩ = wd.cell? ⟨n6, 0, none⟩ := by rw [cell_of_row _ _ 0 _ _ _ ((hp.far n6 o26).trans HD6.out), cell_of_row _ _ 0 _ _ _ HD6.out]
          exact e.trans this)
        have x3 := cell_of_row _ _ 0 _ _ _ H63.out
        have y3 : w6.frozen? ⟨n3, 0, none⟩ = false := by simp [World.frozen?, H63.out]
        simp only [List.getElem?_toArray, List.getElem?_cons_zero] at x3
        clear hp hd2
        refine hK.out _ _ (fun _ => HS6.out) ?_
        clear hK K
        try simp only [Act.put, List.setIfInBounds_toArray, List.set_cons_zero, List.set_cons_succ]
        refine wpAnyT_one 3 (by kernel_rfl) (by simp only [List.getElem?_toArray, List.getElem?_cons_succ, List.getElem?_cons_zero]; exact rfl) (fun K hK => ?_)
        go_simp
        obtain ⟨w7, hw7⟩ : ∃ w7, w7 = w6.setCell ⟨n3, 0, none⟩ (.int .i64 ((k : Int) + 1)) := ⟨_, rfl⟩
        have H74 := Kept.mk (show w7.heap[n4]? = some (.cells #[.int .i64 0] 27 (0, 0)) from by rw [hw7]; exact (heap_setCell_other w6 ⟨n3, 0, none⟩ n4 _ o34).trans H64.out)
        have HO7 := Kept.mk (show KeepsOthers w6 w7 from by rw [hw7]; exact KeepsOthers.setCell _ _ _)
        have HB7 := Kept.mk (show Below w.heap.size w6 w7 from by rw [hw7]; exact (Below.refl _ _).setCell (p := ⟨n3, 0, none⟩) (by have := ho.a3; simp; omega) _)
        have HS7 := Kept.mk (show (fun V : World => V.cell? ⟨n6, 0, none⟩ = some (.int .i64 ((k : Int) + 1))) w7 from by
          have e : w7.cell? ⟨n6, 0, none⟩ = w6.cell? ⟨n6, 0, none⟩ := by rw [hw7]; exact World.cell?_setCell_other _ _ _ _ (by intro e; have h9 := congrArg Addr.block e; simp only at h9; omega)
          exact e.trans HS6.out)
        rw [← hw7]
        have x4 := cell_of_row _ _ 0 _ _ _ H74.out
        have y4 : w7.frozen? ⟨n4, 0, none⟩ = false := by simp [World.frozen?, H74.out]
        simp only [List.getElem?_toArray, List.getElem?_cons_zero] at x4
        clear hw7 x3 y3
        refine hK.out _ _ (fun _ => HS7.out) ?_
        clear hK K
        try simp only [Act.put, List.setIfInBounds_toArray, List.set_cons_zero, List.set_cons_succ]
        refine wpAnyT_one 4 (by kernel_rfl) (by simp only [List.getElem?_toArray, List.getElem?_cons_succ, List.getElem?_cons_zero]; exact rfl) (fun K hK => ?_)
        go_simp
        have HS8 := Kept.mk (show (fun V : World => V.cell? ⟨n6, 0, none⟩ = some (.int .i64 ((k : Int) + 1))) (w7.setCell ⟨n4, 0, none⟩ (.int .i64 8)) from by
          have e : (w7.setCell ⟨n4, 0, none⟩ (.int .i64 8)).cell? ⟨n6, 0, none⟩ = w7.cell? ⟨n6, 0, none⟩ := World.cell?_setCell_other _ _ _ _ (by intro e; have h9 := congrArg Addr.block e; simp only at h9; omega)
          exact e.trans HS7.out)
        refine hK.out _ _ (fun _ => HS8.out) ?_
        clear hK K
        try simp only [Act.put, List.setIfInBounds_toArray, List.set_cons_zero, List.set_cons_succ]
        refine wpAnyT_done (by kernel_rfl) ?_ _
        clear x4 y4
        rename_i kk hkk
        refine hkk _ _ ?_
        gi_wp2
        exact ⟨(((HKO.out.trans HOd.out).trans HO6.out).trans HO7.out).trans (KeepsOthers.setCell _ _ _), HNO.out, (((HBW1.out.trans HB5.out).trans HBd.out).trans ((P6.out.below w.heap.size (by have := ho.a2; omega)).trans HB7.out)).setCell (p := ⟨n4, 0, none⟩) (by have := ho.a4; simp; omega) _⟩
      · have HLN := Kept.mk (show Lens d' (pre ++ [(⟨x, hx⟩ : Ln L)]).length from by rw [List.length_append, List.length_singleton, ← HK.out]; exact hl')
        have HG6 := Kept.mk (show GS n2 n3 n4 g n5 n6 B d' (pre ++ [(⟨x, hx⟩ : Ln L)]).length w5 from by rw [List.length_append, List.length_singleton, ← HK.out]; exact HG5.out)
        have HDD := Kept.mk (fun (h : PreOf L (pre ++ [(⟨x, hx⟩ : Ln L)])) (_ : L = cfgL c) => show d' = dK c (pre ++ [(⟨x, hx⟩ : Ln L)]).length from by
          rw [List.length_append, List.length_singleton, ← HK.out]
          exact (hgood (HDK.out h)).1)
        clear hgood HDK hl'
        gi_wp2
        exact ⟨HKO.out, HKL.out, ⟨d', HG6.out, HLN.out, HDD⟩, HBW1.out.trans HB5.out⟩
    · rw [hLe] at hx
      cases hx
  case done =>
    rintro D xs W hD rfl ⟨⟨d, hG, hLn, hDd⟩, hbW⟩ hK
    have ho := HGO.out
    obtain ⟨k, hk⟩ : ∃ k, k = xs.length := ⟨_, rfl⟩
    rw [← hk] at hG hLn hDd
    have hkl : k = L.length := by rw [hk]; have := congrArg List.length HYS.out; rwa [List.length_map] at this
    have k98 : k ≤ 98 := by have := HN.out; omega
    obtain ⟨vt, vl, vh, hrd⟩ := hG.rd
    have HG := Kept.mk hG
    have HBW := Kept.mk hbW
    have HKD := Kept.mk hK
    have o24 : n4 ≠ n2 := by have := ho.a2; have := ho.a4; omega
    have o23 : n3 ≠ n2 := by have := ho.a2; have := ho.a3; omega
    have o34 : n4 ≠ n3 := by have := ho.a3; have := ho.a4; omega
    have oD : n2 ≠ D ∧ n3 ≠ D ∧ n4 ≠ D := by have := ho.a2; have := ho.a3; have := ho.a4; have := HKS.out; have := ho.aB; omega
    have c6 := cell_of_row _ _ 0 _ _ _ hG.c6
    have c5 := cell_of_row _ _ 0 _ _ _ hG.c5
    simp only [List.getElem?_toArray, List.getElem?_cons_zero] at c6 c5
    have hd2 := hG.c2
    rcases HLL.out with ⟨hLc, hcc⟩ | hLe
    · have hdd := hDd.out (by unfold PreOf; rw [HYS.out]; exact List.prefix_rfl) hLc
      have hcl : (cfgL c).length = c.ts.length + c.ls.length + 2 := by
        unfold cfgL
        have := hcc.ok.nh
        simp only [List.length_cons, List.length_append, List.length_map, List.length_zipWith]
        omega
      have k2 : 2 ≤ k := by rw [hkl, hLc, hcl]; omega
      have hd : d.mn = c.mn ∧ d.mx = c.mx ∧ d.sw = c.sw ∧ d.ts = c.ts := by
        rw [hdd]
        unfold dK
        rw [if_pos (by omega), if_pos (by omega), if_pos (by omega)]
        exact ⟨rfl, rfl, rfl, List.take_of_length_le (by rw [hkl, hLc, hcl]; omega)⟩
      obtain ⟨q1, q2, q3, q4⟩ := hd
      have hme := hrd.me
      rw [q1, q2, q3] at hme
      have hot := hrd.ot
      rw [q4] at hot
      obtain ⟨At, ct, rfl, hRT⟩ := RT.of_own hot
      have HRT := Kept.mk hRT
      obtain ⟨Al, cl, rfl⟩ := own_slice hrd.ol
      obtain ⟨Ah, ch, rfl⟩ := own_slice hrd.oh
      have HME := Kept.mk hme
      have HOT := Kept.mk hot
      have HTL := Kept.mk (show d.ts.length = c.ts.length from by rw [q4])
      have e0 := cell_of_row _ _ 0 _ _ _ hme
      have e1 := cell_of_row _ _ 1 _ _ _ hme
      have e2 := cell_of_row _ _ 2 _ _ _ hme
      have e3 := cell_of_row _ _ 3 _ _ _ hme
      have e4 := cell_of_row _ _ 4 _ _ _ hme
      have e5 := cell_of_row _ _ 5 _ _ _ hme
      clear e0 e1 e2 e3 e4 e5
      have lk : decide ((k : Int) < 2) = false := decide_eq_false (by omega)
      have HLC := Kept.mk hLc
      have hone : ∀ v ∈ (#[.int .i64 c.mn, .int .i64 c.mx, .int .i64 c.sw, .slice At c.ts.length ct, .slice Al d.ls.length cl, .slice Ah d.hs.length ch] : Array Value).toList, v.oneCell' = true := by
        intro v hv
        simp at hv
        rcases hv with rfl | rfl | rfl | rfl | rfl | rfl <;> rfl
      have HONE := Kept.mk hone
      clear hys hk hkl hG hLn hDd hrd hbW hK hLc hcc hdd hcl q1 q2 q3 q4 hme hot hRT hone
      rename_i kk hkk
      show kk _ _
      refine hkk _ _ ?_
      refine wpIn_wide.2 ?_
      go_wp2_with (refine wpList_load_part rfl 47 _ rfl g rfl 85 _ #[.int .i64 c.mn, .int .i64 c.mx, .int .i64 c.sw, .slice At c.ts.length ct, .slice Al d.ls.length cl, .slice Ah d.hs.length ch] _ _ HME.out (pre6 _ _ _ _ _ _ _) Tryd.underlying47 rfl size_cfg ?_; refine Hid.out ?_)
      refine Lib.hid ?_
      go_wp2_with (refine wpList_store_at rfl 47 _ _ rfl n2 0 rfl #[.int .i64 c.mn, .int .i64 c.mx, .int .i64 c.sw, .slice At c.ts.length ct, .slice Al d.ls.length cl, .slice Ah d.hs.length ch] rfl 47 #[.int .i64 0, .int .i64 0, .int .i64 0, .slice none 0 0, .slice none 0 0, .slice none 0 0] #[.int .i64 c.mn, .int .i64 c.mx, .int .i64 c.sw, .slice At c.ts.length ct, .slice Al d.ls.length cl, .slice Ah d.hs.length ch] hd2 size_cfg (by simp) HONE.out rfl ?_; intro w6 hp; have P6 := Kept.mk hp; clear hp; refine Hid.out ?_)
      refine Lib.hid ?_
      have H63 := Kept.mk ((P6.out.far n3 o23).trans HG.out.c3)
      have H64 := Kept.mk ((P6.out.far n4 o24).trans HG.out.c4)
      have x3 := cell_of_row _ _ 0 _ _ _ H63.out
      have y3 : w6.frozen? ⟨n3, 0, none⟩ = false := by simp [World.frozen?, H63.out]
      have H74 := Kept.mk ((heap_setCell_other w6 ⟨n3, 0, none⟩ n4 (.int .i64 0) o34).trans H64.out)
      have x4 := cell_of_row _ _ 0 _ _ _ H74.out
      have y4 : (w6.setCell ⟨n3, 0, none⟩ (.int .i64 0)).frozen? ⟨n4, 0, none⟩ = false := by simp [World.frozen?, H74.out]
      simp only [List.getElem?_toArray, List.getElem?_cons_zero] at x3 x4
      go_wp2
      have H84 := Kept.mk (set_at (k := 0) H74.out (.int .i64 0))
      have H73 := Kept.mk (set_at (k := 0) H63.out (.int .i64 0))
      obtain ⟨w8, hw8⟩ : ∃ w8, w8 = (w6.setCell ⟨n3, 0, none⟩ (.int .i64 0)).setCell ⟨n4, 0, none⟩ (.int .i64 0) := ⟨_, rfl⟩
      have o32 : n2 ≠ n3 := fun e => o23 e.symm
      have o42 : n2 ≠ n4 := fun e => o24 e.symm
      have o43 : n3 ≠ n4 := fun e => o34 e.symm
      have F2 : w8.heap[n2]? = some (.cells #[.int .i64 c.mn, .int .i64 c.mx, .int .i64 c.sw, .slice At c.ts.length ct, .slice Al d.ls.length cl, .slice Ah d.hs.length ch] 47 (0, 0)) := by rw [hw8]; exact (heap_setCell_other _ ⟨n4, 0, none⟩ n2 _ o42).trans ((heap_setCell_other _ ⟨n3, 0, none⟩ n2 _ o32).trans P6.out.here)
      have F3 : w8.heap[n3]? = some (.cells #[.int .i64 0] 3 (0, 0)) := by rw [hw8]; exact (heap_setCell_other _ ⟨n4, 0, none⟩ n3 _ o43).trans H73.out
      have F4 : w8.heap[n4]? = some (.cells #[.int .i64 0] 27 (0, 0)) := by rw [hw8]; exact H84.out
      have K8 : KeepsOthers W w8 := by rw [hw8]; exact ((keeps_putAt P6.out hd2).trans (KeepsOthers.setCell _ _ _)).trans (KeepsOthers.setCell _ _ _)
      have B8 : Below w.heap.size W w8 := by rw [hw8]; exact ((P6.out.below w.heap.size (by have := ho.a2; omega)).setCell (p := ⟨n3, 0, none⟩) (by have := ho.a3; simp; omega) _).setCell (p := ⟨n4, 0, none⟩) (by have := ho.a4; simp; omega) _
      rw [← hw8]
      have D8 := K8.same D _ HKD.out rfl
      have O8 : w8.ownsRow B 54 10 (.slice At c.ts.length ct) c.ts.length (c.ts.flatMap Tk.cells) := by
        rw [hw8]
        exact own_gb (own_gb (own_gb HOT.out (gb_put P6.out) (by have := ho.a2; have := ho.aB; omega)) (gb_set _ _ _ _) (by have := ho.a3; have := ho.aB; omega)) (gb_set _ _ _ _) (by have := ho.a4; have := ho.aB; omega)
      refine ⟨by simp, .inl ⟨_, _, rfl, run_takeDeferred D8, ?_⟩⟩
      have g2 : (w8.putObj D (.deferred none)).heap[n2]? = _ := (World.putObj_heap_other oD.1).trans F2
      have g3 : (w8.putObj D (.deferred none)).heap[n3]? = _ := (World.putObj_heap_other oD.2.1).trans F3
      have g4 : (w8.putObj D (.deferred none)).heap[n4]? = _ := (World.putObj_heap_other oD.2.2).trans F4
      have hl := run_load_part (P := Tryd.prog) _ n2 47 47 _ #[.int .i64 c.mn, .int .i64 c.mx, .int .i64 c.sw, .slice At c.ts.length ct, .slice Al d.ls.length cl, .slice Ah d.hs.length ch] (0, 0) _ g2 (fun j v h => h) Tryd.underlying47 rfl size_cfg
      have r3 := cell_of_row _ _ 0 _ _ _ g3
      have r4 := cell_of_row _ _ 0 _ _ _ g4
      simp only [List.getElem?_toArray, List.getElem?_cons_zero] at r3 r4
      refine ⟨.tuple #[.agg #[.int .i64 c.mn, .int .i64 c.mx, .int .i64 c.sw, .slice At c.ts.length ct, .slice Al d.ls.length cl, .slice Ah d.hs.length ch], .int .i64 0, .int .i64 0], ?_, ?_⟩
      · exact results_get rfl _ _ n2 n3 n4 _ _ _ rfl rfl rfl hl r3 r4
      · refine ⟨(HBW.out.trans B8).trans (belowK_b (w := W7) (n₀ := w.heap.size) (by have := HKB.out.size; omega) _ D _ _ hD D8 rfl rfl), .inl ⟨HLC.out, At, ct, _, _, _, _, _, _, rfl, ?_⟩⟩
        have O9 := own_kept' O8 (grownBy_putObj' w8 D (.deferred none)) (fun r e => by cases e; exact ⟨_, D8, rfl⟩)
        obtain ⟨A', c', e, h⟩ := RT.of_own O9
        injection e with e1 e2 e3
        subst e1
        exact h
    · obtain rfl : k = 0 := by rw [hkl, hLe]; rfl
      have HLE := Kept.mk hLe
      clear hkl hG hLn hDd hrd hbW hK hLe hys hk
      rename_i kk hkk
      show kk _ _
      refine hkk _ _ ?_
      refine wpIn_wide.2 ?_
      go_upto_region 10 with fail
      refine wp_region_lateE (fun V : World => V.cell? ⟨n6, 0, none⟩ = some (.int .i64 0)) (fun _ => false) (by kernel_rfl) ?_
      obtain ⟨wd, hwd⟩ : ∃ wd, wd = W.drew := ⟨_, rfl⟩
      have hbd : Below W.heap.size W wd := by rw [hwd]; exact (Below.refl _ _).drewN 1
      have HOd := Kept.mk (show KeepsOthers W wd from KeepsOthers.of_grownBy (row := none) ⟨hbd.os, hbd.tape, hbd.output, hbd.size, fun i hi _ => hbd.block i hi⟩ (fun _ _ hj => by cases hj))
      have HD2 := Kept.mk ((hbd.block n2 (Array.getElem?_eq_some_iff.1 HG.out.c2).1).trans HG.out.c2)
      have HD3 := Kept.mk ((hbd.block n3 (Array.getElem?_eq_some_iff.1 HG.out.c3).1).trans HG.out.c3)
      have HD4 := Kept.mk ((hbd.block n4 (Array.getElem?_eq_some_iff.1 HG.out.c4).1).trans HG.out.c4)
      have HD6 := Kept.mk ((hbd.block n6 (Array.getElem?_eq_some_iff.1 HG.out.c6).1).trans HG.out.c6)
      have HS0 := Kept.mk (show (fun V : World => V.cell? ⟨n6, 0, none⟩ = some (.int .i64 0)) wd from cell_of_row _ _ 0 _ _ _ HD6.out)
      have HBd := Kept.mk (HBW.out.trans (hbd.mono (show w.heap.size ≤ W.heap.size from HBW.out.size)))
      rw [← hwd]
      have o26 : n6 ≠ n2 := by have := ho.a2; have := ho.a6; omega
      have o36 : n6 ≠ n3 := by have := ho.a3; have := ho.a6; omega
      have o46 : n6 ≠ n4 := by have := ho.a4; have := ho.a6; omega
      clear hwd hbd c6 c5 hd2
      have hd2 := HD2.out
      refine wpAnyT_take (i := 0) (v := ?ve0) [0] (by simp only [List.getElem?_toArray, List.getElem?_cons_succ, List.getElem?_cons_zero]; exact rfl) (by kernel_rfl) (by kernel_rfl) (by kernel_rfl) (by kernel_rfl) (by intro _ _ _ h; exact h) (Or.inl ⟨by rfl, ?hye0⟩) HS0.out ?reste0
      case hye0 => (intro w hSw; go_simp; try with_reducible rfl)
      try simp only [Act.put, List.setIfInBounds_toArray, List.set_cons_zero, List.set_cons_succ]
      refine wpAnyT_take (i := 1) (v := ?ve1) [1] (by simp only [List.getElem?_toArray, List.getElem?_cons_succ, List.getElem?_cons_zero]; exact rfl) (by kernel_rfl) (by kernel_rfl) (by kernel_rfl) (by kernel_rfl) (by intro _ _ _ h; exact h) (Or.inl ⟨by rfl, ?hye1⟩) HS0.out ?reste1
      case hye1 => (intro w hSw; go_simp; try with_reducible rfl)
      try simp only [Act.put, List.setIfInBounds_toArray, List.set_cons_zero, List.set_cons_succ]
      refine wpAnyT_take (i := 2) (v := ?ve2) [2] (by simp only [List.getElem?_toArray, List.getElem?_cons_succ, List.getElem?_cons_zero]; exact rfl) (by kernel_rfl) (by kernel_rfl) (by kernel_rfl) (by kernel_rfl) (by intro _ _ _ h; exact h) (Or.inl ⟨by rfl, ?hye2⟩) HS0.out ?reste2
      case hye2 => (intro w hSw; go_simp; try with_reducible rfl)
      try simp only [Act.put, List.setIfInBounds_toArray, List.set_cons_zero, List.set_cons_succ]
      rw [show IntKind.i64.wrap 1 = (1 : Int) from by decide]
      refine wpAnyT_one 3 (by kernel_rfl) (by simp only [List.getElem?_toArray, List.getElem?_cons_succ, List.getElem?_cons_zero]; exact rfl) (fun K hK => ?_)
      refine step_wp' rfl (wp_store_at 47 _ _ rfl n2 0 rfl #[.int .i64 0, .int .i64 0, .int .i64 0, .slice none 0 0, .slice none 0 0, .slice none 0 0] rfl 47 #[.int .i64 0, .int .i64 0, .int .i64 0, .slice none 0 0, .slice none 0 0, .slice none 0 0] #[.int .i64 0, .int .i64 0, .int .i64 0, .slice none 0 0, .slice none 0 0, .slice none 0 0] hd2 size_cfg (by simp) six_one rfl ?_)
      intro w6 hp
      have P6 := Kept.mk hp
      have H63 := Kept.mk ((hp.far n3 o23).trans HD3.out)
      have H64 := Kept.mk ((hp.far n4 o24).trans HD4.out)
      have HS6 := Kept.mk (show (fun V : World => V.cell? ⟨n6, 0, none⟩ = some (.int .i64 0)) w6 from cell_of_row _ _ 0 _ _ _ ((hp.far n6 o26).trans HD6.out))
      have x3 := cell_of_row _ _ 0 _ _ _ H63.out
      have y3 : w6.frozen? ⟨n3, 0, none⟩ = false := by simp [World.frozen?, H63.out]
      simp only [List.getElem?_toArray, List.getElem?_cons_zero] at x3
      clear hp
      refine hK.out _ _ (fun _ => HS6.out) ?_
      clear hK K
      try simp only [Act.put, List.setIfInBounds_toArray, List.set_cons_zero, List.set_cons_succ]
      refine wpAnyT_one 4 (by kernel_rfl) (by simp only [List.getElem?_toArray, List.getElem?_cons_succ, List.getElem?_cons_zero]; exact rfl) (fun K hK => ?_)
      go_simp
      have H74 := Kept.mk ((heap_setCell_other w6 ⟨n3, 0, none⟩ n4 (.int .i64 1) o34).trans H64.out)
      have HS7 := Kept.mk (show (fun V : World => V.cell? ⟨n6, 0, none⟩ = some (.int .i64 0)) (w6.setCell ⟨n3, 0, none⟩ (.int .i64 1)) from (World.cell?_setCell_other _ _ _ _ (by intro e; have h9 := congrArg Addr.block e; simp only at h9; omega)).trans HS6.out)
      have x4 := cell_of_row _ _ 0 _ _ _ H74.out
      have y4 : (w6.setCell ⟨n3, 0, none⟩ (.int .i64 1)).frozen? ⟨n4, 0, none⟩ = false := by simp [World.frozen?, H74.out]
      simp only [List.getElem?_toArray, List.getElem?_cons_zero] at x4
      refine hK.out _ _ (fun _ => HS7.out) ?_
      clear hK K
      try simp only [Act.put, List.setIfInBounds_toArray, List.set_cons_zero, List.set_cons_succ]
      refine wpAnyT_one 5 (by kernel_rfl) (by simp only [List.getElem?_toArray, List.getElem?_cons_succ, List.getElem?_cons_zero]; exact rfl) (fun K hK => ?_)
      go_simp
      have HS8 := Kept.mk (show (fun V : World => V.cell? ⟨n6, 0, none⟩ = some (.int .i64 0)) ((w6.setCell ⟨n3, 0, none⟩ (.int .i64 1)).setCell ⟨n4, 0, none⟩ (.int .i64 8)) from (World.cell?_setCell_other _ _ _ _ (by intro e; have h9 := congrArg Addr.block e; simp only at h9; omega)).trans HS7.out)
      refine hK.out _ _ (fun _ => HS8.out) ?_
      clear hK K
      try simp only [Act.put, List.setIfInBounds_toArray, List.set_cons_zero, List.set_cons_succ]
      refine wpAnyT_done (by kernel_rfl) ?_ _
      clear x3 y3 x4 y4
      rename_i kk2 hkk2
      refine hkk2 _ _ ?_
      go_wp2
      have H84 := Kept.mk (set_at (k := 0) H74.out (.int .i64 8))
      have H73 := Kept.mk (set_at (k := 0) H63.out (.int .i64 1))
      obtain ⟨w8, hw8⟩ : ∃ w8, w8 = (w6.setCell ⟨n3, 0, none⟩ (.int .i64 1)).setCell ⟨n4, 0, none⟩ (.int .i64 8) := ⟨_, rfl⟩
      have o32 : n2 ≠ n3 := fun e => o23 e.symm
      have o42 : n2 ≠ n4 := fun e => o24 e.symm
      have o43 : n3 ≠ n4 := fun e => o34 e.symm
      have F2 : w8.heap[n2]? = some (.cells #[.int .i64 0, .int .i64 0, .int .i64 0, .slice none 0 0, .slice none 0 0, .slice none 0 0] 47 (0, 0)) := by rw [hw8]; exact (heap_setCell_other _ ⟨n4, 0, none⟩ n2 _ o42).trans ((heap_setCell_other _ ⟨n3, 0, none⟩ n2 _ o32).trans P6.out.here)
      have F3 : w8.heap[n3]? = some (.cells #[.int .i64 1] 3 (0, 0)) := by rw [hw8]; exact (heap_setCell_other _ ⟨n4, 0, none⟩ n3 _ o43).trans H73.out
      have F4 : w8.heap[n4]? = some (.cells #[.int .i64 8] 27 (0, 0)) := by rw [hw8]; exact H84.out
      have K8 : KeepsOthers wd w8 := by rw [hw8]; exact ((keeps_putAt P6.out hd2).trans (KeepsOthers.setCell _ _ _)).trans (KeepsOthers.setCell _ _ _)
      have B8 : Below w.heap.size wd w8 := by rw [hw8]; exact ((P6.out.below w.heap.size (by have := ho.a2; omega)).setCell (p := ⟨n3, 0, none⟩) (by have := ho.a3; simp; omega) _).setCell (p := ⟨n4, 0, none⟩) (by have := ho.a4; simp; omega) _
      rw [← hw8]
      have D8 := K8.same D _ (HOd.out.same D _ HKD.out rfl) rfl
      refine ⟨by simp, .inl ⟨_, _, rfl, run_takeDeferred D8, ?_⟩⟩
      have g2 : (w8.putObj D (.deferred none)).heap[n2]? = _ := (World.putObj_heap_other oD.1).trans F2
      have g3 : (w8.putObj D (.deferred none)).heap[n3]? = _ := (World.putObj_heap_other oD.2.1).trans F3
      have g4 : (w8.putObj D (.deferred none)).heap[n4]? = _ := (World.putObj_heap_other oD.2.2).trans F4
      have hl := run_load_part (P := Tryd.prog) _ n2 47 47 _ #[.int .i64 0, .int .i64 0, .int .i64 0, .slice none 0 0, .slice none 0 0, .slice none 0 0] (0, 0) _ g2 (fun j v h => h) Tryd.underlying47 rfl size_cfg
      have r3 := cell_of_row _ _ 0 _ _ _ g3
      have r4 := cell_of_row _ _ 0 _ _ _ g4
      simp only [List.getElem?_toArray, List.getElem?_cons_zero] at r3 r4
      refine ⟨.tuple #[.agg #[.int .i64 0, .int .i64 0, .int .i64 0, .slice none 0 0, .slice none 0 0, .slice none 0 0], .int .i64 1, .int .i64 8], ?_, ?_⟩
      · exact results_get rfl _ _ n2 n3 n4 _ _ _ rfl rfl rfl hl r3 r4
      · exact ⟨(HBd.out.trans B8).trans (belowK_b (w := W7) (n₀ := w.heap.size) (by have := HKB.out.size; omega) _ D _ _ hD D8 rfl rfl), .inr ⟨HLE.out, rfl⟩⟩
  case stop =>
    rintro D cc pre W hD hpre ⟨hno, hbW⟩ hK
    exact absurd (by obtain ⟨r, hr⟩ := hpre; exact ⟨r.map (·.1), by rw [← List.map_append, hr, HYS.out]⟩) hno
end Go.Proofs.YtfneloplbkjbhaaDoor
