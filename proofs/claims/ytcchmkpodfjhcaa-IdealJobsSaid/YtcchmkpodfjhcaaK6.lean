/-
  Rows of a function's own, any number of them, that grow side by side; marks copied; the walks of the document's ordered and Jobs.
-/
import Derived.Test.YtcchmkpodfjhcaaJ5
import Derived.Test.YtcchmkpodfjhcaaL40q
import Derived.Laws.OwnMore
import Derived.Deep.CutRange
import Derived.StillTailTactics
namespace Go.Proofs.Ytcchmkpodfjhcaa
open Go.RowKit
set_option linter.unusedVariables false
/-- A row of a function's own. -/
structure Rw where
  e : TypeId
  sz : Nat
  n : Nat
  l : List Value
  v : Value
def Far (r s : Rw) : Prop := ∀ g, r.v.ownBlock = some g → s.v.ownBlock = some g → False
theorem Far.symm {r s : Rw} (h : Far r s) : Far s r := fun g a b => h g b a
structure LRw (w W : World) (rs : List Rw) : Prop where
  own : ∀ r ∈ rs, W.ownsRow w.heap.size r.e r.sz r.v r.n r.l
  dis : rs.Pairwise Far
  bw : Below w.heap.size w W
section
variable {w W W' : World} {r s : Rw} {rs : List Rw}
theorem LRw.first (w : World) : LRw w w [] := ⟨fun r h => (by cases h), List.Pairwise.nil, Below.refl _ _⟩
theorem LRw.below (h : LRw w W rs) (hb : Below W.heap.size W W') : LRw w W' rs :=
  ⟨fun r hr => own_below (h.own r hr) hb, h.dis, h.bw.trans (hb.mono h.bw.size)⟩
theorem LRw.alloc (h : LRw w W rs) (o : Obj) : LRw w (W.alloc o) rs := h.below (below_box W o)
theorem LRw.drewN (h : LRw w W rs) (m : Nat) : LRw w (W.drewN m) rs := h.below ((Below.refl _ _).drewN m)
theorem LRw.perm (h : LRw w W rs) {rs' : List Rw} (hp : rs.Perm rs') : LRw w W rs' :=
  ⟨fun r hr => h.own r (hp.mem_iff.2 hr), (hp.pairwise_iff (fun h => Far.symm h)).1 h.dis, h.bw⟩
theorem LRw.drop (h : LRw w W (r :: rs)) : LRw w W rs := ⟨fun s hs => h.own s (by simp [hs]), (List.pairwise_cons.1 h.dis).2, h.bw⟩
theorem LRw.push (h : LRw w W rs) (e : TypeId) (sz : Nat) : LRw w W (⟨e, sz, 0, [], .slice none 0 0⟩ :: rs) := by
  refine ⟨fun s hs => ?_, List.pairwise_cons.2 ⟨fun s _ g a _ => by simp [Value.ownBlock] at a, h.dis⟩, h.bw⟩
  rcases List.mem_cons.1 hs with rfl | hs
  · exact ⟨by simp, .inl ⟨rfl, rfl⟩⟩
  · exact h.own s hs
theorem LRw.head (h : LRw w W (r :: rs)) : W.ownsRow w.heap.size r.e r.sz r.v r.n r.l := h.own r (by simp)
/-- A row of a block of its own, just made. -/
theorem LRw.made (h : LRw w W rs) (T : TypeId) (cs : Array Value) (sz n : Nat) (hm : n ≤ maxLen) (hs : cs.size = n * sz) : LRw w (W.alloc (.cells cs T)) (⟨T, sz, n, cs.toList, .slice (some ⟨W.heap.size, 0, none⟩) n n⟩ :: rs) := by
  have h2 := h.alloc (.cells cs T)
  refine ⟨fun s hs' => ?_, List.pairwise_cons.2 ⟨fun s hs' g a b => ?_, h2.dis⟩, h2.bw⟩
  · rcases List.mem_cons.1 hs' with rfl | hs'
    · exact World.ownsRow_lit W cs n h.bw.size hm hs
    · exact h2.own s hs'
  · have := ((h.own s hs').lt g b).2
    simp [Value.ownBlock] at a
    omega
/-- The first row has grown. -/
theorem LRw.app (h : LRw w W (r :: rs)) {v' : Value} {m : Nat} {l' : List Value} (ho : W'.ownsRow w.heap.size r.e r.sz v' m l') (hg : W.grownBy W' r.v.ownBlock) (hl : v'.ownBlock = r.v.ownBlock ∨ ∃ g, v'.ownBlock = some g ∧ W.heap.size ≤ g) : LRw w W' (⟨r.e, r.sz, m, l', v'⟩ :: rs) := by
  have hd := List.pairwise_cons.1 h.dis
  refine ⟨fun s hs => ?_, List.pairwise_cons.2 ⟨fun s hs g a b => ?_, hd.2⟩, h.bw.grown hg h.bw.size fun j hj => (h.head.lt j hj).1⟩
  · rcases List.mem_cons.1 hs with rfl | hs
    · exact ho
    · refine (h.own s (by simp [hs])).kept hg ?_
      cases hp : s.v.ownBlock with
      | none => exact .inl rfl
      | some j => right; intro e; exact hd.1 s hs j e.symm hp
  · rcases hl with hl | ⟨j, hl, hj⟩
    · rw [hl] at a; exact hd.1 s hs g a b
    · rw [hl] at a; cases a
      have := ((h.own s (by simp [hs])).lt _ b).2; omega
theorem LRw.lies (h : LRw w W (r :: rs)) {g m cap : Nat} {l' : List Value} (ho : W'.ownsRow w.heap.size r.e r.sz (.slice (some ⟨g, 0, none⟩) m cap) m l') (hg : W.grownBy W' r.v.ownBlock) (hl : r.v.ownBlock = some g ∨ g = W.heap.size) : LRw w W' (⟨r.e, r.sz, m, l', .slice (some ⟨g, 0, none⟩) m cap⟩ :: rs) :=
  h.app ho hg (by
    rcases hl with e | e
    · left; rw [e]; rfl
    · right; exact ⟨g, rfl, by omega⟩)
/-- A cell of the first row is turned. -/
theorem LRw.stored {e : TypeId} {sz n g cap : Nat} {l : List Value} (h : LRw w W (⟨e, sz, n, l, .slice (some ⟨g, 0, none⟩) n cap⟩ :: rs)) (j : Nat) (u : Value) : LRw w (W.setCell ⟨g, j, none⟩ u) (⟨e, sz, n, l.set j u, .slice (some ⟨g, 0, none⟩) n cap⟩ :: rs) := by
  have ho := h.head.stored j u
  exact h.app (r := ⟨e, sz, n, l, .slice (some ⟨g, 0, none⟩) n cap⟩) ho.1 ho.2 (.inl rfl)
end
/-! The rows of jobs. -/
theorem pC_len (l : List J4) : (pC l).length = l.length * 3 := by
  unfold pC
  induction l with
  | nil => rfl
  | cons x r ih => rw [List.flatMap_cons, List.length_append, ih]; simp; omega
theorem dC_len (l : List J4) : (dC l).length = l.length := by simp [dC]
theorem pC_at : ∀ (l : List J4) (j o : Nat) (x : J4), l[j]? = some x → o < 3 → (pC l)[j * 3 + o]? = [Value.int .i64 x.a, .int .i64 x.b, .int .i64 x.c][o]?
  | [], j, o, x, h, _ => by simp at h
  | y :: r, 0, o, x, h, ho => by
    simp only [List.getElem?_cons_zero, Option.some.injEq] at h
    subst h
    unfold pC
    rw [List.flatMap_cons, Nat.zero_mul, Nat.zero_add, List.getElem?_append_left (by simpa using ho)]
  | y :: r, j + 1, o, x, h, ho => by
    have := pC_at r j o x (by simpa using h) ho
    rw [← this]
    unfold pC
    rw [List.flatMap_cons, List.getElem?_append_right (by simp; omega)]
    congr 1
    simp; omega
theorem dC_at (l : List J4) (j : Nat) (x : J4) (h : l[j]? = some x) : (dC l)[j]? = some (.int .i64 x.d) := by unfold dC; rw [List.getElem?_map, h]; rfl
theorem pC_set : ∀ (l : List J4) (j : Nat) (x : J4) (v : Int), l[j]? = some x → (pC l).set (j * 3 + 2) (.int .i64 v) = pC (l.set j { x with c := v })
  | [], j, x, _, h => by simp at h
  | z :: r, 0, x, v, h => by
    simp only [List.getElem?_cons_zero, Option.some.injEq] at h
    subst h
    rfl
  | z :: r, j + 1, x, v, h => by
    have := pC_set r j x v (by simpa using h)
    unfold pC at this ⊢
    rw [List.set_cons_succ, List.flatMap_cons, List.flatMap_cons, ← this, List.set_append_right _ _ (by simp; omega)]
    congr 2
    simp; omega
theorem dC_set_c (l : List J4) (j : Nat) (x : J4) (v : Int) (h : l[j]? = some x) : dC (l.set j { x with c := v }) = dC l := by
  unfold dC
  apply List.ext_getElem?
  intro i
  rw [List.getElem?_map, List.getElem?_map, List.getElem?_set]
  by_cases e : j = i
  · subst e
    rw [if_pos rfl, h]
    have hj : j < l.length := (List.getElem?_eq_some_iff.1 h).1
    simp [hj]
  · rw [if_neg e]
theorem dC_set (l : List J4) (j : Nat) (x : J4) (v : Int) : (dC l).set j (.int .i64 v) = dC (l.set j { x with d := v }) := by
  unfold dC
  rw [List.map_set]
theorem pC_set_d : ∀ (l : List J4) (j : Nat) (x : J4) (v : Int), l[j]? = some x → pC (l.set j { x with d := v }) = pC l
  | [], j, x, _, h => by simp at h
  | z :: r, 0, x, v, h => by
    simp only [List.getElem?_cons_zero, Option.some.injEq] at h
    subst h
    rfl
  | z :: r, j + 1, x, v, h => by
    have := pC_set_d r j x v (by simpa using h)
    unfold pC at this ⊢
    rw [List.set_cons_succ, List.flatMap_cons, List.flatMap_cons, this]
/-! Marks copied. -/
theorem qm_onecell (xs : List QM) : ∀ u ∈ xs.flatMap QM.cells, u.oneCell' = true := by
  intro u hu
  obtain ⟨x, hx, hu⟩ := List.mem_flatMap.1 hu
  simp only [QM.cells, List.mem_cons, List.not_mem_nil, or_false] at hu
  rcases hu with rfl | rfl | rfl | rfl <;> rfl
theorem rm_cells {w : World} {B b off : Nat} {xs : List QM} (h : RM w B (some ⟨b, off, none⟩) xs) : ∀ (j : Nat) (u : Value), (xs.flatMap QM.cells)[j]? = some u → w.cell? ((⟨b, off, none⟩ : Addr).add j) = some u := by
  intro j u hu
  have hj : j < xs.length * 4 := by
    have := (List.getElem?_eq_some_iff.1 hu).1
    rwa [cellsM_length] at this
  obtain ⟨b', off', e, hb, hc⟩ := h (by omega)
  cases e
  obtain ⟨x, hx⟩ := some_atM (xs := xs) (k := j / 4) (by omega)
  obtain ⟨c1, c2, c3, c4⟩ := hc _ x hx
  have hs := cellsM_at xs (j / 4) (j % 4) x hx (by omega)
  rw [show j / 4 * 4 + j % 4 = j from by omega, hu] at hs
  have ha : (⟨b, off, none⟩ : Addr).add j = ⟨b, off + j, none⟩ := by unfold Addr.add; split <;> simp_all
  rw [ha]
  have h3 : j % 4 = 0 ∨ j % 4 = 1 ∨ j % 4 = 2 ∨ j % 4 = 3 := by omega
  rcases h3 with h3 | h3 | h3 | h3 <;> rw [h3] at hs <;> simp only [QM.cells, List.getElem?_cons_zero, List.getElem?_cons_succ, Option.some.injEq] at hs <;> subst hs
  · rw [show off + j = off + j / 4 * 4 from by omega]; exact c1
  · rw [show off + j = off + j / 4 * 4 + 1 from by omega]; exact c2
  · rw [show off + j = off + j / 4 * 4 + 2 from by omega]; exact c3
  · rw [show off + j = off + j / 4 * 4 + 3 from by omega]; exact c4
theorem wp_appM {P : Program} {w : World} {o : Oper} {a : Act} {K : Act → World → Prop} {Q : Exit → Act → World → Prop} (s x : Operand) (t : TypeId)
    (ho : o.op = .call { callee := .builtin .append, args := #[s, x], argTypes := #[t, t] })
    (base : Nat) (e : TypeId) (i : TypeInfo) (z : Value) (bytes : Nat) (ht : P.underlying t = some (.slice e)) (hi : P.info? e = some i) (hz : i.zero = some z)
    (hsize : i.size = 4) (hby : i.bytes = bytes) (hzs : z.cells.size = 4)
    (v : Value) (n : Nat) (ys : List Value) (hs : a.eval s = v) (hown : w.ownsRow base e 4 v n ys)
    (A : Option Addr) (xs : List QM) (c B : Nat) (hx : a.eval x = .slice A xs.length c) (hR : RM w B A xs) (hn : A = none → c = 0) (hmax : n + xs.length ≤ maxLen) (hlen : (n + xs.length) * bytes ≤ 140737488355328) (hbase : base ≤ w.heap.size)
    (h : ∀ v' w', w'.ownsRow base e 4 v' (n + xs.length) (ys ++ xs.flatMap QM.cells) → w.grownBy w' v.ownBlock → K (a.put o.dst v') w') : o.wp P a w K Q := by
  cases A with
  | none =>
    have h0 : xs.length = 0 := by
      rcases Nat.eq_zero_or_pos xs.length with h0 | h0
      · exact h0
      · obtain ⟨_, _, e, _⟩ := hR h0; cases e
    have : xs = [] := List.eq_nil_of_length_eq_zero h0
    subst this
    have hrun := run_append_owned_none (P := P) (w := w) base t o.type e i 4 ht hi v n _ hown
    have hx' : a.eval x = .slice none 0 0 := by rw [hx, hn rfl]; rfl
    unfold Oper.wp
    simp only [execOp, ho, resolve, invoke, builtin, Sem.run_bind, Sem.run_pure, Result.andThen_ok, List.map_toArray, List.map_cons, List.map_nil, hs, hx', hrun]
    exact h v w (by simpa using hown) ⟨rfl, rfl, rfl, Nat.le_refl _, fun _ _ _ => rfl⟩
  | some ad =>
    obtain ⟨b, off, ic⟩ := ad
    refine wp_append_own w s x t ho base e i z 4 bytes ht hi hz hsize hby hzs (by omega) v n _ hs hown ⟨b, off, ic⟩ xs.length c (xs.flatMap QM.cells) hx (cellsM_length xs) ?_ (qm_onecell xs) hmax hlen hbase ?_
    · intro j u hu
      have hj : j < xs.length * 4 := by
        have := (List.getElem?_eq_some_iff.1 hu).1
        rwa [cellsM_length] at this
      obtain ⟨b', off', e', hb, hc⟩ := hR (by omega)
      cases e'
      exact rm_cells hR j u hu
    · intro v' w' hw hg _
      exact h v' w' hw hg
theorem wpList_appM {P : Program} {w : World} {ops : Array Oper} {rest : List Oper} {o : Oper} {a : Act} {Q : Exit → Act → World → Prop} (hgd : o.guard = none) (s x : Operand) (t : TypeId)
    (ho : o.op = .call { callee := .builtin .append, args := #[s, x], argTypes := #[t, t] })
    (base : Nat) (e : TypeId) (i : TypeInfo) (z : Value) (bytes : Nat) (ht : P.underlying t = some (.slice e)) (hi : P.info? e = some i) (hz : i.zero = some z)
    (hsize : i.size = 4) (hby : i.bytes = bytes) (hzs : z.cells.size = 4)
    (v : Value) (n : Nat) (ys : List Value) (hs : a.eval s = v) (hown : w.ownsRow base e 4 v n ys)
    (A : Option Addr) (xs : List QM) (c B : Nat) (hx : a.eval x = .slice A xs.length c) (hR : RM w B A xs) (hn : A = none → c = 0) (hmax : n + xs.length ≤ maxLen) (hlen : (n + xs.length) * bytes ≤ 140737488355328) (hbase : base ≤ w.heap.size)
    (h : ∀ v' w', w'.ownsRow base e 4 v' (n + xs.length) (ys ++ xs.flatMap QM.cells) → w.grownBy w' v.ownBlock → wpList P ops Q rest (a.put o.dst v') w') : wpList P ops Q (o :: rest) a w :=
  wpList_plain hgd fun _ hK => wp_appM s x t ho base e i z bytes ht hi hz hsize hby hzs v n ys hs hown A xs c B hx hR hn hmax hlen hbase fun v' w' h2 h3 => hK _ _ (h v' w' h2 h3)
open Go.Shelf
set_option maxRecDepth 100000 in
set_option maxHeartbeats 8000000 in
theorem rordered_any (A : Option Addr) (ms : List QM) (cap : Nat) (now : Int) (w : World) (hms : RM w w.heap.size A ms) (hl : ms.length ≤ 17592186044416) :
    Calls Try.prog 94 #[.slice A ms.length cap, .int .i64 now] w fun e w' => e = .returned (.bool (ordB ms now)) ∧ Below w.heap.size w w' := by
  have HI := Kept.mk hms
  clear hms
  go_enter Try.func94, Try.ntmps94
  go_wp2
  go_loopw [9] (fun t wr => ∃ k : Nat, k ≤ ms.length ∧ t = .int .i64 k ∧ Kept ((List.range k).all (okAt ms now) = true) ∧ Below w.heap.size w wr) (fun t _ => ms.length - (intOf t).toNat)
  case atStart => exact ⟨0, by omega, rfl, ⟨rfl⟩, Below.refl _ _⟩
  case round =>
    obtain ⟨k, hk, rfl, hA, hb⟩ := hrel
    by_cases hlt : k < ms.length
    · obtain ⟨b, off, rfl, hbB, hc⟩ := (HI.out.below hb) (by omega)
      obtain ⟨m, hm⟩ := some_atM hlt
      obtain ⟨e1, e2, e3, e4⟩ := hc k m hm
      have ik : (k : Int) < (ms.length : Int) := by omega
      have hok : okAt ms now k = (decide (ahd ms k ≤ m.a) && decide (m.a ≤ now) && timeP m.a) := by unfold okAt; rw [hm]; rfl
      have HBAD := Kept.mk (ordB_bad (now := now) hlt)
      have HST := Kept.mk (show okAt ms now k = true → (List.range (k + 1)).all (okAt ms now) = true from fun h => by
        rw [List.range_succ, List.all_append, hA.out]; simp [h])
      have HPR := Kept.mk (fun (p : Nat) (hp : k = p + 1) => show wr.cell? ⟨b, off + p * 4, none⟩ = some (.int .i64 (ahd ms k)) from by
        obtain ⟨q, hq⟩ := some_atM (xs := ms) (k := p) (by omega)
        rw [hp, ahd_succ hq]; exact (hc p q hq).1)
      have HA0 := Kept.mk (show k = 0 → ahd ms k = 0 from fun h => by rw [h]; rfl)
      obtain ⟨ma, mb, mc, md⟩ := m
      simp only at e1 e2 e3 e4 hok
      have HB2 := Kept.mk (hb.alloc hb.size (.cells #[.int .i64 ma, .int .u8 mb, .int .i64 mc, .int .i64 md] 155))
      obtain ⟨a, ha⟩ : ∃ a, a = ahd ms k := ⟨_, rfl⟩
      obtain ⟨v, hv⟩ : ∃ v, v = okAt ms now k := ⟨_, rfl⟩
      obtain ⟨tp, htp⟩ : ∃ tp, tp = timeP ma := ⟨_, rfl⟩
      rw [← ha] at hok HPR HA0
      rw [← hv] at hok HBAD HST
      rw [← htp] at hok
      have HT := Kept.mk (fun W => rtime_any ma W)
      rw [← htp] at HT
      have HTQ := Kept.mk (fun (W : World) => (HT.out W).mono fun e w' h => And.intro h.1 h.2.symm)
      have HTP := Kept.mk (show tp = true → 0 ≤ ma from fun h => by
        rw [htp] at h; unfold timeP at h; simp at h; omega)
      have HOK := Kept.mk hok
      have HXC := Kept.mk (show (wr.alloc (.cells #[.int .i64 ma, .int .u8 mb, .int .i64 mc, .int .i64 md] 155)).cell? ⟨wr.heap.size, 0, none⟩ = some (.int .i64 ma) from cell_of_row _ _ 0 _ _ _ (heap_alloc_new _ _))
      have hblt : b < wr.heap.size := by have := hb.size; omega
      have HPA := Kept.mk (fun (p : Nat) (hp : k = p + 1) => show (wr.alloc (.cells #[.int .i64 ma, .int .u8 mb, .int .i64 mc, .int .i64 md] 155)).cell? ⟨b, off + p * 4, none⟩ = some (.int .i64 a) from ((below_box wr _).cell (p := ⟨b, off + p * 4, none⟩) hblt).trans (HPR.out p hp))
      clear hc hm hb hok ha hv htp HPR
      go_upto_region 4 with fail
      obtain ⟨wa, hwa⟩ : ∃ wa, wa = wr.alloc (.cells #[.int .i64 ma, .int .u8 mb, .int .i64 mc, .int .i64 md] 155) := ⟨_, rfl⟩
      obtain ⟨xb, hxb⟩ : ∃ xb, xb = wr.heap.size := ⟨_, rfl⟩
      rw [← hwa] at HB2 HPA
      rw [← hwa, ← hxb] at HXC
      rw [← hwa, ← hxb]
      have x0 := HXC.out
      clear hwa hxb HXC e1 e2 e3 e4
      go_cut [38] from 14 to 38 (fun s wx => s = .bool (!v) ∧ ∃ m, wx = wa.drewN m)
      case first =>
        cases tp with
        | false =>
          have HF := Kept.mk (show v = false by rw [HOK.out]; simp)
          go_quiet (first | (go_at_call 91; refine Calls.quiet_of_same (HTQ.out _)))
          go_wp2
          go_meet
          exact ⟨by rw [HF.out]; rfl, _, rfl⟩
        | true =>
          have hma := HTP.out rfl
          by_cases h2 : now < ma
          · have d2 : decide (now < ma) = true := decide_eq_true h2
            have HF := Kept.mk (show v = false by rw [HOK.out, decide_eq_false (show ¬ ma ≤ now by omega)]; simp)
            clear h2
            go_quiet (first | (go_at_call 91; refine Calls.quiet_of_same (HTQ.out _)))
            go_wp2
            go_meet
            exact ⟨by rw [HF.out]; rfl, _, rfl⟩
          · have d2 : decide (now < ma) = false := decide_eq_false h2
            have d2' : decide (ma ≤ now) = true := decide_eq_true (by omega)
            rcases Nat.eq_zero_or_pos k with rfl | hk0
            · have HF := Kept.mk (show v = true by rw [HOK.out, HA0.out rfl, d2', decide_eq_true hma]; rfl)
              clear h2 d2' ik
              go_quiet (first | (go_at_call 91; refine Calls.quiet_of_same (HTQ.out _)))
              go_wp2
              go_meet
              exact ⟨by rw [HF.out]; rfl, _, rfl⟩
            · obtain ⟨p, hp⟩ : ∃ p, p = k - 1 := ⟨_, rfl⟩
              have pc := HPA.out p (by omega)
              have z1 : (k : Int) - 1 = (p : Int) := by omega
              have z2 : (p : Int) < (ms.length : Int) := by omega
              have z3 : decide ((0 : Int) < (k : Int)) = true := decide_eq_true (by omega)
              have z4 : decide (0 < k) = true := decide_eq_true (by omega)
              by_cases h3 : ma < a
              · have d3 : decide (ma < a) = true := decide_eq_true h3
                have HF := Kept.mk (show v = false by rw [HOK.out, decide_eq_false (show ¬ a ≤ ma by omega)]; simp)
                clear h2 d2' hp h3 hk0
                go_quiet (first | (go_at_call 91; refine Calls.quiet_of_same (HTQ.out _)))
                go_wp2
                go_meet
                exact ⟨by rw [HF.out]; rfl, _, rfl⟩
              · have d3 : decide (ma < a) = false := decide_eq_false h3
                have HF := Kept.mk (show v = true by rw [HOK.out, d2', decide_eq_true (show a ≤ ma by omega)]; rfl)
                clear h2 d2' hp h3 hk0
                go_quiet (first | (go_at_call 91; refine Calls.quiet_of_same (HTQ.out _)))
                go_wp2
                go_meet
                exact ⟨by rw [HF.out]; rfl, _, rfl⟩
      case rest =>
        obtain ⟨rfl, m, hwc⟩ := hcut
        have HB3 := Kept.mk (show Below w.heap.size w wc by rw [hwc]; exact HB2.out.drewN m)
        clear hwc
        cases v with
        | false =>
          have HC := Kept.mk (HBAD.out rfl)
          go_wp2
          go_ret
          exact ⟨congrArg (fun v => Ending.returned (.bool v)) HC.out.symm, HB3.out⟩
        | true =>
          have HN := Kept.mk (HST.out rfl)
          go_wp2
          go_roundw
          case rel => exact ⟨k + 1, by omega, by go_num, HN, HB3.out⟩
          case measure => simp [intOf]; omega
    · have hke : k = ms.length := by omega
      have ik : decide ((k : Int) < (ms.length : Int)) = false := decide_eq_false (by omega)
      have HC := Kept.mk (show ordB ms now = timeP now by unfold ordB; rw [hke] at hA; rw [hA.out]; rfl)
      have HT := Kept.mk (fun W => rtime_any now W)
      clear hke hA
      go_wp2_with ((go_at_call 91; refine (HT.out _).mono ?_; rintro e w' ⟨rfl, rfl⟩))
      go_ret
      exact ⟨congrArg (fun v => Ending.returned (.bool v)) HC.out.symm, hb⟩
theorem info_mk : (Try.prog.info? 155).map (fun i => (i.zero, i.size, i.bytes)) = some (some (.agg #[.int .i64 0, .int .u8 0, .int .i64 0, .int .i64 0]), 4, 32) := by kernel_rfl
abbrev pR (A : Option Addr) (c n : Nat) (l : List J4) : Rw := ⟨108, 3, n, pC l, .slice A n c⟩
abbrev dR (A : Option Addr) (c n : Nat) (l : List J4) : Rw := ⟨2, 1, n, dC l, .slice A n c⟩
abbrev bR (T : TypeId) (sz g : Nat) (l : List Value) : Rw := ⟨T, sz, 1, l, .slice (some ⟨g, 0, none⟩) 1 1⟩
abbrev mR (g c n : Nat) (l : List QM) : Rw := ⟨155, 4, n, l.flatMap QM.cells, .slice (some ⟨g, 0, none⟩) n c⟩
section
variable {w W W' : World} {rs pre post : List Rw} {r r' : Rw}
theorem LRw.lift (f : ∀ {rs}, LRw w W (r :: rs) → LRw w W' (r' :: rs)) (h : LRw w W (pre ++ r :: post)) : LRw w W' (pre ++ r' :: post) :=
  (f (h.perm List.perm_middle)).perm List.perm_middle.symm
theorem LRw.rowAt (h : LRw w W (pre ++ r :: post)) : W.ownsRow w.heap.size r.e r.sz r.v r.n r.l := (h.perm List.perm_middle).head
theorem LRw.box (h : LRw w W rs) (T : TypeId) (cs : Array Value) : LRw w (W.alloc (.cells cs T)) (bR T cs.size W.heap.size cs.toList :: rs) := h.made T cs cs.size 1 (by simp only [maxLen]; omega) (by omega)
/-- A row that has come up meanwhile. -/
theorem LRw.fresh (h : LRw w W rs) (hb : Below W.heap.size W W') {e : TypeId} {sz n : Nat} {v : Value} {l : List Value} (ho : W'.ownsRow W.heap.size e sz v n l) : LRw w W' (⟨e, sz, n, l, v⟩ :: rs) := by
  have h2 := h.below hb
  refine ⟨fun s hs => ?_, List.pairwise_cons.2 ⟨fun s hs g a b => ?_, h2.dis⟩, h2.bw⟩
  · rcases List.mem_cons.1 hs with rfl | hs
    · refine ⟨ho.1, ?_⟩
      have hs := h.bw.size
      rcases ho.2 with e | ⟨g, cap', cur, e1, e2, e3⟩
      · exact .inl e
      · exact .inr ⟨g, cap', cur, e1, by omega, e3⟩
    · exact h2.own s hs
  · have h3 := (ho.lt g a).1
    have h4 := ((h.own s hs).lt g b).2
    omega
end
theorem LRw.two {w W : World} {a b : Rw} {rs : List Rw} (h : LRw w W (a :: b :: rs)) : LRw w W [a, b] := by
  have h1 := List.pairwise_cons.1 h.dis
  refine ⟨fun r hr => h.own r (by simp at hr; rcases hr with rfl | rfl <;> simp), List.pairwise_cons.2 ⟨fun s hs => h1.1 s (by simp at hs; subst hs; simp), List.pairwise_cons.2 ⟨fun s hs => (by cases hs), List.Pairwise.nil⟩⟩, h.bw⟩
theorem LRw.swap {w W : World} {a b : Rw} {rs : List Rw} (h : LRw w W (a :: b :: rs)) : LRw w W (b :: a :: rs) := h.perm (List.Perm.swap _ _ _)
/-- What an append to the first row needs, and leaves. -/
theorem LRw.news {w W : World} {rs : List Rw} (h : LRw w W rs) (T : TypeId) (cs : Array Value) : LRw w (W.alloc (.cells cs T)) rs ∧ w.heap.size ≤ (W.alloc (.cells cs T)).heap.size ∧ ∀ j u, cs.toList[j]? = some u → (W.alloc (.cells cs T)).cell? ((⟨W.heap.size, 0, none⟩ : Addr).add j) = some u :=
  ⟨h.alloc _, (h.alloc _).bw.size, World.news_of_block (heap_alloc_new W _)⟩
theorem LRw.pGrown {w W W' : World} {A : Option Addr} {c n g cap : Nat} {l : List J4} {rs : List Rw} (h : LRw w W (pR A c n l :: rs)) (x : J4) (ho : W'.ownsRow w.heap.size 108 3 (.slice (some ⟨g, 0, none⟩) (n + 1) cap) (n + 1) (pC l ++ [.int .i64 x.a, .int .i64 x.b, .int .i64 x.c])) (hg : W.grownBy W' (Value.slice A n c).ownBlock) (hl : (Value.slice A n c).ownBlock = some g ∨ g = W.heap.size) : LRw w W' (pR (some ⟨g, 0, none⟩) cap (n + 1) (l ++ [x]) :: rs) := by
  have := h.lies ho hg hl
  rw [← pC_snoc] at this
  exact this
theorem LRw.dGrown {w W W' : World} {A : Option Addr} {c n g cap : Nat} {l : List J4} {rs : List Rw} (h : LRw w W (dR A c n l :: rs)) (x : J4) (ho : W'.ownsRow w.heap.size 2 1 (.slice (some ⟨g, 0, none⟩) (n + 1) cap) (n + 1) (dC l ++ [.int .i64 x.d])) (hg : W.grownBy W' (Value.slice A n c).ownBlock) (hl : (Value.slice A n c).ownBlock = some g ∨ g = W.heap.size) : LRw w W' (dR (some ⟨g, 0, none⟩) cap (n + 1) (l ++ [x]) :: rs) := by
  have := h.lies ho hg hl
  rw [← dC_snoc] at this
  exact this
def msF (ms : List QM) (now : Int) : List QM := ms ++ [⟨now, 11, 0, 0⟩]
theorem msF_len (ms : List QM) (now : Int) : (msF ms now).length = ms.length + 1 := by simp [msF]
theorem jfin (P i : Int) (ms : List QM) (now : Int) : ((jrunK P i (msF ms now) (ms.length + 1)).l).filter (fun x => decide (0 < x.c)) = jres P i ms now := by
  have h1 : (msF ms now)[ms.length]? = some ⟨now, 11, 0, 0⟩ := by simp [msF]
  have h2 : jrunK P i (msF ms now) ms.length = jrun P i ms := by
    unfold jrunK jrun msF
    rw [List.take_append_of_le_length (Nat.le_refl _), List.take_length]
  rw [jrunK_succ h1, h2]
  unfold jres jmark jmark'
  rw [if_pos rfl]
theorem LRw.jres {w w1 W : World} {L : List J4} {A1 A2 : Option Addr} {n1 n2 : Nat} (h : LRw w1 W [pR A1 n1 L.length L, dR A2 n2 L.length L]) (hb : Below w.heap.size w w1) :
    R3 W W.heap.size A1 (L.map fun x => ⟨x.a, x.b, x.c⟩) ∧ Ints W W.heap.size A2 (L.map fun x => x.d) ∧ Below w.heap.size w W := by
  have z1 := h.head
  have z2 := h.drop.head
  refine ⟨?_, ?_, hb.trans (h.bw.mono hb.size)⟩
  · exact (R3.of_own (xs := L.map fun x => ⟨x.a, x.b, x.c⟩) (n := L.length) (by rw [show (L.map fun x : J4 => (⟨x.a, x.b, x.c⟩ : Q3)).flatMap Q3.cells = pC L by unfold pC; rw [List.flatMap_map]; rfl]; exact z1)).2
  · exact (Ints.of_own (xs := L.map fun x => x.d) (n := L.length) (by rw [List.map_map]; exact z2)).2
theorem wrapJ (x : Int) : IntKind.i64.wrap x = Go.RowKit.wrap64 x := by rw [IntKind.wrap_i64, Go.RowKit.wrap64]
set_option maxRecDepth 100000 in
set_option maxHeartbeats 16000000 in
theorem rjobs_any {w : World} (a1 a2 a3 : Int) (v4 v5 : Value) (At Am : Option Addr) (ts : List Tk) (ms : List QM) (ct cm : Nat) (now : Int) (hts : RT w w.heap.size At ts) (hms : RM w w.heap.size Am ms) (hnc : Am = none → cm = 0) (hl : ms.length ≤ 400) (hlt : ts.length ≤ 40) :
    Calls Try.prog 67 #[.agg #[.int .i64 a1, .int .i64 a2, .int .i64 a3, .slice At ts.length ct, v4, v5], .slice Am ms.length cm, .int .i64 now] w (JRes w (jallL ts ms now) (jallW ms now)) := by
  obtain ⟨i0, hi0, hz0, hz1, hz2⟩ := info_parts info_pc
  obtain ⟨j0, hj0, hj1, hj2, hj3⟩ := info_parts info_i64J
  obtain ⟨m0, hm0, hm1, hm2, hm3⟩ := info_parts info_mk
  have HO := Kept.mk (fun (W : World) (hb : Below w.heap.size w W) => rordered_any Am ms cm now W ((hms.below hb).mono hb.size) (by omega))
  have HTS := Kept.mk hts
  have HMS := Kept.mk hms
  have HNC := Kept.mk hnc
  obtain ⟨L, hL⟩ : ∃ L, L = jallL ts ms now := ⟨_, rfl⟩
  obtain ⟨y, hy⟩ : ∃ y, y = jallW ms now := ⟨_, rfl⟩
  rw [← hL, ← hy]
  have HL := Kept.mk hL
  have HY := Kept.mk hy
  clear hts hms hL hy hnc
  go_enter Try.func67, Try.ntmps67
  go_wp2_with fail
  refine (HO.out _ (below_box w _)).mono ?_
  rintro e w1 ⟨rfl, hb1⟩
  have hcfg : (w.alloc (.cells #[.int .i64 a1, .int .i64 a2, .int .i64 a3, .slice At ts.length ct, v4, v5] 101)).heap[w.heap.size]? = _ := heap_alloc_new w _
  have hcf1 := (hb1.block w.heap.size (by simp)).trans hcfg
  have c3 : w1.cell? ⟨w.heap.size, 3, none⟩ = some (.slice At ts.length ct) := cell_of_row _ _ 3 _ _ _ hcf1
  have HW1 := Kept.mk (show Below w.heap.size w w1 from (below_box w _).trans (hb1.mono (by simp)))
  clear hcfg hcf1 hb1 HO
  cases ho : ordB ms now with
  | false =>
    have HZ := Kept.mk (show L = [] ∧ y = 2 from ⟨by rw [HL.out]; unfold jallL; rw [ho]; rfl, by rw [HY.out]; unfold jallW; rw [ho]; rfl⟩)
    clear ho
    go_wp2
    go_ret3
    rw [HZ.out.1, HZ.out.2]
    exact ⟨none, 0, none, 0, rfl, R3.nil _ _ _, Ints.nil _ _ _, HW1.out⟩
  | true =>
    have HZ := Kept.mk (show L = jallK ts ms now ts.length ∧ y = 0 from ⟨by rw [HL.out]; unfold jallL; rw [if_pos ho], by rw [HY.out]; unfold jallW; rw [if_pos ho]⟩)
    clear ho
    go_wp2_with fail
    go_loopw [9, 10, 29] (fun u v t wr => ∃ (k : Nat) (ps : List J4) (A1 : Option Addr) (n1 : Nat) (A2 : Option Addr) (n2 : Nat), k ≤ ts.length ∧ t = .int .i64 k ∧ ps = jallK ts ms now k ∧ u = .slice A1 ps.length n1 ∧ v = .slice A2 ps.length n2 ∧ LRw w1 wr [pR A1 n1 ps.length ps, dR A2 n2 ps.length ps]) (fun _ _ t _ => ts.length - (intOf t).toNat)
    case atStart => exact ⟨0, [], none, 0, none, 0, by omega, rfl, rfl, rfl, rfl, ((LRw.first w1).push 2 1).push 108 3⟩
    case round =>
      obtain ⟨k, ps, A1, n1, A2, n2, hk, rfl, hps, rfl, rfl, hR⟩ := hrel
      by_cases hlt' : k < ts.length
      · have ik : (k : Int) < (ts.length : Int) := by omega
        obtain ⟨b, off, rfl, hbB, hc⟩ := HTS.out.below (HW1.out.trans (hR.bw.mono HW1.out.size)) (by omega)
        obtain ⟨t, ht⟩ : ∃ t, ts[k]? = some t := ⟨ts[k], List.getElem?_eq_getElem hlt'⟩
        have HSUC := Kept.mk (jallK_succ ts ms now ht)
        have hlen := jallK_len ts ms now k
        have hlen2 : ps.length ≤ 16000 := by
          have : k * ms.length ≤ 40 * 400 := Nat.mul_le_mul (by omega) hl
          rw [hps]
          omega
        rw [← hps] at HSUC
        obtain ⟨tk, tp, t2, t3, t4, t5, t6, t7, t8, t9⟩ := t
        have e0 := hc k _ 0 _ ht rfl
        have e1 := hc k _ 1 _ ht rfl
        have e2 := hc k _ 2 _ ht rfl
        have e3 := hc k _ 3 _ ht rfl
        have e4 := hc k _ 4 _ ht rfl
        have e5 := hc k _ 5 _ ht rfl
        have e6 := hc k _ 6 _ ht rfl
        have e7 := hc k _ 7 _ ht rfl
        have e8 := hc k _ 8 _ ht rfl
        have e9 := hc k _ 9 _ ht rfl
        rw [Nat.add_zero] at e0
        have HRa := Kept.mk (hR.box 152 #[.int .u8 tk, .int .i64 tp, .int .i64 t2, .int .i64 t3, .int .i64 t4, .int .i64 t5, .int .i64 t6, .int .i64 t7, .int .i64 t8, .int .i64 t9])
        clear hc ht hlen hps hR
        go_upto_region 12 with fail
        obtain ⟨Wt, hWt⟩ : ∃ Wt, Wt = wr.alloc (.cells #[.int .u8 tk, .int .i64 tp, .int .i64 t2, .int .i64 t3, .int .i64 t4, .int .i64 t5, .int .i64 t6, .int .i64 t7, .int .i64 t8, .int .i64 t9] 152) := ⟨_, rfl⟩
        obtain ⟨bt, hbt⟩ : ∃ bt, bt = wr.heap.size := ⟨_, rfl⟩
        rw [← hWt, ← hbt] at HRa
        rw [← hWt, ← hbt]
        clear hWt hbt e0 e1 e2 e3 e4 e5 e6 e7 e8 e9
        obtain ⟨np, hnp⟩ : ∃ np, np = ps.length := ⟨_, rfl⟩
        rw [← hnp] at HRa hlen2 ⊢
        have HNP := Kept.mk hnp
        obtain ⟨N, hN⟩ : ∃ N, N = ms.length + 1 := ⟨_, rfl⟩
        have HN := Kept.mk hN
        clear hnp
        go_cut [40, 41, 42] from 34 to 42 (fun s u v wx => ∃ (gm cm' : Nat), s = .slice (some ⟨gm, 0, none⟩) N cm' ∧ u = .int .i64 (N : Int) ∧ v = .int .i64 0 ∧ LRw w1 wx [mR gm cm' N (msF ms now), bR 152 10 bt [.int .u8 tk, .int .i64 tp, .int .i64 t2, .int .i64 t3, .int .i64 t4, .int .i64 t5, .int .i64 t6, .int .i64 t7, .int .i64 t8, .int .i64 t9], pR A1 n1 np ps, dR A2 n2 np ps])
        case first =>
          have HBT := Kept.mk (HW1.out.trans (HRa.out.bw.mono HW1.out.size))
          have HRM := Kept.mk (show RM (Wt.alloc (.cells #[] 155)) w.heap.size Am ms from (HMS.out.below HBT.out).below ((below_box Wt _).mono HBT.out.size))
          have HOW := Kept.mk (show (Wt.alloc (.cells #[] 155)).ownsRow Wt.heap.size 155 4 (.slice (some ⟨Wt.heap.size, 0, none⟩) 0 0) 0 [] from World.ownsRow_made Wt #[] 0 (Nat.le_refl _) (by decide) rfl)
          have HSZ := Kept.mk (show Wt.heap.size ≤ (Wt.alloc (.cells #[] 155)).heap.size by simp)
          have HFIN := Kept.mk (fun (v36 : Value) (w36 : World) (o36 : w36.ownsRow Wt.heap.size 155 4 v36 (0 + ms.length) ([] ++ ms.flatMap QM.cells)) (g36 : (Wt.alloc (.cells #[] 155)).grownBy w36 (Value.slice (some ⟨Wt.heap.size, 0, none⟩) 0 0).ownBlock) => show ∃ A36 c36, v36 = .slice A36 ms.length c36 ∧ w36.ownsRow Wt.heap.size 155 4 (.slice A36 ms.length c36) ms.length (ms.flatMap QM.cells) ∧ Below Wt.heap.size Wt w36 from by
            obtain ⟨A36, c36, rfl⟩ := own_slice o36
            rw [Nat.zero_add, List.nil_append] at o36
            rw [Nat.zero_add]
            exact ⟨A36, c36, rfl, o36, (below_box Wt _).grown g36 HSZ.out fun j hj => (HOW.out.lt j hj).1⟩)
          have HFIN2 := Kept.mk (fun (A36 : Option Addr) (c36 : Nat) (w36 : World) (o36 : w36.ownsRow Wt.heap.size 155 4 (.slice A36 ms.length c36) ms.length (ms.flatMap QM.cells)) (b36 : Below Wt.heap.size Wt w36) => show (w36.alloc (.cells #[.int .i64 now, .int .u8 11, .int .i64 0, .int .i64 0] 155)).ownsRow Wt.heap.size 155 4 (.slice A36 ms.length c36) ms.length (ms.flatMap QM.cells) ∧ Wt.heap.size ≤ (w36.alloc (.cells #[.int .i64 now, .int .u8 11, .int .i64 0, .int .i64 0] 155)).heap.size ∧ (∀ j u, [Value.int .i64 now, .int .u8 11, .int .i64 0, .int .i64 0][j]? = some u → (w36.alloc (.cells #[.int .i64 now, .int .u8 11, .int .i64 0, .int .i64 0] 155)).cell? ((⟨w36.heap.size, 0, none⟩ : Addr).add j) = some u) from
            ⟨o36.alloc _, by have := b36.size; simp; omega, World.news_of_block (cs := #[.int .i64 now, .int .u8 11, .int .i64 0, .int .i64 0]) (heap_alloc_new w36 _)⟩)
          have HFIN3 := Kept.mk (fun (A36 : Option Addr) (c36 : Nat) (w36 : World) (o36 : w36.ownsRow Wt.heap.size 155 4 (.slice A36 ms.length c36) ms.length (ms.flatMap QM.cells)) (b36 : Below Wt.heap.size Wt w36) (g40 c40 : Nat) (w40 : World) (o40 : w40.ownsRow Wt.heap.size 155 4 (.slice (some ⟨g40, 0, none⟩) (ms.length + 1) c40) (ms.length + 1) (ms.flatMap QM.cells ++ [.int .i64 now, .int .u8 11, .int .i64 0, .int .i64 0])) (gr40 : (w36.alloc (.cells #[.int .i64 now, .int .u8 11, .int .i64 0, .int .i64 0] 155)).grownBy w40 (Value.slice A36 ms.length c36).ownBlock) => show LRw w1 w40 [mR g40 c40 N (msF ms now), bR 152 10 bt [.int .u8 tk, .int .i64 tp, .int .i64 t2, .int .i64 t3, .int .i64 t4, .int .i64 t5, .int .i64 t6, .int .i64 t7, .int .i64 t8, .int .i64 t9], pR A1 n1 np ps, dR A2 n2 np ps] from by
            have h2 := HFIN2.out A36 c36 w36 o36 b36
            have hb : Below Wt.heap.size Wt w40 := (b36.alloc b36.size _).grown gr40 h2.2.1 fun j hj => (h2.1.lt j hj).1
            have := HRa.out.fresh hb o40
            rw [← HN.out] at this
            show LRw w1 w40 (⟨155, 4, N, (msF ms now).flatMap QM.cells, .slice (some ⟨g40, 0, none⟩) N c40⟩ :: _)
            rw [show (msF ms now).flatMap QM.cells = ms.flatMap QM.cells ++ [.int .i64 now, .int .u8 11, .int .i64 0, .int .i64 0] by unfold msF; rw [List.flatMap_append]; rfl]
            exact this)
          have HNI := Kept.mk (show ((ms.length : Int) + 1) = (N : Int) ∧ ms.length + 1 = N by omega)
          clear hN
          go_wp2_with (first
            | (at_builtin; refine wpList_appM rfl _ _ 102 rfl Wt.heap.size 155 m0 (.agg #[.int .i64 0, .int .u8 0, .int .i64 0, .int .i64 0]) 32 Try.underlying102 hm0 hm1 hm2 hm3 rfl (.slice (some ⟨Wt.heap.size, 0, none⟩) 0 0) 0 [] rfl HOW.out Am ms cm w.heap.size rfl HRM.out HNC.out (by simp only [maxLen]; omega) (by omega) HSZ.out ?_; intro v36 w36 o36 g36; obtain ⟨A36, c36, rfl, o36', b36⟩ := HFIN.out v36 w36 o36 g36; have HO36 := Kept.mk o36'; have HB36 := Kept.mk b36; have H2 := Kept.mk (HFIN2.out A36 c36 w36 o36' b36); clear o36 g36 o36' b36)
            | (at_builtin; refine wpList_append_lies _ rfl _ _ 102 rfl Wt.heap.size 155 m0 (.agg #[.int .i64 0, .int .u8 0, .int .i64 0, .int .i64 0]) 4 32 Try.underlying102 hm0 hm1 hm2 hm3 rfl (by decide) (.slice A36 ms.length c36) ms.length (ms.flatMap QM.cells) rfl H2.out.1 ⟨w36.heap.size, 0, none⟩ 1 1 [.int .i64 now, .int .u8 11, .int .i64 0, .int .i64 0] rfl rfl H2.out.2.2 (by simp [Value.oneCell']) (by decide) (by simp only [maxLen]; omega) (by omega) H2.out.2.1 _ rfl ?_; intro g40 c40 w40 o40 gr40 lies40 lt40; have HF := Kept.mk (HFIN3.out A36 c36 w36 HO36.out HB36.out g40 c40 w40 o40 gr40); clear o40 gr40 lies40 lt40))
          go_meet
          exact ⟨g40, c40, by rw [HNI.out.2], by rw [← HNI.out.1] <;> rfl, rfl, HF.out⟩
        case rest =>
          obtain ⟨gm, cmk, rfl, rfl, rfl, hM⟩ := hcut
          have HM := Kept.mk hM
          have HML := Kept.mk (show (msF ms now).length = N by rw [msF_len, HN.out])
          have hNb : N ≤ 401 := by omega
          obtain ⟨tB, htB⟩ : ∃ tB, tB = [Value.int .u8 tk, .int .i64 tp, .int .i64 t2, .int .i64 t3, .int .i64 t4, .int .i64 t5, .int .i64 t6, .int .i64 t7, .int .i64 t8, .int .i64 t9] := ⟨_, rfl⟩
          rw [← htB] at HM
          have HTB := Kept.mk (show tB[1]? = some (.int .i64 tp) by rw [htB]; rfl)
          obtain ⟨MS, hMS⟩ : ∃ MS, MS = msF ms now := ⟨_, rfl⟩
          rw [← hMS] at HM HML
          have HMSF := Kept.mk hMS
          clear hM hN htB hMS HRa
          go_wp2_with fail
          go_loopw [13, 14, 15, 16, 17, 42] (fun a b c d e t wq => ∃ (j : Nat) (s : JS) (A3 : Option Addr) (n3 : Nat) (A4 : Option Addr) (n4 : Nat), j ≤ N ∧ t = .int .i64 j ∧ s = jrunK tp k MS j ∧ a = .slice A3 s.l.length n3 ∧ b = .slice A4 s.l.length n4 ∧ c = .int .i64 (s.at' : Int) ∧ d = .bool s.runs ∧ e = .int .i64 s.since ∧ LRw w1 wq [pR A3 n3 s.l.length s.l, dR A4 n4 s.l.length s.l, mR gm cmk N MS, bR 152 10 bt tB, pR A1 n1 np ps, dR A2 n2 np ps]) (fun _ _ _ _ _ t _ => N - (intOf t).toNat)
          case atStart => exact ⟨0, ⟨[], 0, 0, false⟩, none, 0, none, 0, by omega, rfl, rfl, rfl, rfl, rfl, rfl, rfl, (HM.out.push 2 1).push 108 3⟩
          case round =>
            clear HM
            obtain ⟨j, s, A3, n3, A4, n4, hj, rfl, hs, rfl, rfl, rfl, rfl, rfl, hR⟩ := hrel
            by_cases hjN : j < N
            · have ij : (j : Int) < (N : Int) := by omega
              obtain ⟨m, hm⟩ : ∃ m, MS[j]? = some m := ⟨MS[j]'(by rw [HML.out]; exact hjN), List.getElem?_eq_getElem _⟩
              have hsl := jrunK_len tp k MS j (by rw [HML.out]; omega)
              rw [← hs] at hsl
              have HJS := Kept.mk (show jrunK tp k MS (j + 1) = jmark' tp k (jpass s m.a) m by rw [jrunK_succ hm, ← hs]; rfl)
              have om : wr.ownsRow w1.heap.size 155 4 (.slice (some ⟨gm, 0, none⟩) N cmk) N (MS.flatMap QM.cells) := LRw.rowAt (pre := [pR A3 n3 s.l.length s.l, dR A4 n4 s.l.length s.l]) hR
              have q0 : wr.cell? ⟨gm, j * 4, none⟩ = some (.int .i64 m.a) := by rw [om.cellAt _ (by omega)]; exact cellsM_at MS j 0 m hm (by omega)
              have q1 : wr.cell? ⟨gm, j * 4 + 1, none⟩ = some (.int .u8 m.b) := by rw [om.cellAt _ (by omega)]; exact cellsM_at MS j 1 m hm (by omega)
              have q2 : wr.cell? ⟨gm, j * 4 + 2, none⟩ = some (.int .i64 m.c) := by rw [om.cellAt _ (by omega)]; exact cellsM_at MS j 2 m hm (by omega)
              have q3 : wr.cell? ⟨gm, j * 4 + 3, none⟩ = some (.int .i64 m.d) := by rw [om.cellAt _ (by omega)]; exact cellsM_at MS j 3 m hm (by omega)
              obtain ⟨ma, mb, mc, md⟩ := m
              simp only at q0 q1 q2 q3 HJS
              have HRb := Kept.mk (hR.box 155 #[.int .i64 ma, .int .u8 mb, .int .i64 mc, .int .i64 md])
              obtain ⟨nl, hnl⟩ : ∃ nl, nl = s.l.length := ⟨_, rfl⟩
              obtain ⟨av, hav⟩ : ∃ av, av = s.at' := ⟨_, rfl⟩
              obtain ⟨ru, hru⟩ : ∃ ru, ru = s.runs := ⟨_, rfl⟩
              obtain ⟨si, hsi⟩ : ∃ si, si = s.since := ⟨_, rfl⟩
              rw [← hnl] at HRb
              rw [← hnl, ← hav, ← hru, ← hsi]
              have HSV := Kept.mk (show nl = s.l.length ∧ av = s.at' ∧ ru = s.runs ∧ si = s.since from ⟨hnl, hav, hru, hsi⟩)
              have hnl2 : nl ≤ 401 := by omega
              have hav2 : av ≤ 401 := by omega
              clear hm hs om hR hsl hnl hav hru hsi
              go_upto_region 15 with fail
              obtain ⟨wa, hwa⟩ : ∃ wa, wa = wr.alloc (.cells #[.int .i64 ma, .int .u8 mb, .int .i64 mc, .int .i64 md] 155) := ⟨_, rfl⟩
              obtain ⟨xb, hxb⟩ : ∃ xb, xb = wr.heap.size := ⟨_, rfl⟩
              rw [← hwa, ← hxb] at HRb
              rw [← hwa, ← hxb]
              clear hwa hxb q0 q1 q2 q3
              obtain ⟨s1, hs1⟩ : ∃ s1, s1 = jpass s ma := ⟨_, rfl⟩
              rw [← hs1] at HJS
              have HS1 := Kept.mk hs1
              have HSW := Kept.mk (show s1.l.length = nl ∧ s1.at' = av ∧ s1.runs = ru ∧ s1.since = ma by
                rw [hs1, jpass_len]; exact ⟨HSV.out.1.symm, HSV.out.2.1.symm, HSV.out.2.2.1.symm, rfl⟩)
              have bx : wa.ownsRow w1.heap.size 155 4 (.slice (some ⟨xb, 0, none⟩) 1 1) 1 [.int .i64 ma, .int .u8 mb, .int .i64 mc, .int .i64 md] := HRb.out.head
              have x0 : wa.cell? ⟨xb, 0, none⟩ = some (.int .i64 ma) := bx.cellAt 0 (by decide)
              clear hs1 bx
              obtain ⟨bb, hbb⟩ : ∃ bb : Bool, bb = (ru && decide (av < nl)) := ⟨_, rfl⟩
              have HBB := Kept.mk hbb
              clear hbb
              go_cut [52] from 46 to 52 (fun e wx => e = .bool bb ∧ wx = wa)
              case first =>
                cases ru with
                | false =>
                  have HB := Kept.mk (show bb = false by rw [HBB.out]; rfl)
                  go_wp2_with fail
                  go_meet
                  exact ⟨by rw [HB.out], rfl⟩
                | true =>
                  by_cases hlv : av < nl
                  · have HB := Kept.mk (show bb = true by rw [HBB.out, decide_eq_true hlv]; rfl)
                    have il : (av : Int) < (nl : Int) := by omega
                    go_wp2_with fail
                    go_meet
                    exact ⟨by rw [HB.out], rfl⟩
                  · have HB := Kept.mk (show bb = false by rw [HBB.out, decide_eq_false hlv]; rfl)
                    have il : decide ((av : Int) < (nl : Int)) = false := decide_eq_false (by omega)
                    have il2 : decide (av < nl) = false := decide_eq_false hlv
                    clear hlv
                    go_wp2_with fail
                    go_meet
                    exact ⟨by rw [HB.out], rfl⟩
              case rest =>
              obtain ⟨rfl, rfl⟩ := hcut
              go_upto_if 52 with fail
              go_cut [17] from 53 to 64 (fun e wx => e = .int .i64 si ∧ LRw w1 wx [bR 155 4 xb [.int .i64 ma, .int .u8 mb, .int .i64 mc, .int .i64 md], pR A3 n3 nl s1.l, dR A4 n4 nl s1.l, mR gm cmk N MS, bR 152 10 bt tB, pR A1 n1 np ps, dR A2 n2 np ps])
              case first =>
                cases bb with
                | false =>
                  have HSL := Kept.mk (show s1.l = s.l by
                    rw [HS1.out]; unfold jpass
                    dsimp only
                    rw [if_neg]
                    rintro ⟨h1, h2⟩
                    have h3 := HBB.out
                    rw [HSV.out.2.2.1, h1, decide_eq_true (by rw [HSV.out.1, HSV.out.2.1]; exact h2)] at h3
                    cases h3)
                  go_wp2_with fail
                  go_meet
                  refine ⟨rfl, ?_⟩
                  rw [HSL.out]
                  exact HRb.out
                | true =>
                  have hbt := HBB.out
                  obtain ⟨hrt, hlv⟩ : ru = true ∧ av < nl := by
                    have h := hbt.symm
                    rw [Bool.and_eq_true, decide_eq_true_eq] at h
                    exact h
                  obtain ⟨x, hx⟩ : ∃ x, s.l[av]? = some x := ⟨s.l[av]'(by have := HSV.out.1; omega), List.getElem?_eq_getElem _⟩
                  have op : wc.ownsRow w1.heap.size 108 3 (.slice A3 nl n3) nl (pC s.l) := LRw.rowAt (pre := [bR 155 4 xb [.int .i64 ma, .int .u8 mb, .int .i64 mc, .int .i64 md]]) HRb.out
                  obtain ⟨g3, cap3, f1, f2, f3⟩ := op.form (by omega)
                  obtain rfl : A3 = some ⟨g3, 0, none⟩ := by injection f1
                  have xc : wc.cell? ⟨g3, av * 3 + 2, none⟩ = some (.int .i64 x.c) := by rw [op.cellAt _ (by omega)]; exact pC_at s.l av 2 x hx (by omega)
                  have xf : wc.frozen? ⟨g3, av * 3 + 2, none⟩ = false := op.frozenAt _
                  have il : (av : Int) < (nl : Int) := by omega
                  obtain ⟨dv, hdv⟩ : ∃ dv, dv = Go.RowKit.wrap64 (ma - si) := ⟨_, rfl⟩
                  obtain ⟨v, hv⟩ : ∃ v, v = Go.RowKit.wrap64 (x.c + dv) := ⟨_, rfl⟩
                  have w1' : IntKind.i64.wrap (ma - si) = dv := by rw [wrapJ, hdv]
                  have w2' : IntKind.i64.wrap (x.c + dv) = v := by rw [wrapJ, hv]
                  have w3' : Go.RowKit.wrap64 (ma - si) = dv := hdv.symm
                  have w4' : Go.RowKit.wrap64 (x.c + dv) = v := hv.symm
                  have HSL := Kept.mk (show s1.l = s.l.set av { x with c := v } by
                    rw [HS1.out]; unfold jpass
                    dsimp only
                    rw [if_pos ⟨HSV.out.2.2.1.symm.trans hrt, by rw [← HSV.out.1, ← HSV.out.2.1]; exact hlv⟩, ← HSV.out.2.1, hx, ← HSV.out.2.2.2, hv, hdv]; rfl)
                  have HPS := Kept.mk (pC_set s.l av x v hx)
                  have HDS := Kept.mk (dC_set_c s.l av x v hx)
                  have HWD := Kept.mk (show LRw w1 (wc.drew.setCell ⟨g3, av * 3 + 2, none⟩ (.int .i64 v)) [bR 155 4 xb [.int .i64 ma, .int .u8 mb, .int .i64 mc, .int .i64 md], pR (some ⟨g3, 0, none⟩) n3 nl s1.l, dR A4 n4 nl s1.l, mR gm cmk N MS, bR 152 10 bt tB, pR A1 n1 np ps, dR A2 n2 np ps] from by
                    have h := LRw.lift (r' := ⟨108, 3, nl, (pC s.l).set (av * 3 + 2) (.int .i64 v), .slice (some ⟨g3, 0, none⟩) nl n3⟩) (pre := [bR 155 4 xb [.int .i64 ma, .int .u8 mb, .int .i64 mc, .int .i64 md]]) (fun {rs} (h : LRw w1 wc.drew (pR (some ⟨g3, 0, none⟩) n3 nl s.l :: rs)) => h.stored (av * 3 + 2) (.int .i64 v)) (HRb.out.drewN 1)
                    rw [HPS.out, ← HSL.out] at h
                    show LRw w1 _ [_, _, ⟨2, 1, nl, dC s1.l, .slice A4 nl n4⟩, _, _, _, _]
                    rw [HSL.out, HDS.out, ← HSL.out]
                    exact h)
                  obtain ⟨xa, xb', xcv, xd⟩ := x
                  simp only at xc w2' w4'
                  clear hx op f1 f2 f3 hdv hv HPS HDS HSL hbt hrt hlv
                  go_upto_region 16 with fail
                  go_region
                  all_goals go_wp2_with fail
                  all_goals go_meet
                  all_goals exact ⟨rfl, HWD.out⟩
              case rest =>
                obtain ⟨rfl, hR1⟩ := hcut
                have bx : wc.ownsRow w1.heap.size 155 4 (.slice (some ⟨xb, 0, none⟩) 1 1) 1 [.int .i64 ma, .int .u8 mb, .int .i64 mc, .int .i64 md] := hR1.head
                have x0 : wc.cell? ⟨xb, 0, none⟩ = some (.int .i64 ma) := bx.cellAt 0 (by decide)
                have x1 : wc.cell? ⟨xb, 1, none⟩ = some (.int .u8 mb) := bx.cellAt 1 (by decide)
                have x2 : wc.cell? ⟨xb, 2, none⟩ = some (.int .i64 mc) := bx.cellAt 2 (by decide)
                have x3 : wc.cell? ⟨xb, 3, none⟩ = some (.int .i64 md) := bx.cellAt 3 (by decide)
                have tx : wc.cell? ⟨bt, 1, none⟩ = some (.int .i64 tp) := by
                  have ot : wc.ownsRow w1.heap.size 152 10 (.slice (some ⟨bt, 0, none⟩) 1 1) 1 tB := LRw.rowAt (pre := [bR 155 4 xb [.int .i64 ma, .int .u8 mb, .int .i64 mc, .int .i64 md], pR A3 n3 nl s1.l, dR A4 n4 nl s1.l, mR gm cmk N MS]) hR1
                  rw [ot.cellAt 1 (by decide)]; exact HTB.out
                have HRd := Kept.mk hR1.drop
                have HRs := Kept.mk (show LRw w1 wc [pR A3 n3 s1.l.length s1.l, dR A4 n4 s1.l.length s1.l, mR gm cmk N MS, bR 152 10 bt tB, pR A1 n1 np ps, dR A2 n2 np ps] from by
                  have h := hR1.drop
                  rw [← HSW.out.1] at h
                  exact h)
                clear hR1 bx HRb HBB HSV HS1
                by_cases hb11 : mb = 11
                · have d11 : (mb == 11) = true := by simp [hb11]
                  have HE := Kept.mk (show jmark' tp k s1 ⟨ma, mb, mc, md⟩ = { s1 with runs := decide (md = 1) && decide (mc = (k : Int)) } from by
                    unfold jmark'
                    rw [if_pos hb11])
                  clear hb11
                  by_cases hd1 : md = 1
                  · have dd1 : (md == 1) = true := by simp [hd1]
                    have hd1' : decide (md = 1) = true := decide_eq_true hd1
                    by_cases hck : mc = (k : Int)
                    · have dck : (mc == (k : Int)) = true := by simp [hck]
                      have HV := Kept.mk (show (decide (md = 1) && decide (mc = (k : Int))) = true by rw [hd1', decide_eq_true hck]; rfl)
                      clear hd1 hd1' hck
                      go_wp2_with fail
                      go_roundw
                      case rel => exact ⟨j + 1, { s1 with runs := decide (md = 1) && decide (mc = (k : Int)) }, A3, n3, A4, n4, by omega, by go_num, (HJS.out.trans HE.out).symm, congrArg (fun n => Value.slice A3 n n3) HSW.out.1.symm, congrArg (fun n => Value.slice A4 n n4) HSW.out.1.symm, congrArg (fun n : Nat => Value.int .i64 (n : Int)) HSW.out.2.1.symm, congrArg Value.bool HV.out.symm, congrArg (Value.int .i64) HSW.out.2.2.2.symm, HRs.out⟩
                      case measure => simp [intOf]; omega
                    · have dck : (mc == (k : Int)) = false := by simp [hck]
                      have HV := Kept.mk (show (decide (md = 1) && decide (mc = (k : Int))) = false by rw [hd1', decide_eq_false hck]; rfl)
                      clear hd1 hd1' hck
                      go_wp2_with fail
                      go_roundw
                      case rel => exact ⟨j + 1, { s1 with runs := decide (md = 1) && decide (mc = (k : Int)) }, A3, n3, A4, n4, by omega, by go_num, (HJS.out.trans HE.out).symm, congrArg (fun n => Value.slice A3 n n3) HSW.out.1.symm, congrArg (fun n => Value.slice A4 n n4) HSW.out.1.symm, congrArg (fun n : Nat => Value.int .i64 (n : Int)) HSW.out.2.1.symm, congrArg Value.bool HV.out.symm, congrArg (Value.int .i64) HSW.out.2.2.2.symm, HRs.out⟩
                      case measure => simp [intOf]; omega
                  · have dd1 : (md == 1) = false := by simp [hd1]
                    have HV := Kept.mk (show (decide (md = 1) && decide (mc = (k : Int))) = false by rw [decide_eq_false hd1]; rfl)
                    clear hd1
                    go_wp2_with fail
                    go_roundw
                    case rel => exact ⟨j + 1, { s1 with runs := decide (md = 1) && decide (mc = (k : Int)) }, A3, n3, A4, n4, by omega, by go_num, (HJS.out.trans HE.out).symm, congrArg (fun n => Value.slice A3 n n3) HSW.out.1.symm, congrArg (fun n => Value.slice A4 n n4) HSW.out.1.symm, congrArg (fun n : Nat => Value.int .i64 (n : Int)) HSW.out.2.1.symm, congrArg Value.bool HV.out.symm, congrArg (Value.int .i64) HSW.out.2.2.2.symm, HRs.out⟩
                    case measure => simp [intOf]; omega
                · have d11 : (mb == 11) = false := by simp [hb11]
                  by_cases hck : mc = (k : Int)
                  · have dck : (mc == (k : Int)) = true := by simp [hck]
                    by_cases hb1 : mb = 1
                    · have d1 : (mb == 1) = true := by simp [hb1]
                      obtain ⟨x, hx⟩ : ∃ x : J4, x = ⟨tp, ma, 0, -1⟩ := ⟨_, rfl⟩
                      have HE := Kept.mk (show jmark' tp k s1 ⟨ma, mb, mc, md⟩ = { s1 with l := s1.l ++ [x] } from by
                        unfold jmark'
                        rw [if_neg hb11, if_neg (fun h => h hck), if_pos hb1, hx])
                      have H5 := Kept.mk (HRd.out.news 108 #[.int .i64 tp, .int .i64 ma, .int .i64 0])
                      have HO5 := Kept.mk (show (wc.alloc (.cells #[.int .i64 tp, .int .i64 ma, .int .i64 0] 108)).ownsRow w1.heap.size 108 3 (.slice A3 nl n3) nl (pC s1.l) from H5.out.1.head)
                      have HG5 := Kept.mk (fun (g5 cap5 : Nat) (w5 : World) (ho : w5.ownsRow w1.heap.size 108 3 (.slice (some ⟨g5, 0, none⟩) (nl + 1) cap5) (nl + 1) (pC s1.l ++ [.int .i64 tp, .int .i64 ma, .int .i64 0])) (hg : (wc.alloc (.cells #[.int .i64 tp, .int .i64 ma, .int .i64 0] 108)).grownBy w5 (Value.slice A3 nl n3).ownBlock) (hl : (Value.slice A3 nl n3).ownBlock = some g5 ∨ g5 = (wc.alloc (.cells #[.int .i64 tp, .int .i64 ma, .int .i64 0] 108)).heap.size) => show LRw w1 w5 (dR A4 n4 nl s1.l :: pR (some ⟨g5, 0, none⟩) cap5 (nl + 1) (s1.l ++ [x]) :: [mR gm cmk N MS, bR 152 10 bt tB, pR A1 n1 np ps, dR A2 n2 np ps]) from
                        (LRw.pGrown H5.out.1 x (by rw [hx]; exact ho) hg hl).swap)
                      have HG7 := Kept.mk (fun (g5 cap5 : Nat) (w5 : World) (h5 : LRw w1 w5 (dR A4 n4 nl s1.l :: pR (some ⟨g5, 0, none⟩) cap5 (nl + 1) (s1.l ++ [x]) :: [mR gm cmk N MS, bR 152 10 bt tB, pR A1 n1 np ps, dR A2 n2 np ps])) (g7 cap7 : Nat) (w7 : World) (ho : w7.ownsRow w1.heap.size 2 1 (.slice (some ⟨g7, 0, none⟩) (nl + 1) cap7) (nl + 1) (dC s1.l ++ [.int .i64 (-1)])) (hg : (w5.alloc (.cells #[.int .i64 (-1)] 2)).grownBy w7 (Value.slice A4 nl n4).ownBlock) (hl : (Value.slice A4 nl n4).ownBlock = some g7 ∨ g7 = (w5.alloc (.cells #[.int .i64 (-1)] 2)).heap.size) => show LRw w1 w7 (pR (some ⟨g5, 0, none⟩) cap5 (nl + 1) (s1.l ++ [x]) :: dR (some ⟨g7, 0, none⟩) cap7 (nl + 1) (s1.l ++ [x]) :: [mR gm cmk N MS, bR 152 10 bt tB, pR A1 n1 np ps, dR A2 n2 np ps]) from
                        (LRw.dGrown (h5.news 2 #[.int .i64 (-1)]).1 x (by rw [hx]; exact ho) hg hl).swap)
                      have HLN := Kept.mk (show (s1.l ++ [x]).length = nl + 1 by rw [List.length_append, HSW.out.1]; rfl)
                      clear hb1 hb11 hck hx
                      go_wp2_with (first
                        | (at_builtin; refine wpList_append_lies _ rfl _ _ 84 rfl w1.heap.size 108 i0 (.agg #[.int .i64 0, .int .i64 0, .int .i64 0]) 3 24 Try.underlying84 hi0 hz0 hz1 hz2 rfl (by decide) (.slice A3 nl n3) nl (pC s1.l) rfl HO5.out ⟨wc.heap.size, 0, none⟩ 1 1 [.int .i64 tp, .int .i64 ma, .int .i64 0] rfl rfl H5.out.2.2 (by simp [Value.oneCell']) (by decide) (by simp only [maxLen]; omega) (by omega) H5.out.2.1 _ rfl ?_; intro g5 cap5 w5 own5 grow5 lies5 hlt5; have H6 := Kept.mk (HG5.out g5 cap5 w5 own5 grow5 lies5); have H7 := Kept.mk (H6.out.news 2 #[.int .i64 (-1)]); have HO7 := Kept.mk (show (w5.alloc (.cells #[.int .i64 (-1)] 2)).ownsRow w1.heap.size 2 1 (.slice A4 nl n4) nl (dC s1.l) from H7.out.1.head); clear own5 grow5 lies5 hlt5)
                        | (at_builtin; refine wpList_append_lies _ rfl _ _ 85 rfl w1.heap.size 2 j0 (.int .i64 0) 1 8 Try.underlying85 hj0 hj1 hj2 hj3 rfl (by decide) (.slice A4 nl n4) nl (dC s1.l) rfl HO7.out ⟨w5.heap.size, 0, none⟩ 1 1 [.int .i64 (-1)] rfl rfl H7.out.2.2 (by simp [Value.oneCell']) (by decide) (by simp only [maxLen]; omega) (by omega) H7.out.2.1 _ rfl ?_; intro g7 cap7 w7 own7 grow7 lies7 hlt7; have H8 := Kept.mk (HG7.out g5 cap5 w5 H6.out g7 cap7 w7 own7 grow7 lies7); clear own7 grow7 lies7 hlt7))
                      go_roundw
                      case rel =>
                        refine ⟨j + 1, { s1 with l := s1.l ++ [x] }, some ⟨g5, 0, none⟩, cap5, some ⟨g7, 0, none⟩, cap7, by omega, by go_num, (HJS.out.trans HE.out).symm, congrArg (fun n => Value.slice (some ⟨g5, 0, none⟩) n cap5) HLN.out.symm, congrArg (fun n => Value.slice (some ⟨g7, 0, none⟩) n cap7) HLN.out.symm, congrArg (fun n : Nat => Value.int .i64 (n : Int)) HSW.out.2.1.symm, congrArg Value.bool HSW.out.2.2.1.symm, congrArg (Value.int .i64) HSW.out.2.2.2.symm, ?_⟩
                        have h := H8.out
                        rw [← HLN.out] at h
                        exact h
                      case measure => simp [intOf]; omega
                    · have d1 : (mb == 1) = false := by simp [hb1]
                      by_cases hb2 : mb = 2
                      · have d2 : (mb == 2) = true := by simp [hb2]
                        by_cases hlv : av < nl
                        · have il : (av : Int) < (nl : Int) := by omega
                          obtain ⟨x, hx⟩ : ∃ x, s1.l[av]? = some x := ⟨s1.l[av]'(by rw [HSW.out.1]; exact hlv), List.getElem?_eq_getElem _⟩
                          have oe : wc.ownsRow w1.heap.size 2 1 (.slice A4 nl n4) nl (dC s1.l) := LRw.rowAt (pre := [pR A3 n3 nl s1.l]) HRd.out
                          obtain ⟨g4, cap4, f1, f2, f3⟩ := oe.form (by omega)
                          obtain rfl : A4 = some ⟨g4, 0, none⟩ := by injection f1
                          have yc : wc.cell? ⟨g4, av, none⟩ = some (.int .i64 x.d) := by rw [oe.cellAt _ (by omega)]; exact dC_at s1.l av x hx
                          have yf : wc.frozen? ⟨g4, av, none⟩ = false := oe.frozenAt _
                          have HE := Kept.mk (show jmark' tp k s1 ⟨ma, mb, mc, md⟩ = { s1 with l := s1.l.set av { x with d := ma }, at' := av + 1 } from by
                            unfold jmark'
                            dsimp only
                            rw [if_neg hb11, if_neg (fun h => h hck), if_neg hb1, if_pos ⟨hb2, by rw [HSW.out.1, HSW.out.2.1]; exact hlv⟩, HSW.out.2.1, hx]; rfl)
                          have HWD := Kept.mk (show LRw w1 (wc.setCell ⟨g4, av, none⟩ (.int .i64 ma)) [pR A3 n3 nl (s1.l.set av { x with d := ma }), dR (some ⟨g4, 0, none⟩) n4 nl (s1.l.set av { x with d := ma }), mR gm cmk N MS, bR 152 10 bt tB, pR A1 n1 np ps, dR A2 n2 np ps] from by
                            have h := LRw.lift (r' := ⟨2, 1, nl, (dC s1.l).set av (.int .i64 ma), .slice (some ⟨g4, 0, none⟩) nl n4⟩) (pre := [pR A3 n3 nl s1.l]) (fun {rs} (h : LRw w1 wc (dR (some ⟨g4, 0, none⟩) n4 nl s1.l :: rs)) => h.stored av (.int .i64 ma)) HRd.out
                            rw [dC_set s1.l av x ma] at h
                            show LRw w1 _ (⟨108, 3, nl, pC (s1.l.set av { x with d := ma }), .slice A3 nl n3⟩ :: _)
                            rw [pC_set_d s1.l av x ma hx]
                            exact h)
                          have HLN := Kept.mk (show (s1.l.set av { x with d := ma }).length = nl by rw [List.length_set, HSW.out.1])
                          obtain ⟨xd, hxd⟩ : ∃ xd, xd = x.d := ⟨_, rfl⟩
                          rw [← hxd] at yc
                          clear hxd hx oe f1 f2 f3 hb11 hb1 hb2 hck
                          go_wp2_with fail
                          go_roundw
                          case rel =>
                            refine ⟨j + 1, { s1 with l := s1.l.set av { x with d := ma }, at' := av + 1 }, A3, n3, some ⟨g4, 0, none⟩, n4, by omega, by go_num, (HJS.out.trans HE.out).symm, congrArg (fun n => Value.slice A3 n n3) HLN.out.symm, congrArg (fun n => Value.slice (some ⟨g4, 0, none⟩) n n4) HLN.out.symm, by go_num, congrArg Value.bool HSW.out.2.2.1.symm, congrArg (Value.int .i64) HSW.out.2.2.2.symm, ?_⟩
                            have h := HWD.out
                            rw [← HLN.out] at h
                            rw [HLN.out] at h ⊢
                            exact HWD.out
                          case measure => simp [intOf]; omega
                        · have il : decide ((av : Int) < (nl : Int)) = false := decide_eq_false (by omega)
                          have il2 : decide (av < nl) = false := decide_eq_false hlv
                          have HE := Kept.mk (show jmark' tp k s1 ⟨ma, mb, mc, md⟩ = s1 from by
                            unfold jmark'
                            rw [if_neg hb11, if_neg (fun h => h hck), if_neg hb1, if_neg]
                            rintro ⟨_, h2⟩
                            rw [HSW.out.1, HSW.out.2.1] at h2
                            exact hlv h2)
                          clear hb11 hb1 hb2 hck hlv
                          go_wp2_with fail
                          go_roundw
                          case rel => exact ⟨j + 1, s1, A3, n3, A4, n4, by omega, by go_num, (HJS.out.trans HE.out).symm, congrArg (fun n => Value.slice A3 n n3) HSW.out.1.symm, congrArg (fun n => Value.slice A4 n n4) HSW.out.1.symm, congrArg (fun n : Nat => Value.int .i64 (n : Int)) HSW.out.2.1.symm, congrArg Value.bool HSW.out.2.2.1.symm, congrArg (Value.int .i64) HSW.out.2.2.2.symm, HRs.out⟩
                          case measure => simp [intOf]; omega
                      · have d2 : (mb == 2) = false := by simp [hb2]
                        have HE := Kept.mk (show jmark' tp k s1 ⟨ma, mb, mc, md⟩ = s1 from by
                          unfold jmark'
                          rw [if_neg hb11, if_neg (fun h => h hck), if_neg hb1, if_neg (fun h => hb2 h.1)])
                        clear hb11 hb1 hb2 hck
                        go_wp2_with fail
                        go_roundw
                        case rel => exact ⟨j + 1, s1, A3, n3, A4, n4, by omega, by go_num, (HJS.out.trans HE.out).symm, congrArg (fun n => Value.slice A3 n n3) HSW.out.1.symm, congrArg (fun n => Value.slice A4 n n4) HSW.out.1.symm, congrArg (fun n : Nat => Value.int .i64 (n : Int)) HSW.out.2.1.symm, congrArg Value.bool HSW.out.2.2.1.symm, congrArg (Value.int .i64) HSW.out.2.2.2.symm, HRs.out⟩
                        case measure => simp [intOf]; omega
                  · have dck : (mc == (k : Int)) = false := by simp [hck]
                    by_cases hb1 : mb = 1
                    · have d1 : (mb == 1) = true := by simp [hb1]
                      have d2 : (mb == 2) = false := by simp [hb1]
                      have HE := Kept.mk (show jmark' tp k s1 ⟨ma, mb, mc, md⟩ = s1 from by
                        unfold jmark'
                        rw [if_neg hb11, if_pos hck])
                      clear hb11 hb1 hck
                      go_wp2_with fail
                      go_roundw
                      case rel => exact ⟨j + 1, s1, A3, n3, A4, n4, by omega, by go_num, (HJS.out.trans HE.out).symm, congrArg (fun n => Value.slice A3 n n3) HSW.out.1.symm, congrArg (fun n => Value.slice A4 n n4) HSW.out.1.symm, congrArg (fun n : Nat => Value.int .i64 (n : Int)) HSW.out.2.1.symm, congrArg Value.bool HSW.out.2.2.1.symm, congrArg (Value.int .i64) HSW.out.2.2.2.symm, HRs.out⟩
                      case measure => simp [intOf]; omega
                    · have d1 : (mb == 1) = false := by simp [hb1]
                      by_cases hb2 : mb = 2
                      · have d2 : (mb == 2) = true := by simp [hb2]
                        have HE := Kept.mk (show jmark' tp k s1 ⟨ma, mb, mc, md⟩ = s1 from by
                          unfold jmark'
                          rw [if_neg hb11, if_pos hck])
                        clear hb11 hb1 hb2 hck
                        go_wp2_with fail
                        go_roundw
                        case rel => exact ⟨j + 1, s1, A3, n3, A4, n4, by omega, by go_num, (HJS.out.trans HE.out).symm, congrArg (fun n => Value.slice A3 n n3) HSW.out.1.symm, congrArg (fun n => Value.slice A4 n n4) HSW.out.1.symm, congrArg (fun n : Nat => Value.int .i64 (n : Int)) HSW.out.2.1.symm, congrArg Value.bool HSW.out.2.2.1.symm, congrArg (Value.int .i64) HSW.out.2.2.2.symm, HRs.out⟩
                        case measure => simp [intOf]; omega
                      · have d2 : (mb == 2) = false := by simp [hb2]
                        have HE := Kept.mk (show jmark' tp k s1 ⟨ma, mb, mc, md⟩ = s1 from by
                          unfold jmark'
                          rw [if_neg hb11, if_pos hck])
                        clear hb11 hb1 hb2 hck
                        go_wp2_with fail
                        go_roundw
                        case rel => exact ⟨j + 1, s1, A3, n3, A4, n4, by omega, by go_num, (HJS.out.trans HE.out).symm, congrArg (fun n => Value.slice A3 n n3) HSW.out.1.symm, congrArg (fun n => Value.slice A4 n n4) HSW.out.1.symm, congrArg (fun n : Nat => Value.int .i64 (n : Int)) HSW.out.2.1.symm, congrArg Value.bool HSW.out.2.2.1.symm, congrArg (Value.int .i64) HSW.out.2.2.2.symm, HRs.out⟩
                        case measure => simp [intOf]; omega
            · have hjN' : j = N := by omega
              have ij : decide ((j : Int) < (N : Int)) = false := decide_eq_false (by omega)
              have hsl := jrunK_len tp k MS N (by rw [HML.out]; exact Nat.le_refl _)
              rw [hjN'] at hs
              rw [← hs] at hsl
              have HFL := Kept.mk (show s.l.filter (fun x => decide (0 < x.c)) = jres tp k ms now by
                rw [hs, HMSF.out, HN.out]; exact jfin tp k ms now)
              obtain ⟨l, hll⟩ : ∃ l, l = s.l := ⟨_, rfl⟩
              rw [← hll] at HFL hsl hR
              rw [← hll]
              obtain ⟨nl, hnl⟩ : ∃ nl, nl = l.length := ⟨_, rfl⟩
              rw [← hnl] at hR hsl
              rw [← hnl]
              have HNL := Kept.mk hnl
              have hnl2 : nl ≤ 401 := by omega
              have HR4 := Kept.mk (show LRw w1 wr [pR A1 n1 np ps, dR A2 n2 np ps, pR A3 n3 nl l, dR A4 n4 nl l] from by
                have h1 : LRw w1 wr [pR A1 n1 np ps, dR A2 n2 np ps, mR gm cmk N MS, bR 152 10 bt tB, pR A3 n3 nl l, dR A4 n4 nl l] := hR.perm (by
                  refine List.Perm.trans (List.perm_append_comm (l₁ := [pR A3 n3 nl l, dR A4 n4 nl l, mR gm cmk N MS, bR 152 10 bt tB]) (l₂ := [pR A1 n1 np ps, dR A2 n2 np ps])) ?_
                  exact List.Perm.append_left [pR A1 n1 np ps, dR A2 n2 np ps] (List.perm_append_comm (l₁ := [pR A3 n3 nl l, dR A4 n4 nl l]) (l₂ := [mR gm cmk N MS, bR 152 10 bt tB])))
                refine ⟨fun r hr => h1.own r ?_, h1.dis.sublist ?_, h1.bw⟩
                · simp only [List.mem_cons, List.not_mem_nil, or_false] at hr ⊢
                  rcases hr with rfl | rfl | rfl | rfl <;> simp
                · exact .cons_cons _ (.cons_cons _ (.cons _ (.cons _ (.cons_cons _ (.cons_cons _ .slnil))))))
              obtain ⟨av, hav⟩ : ∃ av, av = s.at' := ⟨_, rfl⟩
              obtain ⟨ru, hru⟩ : ∃ ru, ru = s.runs := ⟨_, rfl⟩
              obtain ⟨si, hsi⟩ : ∃ si, si = s.since := ⟨_, rfl⟩
              rw [← hav, ← hru, ← hsi]
              clear hR hs hsl hll hnl hav hru hsi hjN'
              obtain ⟨wq, hwq⟩ : ∃ wq, wq = wr := ⟨_, rfl⟩
              rw [← hwq] at HR4 ⊢
              clear hwq wr
              go_wp2_with fail
              go_loopw [9, 10, 127] (fun u v t wp => ∃ (i : Nat) (q : List J4) (B1 : Option Addr) (c1 : Nat) (B2 : Option Addr) (c2 : Nat), i ≤ nl ∧ t = .int .i64 i ∧ q = ps ++ (l.take i).filter (fun x => decide (0 < x.c)) ∧ u = .slice B1 q.length c1 ∧ v = .slice B2 q.length c2 ∧ LRw w1 wp [pR B1 c1 q.length q, dR B2 c2 q.length q, pR A3 n3 nl l, dR A4 n4 nl l]) (fun _ _ t _ => nl - (intOf t).toNat)
              case atStart => exact ⟨0, ps, A1, n1, A2, n2, by omega, rfl, by simp, by rw [HNP.out], by rw [HNP.out], by have h := HR4.out; rw [HNP.out] at h; exact h⟩
              case round =>
                clear HR4
                obtain ⟨i, q, B1, c1, B2, c2, hi, rfl, hq, rfl, rfl, hR⟩ := hrel
                by_cases hil : i < nl
                · have ii : (i : Int) < (nl : Int) := by omega
                  obtain ⟨x, hx⟩ : ∃ x, l[i]? = some x := ⟨l[i]'(by have := HNL.out; omega), List.getElem?_eq_getElem _⟩
                  have hql : q.length ≤ 16401 := by
                    have h1 := List.length_filter_le (fun x : J4 => decide (0 < x.c)) (l.take i)
                    have h2 : (l.take i).length ≤ i := by rw [List.length_take]; omega
                    have := HNP.out
                    rw [hq, List.length_append]; omega
                  have op : wr.ownsRow w1.heap.size 108 3 (.slice A3 nl n3) nl (pC l) := LRw.rowAt (pre := [pR B1 c1 q.length q, dR B2 c2 q.length q]) hR
                  obtain ⟨g3, cap3, f1, f2, f3⟩ := op.form (by omega)
                  obtain rfl : A3 = some ⟨g3, 0, none⟩ := by injection f1
                  have y0 : wr.cell? ⟨g3, i * 3, none⟩ = some (.int .i64 x.a) := by rw [op.cellAt _ (by omega)]; exact pC_at l i 0 x hx (by omega)
                  have y1 : wr.cell? ⟨g3, i * 3 + 1, none⟩ = some (.int .i64 x.b) := by rw [op.cellAt _ (by omega)]; exact pC_at l i 1 x hx (by omega)
                  have y2 : wr.cell? ⟨g3, i * 3 + 2, none⟩ = some (.int .i64 x.c) := by rw [op.cellAt _ (by omega)]; exact pC_at l i 2 x hx (by omega)
                  have oe0 : wr.ownsRow w1.heap.size 2 1 (.slice A4 nl n4) nl (dC l) := LRw.rowAt (pre := [pR B1 c1 q.length q, dR B2 c2 q.length q, pR (some ⟨g3, 0, none⟩) n3 nl l]) hR
                  obtain ⟨g4, cap4, f4, f5, f6⟩ := oe0.form (by omega)
                  obtain rfl : A4 = some ⟨g4, 0, none⟩ := by injection f4
                  have HQS := Kept.mk (show ps ++ (l.take (i + 1)).filter (fun x => decide (0 < x.c)) = q ++ (if 0 < x.c then [x] else []) by
                    rw [List.take_add_one, hx, List.filter_append, hq, List.append_assoc]
                    by_cases h : 0 < x.c
                    · simp [h]
                    · simp [h])
                  have HE4 := Kept.mk (fun (W : World) {r1 r2 r3 : Rw} (h : LRw w1 W [r1, r2, r3, dR (some ⟨g4, 0, none⟩) n4 nl l]) => show W.cell? ⟨g4, i, none⟩ = some (.int .i64 x.d) from by
                    have oe : W.ownsRow w1.heap.size 2 1 (.slice (some ⟨g4, 0, none⟩) nl n4) nl (dC l) := LRw.rowAt (pre := [r1, r2, r3]) h
                    rw [oe.cellAt i (by omega)]; exact dC_at l i x hx)
                  obtain ⟨xa, xb, xc, xd⟩ := x
                  simp only at y0 y1 y2 HE4 HQS
                  have HRb := Kept.mk (hR.alloc (.cells #[.int .i64 xa, .int .i64 xb, .int .i64 xc] 108))
                  have HXC := Kept.mk (show (wr.alloc (.cells #[.int .i64 xa, .int .i64 xb, .int .i64 xc] 108)).heap[wr.heap.size]? = some (.cells #[.int .i64 xa, .int .i64 xb, .int .i64 xc] 108) from heap_alloc_new _ _)
                  obtain ⟨nq, hnq⟩ : ∃ nq, nq = q.length := ⟨_, rfl⟩
                  rw [← hnq] at hql HRb
                  rw [← hnq]
                  have HNQ := Kept.mk hnq
                  clear hR op oe0 f1 f2 f3 f4 f5 f6 hx hq hnq
                  go_upto_region 30 with fail
                  obtain ⟨wa, hwa⟩ : ∃ wa, wa = wr.alloc (.cells #[.int .i64 xa, .int .i64 xb, .int .i64 xc] 108) := ⟨_, rfl⟩
                  obtain ⟨pb, hpb⟩ : ∃ pb, pb = wr.heap.size := ⟨_, rfl⟩
                  rw [← hwa] at HRb
                  rw [← hwa, ← hpb] at HXC
                  rw [← hwa, ← hpb]
                  have z0 : wa.cell? ⟨pb, 0, none⟩ = some (.int .i64 xa) := cell_of_row _ _ 0 _ _ _ HXC.out
                  have z1 : wa.cell? ⟨pb, 1, none⟩ = some (.int .i64 xb) := cell_of_row _ _ 1 _ _ _ HXC.out
                  have z2 : wa.cell? ⟨pb, 2, none⟩ = some (.int .i64 xc) := cell_of_row _ _ 2 _ _ _ HXC.out
                  clear hwa hpb HXC y0 y1 y2
                  by_cases hpos : 0 < xc
                  · have dp : decide (0 < xc) = true := decide_eq_true hpos
                    obtain ⟨x, hx⟩ : ∃ x : J4, x = ⟨xa, xb, xc, xd⟩ := ⟨_, rfl⟩
                    have HQ2 := Kept.mk (show ps ++ (l.take (i + 1)).filter (fun x => decide (0 < x.c)) = q ++ [x] by rw [HQS.out, if_pos hpos, hx])
                    have H5 := Kept.mk (HRb.out.news 108 #[.int .i64 xa, .int .i64 xb, .int .i64 xc])
                    have HO5 := Kept.mk (show (wa.alloc (.cells #[.int .i64 xa, .int .i64 xb, .int .i64 xc] 108)).ownsRow w1.heap.size 108 3 (.slice B1 nq c1) nq (pC q) from H5.out.1.head)
                    have HG5 := Kept.mk (fun (g5 cap5 : Nat) (w5 : World) (ho : w5.ownsRow w1.heap.size 108 3 (.slice (some ⟨g5, 0, none⟩) (nq + 1) cap5) (nq + 1) (pC q ++ [.int .i64 xa, .int .i64 xb, .int .i64 xc])) (hg : (wa.alloc (.cells #[.int .i64 xa, .int .i64 xb, .int .i64 xc] 108)).grownBy w5 (Value.slice B1 nq c1).ownBlock) (hl : (Value.slice B1 nq c1).ownBlock = some g5 ∨ g5 = (wa.alloc (.cells #[.int .i64 xa, .int .i64 xb, .int .i64 xc] 108)).heap.size) => show LRw w1 w5 [dR B2 c2 nq q, pR (some ⟨g5, 0, none⟩) cap5 (nq + 1) (q ++ [x]), pR (some ⟨g3, 0, none⟩) n3 nl l, dR (some ⟨g4, 0, none⟩) n4 nl l] from
                      (LRw.pGrown H5.out.1 x (by rw [hx]; exact ho) hg hl).swap)
                    have HG7 := Kept.mk (fun (g5 cap5 : Nat) (w5 : World) (h5 : LRw w1 w5 [dR B2 c2 nq q, pR (some ⟨g5, 0, none⟩) cap5 (nq + 1) (q ++ [x]), pR (some ⟨g3, 0, none⟩) n3 nl l, dR (some ⟨g4, 0, none⟩) n4 nl l]) (g7 cap7 : Nat) (w7 : World) (ho : w7.ownsRow w1.heap.size 2 1 (.slice (some ⟨g7, 0, none⟩) (nq + 1) cap7) (nq + 1) (dC q ++ [.int .i64 xd])) (hg : (w5.alloc (.cells #[.int .i64 xd] 2)).grownBy w7 (Value.slice B2 nq c2).ownBlock) (hl : (Value.slice B2 nq c2).ownBlock = some g7 ∨ g7 = (w5.alloc (.cells #[.int .i64 xd] 2)).heap.size) => show LRw w1 w7 [pR (some ⟨g5, 0, none⟩) cap5 (nq + 1) (q ++ [x]), dR (some ⟨g7, 0, none⟩) cap7 (nq + 1) (q ++ [x]), pR (some ⟨g3, 0, none⟩) n3 nl l, dR (some ⟨g4, 0, none⟩) n4 nl l] from
                      (LRw.dGrown (h5.news 2 #[.int .i64 xd]).1 x (by rw [hx]; exact ho) hg hl).swap)
                    have HLN := Kept.mk (show (q ++ [x]).length = nq + 1 by rw [List.length_append, ← HNQ.out]; rfl)
                    clear hx hpos
                    go_wp2_with (first
                      | (at_builtin; refine wpList_append_lies _ rfl _ _ 84 rfl w1.heap.size 108 i0 (.agg #[.int .i64 0, .int .i64 0, .int .i64 0]) 3 24 Try.underlying84 hi0 hz0 hz1 hz2 rfl (by decide) (.slice B1 nq c1) nq (pC q) rfl HO5.out ⟨wa.heap.size, 0, none⟩ 1 1 [.int .i64 xa, .int .i64 xb, .int .i64 xc] rfl rfl H5.out.2.2 (by simp [Value.oneCell']) (by decide) (by simp only [maxLen]; omega) (by omega) H5.out.2.1 _ rfl ?_; intro g5 cap5 w5 own5 grow5 lies5 hlt5; have H6 := Kept.mk (HG5.out g5 cap5 w5 own5 grow5 lies5); have yd := HE4.out w5 H6.out; have H7 := Kept.mk (H6.out.news 2 #[.int .i64 xd]); have HO7 := Kept.mk (show (w5.alloc (.cells #[.int .i64 xd] 2)).ownsRow w1.heap.size 2 1 (.slice B2 nq c2) nq (dC q) from H7.out.1.head); clear own5 grow5 lies5 hlt5)
                      | (at_builtin; refine wpList_append_lies _ rfl _ _ 85 rfl w1.heap.size 2 j0 (.int .i64 0) 1 8 Try.underlying85 hj0 hj1 hj2 hj3 rfl (by decide) (.slice B2 nq c2) nq (dC q) rfl HO7.out ⟨w5.heap.size, 0, none⟩ 1 1 [.int .i64 xd] rfl rfl H7.out.2.2 (by simp [Value.oneCell']) (by decide) (by simp only [maxLen]; omega) (by omega) H7.out.2.1 _ rfl ?_; intro g7 cap7 w7 own7 grow7 lies7 hlt7; have H8 := Kept.mk (HG7.out g5 cap5 w5 H6.out g7 cap7 w7 own7 grow7 lies7); clear own7 grow7 lies7 hlt7))
                    go_roundw
                    case rel =>
                      refine ⟨i + 1, q ++ [x], some ⟨g5, 0, none⟩, cap5, some ⟨g7, 0, none⟩, cap7, by omega, by go_num, HQ2.out.symm, congrArg (fun n => Value.slice (some ⟨g5, 0, none⟩) n cap5) HLN.out.symm, congrArg (fun n => Value.slice (some ⟨g7, 0, none⟩) n cap7) HLN.out.symm, ?_⟩
                      have h := H8.out
                      rw [← HLN.out] at h
                      exact h
                    case measure => simp [intOf]; omega
                  · have dp : decide (0 < xc) = false := decide_eq_false hpos
                    have HQ2 := Kept.mk (show ps ++ (l.take (i + 1)).filter (fun x => decide (0 < x.c)) = q by rw [HQS.out, if_neg hpos, List.append_nil])
                    clear hpos
                    go_wp2_with fail
                    go_roundw
                    case rel => exact ⟨i + 1, q, B1, c1, B2, c2, by omega, by go_num, HQ2.out.symm, by rw [HNQ.out], by rw [HNQ.out], by have h := HRb.out; rw [HNQ.out] at h; exact h⟩
                    case measure => simp [intOf]; omega
                · have hie : i = nl := by omega
                  have ii : decide ((i : Int) < (nl : Int)) = false := decide_eq_false (by omega)
                  have HQE := Kept.mk (show q = jallK ts ms now (k + 1) by
                    rw [hq, hie, HNL.out, List.take_length, HFL.out, HSUC.out])
                  have HRF := Kept.mk hR.two
                  obtain ⟨nq, hnq⟩ : ∃ nq, nq = q.length := ⟨_, rfl⟩
                  rw [← hnq]
                  have HNQ := Kept.mk hnq
                  clear hq hR hie hnq
                  go_wp2_with fail
                  go_roundw
                  case rel => exact ⟨k + 1, q, B1, c1, B2, c2, by omega, by go_num, HQE.out, by rw [HNQ.out], by rw [HNQ.out], HRF.out⟩
                  case measure => simp [intOf]; omega
      · have hke : k = ts.length := by omega
        have ik : decide ((k : Int) < (ts.length : Int)) = false := decide_eq_false (by omega)
        rw [hke, ← HZ.out.1] at hps
        subst hps
        have HR := Kept.mk hR
        obtain ⟨nL, hnL⟩ : ∃ nL, nL = ps.length := ⟨_, rfl⟩
        rw [← hnL]
        have HNL := Kept.mk hnL
        clear hke hR hnL
        go_wp2
        go_ret3
        rw [HZ.out.2]
        have h := HR.out.jres HW1.out
        exact ⟨A1, n1, A2, n2, by rw [HNL.out] <;> rfl, h.1, h.2.1, h.2.2⟩
end Go.Proofs.Ytcchmkpodfjhcaa
