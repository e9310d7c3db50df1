/-
  The walk of ideal.jobs' function: an iterator.
-/
import Derived.Test.YtcchmkpodfjhcaaJ1
import Derived.Test.YtcchmkpodfjhcaaItW
namespace Go.Proofs.Ytcchmkpodfjhcaa
open Go.RowKit Go.Shelf
set_option linter.unusedVariables false
attribute [local go_sem] Oper.semAt_some
/-- What a round's body keeps: all cells but two boxes and what they own. -/
structure KpJ (c1 c2 : Nat) (W W' : World) : Prop where
  size : W.heap.size ≤ W'.heap.size
  block : ∀ i o, W.heap[i]? = some o → o.isCells = true → i ≠ c1 → i ≠ c2 → ob W c1 ≠ some i → ob W c2 ≠ some i → W'.heap[i]? = some o
  o1 : ob W' c1 = ob W c1 ∨ ∃ g, ob W' c1 = some g ∧ W.heap.size ≤ g
  o2 : ob W' c2 = ob W c2 ∨ ∃ g, ob W' c2 = some g ∧ W.heap.size ≤ g
theorem KpJ.trans {c1 c2 : Nat} {A B C : World} (h : KpJ c1 c2 A B) (k : KpJ c1 c2 B C) : KpJ c1 c2 A C := by
  have hs := h.size
  refine ⟨Nat.le_trans h.size k.size, fun i o hi hc h1 h2 h3 h4 => ?_, ?_, ?_⟩
  · have hlt := lt_of_block hi
    refine k.block i o (h.block i o hi hc h1 h2 h3 h4) hc h1 h2 ?_ ?_
    · rcases h.o1 with e | ⟨g, e, hg⟩
      · rw [e]; exact h3
      · rw [e]; intro e'; cases e'; omega
    · rcases h.o2 with e | ⟨g, e, hg⟩
      · rw [e]; exact h4
      · rw [e]; intro e'; cases e'; omega
  · rcases k.o1 with e | ⟨g, e, hg⟩
    · rw [e]; exact h.o1
    · exact .inr ⟨g, e, by omega⟩
  · rcases k.o2 with e | ⟨g, e, hg⟩
    · rw [e]; exact h.o2
    · exact .inr ⟨g, e, by omega⟩
theorem ob_block {W W' : World} {c : Nat} (h : W'.heap[c]? = W.heap[c]?) : ob W' c = ob W c := by
  unfold ob
  rw [World.cell?_of_block (a := ⟨c, 0, none⟩) h]
theorem KpJ.book {c1 c2 : Nat} {w : World} (h1 : c1 < w.heap.size) (h2 : c2 < w.heap.size) (W : World) (l : Nat) (o o' : Obj) (hl : w.heap.size ≤ l) (h : W.heap[l]? = some o) (hc : o.isCells = false) (hw : o.isWalk = false) : KpJ c1 c2 W (W.putObj l o') := by
  have hg := grownBy_putObj' W l o'
  have hk : ∀ i, i < W.heap.size → i ≠ l → (W.putObj l o').heap[i]? = W.heap[i]? := fun i hi hne => hg.block i hi (by simp; omega)
  have hll := lt_of_block h
  refine ⟨hg.size, fun i p hi hp _ _ _ _ => ?_, .inl (ob_block (hk c1 (by omega) (by omega))), .inl (ob_block (hk c2 (by omega) (by omega)))⟩
  rw [hk i (lt_of_block hi) (fun e => by rw [e, h] at hi; cases hi; rw [hc] at hp; cases hp)]
  exact hi
abbrev encJ (x : J4) : Array Value := #[.agg #[.int .i64 x.a, .int .i64 x.b, .int .i64 x.c, .int .i64 x.d]]
/-- What jobs' function reads. -/
structure JIn (W : World) (bm bt bk bn : Nat) (P i now : Int) (ms : List QM) : Prop where
  m : ∃ Am cm, W.cell? ⟨bm, 0, none⟩ = some (.slice Am ms.length cm) ∧ RM W W.heap.size Am ms
  t : W.cell? ⟨bt, 0, none⟩ = some (.int .i64 i)
  k : W.cell? ⟨bk, 1, none⟩ = some (.int .i64 P)
  n : W.cell? ⟨bn, 0, none⟩ = some (.int .i64 now)
theorem JIn.below {W W' : World} {bm bt bk bn : Nat} {P i now : Int} {ms : List QM} (h : JIn W bm bt bk bn P i now ms) (hb : Below W.heap.size W W') : JIn W' bm bt bk bn P i now ms := by
  obtain ⟨Am, cm, h1, h2⟩ := h.m
  exact ⟨⟨Am, cm, (hb.cell (p := ⟨bm, 0, none⟩) (cell_lt h1)).trans h1, (h2.below hb).mono hb.size⟩, (hb.cell (p := ⟨bt, 0, none⟩) (cell_lt h.t)).trans h.t, (hb.cell (p := ⟨bk, 1, none⟩) (cell_lt h.k)).trans h.k, (hb.cell (p := ⟨bn, 0, none⟩) (cell_lt h.n)).trans h.n⟩
/-- A job comes. -/
theorem JW.app {N R bl ba bs br : Nat} {w W : World} {s : JS} (h : JW N R bl ba bs br w W s) (hNR : N ≤ R) {nl : Nat} (hn : nl = s.l.length) {Al : Option Addr} {cl : Nat} (hc : W.cell? ⟨bl, 0, none⟩ = some (.slice Al nl cl)) {x : J4} {o : Obj} {w4 : World} {g cap : Nat}
    (hg : (W.alloc o).grownBy w4 (Value.slice Al nl cl).ownBlock) (ho : w4.ownsRow R 171 4 (.slice (some ⟨g, 0, none⟩) (nl + 1) cap) (nl + 1) (jC s.l ++ x.cells)) :
    JW N R bl ba bs br w (w4.setCell ⟨bl, 0, none⟩ (.slice (some ⟨g, 0, none⟩) (nl + 1) cap)) { s with l := s.l ++ [x] } := by
  subst hn
  obtain ⟨Al', cl', h1, h2⟩ := h.l
  have he := h1.symm.trans hc
  simp only [Option.some.injEq, Value.slice.injEq, true_and] at he
  obtain ⟨rfl, rfl⟩ := he
  have pl := h.pl
  have hs := h.size
  have hb := below_box W o
  have h2' := own_below h2 hb
  have hb4 : Below R W w4 := (hb.mono hs).grown hg (by simp; omega) fun j hj => (h2'.lt j hj).1
  have q1 : w4.cell? ⟨bl, 0, none⟩ = some (.slice Al' s.l.length cl') := (hb4.cell (p := ⟨bl, 0, none⟩) pl.l.2).trans h1
  have oth : ∀ b, b < R → b ≠ bl → (w4.setCell ⟨bl, 0, none⟩ (.slice (some ⟨g, 0, none⟩) (s.l.length + 1) cap)).cell? ⟨b, 0, none⟩ = W.cell? ⟨b, 0, none⟩ := fun b hb' hne => (World.cell?_setCell_other _ _ _ _ (by simp <;> omega)).trans (hb4.cell (p := ⟨b, 0, none⟩) hb')
  have fro : ∀ b, b < R → w4.frozen? ⟨b, 0, none⟩ = W.frozen? ⟨b, 0, none⟩ := fun b hb' => hb4.frozen (p := ⟨b, 0, none⟩) hb'
  have e1 : (s.l ++ [x]).length = s.l.length + 1 := by simp
  refine ⟨pl, ⟨some ⟨g, 0, none⟩, cap, ?_, ?_⟩, (oth ba pl.a.2 (by have := pl.ne; omega)).trans h.a, (oth bs pl.s.2 (by have := pl.ne; omega)).trans h.sn, (oth br pl.r.2 (by have := pl.ne; omega)).trans h.r, ⟨?_, ?_, ?_, ?_⟩, by simp; have := hb4.size; omega, (h.bw.trans (hb4.mono hNR)).setCell (p := ⟨bl, 0, none⟩) pl.l.1 _⟩
  · dsimp only; rw [e1]; exact World.cell?_setCell_same' _ _ _ (by rw [q1]; rfl)
  · dsimp only
    rw [e1, jC_snoc]
    refine ho.kept (row := some bl) ⟨rfl, rfl, rfl, by simp, fun i _ hi => Below.heap_setCell _ _ _ _ (fun e => hi (by rw [e]))⟩ ?_
    right; intro e'; have := (ho.lt g rfl).1; simp [Value.ownBlock] at e'; have := pl.l.2; omega
  all_goals rw [World.frozen?_setCell]
  · exact (fro bl pl.l.2).trans h.f.1
  · exact (fro ba pl.a.2).trans h.f.2.1
  · exact (fro bs pl.s.2).trans h.f.2.2.1
  · exact (fro br pl.r.2).trans h.f.2.2.2
/-- The jobs, as the second loop finds them. -/
structure LJ (c1 c2 : Nat) (W : World) (Al : Option Addr) (L : List J4) : Prop where
  s1 : c1 < W.heap.size
  s2 : c2 < W.heap.size
  c : 0 < L.length → ∃ g T cur, Al = some ⟨g, 0, none⟩ ∧ W.heap[g]? = some (.cells cur T (0, 0)) ∧ (∀ j x o, L[j]? = some x → o < 4 → cur[j * 4 + o]? = x.cells[o]?) ∧ g ≠ c1 ∧ g ≠ c2 ∧ ob W c1 ≠ some g ∧ ob W c2 ≠ some g
theorem LJ.alloc {c1 c2 : Nat} {W : World} {Al : Option Addr} {L : List J4} (h : LJ c1 c2 W Al L) (o : Obj) : LJ c1 c2 (W.alloc o) Al L := by
  have hb := below_box W o
  refine ⟨by have := h.s1; simp; omega, by have := h.s2; simp; omega, fun h0 => ?_⟩
  obtain ⟨g, T, cur, e, h1, h2, h3, h4, h5, h6⟩ := h.c h0
  exact ⟨g, T, cur, e, (hb.block g (lt_of_block h1)).trans h1, h2, h3, h4, by rw [ob_block (hb.block c1 h.s1)]; exact h5, by rw [ob_block (hb.block c2 h.s2)]; exact h6⟩
theorem LJ.kp {c1 c2 : Nat} {W W' : World} {Al : Option Addr} {L : List J4} (h : LJ c1 c2 W Al L) (hk : KpJ c1 c2 W W') : LJ c1 c2 W' Al L := by
  refine ⟨Nat.lt_of_lt_of_le h.s1 hk.size, Nat.lt_of_lt_of_le h.s2 hk.size, fun h0 => ?_⟩
  obtain ⟨g, T, cur, e, h1, h2, h3, h4, h5, h6⟩ := h.c h0
  have hlt := lt_of_block h1
  refine ⟨g, T, cur, e, hk.block g _ h1 rfl h3 h4 h5 h6, h2, h3, h4, ?_, ?_⟩
  · rcases hk.o1 with e | ⟨j, e, hj⟩
    · rw [e]; exact h5
    · rw [e]; intro e'; cases e'; omega
  · rcases hk.o2 with e | ⟨j, e, hj⟩
    · rw [e]; exact h6
    · rw [e]; intro e'; cases e'; omega
theorem LJ.cells {c1 c2 : Nat} {W : World} {Al : Option Addr} {L : List J4} (h : LJ c1 c2 W Al L) {k : Nat} {x : J4} (hx : L[k]? = some x) : ∃ g, Al = some ⟨g, 0, none⟩ ∧ W.cell? ⟨g, k * 4, none⟩ = some (.int .i64 x.a) ∧ W.cell? ⟨g, k * 4 + 1, none⟩ = some (.int .i64 x.b) ∧ W.cell? ⟨g, k * 4 + 2, none⟩ = some (.int .i64 x.c) ∧ W.cell? ⟨g, k * 4 + 3, none⟩ = some (.int .i64 x.d) := by
  have hk : k < L.length := by
    rcases Nat.lt_or_ge k L.length with h | h
    · exact h
    · rw [List.getElem?_eq_none h] at hx; cases hx
  obtain ⟨g, T, cur, e, h1, h2, _⟩ := h.c (by omega)
  refine ⟨g, e, ?_, ?_, ?_, ?_⟩
  · rw [cell_of_row _ _ _ _ _ _ h1]; exact h2 k x 0 hx (by omega)
  · rw [cell_of_row _ _ _ _ _ _ h1]; exact h2 k x 1 hx (by omega)
  · rw [cell_of_row _ _ _ _ _ _ h1]; exact h2 k x 2 hx (by omega)
  · rw [cell_of_row _ _ _ _ _ _ h1]; exact h2 k x 3 hx (by omega)
def jrunK (P i : Int) (ms : List QM) (k : Nat) : JS := (ms.take k).foldl (jmark P i) ⟨[], 0, 0, false⟩
theorem jrunK_succ {P i : Int} {ms : List QM} {k : Nat} {m : QM} (h : ms[k]? = some m) : jrunK P i ms (k + 1) = jmark P i (jrunK P i ms k) m := by
  unfold jrunK
  rw [List.take_add_one, h, List.foldl_append]; rfl
theorem jrunK_len (P i : Int) (ms : List QM) : ∀ k, k ≤ ms.length → (jrunK P i ms k).l.length ≤ k ∧ (jrunK P i ms k).at' ≤ k
  | 0, _ => ⟨Nat.le_refl _, Nat.le_refl _⟩
  | k + 1, hk => by
    have h := jrunK_len P i ms k (by omega)
    have h2 := jmark_len P i (jrunK P i ms k) ms[k]
    rw [jrunK_succ (List.getElem?_eq_getElem (by omega))]
    omega
theorem jrunK_all (P i : Int) (ms : List QM) : jrunK P i ms ms.length = jrun P i ms := by unfold jrunK jrun; rw [List.take_length]
theorem info_job : (Try.prog.info? 171).map (fun i => (i.zero, i.size, i.bytes)) = some (some (.agg #[.int .i64 0, .int .i64 0, .int .i64 0, .int .i64 0]), 4, 32) := by kernel_rfl
set_option maxRecDepth 100000 in
set_option maxHeartbeats 8000000 in
theorem jobs_in (n : Nat) (hn : 1 ≤ n) (l bm bt bk bn c1 c2 : Nat) (P i now : Int) (ms : List QM) (hms : ms.length ≤ 400) (J Jx : List J4 → World → Prop) (W : World)
    (hJ : AbidesFrom W.heap.size J) (hIn : JIn W bm bt bk bn P i now ms) (hc1 : c1 < W.heap.size) (hc2 : c2 < W.heap.size) (ho1 : ∀ g, ob W c1 = some g → g < W.heap.size) (ho2 : ∀ g, ob W c2 = some g → g < W.heap.size)
    (hY : ∀ pre x W1, J pre W1 → pre.length < 4096 → YieldAt Fence.wide (n - 1) Try.prog l (encJ x) W1 fun e W' =>
      (e = .returned (.bool true) ∧ J (pre ++ [x]) W' ∧ KpJ c1 c2 W1 W') ∨ (e = .returned (.bool false) ∧ Jx (pre ++ [x]) W'))
    (h0 : J [] W) :
    CallsIn Fence.wide n Try.prog 104 #[.func (.yield l) #[] #[], .pointer (some ⟨bm, 0, none⟩), .pointer (some ⟨bt, 0, none⟩), .pointer (some ⟨bk, 0, none⟩), .pointer (some ⟨bn, 0, none⟩)] W fun e W' => (∃ v, e = .returned v) ∧
      ((∃ l, l = jres P i ms now ∧ J l W') ∨ (∃ pre, True ∧ Jx pre W')) := by
  obtain ⟨j0, hj0, hj1, hj2, hj3⟩ := info_parts info_job
  refine callsIn_of_wp Try.func104 rfl trivial ?_ rfl
  simp only [Try.ntmps104, List.size_toArray, List.length_cons, List.length_nil, Nat.reduceAdd, Nat.reduceSub, Array.replicate_succ, Array.replicate_zero, List.push_toArray, List.append_toArray, List.nil_append, List.cons_append]
  refine wpIn_wide.2 ?_
  go_upto_region 3 with fail
  obtain ⟨W3, hW3⟩ : ∃ W3, W3 = ((((W.alloc (.cells #[.slice none 0 0] 181)).alloc (.cells #[.int .i64 0] 3)).alloc (.cells #[.int .i64 0] 2)).alloc (.cells #[.bool false] 4)) := ⟨_, rfl⟩
  obtain ⟨bl, hbl⟩ : ∃ bl, bl = W.heap.size := ⟨_, rfl⟩
  obtain ⟨ba, hba⟩ : ∃ ba, ba = W.heap.size + 1 := ⟨_, rfl⟩
  obtain ⟨bs, hbs⟩ : ∃ bs, bs = W.heap.size + 1 + 1 := ⟨_, rfl⟩
  obtain ⟨br, hbr⟩ : ∃ br, br = W.heap.size + 1 + 1 + 1 := ⟨_, rfl⟩
  obtain ⟨R, hR⟩ : ∃ R, R = W.heap.size + 4 := ⟨_, rfl⟩
  have hJW : JW W.heap.size R bl ba bs br W W3 ⟨[], 0, 0, false⟩ := by
    have z1 : (W.alloc (.cells #[.slice none 0 0] 181)).heap.size = W.heap.size + 1 := by simp
    have z2 : ((W.alloc (.cells #[.slice none 0 0] 181)).alloc (.cells #[.int .i64 0] 3)).heap.size = W.heap.size + 1 + 1 := by simp
    have z3 : (((W.alloc (.cells #[.slice none 0 0] 181)).alloc (.cells #[.int .i64 0] 3)).alloc (.cells #[.int .i64 0] 2)).heap.size = W.heap.size + 1 + 1 + 1 := by simp
    have b1 := below_box W (.cells #[.slice none 0 0] 181)
    have b2 := below_box (W.alloc (.cells #[.slice none 0 0] 181)) (.cells #[.int .i64 0] 3)
    have b3 := below_box ((W.alloc (.cells #[.slice none 0 0] 181)).alloc (.cells #[.int .i64 0] 3)) (.cells #[.int .i64 0] 2)
    have b4 := below_box (((W.alloc (.cells #[.slice none 0 0] 181)).alloc (.cells #[.int .i64 0] 3)).alloc (.cells #[.int .i64 0] 2)) (.cells #[.bool false] 4)
    rw [← hW3] at b4
    have k3 := (b4.mono (by rw [z3]; exact Nat.le_refl _) : Below (W.heap.size + 1 + 1 + 1) _ _)
    have k2 := (b3.mono (by rw [z2]; exact Nat.le_refl _) : Below (W.heap.size + 1 + 1) _ _).trans (k3.mono (by omega))
    have k1 := (b2.mono (by rw [z1]; exact Nat.le_refl _) : Below (W.heap.size + 1) _ _).trans (k2.mono (by omega))
    have k0 := b1.trans (k1.mono (by omega))
    have h1 : W3.heap[bl]? = some (.cells #[.slice none 0 0] 181) := by
      rw [hbl, k1.block _ (by omega)]; exact heap_alloc_new _ _
    have h2 : W3.heap[ba]? = some (.cells #[.int .i64 0] 3) := by
      rw [hba, k2.block _ (by omega), ← z1]; exact heap_alloc_new _ _
    have h3 : W3.heap[bs]? = some (.cells #[.int .i64 0] 2) := by
      rw [hbs, k3.block _ (by omega), ← z2]; exact heap_alloc_new _ _
    have h4 : W3.heap[br]? = some (.cells #[.bool false] 4) := by
      rw [hbr, hW3, ← z3]; exact heap_alloc_new _ _
    exact ⟨⟨by omega, by omega, by omega, by omega, by omega⟩, ⟨none, 0, cell_of_row _ _ 0 _ _ _ h1, ⟨rfl, .inl ⟨rfl, rfl⟩⟩⟩, cell_of_row _ _ 0 _ _ _ h2, cell_of_row _ _ 0 _ _ _ h3, cell_of_row _ _ 0 _ _ _ h4,
      ⟨frozen_of_row _ _ 0 _ _ h1, frozen_of_row _ _ 0 _ _ h2, frozen_of_row _ _ 0 _ _ h3, frozen_of_row _ _ 0 _ _ h4⟩, by rw [hW3, hR]; simp, k0⟩
  have hNR : W.heap.size ≤ R := by omega
  rw [← hW3, ← hbr, ← hbs, ← hba]
  have HBL := Kept.mk hbl
  obtain ⟨N, hN⟩ : ∃ N, N = W.heap.size := ⟨_, rfl⟩
  have HIN := Kept.mk (fun (W' : World) (hb : Below N W W') => hIn.below (hN ▸ hb))
  have HOB1 := Kept.mk (fun (W' : World) (hb : Below N W W') => show (∀ g, ob W' c1 = some g → g < N) ∧ (∀ g, ob W' c2 = some g → g < N) from by
    rw [hN] at hb ⊢
    rw [ob_block (hb.block c1 hc1), ob_block (hb.block c2 hc2)]
    exact ⟨ho1, ho2⟩)
  have HJ := Kept.mk (fun (W' : World) (hb : Below N W W') => hJ [] W W' none h0 ⟨hb.os, hb.tape, hb.output, hb.size, fun i hi _ => hb.block i (hN ▸ hi)⟩ (fun r e => by cases e))
  rw [← hbl]
  rw [← hN] at hJW hNR hc1 hc2
  have hnbl : N = bl := by omega
  have HJ2 := Kept.mk (hN ▸ hJ)
  have HY := Kept.mk hY
  have H3 := Kept.mk hJW
  obtain ⟨Am, cm, m1, m2⟩ := hIn.m
  have HRM := Kept.mk (fun (W' : World) (hb : Below N W W') => show RM W' N Am ms from (hN ▸ m2 : RM W N Am ms).below hb)
  have m3 : W3.cell? ⟨bm, 0, none⟩ = some (.slice Am ms.length cm) := (hJW.bw.cell (p := ⟨bm, 0, none⟩) (by have := cell_lt m1; show bm < N; omega)).trans m1
  clear hW3 hbl hba hbs hbr hR hIn hJ hY hJW m1 m2 ho1 ho2 h0 hN
  go_wp2_with fail
  go_loopw [18] (fun t wr => ∃ k : Nat, k ≤ ms.length ∧ t = .int .i64 k ∧ JW N R bl ba bs br W wr (jrunK P i ms k)) (fun t _ => ms.length - (intOf t).toNat)
  case atStart => exact ⟨0, by omega, rfl, H3.out⟩
  case round =>
    clear H3
    obtain ⟨k, hk, rfl, hw⟩ := hrel
    by_cases hlt : k < ms.length
    · have ik : (k : Int) < (ms.length : Int) := by omega
      obtain ⟨m, hm⟩ : ∃ m, ms[k]? = some m := ⟨ms[k], List.getElem?_eq_getElem hlt⟩
      obtain ⟨b, off, rfl, hbN, hc⟩ := HRM.out wr hw.bw (by omega)
      obtain ⟨e1, e2, e3, e4⟩ := hc k m hm
      have hkl := jrunK_len P i ms k hk
      have HNX := Kept.mk (jrunK_succ (P := P) (i := i) hm)
      obtain ⟨s, hs⟩ : ∃ s, s = jrunK P i ms k := ⟨_, rfl⟩
      rw [← hs] at hw hkl HNX
      obtain ⟨ma, mb, mc, md⟩ := m
      simp only at e1 e2 e3 e4
      have HW := Kept.mk hw
      have hxb := lt_of_block (heap_alloc_new wr (.cells #[.int .i64 ma, .int .u8 mb, .int .i64 mc, .int .i64 md] 155))
      clear hc hm hs hw
      go_upto_region 6 with fail
      obtain ⟨wa, hwa⟩ : ∃ wa, wa = wr.alloc (.cells #[.int .i64 ma, .int .u8 mb, .int .i64 mc, .int .i64 md] 155) := ⟨_, rfl⟩
      obtain ⟨xb, hx⟩ : ∃ xb, xb = wr.heap.size := ⟨_, rfl⟩
      rw [← hwa, ← hx]
      have hJa : JW N R bl ba bs br W wa s := by rw [hwa]; exact HW.out.alloc hNR _
      have hXa : wa.heap[xb]? = some (.cells #[.int .i64 ma, .int .u8 mb, .int .i64 mc, .int .i64 md] 155) := by rw [hwa, hx]; exact heap_alloc_new _ _
      have hXo : ob wa bl ≠ some xb := by
        obtain ⟨Al, cl, l1, l2⟩ := HW.out.l
        have lb : bl < wr.heap.size := by have := HW.out.size; have := HW.out.pl.l.2; omega
        rw [hwa, ob_block ((below_box wr _).block bl lb), ob_eq l1]
        intro e
        have := (l2.lt xb e).2
        omega
      have xa0 : wa.cell? ⟨xb, 0, none⟩ = some (.int .i64 ma) := cell_of_row _ _ 0 _ _ _ hXa
      have HXN := Kept.mk (show xb ≠ bs ∧ xb < wa.heap.size from ⟨by have := HW.out.size; have := HW.out.pl.s.2; omega, lt_of_block hXa⟩)
      have HXA := Kept.mk hXa
      have HXO := Kept.mk hXo
      have HP := Kept.mk (pass_any hJa hNR (by omega) ma)
      clear hwa hx hxb hJa hXa hXo e1 e2 e3 e4
      go_wp2_with fail
      refine HP.out.mono ?_
      rintro e w2 ⟨rfl, hw2, hF⟩
      have hX2 : w2.heap[xb]? = some (.cells #[.int .i64 ma, .int .u8 mb, .int .i64 mc, .int .i64 md] 155) := (hF.block xb HXN.out.2 HXN.out.1 HXO.out).trans HXA.out
      have x0 : w2.cell? ⟨xb, 0, none⟩ = some (.int .i64 ma) := cell_of_row _ _ 0 _ _ _ hX2
      have x1 : w2.cell? ⟨xb, 1, none⟩ = some (.int .u8 mb) := cell_of_row _ _ 1 _ _ _ hX2
      have x2 : w2.cell? ⟨xb, 2, none⟩ = some (.int .i64 mc) := cell_of_row _ _ 2 _ _ _ hX2
      have x3 : w2.cell? ⟨xb, 3, none⟩ = some (.int .i64 md) := cell_of_row _ _ 3 _ _ _ hX2
      have it := (HIN.out w2 hw2.bw).t
      have ik2 := (HIN.out w2 hw2.bw).k
      have hl1 : (jpass s ma).l.length ≤ 400 := by rw [jpass_len]; omega
      have ha1 : (jpass s ma).at' ≤ 400 := by show s.at' ≤ 400; omega
      have HMK := Kept.mk (show jrunK P i ms (k + 1) = jmark' P i (jpass s ma) ⟨ma, mb, mc, md⟩ from HNX.out)
      obtain ⟨s1, hs1⟩ : ∃ s1, s1 = jpass s ma := ⟨_, rfl⟩
      rw [← hs1] at hw2 hl1 ha1 HMK
      have HW2 := Kept.mk hw2
      have wr2 := hw2.r
      have fr2 := hw2.f.2.2.2
      clear hw2 hF hX2 hs1 HP xa0 HXN HXA HXO HNX HW hkl
      by_cases h11 : mb = 11
      · have hb : (mb == 11) = true := by simp [h11]
        have HE := Kept.mk (show jmark' P i s1 ⟨ma, mb, mc, md⟩ = { s1 with runs := decide (md = 1) && decide (mc = i) } by unfold jmark'; rw [if_pos h11])
        have HFIN := Kept.mk (fun v (hv : v = (decide (md = 1) && decide (mc = i))) => show JW N R bl ba bs br W (w2.setCell ⟨br, 0, none⟩ (.bool v)) (jrunK P i ms (k + 1)) from by
          rw [HMK.out, HE.out, hv]
          have pl := HW2.out.pl
          exact HW2.out.box (c := br) pl.r (by have := pl.ne; omega) rfl (.inr ⟨by have := pl.ne; omega, rfl⟩) (.inr ⟨by have := pl.ne; omega, rfl⟩) (.inl ⟨rfl, rfl⟩))
        clear h11
        by_cases h1 : md = 1
        · have hd : (md == 1) = true := by simp [h1]
          by_cases h2 : mc = i
          · have he : (mc == i) = true := by simp [h2]
            have HV := Kept.mk (HFIN.out true (by simp [h1, h2]))
            clear h1 h2
            go_wp2
            go_roundw
            case rel => exact ⟨k + 1, by omega, by go_num, HV.out⟩
            case measure => simp [intOf]; omega
          · have he : (mc == i) = false := by simp [h2]
            have HV := Kept.mk (HFIN.out false (by simp [h1, h2]))
            clear h1 h2
            go_wp2
            go_roundw
            case rel => exact ⟨k + 1, by omega, by go_num, HV.out⟩
            case measure => simp [intOf]; omega
        · have hd : (md == 1) = false := by simp [h1]
          have HV := Kept.mk (HFIN.out false (by simp [h1]))
          clear h1
          go_wp2
          go_roundw
          case rel => exact ⟨k + 1, by omega, by go_num, HV.out⟩
          case measure => simp [intOf]; omega
      · have hb : (mb == 11) = false := by simp [h11]
        by_cases hw : mc = i
        · have he : (mc != i) = false := by simp [hw]
          by_cases hm1 : mb = 1
          · have hb1 : (mb == 1) = true := by simp [hm1]
            have HE := Kept.mk (show jmark' P i s1 ⟨ma, mb, mc, md⟩ = { s1 with l := s1.l ++ [⟨P, ma, 0, -1⟩] } by
              unfold jmark'
              rw [if_neg h11, if_neg (fun h => h hw), if_pos hm1])
            obtain ⟨Al, cl, l1, l2⟩ := HW2.out.l
            have fl := HW2.out.f.1
            have hpl := HW2.out.pl
            have hRs := HW2.out.size
            obtain ⟨nl, hnl⟩ : ∃ nl, nl = s1.l.length := ⟨_, rfl⟩
            rw [← hnl] at l1 l2 hl1
            have HNL := Kept.mk hnl
            have HL2 := Kept.mk l2
            have hbl2 : bl < w2.heap.size := by have := hpl.l.2; omega
            have hblo : some bl ≠ (Value.slice Al nl cl).ownBlock := fun h => by have := (l2.lt bl h.symm).1; have := hpl.l.2; omega
            have hRs2 : R ≤ (w2.alloc (.cells #[.int .i64 P, .int .i64 ma, .int .i64 0, .int .i64 (-1)] 171)).heap.size := by simp; omega
            have HN := Kept.mk (show ∀ j u, [Value.int .i64 P, .int .i64 ma, .int .i64 0, .int .i64 (-1)][j]? = some u → (w2.alloc (.cells #[.int .i64 P, .int .i64 ma, .int .i64 0, .int .i64 (-1)] 171)).cell? ((⟨w2.heap.size, 0, none⟩ : Addr).add j) = some u from World.news_of_block (cs := #[.int .i64 P, .int .i64 ma, .int .i64 0, .int .i64 (-1)]) (heap_alloc_new w2 _))
            have FIN := Kept.mk (fun (g cap : Nat) (w4 : World) (ho : w4.ownsRow R 171 4 (.slice (some ⟨g, 0, none⟩) (nl + 1) cap) (nl + 1) (jC s1.l ++ [.int .i64 P, .int .i64 ma, .int .i64 0, .int .i64 (-1)])) (hg : (w2.alloc (.cells #[.int .i64 P, .int .i64 ma, .int .i64 0, .int .i64 (-1)] 171)).grownBy w4 (Value.slice Al nl cl).ownBlock) => show JW N R bl ba bs br W (w4.setCell ⟨bl, 0, none⟩ (.slice (some ⟨g, 0, none⟩) (nl + 1) cap)) (jrunK P i ms (k + 1)) from by
              rw [HMK.out, HE.out]
              exact JW.app HW2.out hNR HNL.out l1 hg ho)
            clear h11 hw hm1 hnl l2 hpl
            go_wp2_with (at_builtin; refine wpList_append_lies _ rfl _ _ 181 rfl R 171 j0 (.agg #[.int .i64 0, .int .i64 0, .int .i64 0, .int .i64 0]) 4 32 Try.underlying181 hj0 hj1 hj2 hj3 rfl (by decide) (.slice Al nl cl) nl (jC s1.l) rfl (HL2.out.alloc _) ⟨w2.heap.size, 0, none⟩ 1 1 [.int .i64 P, .int .i64 ma, .int .i64 0, .int .i64 (-1)] rfl rfl HN.out (by simp [Value.oneCell']) (by decide) (by simp only [maxLen]; omega) (by omega) hRs2 _ rfl ?_; intro g4 cap4 w4 own4 grow4 lies4 hlt4; have q4 : w4.cell? ⟨bl, 0, none⟩ = some (.slice Al nl cl) := (grow4.cell_far ⟨bl, 0, none⟩ (by simp; omega) hblo).trans (((below_box w2 _).cell (p := ⟨bl, 0, none⟩) hbl2).trans l1); have g4' : w4.frozen? ⟨bl, 0, none⟩ = false := (grow4.frozen_far ⟨bl, 0, none⟩ (by simp; omega) hblo).trans (((below_box w2 _).frozen (p := ⟨bl, 0, none⟩) hbl2).trans fl); have HV := Kept.mk (FIN.out _ _ _ own4 grow4); clear own4 grow4 lies4 hlt4)
            go_roundw
            case rel => exact ⟨k + 1, by omega, by go_num, HV.out⟩
            case measure => simp [intOf]; omega
          · have hb1 : (mb == 1) = false := by simp [hm1]
            obtain ⟨Al, cl, l1, l2⟩ := HW2.out.l
            have ac := HW2.out.a
            by_cases hm2 : mb = 2
            · have hb2 : (mb == 2) = true := by simp [hm2]
              obtain ⟨nl, hnl⟩ : ∃ nl, nl = s1.l.length := ⟨_, rfl⟩
              obtain ⟨at1, hat⟩ : ∃ at1, at1 = s1.at' := ⟨_, rfl⟩
              rw [← hnl] at l1 hl1
              rw [← hat] at ac ha1
              by_cases hlt2 : at1 < nl
              · have ik3 : (at1 : Int) < (nl : Int) := by omega
                obtain ⟨x, hx⟩ : ∃ x, s1.l[at1]? = some x := ⟨s1.l[at1], List.getElem?_eq_getElem (by omega)⟩
                obtain ⟨g, cap', e1, hgR, hglt⟩ := l2.form (by omega)
                cases e1
                have hcx : w2.cell? ⟨g, at1 * 4 + 3, none⟩ = some (.int .i64 x.d) := by
                  rw [l2.cellAt _ (by omega), jC_at _ _ _ _ hx (by omega)]; rfl
                have hfx : w2.frozen? ⟨g, at1 * 4 + 3, none⟩ = false := l2.frozenAt _
                have fa := HW2.out.f.2.1
                have hba : ba ≠ g := by have := HW2.out.pl.a.2; omega
                have HV := Kept.mk (show JW N R bl ba bs br W ((w2.setCell ⟨g, at1 * 4 + 3, none⟩ (.int .i64 ma)).setCell ⟨ba, 0, none⟩ (.int .i64 ((at1 + 1 : Nat) : Int))) (jrunK P i ms (k + 1)) by
                  rw [HMK.out]
                  unfold jmark'
                  rw [if_neg h11, if_neg (fun h => h hw), if_neg hm1, if_pos ⟨hm2, by omega⟩]
                  have pl := HW2.out.pl
                  have h1 := HW2.out.job (i := at1) (o := 3) (x := x) (y := { x with d := ma }) (v := .int .i64 ma) hNR l1 hx (by omega) rfl
                  rw [← hat, hx]
                  exact h1.box (c := ba) (s' := { s1 with l := s1.l.set at1 { x with d := ma }, at' := at1 + 1 }) pl.a (by have := pl.ne; omega) rfl (.inl ⟨rfl, rfl⟩) (.inr ⟨by have := pl.ne; omega, rfl⟩) (.inr ⟨by have := pl.ne; omega, rfl⟩))
                have eat : ((at1 + 1 : Nat) : Int) = (at1 : Int) + 1 := by omega
                rw [eat] at HV
                clear h11 hw hm1 hm2 hnl hat hx l2 eat
                go_wp2
                go_roundw
                case rel => exact ⟨k + 1, by omega, by go_num, HV.out⟩
                case measure => simp [intOf]; omega
              · have ik3 : decide ((at1 : Int) < (nl : Int)) = false := decide_eq_false (by omega)
                have HV := Kept.mk (show JW N R bl ba bs br W w2 (jrunK P i ms (k + 1)) by
                  rw [HMK.out]
                  unfold jmark'
                  rw [if_neg h11, if_neg (fun h => h hw), if_neg hm1, if_neg (fun h => hlt2 (by have := h.2; omega))]
                  exact HW2.out)
                clear h11 hw hm1 hm2 hnl hat l2
                go_wp2
                go_roundw
                case rel => exact ⟨k + 1, by omega, by go_num, HV.out⟩
                case measure => simp [intOf]; omega
            · have hb2 : (mb == 2) = false := by simp [hm2]
              have HV := Kept.mk (show JW N R bl ba bs br W w2 (jrunK P i ms (k + 1)) by
                rw [HMK.out]
                unfold jmark'
                rw [if_neg h11, if_neg (fun h => h hw), if_neg hm1, if_neg (fun h => hm2 h.1)]
                exact HW2.out)
              clear h11 hw hm1 hm2 l1 l2 ac
              go_wp2
              go_roundw
              case rel => exact ⟨k + 1, by omega, by go_num, HV.out⟩
              case measure => simp [intOf]; omega
        · have he : (mc != i) = true := by simp [hw]
          have HV := Kept.mk (show JW N R bl ba bs br W w2 (jrunK P i ms (k + 1)) by
            rw [HMK.out]
            unfold jmark'
            rw [if_neg h11, if_pos hw]
            exact HW2.out)
          clear h11 hw
          go_wp2
          go_roundw
          case rel => exact ⟨k + 1, by omega, by go_num, HV.out⟩
          case measure => simp [intOf]; omega
    · have hke : k = ms.length := by omega
      have ik : decide ((k : Int) < (ms.length : Int)) = false := decide_eq_false (by omega)
      have hkl := jrunK_len P i ms k hk
      rw [hke, jrunK_all] at hkl
      rw [hke, jrunK_all] at hw
      have hnw := (HIN.out wr hw.bw).n
      have HP := Kept.mk (pass_any hw hNR (by omega) now)
      have HRES := Kept.mk (show jres P i ms now = (jpass (jrun P i ms) now).l.filter fun x => decide (0 < x.c) from rfl)
      have hl1 : (jpass (jrun P i ms) now).l.length ≤ 400 := by rw [jpass_len]; omega
      clear hke hw hkl
      go_wp2_with fail
      refine HP.out.mono ?_
      rintro e w2 ⟨rfl, hw2, hF⟩
      obtain ⟨s2, hs2⟩ : ∃ s2, s2 = jpass (jrun P i ms) now := ⟨_, rfl⟩
      rw [← hs2] at hw2 hl1 HRES
      obtain ⟨Al, cl, l1, l2⟩ := hw2.l
      obtain ⟨L, hL⟩ : ∃ L, L = s2.l := ⟨_, rfl⟩
      rw [← hL] at l1 l2 hl1 HRES
      have hLJ : LJ c1 c2 w2 Al L := by
        refine ⟨by have := hw2.size; have := hw2.pl.l; omega, by have := hw2.size; have := hw2.pl.l; omega, fun h0 => ?_⟩
        obtain ⟨ho1, ho2⟩ := HOB1.out w2 hw2.bw
        rcases l2.2 with ⟨_, h⟩ | ⟨g, cap', cur, e1, e2, e3, e4, e5, e6, e7⟩
        · omega
        · cases e1
          refine ⟨g, 171, cur, rfl, e3, fun j x o hj ho => ?_, by omega, by omega, fun e => by have := ho1 g e; omega, fun e => by have := ho2 g e; omega⟩
          have hjl : j < L.length := by
            rcases Nat.lt_or_ge j L.length with h | h
            · exact h
            · rw [List.getElem?_eq_none h] at hj; cases hj
          rw [← jC_at L j o x hj ho, ← e7, List.getElem?_take, if_pos (by omega)]
          simp
      have HLJ := Kept.mk hLJ
      have HJ0 := Kept.mk (HJ.out w2 hw2.bw)
      clear hw2 hF hs2 l2 hL hLJ HP
      go_wp2_with fail
      refine (wpIn_wide (n := n)).1 ?_
      gi_loopw [81] (fun t wr => ∃ (k : Nat), k ≤ L.length ∧ t = .int .i64 k ∧ J ((L.take k).filter fun x => decide (0 < x.c)) wr ∧ LJ c1 c2 wr Al L) (fun t _ => L.length - (intOf t).toNat)
      case atStart => exact ⟨0, by omega, rfl, HJ0.out, HLJ.out⟩
      case round =>
        clear HJ0 HLJ
        obtain ⟨k, hk, rfl, hj, hlj⟩ := hrel
        by_cases hlt : k < L.length
        · have ik : (k : Int) < (L.length : Int) := by omega
          obtain ⟨x, hx⟩ : ∃ x, L[k]? = some x := ⟨L[k], List.getElem?_eq_getElem hlt⟩
          obtain ⟨g, rfl, e0, e1, e2, e3⟩ := hlj.cells hx
          have hpl : ((L.take k).filter fun x => decide (0 < x.c)).length < 4096 := by
            have h1 := List.length_filter_le (fun x : J4 => decide (0 < x.c)) (L.take k)
            have h2 : (L.take k).length ≤ 400 := by rw [List.length_take]; omega
            omega
          have hst : (L.take (k + 1)).filter (fun x => decide (0 < x.c)) = ((L.take k).filter fun x => decide (0 < x.c)) ++ (if 0 < x.c then [x] else []) := by
            rw [List.take_add_one, hx, List.filter_append]
            congr 1
            by_cases h : 0 < x.c <;> simp [h]
          have HST := Kept.mk hst
          obtain ⟨xa, xb, xc, xd⟩ := x
          simp only at e0 e1 e2 e3
          have hj1 := HJ2.out _ wr (wr.alloc (.cells #[.int .i64 xa, .int .i64 xb, .int .i64 xc, .int .i64 xd] 171)) none hj (World.grownBy_alloc wr _ none) (fun r e => by cases e)
          have hlj1 := hlj.alloc (.cells #[.int .i64 xa, .int .i64 xb, .int .i64 xc, .int .i64 xd] 171)
          by_cases hpos : 0 < xc
          · rw [if_pos hpos] at HST
            obtain ⟨fn, tmps, assign, body, hy, hRd⟩ := HY.out _ ⟨xa, xb, xc, xd⟩ _ hj1 hpl
            dsimp only [encJ] at hy
            have HLJ1 := Kept.mk hlj1
            clear hx hst hj hlj hj1 hlj1
            gi_wp2
            refine hRd.mono ?_
            rintro e W4 (⟨rfl, hJ4, hk4⟩ | ⟨rfl, hJx4⟩)
            · have HN := Kept.mk (HLJ1.out.kp hk4)
              rw [← HST.out] at hJ4
              clear hk4 hy hRd
              gi_wp2
              go_roundw
              case rel => exact ⟨k + 1, by omega, by go_num, hJ4, HN.out⟩
              case measure => simp [intOf]; omega
            · gi_wp2
              refine bodyPost_ret (results_none rfl _ _ _) rfl ?_
              exact ⟨⟨_, rfl⟩, .inr ⟨_, trivial, hJx4⟩⟩
          · rw [if_neg hpos, List.append_nil] at HST
            have hg : decide ((0 : Int) < xc) = false := decide_eq_false hpos
            rw [← HST.out] at hj1
            clear hx hst hj hlj
            gi_wp2
            refine ⟨fun f h => (by cases h), ?_⟩
            gi_wp2
            go_roundw
            case rel => exact ⟨k + 1, by omega, by go_num, hj1, hlj1⟩
            case measure => simp [intOf]; omega
        · have hke : k = L.length := by omega
          have ik : decide ((k : Int) < (L.length : Int)) = false := decide_eq_false (by omega)
          rw [hke, List.take_length, ← HRES.out] at hj
          have HJF := Kept.mk hj
          clear hke hj
          gi_wp2
          go_end0
          exact ⟨⟨_, rfl⟩, .inl ⟨_, rfl, HJF.out⟩⟩
end Go.Proofs.Ytcchmkpodfjhcaa
