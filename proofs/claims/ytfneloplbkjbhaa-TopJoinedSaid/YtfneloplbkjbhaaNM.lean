/-
  A map that tells which numbers were seen; the walks of vet.found, vet.prios; the iterator over priorities.
-/
import Derived.Test.YtfneloplbkjbhaaN1
import Derived.Test.YtfneloplbkjbhaaGA
import Derived.Maps.OwnSet
import Derived.Deep.AppendLies
namespace Go.Proofs.Ytfneloplbkjbhaa
open Go.RowKit Go.Maps Go.ChangeMaps Go.WideShapes Go.WideElems Go.Shelf
set_option maxRecDepth 4000
set_option linter.unusedVariables false
attribute [local go_sem] Oper.semAt_some
theorem keyInt : Keyed Try.prog 3 := int_keyed Try.underlying3
theorem zeroBool (w : World) : (zeroValue 4).run Try.prog w = .ok (.bool false) w := by kernel_rfl
/-- The block M is a map that tells which numbers f has. -/
def SetIs (w : World) (M N : Nat) (f : Int → Bool) : Prop :=
  ∃ D : DataW Unit, w.ownsMap Try.prog 3 (plainElem Try.prog 4) M N D ∧ ∀ id : Int, (Lit.int .i64 id).wf = true → D.atKey (.int .i64 id) (.lit (.bool false)) = .lit (.bool (f id))
theorem SetIs.kept {w w' : World} {M N : Nat} {f : Int → Bool} (h : SetIs w M N f) (hb : w'.heap[M]? = w.heap[M]?) : SetIs w' M N f := by
  obtain ⟨D, ⟨es, clock, h1, h2⟩, h3⟩ := h
  exact ⟨D, ⟨es, clock, hb.trans h1, h2⟩, h3⟩
theorem SetIs.walk {w : World} {M N : Nat} {f : Int → Bool} (h : SetIs w M N f) : ∃ o : Obj, w.heap[M]? = some o ∧ o.isWalk = true := by
  obtain ⟨D, ⟨es, clock, h1, h2⟩, h3⟩ := h
  exact ⟨_, h1, rfl⟩
theorem SetIs.new (w : World) : SetIs (w.alloc (.map #[] 0)) w.heap.size 0 (fun _ => false) :=
  ⟨.map [], World.ownsMap_made w Try.prog 3 _, fun id _ => rfl⟩
theorem set_look {w : World} {M N : Nat} {f : Int → Bool} (h : SetIs w M N f) {id : Int} (hid : (Lit.int .i64 id).wf = true) :
    (Instr.lookup 102 (.map (some M)) (.int .i64 id) false).run Try.prog w = .ok (.bool (f id)) w := by
  obtain ⟨D, h1, h3⟩ := h
  obtain ⟨v, ps, hrun, hv⟩ := h1.lookup keyInt Try.underlying102 (zeroBool w) (plainElem_bool Try.underlying4 false) (keyOf_int_mk Try.underlying3 hid)
  rw [h3 id hid] at hv
  have : v = .bool (f id) := by
    unfold plainElem at hv
    rw [Try.underlying4] at hv
    revert hv
    cases v <;> simp
    intro h _
    exact h
  rw [hrun, this]
theorem set_put {w : World} {M N : Nat} {f : Int → Bool} (h : SetIs w M N f) {id : Int} (hid : (Lit.int .i64 id).wf = true) (hN : N < maxLen) :
    ∃ w', (Instr.mapUpdate 102 (.map (some M)) (.int .i64 id) (.bool true)).run Try.prog w = .ok () w' ∧ SetIs w' M (N + 1) (fun a => decide (a = id) || f a) ∧ w.mapTurned w' M := by
  obtain ⟨D, h1, h3⟩ := h
  obtain ⟨w', hrun, hown, ht⟩ := h1.store keyInt Try.underlying102 hN (keyOf_int_mk Try.underlying3 hid) (plainElem_bool (H := Unit) Try.underlying4 true)
  have hk : WideAt.IsKeyLit (.int .i64 id) := by trivial
  refine ⟨w', hrun, ⟨_, hown, fun a ha => ?_⟩, ht⟩
  by_cases e : a = id
  · subst e
    rw [atKey_put_same h1.isMap hk]
    simp
  · have hne : (Lit.int .i64 a) ≠ .int .i64 id := fun h => e (by cases h; rfl)
    rw [atKey_put_other hne, h3 a ha]
    simp [e]
structure Ft where
  p : Int
  a : Int
  y : Int
abbrev encF (x : Ft) : Array Value := #[.agg #[.int .u8 x.p, .int .i64 x.a, .int .i64 x.y]]
theorem results_cell1 {fn : Func} {p : Tmp} {ty : TypeId} (h : fn.results = #[.cell p ty]) (tmps : Array Value) (P : Program) (w : World) :
    (results fn tmps).run P w = ((asAddr (tmps.getD p undef)).run P w).andThen fun a w₁ => (loadVar ty a).run P w₁ := by
  simp only [results, h]
  simp [Sem.run_bind, Result.andThen]
theorem results_ft {fn : Func} {p : Tmp} (h : fn.results = #[.cell p 54]) (tmps : Array Value) (w : World) (g : Nat) (v0 v1 v2 : Value)
    (hp : tmps.getD p undef = .pointer (some ⟨g, 0, none⟩)) (c0 : w.cell? ⟨g, 0, none⟩ = some v0) (c1 : w.cell? ⟨g, 1, none⟩ = some v1) (c2 : w.cell? ⟨g, 2, none⟩ = some v2) :
    (results fn tmps).run Try.prog w = .ok (.agg #[v0, v1, v2]) w := by
  rw [results_cell1 h, hp]
  go_simp
theorem found_any (x : Ft) (w : World) : Calls Try.prog 28 #[.int .u8 x.p, .int .i64 x.a, .int .i64 x.y] w fun e w' => e = .returned (.agg #[.int .u8 x.p, .int .i64 x.a, .int .i64 x.y]) ∧ Below w.heap.size w w' := by
  obtain ⟨p, a, y⟩ := x
  go_enter Try.func28, Try.ntmps28
  go_wp2
  refine bodyPost_ret (results_ft (p := 6) rfl _ _ w.heap.size (.int .u8 p) (.int .i64 a) (.int .i64 y) rfl (by go_simp) (by go_simp) (by go_simp)) rfl ?_
  refine ⟨rfl, ?_⟩
  exact below_box w _
/-- A round's body keeps all cells and all maps. -/
structure KpV (W W' : World) : Prop where
  size : W.heap.size ≤ W'.heap.size
  same : ∀ (i : Nat) (o : Obj), W.heap[i]? = some o → (o.isCells = true ∨ o.isWalk = true) → W'.heap[i]? = some o
theorem KpV.trans {A B C : World} (h : KpV A B) (k : KpV B C) : KpV A C := ⟨Nat.le_trans h.size k.size, fun i o hi hc => k.same i o (h.same i o hi hc) hc⟩
theorem KpV.below {W W' : World} (h : Below W.heap.size W W') : KpV W W' := ⟨h.size, fun i o hi _ => (h.block i (lt_of_block hi)).trans hi⟩
theorem KpV.book (W : World) (l : Nat) (o o' : Obj) (h : W.heap[l]? = some o) (hc : o.isCells = false) (hw : o.isWalk = false) : KpV W (W.putObj l o') := by
  have hg := grownBy_putObj' W l o'
  refine ⟨hg.size, fun i p hi hp => ?_⟩
  rw [hg.block i (lt_of_block hi) (fun e => by simp at e; subst e; rw [h] at hi; cases hi; rcases hp with hp | hp <;> simp_all)]
  exact hi
theorem KpV.row {W W' : World} (h : KpV W W') {base : Nat} {e : TypeId} {sz n : Nat} {v : Value} {xs : List Value} (ho : W.ownsRow base e sz v n xs) : W'.ownsRow base e sz v n xs := by
  refine ⟨ho.1, ?_⟩
  rcases ho.2 with e | ⟨g, cap', cur, e1, e2, e3, e4⟩
  · exact .inl e
  · exact .inr ⟨g, cap', cur, e1, e2, h.same g _ e3 (.inl rfl), e4⟩
theorem KpV.set {W W' : World} (h : KpV W W') {M N : Nat} {f : Int → Bool} (hs : SetIs W M N f) : SetIs W' M N f := by
  obtain ⟨o, ho, hw⟩ := hs.walk
  exact hs.kept ((h.same M o ho (.inr hw)).trans ho.symm)
/-- The priorities that are looked at. -/
def psC (c : Cf) : List Int := c.ts.map (·.p) ++ c.hs.map (·.a)
def prF (ps : List Int) (k : Nat) : List Ft := (List.range k).map fun (i : Nat) => ⟨7, (i : Int), if (ps.take i).contains (ps[i]?.getD 0) then 12 else 0⟩
theorem prF_succ {ps : List Int} {k : Nat} {x : Int} (h : ps[k]? = some x) : prF ps (k + 1) = prF ps k ++ [⟨7, k, if (ps.take k).contains x then 12 else 0⟩] := by
  unfold prF
  rw [List.range_succ, List.map_append, List.map_singleton, h]; rfl
theorem prF_len (ps : List Int) (k : Nat) : (prF ps k).length = k := by simp [prF]
theorem seen_succ {ps : List Int} {k : Nat} {x : Int} (h : ps[k]? = some x) : (fun a => decide (a = x) || (ps.take k).contains a) = fun a => (ps.take (k + 1)).contains a := by
  funext a
  rw [List.take_add_one, h]
  simp only [Option.toList_some, List.contains_append, List.contains_cons, List.contains_nil, Bool.or_false]
  rw [Bool.or_comm, Bool.beq_eq_decide_eq]
theorem CV.psw {w : World} {B : Nat} {c : Cf} {cs : Array Value} (h : CV w B c cs) : ∀ p ∈ psC c, (Lit.int .i64 p).wf = true := by
  intro p hp
  unfold psC at hp
  rcases List.mem_append.1 hp with hp | hp
  · obtain ⟨t, ht, rfl⟩ := List.mem_map.1 hp; exact h.pw t ht
  · obtain ⟨t, ht, rfl⟩ := List.mem_map.1 hp; exact h.hw t ht
theorem info_intM : (Try.prog.info? 3).map (fun i => (i.zero, i.size, i.bytes)) = some (some (.int .i64 0), 1, 8) := by kernel_rfl
set_option maxRecDepth 100000 in
set_option maxHeartbeats 8000000 in
theorem prios_in (n : Nat) (hn : 1 ≤ n) (l bc : Nat) (c : Cf) (cs : Array Value) (J Jx : List Ft → World → Prop) (W : World)
    (hJ : AbidesFrom W.heap.size J) (hbx : W.heap[bc]? = some (.cells cs 28)) (hcv : CV W W.heap.size c cs)
    (hY : ∀ pre x W1, J pre W1 → pre.length < 1125899906842624 → YieldAt Fence.wide (n - 1) Try.prog l (encF x) W1 fun e W' =>
      (e = .returned (.bool true) ∧ J (pre ++ [x]) W' ∧ KpV W1 W') ∨ (e = .returned (.bool false) ∧ Jx (pre ++ [x]) W'))
    (pre0 : List Ft) (hp0 : pre0.length ≤ 70368744177664) (h0 : J pre0 W) :
    CallsIn Fence.wide n Try.prog 44 #[.func (.yield l) #[] #[], .pointer (some ⟨bc, 0, none⟩)] W fun e W' => (∃ v, e = .returned v) ∧
      (J (pre0 ++ prF (psC c) (psC c).length) W' ∨ (∃ k, k ≤ (psC c).length ∧ Jx (pre0 ++ prF (psC c) k) W')) := by
  obtain ⟨j0, hj0, hj1, hj2, hj3⟩ := info_parts info_intM
  obtain ⟨At, ct, Al, cl, Ah, ch, rfl, hts, _, hhs⟩ := hcv.x
  have HPW := Kept.mk hcv.psw
  have htl := hcv.tl
  have hhl := hcv.hl
  have HC3 := Kept.mk (show W.cell? ⟨bc, 3, none⟩ = some (.slice At c.ts.length ct) from cell_of_row _ _ 3 _ _ _ hbx)
  have HC5 := Kept.mk (show W.cell? ⟨bc, 5, none⟩ = some (.slice Ah c.hs.length ch) from cell_of_row _ _ 5 _ _ _ hbx)
  have hbcl : bc < W.heap.size := lt_of_block hbx
  have HTS := Kept.mk hts
  have HHS := Kept.mk hhs
  have HJ := Kept.mk hJ
  have HY := Kept.mk hY
  have HJ0 := Kept.mk h0
  clear hJ hY h0 hcv hts hhs hbx
  refine callsIn_of_wp Try.func44 rfl trivial ?_ rfl
  simp only [Try.ntmps44, List.size_toArray, List.length_cons, List.length_nil, Nat.reduceAdd, Nat.reduceSub, Array.replicate_succ, Array.replicate_zero, List.push_toArray, List.append_toArray, List.nil_append, List.cons_append]
  refine wpIn_wide.2 ?_
  have hmm := @run_makeMap Try.prog
  go_upto_region 2 with fail
  clear hmm
  obtain ⟨M, hM⟩ : ∃ M, M = W.heap.size := ⟨_, rfl⟩
  obtain ⟨W1, hW1⟩ : ∃ W1, W1 = W.alloc (.map #[] 0) := ⟨_, rfl⟩
  have hb1 := below_box W (.map #[] 0)
  have hset : SetIs W1 M 0 (fun _ => false) := by rw [hW1, hM]; exact SetIs.new W
  have hz1 : W1.heap.size = M + 1 := by rw [hW1, hM]; simp
  rw [← hW1] at hb1
  rw [← hM] at hbcl
  have c3 := (hb1.cell (p := ⟨bc, 3, none⟩) (by show bc < _; omega)).trans HC3.out
  have HC5' := Kept.mk ((hb1.cell (p := ⟨bc, 5, none⟩) (by show bc < _; omega)).trans HC5.out)
  have HB1 := Kept.mk (show Below M W W1 by rw [hM]; exact hb1)
  have HTS1 := Kept.mk (show RT W1 M At c.ts by rw [hM]; exact HTS.out.below hb1)
  have HHS1 := Kept.mk (show R4 W1 M Ah c.hs by rw [hM]; exact HHS.out.below hb1)
  have HSET := Kept.mk hset
  have HMW := Kept.mk hM
  have HZ1 := Kept.mk hz1
  obtain ⟨nt, hnt⟩ : ∃ nt, nt = c.ts.length := ⟨_, rfl⟩
  obtain ⟨nh, hnh⟩ : ∃ nh, nh = c.hs.length := ⟨_, rfl⟩
  have HNT := Kept.mk hnt
  have HNH := Kept.mk hnh
  rw [← hnt] at c3 htl
  rw [← hnh] at HC5' hhl
  rw [← hW1, ← hM]
  clear hW1 hb1 hset hz1 hnt hnh hM HC3 HC5
  go_wp2_with fail
  go_loopw [4, 16] (fun u t wr => ∃ (k : Nat) (A4 : Option Addr) (c4 : Nat), k ≤ nt ∧ t = .int .i64 k ∧ u = .slice A4 k c4 ∧ Kept (wr.ownsRow (M + 1) 3 1 (.slice A4 k c4) k (((psC c).take k).map (Value.int .i64))) ∧ Below (M + 1) W1 wr) (fun _ t _ => nt - (intOf t).toNat)
  case atStart => exact ⟨0, none, 0, by omega, rfl, rfl, ⟨⟨rfl, .inl ⟨rfl, rfl⟩⟩⟩, Below.refl _ _⟩
  case round =>
    obtain ⟨k, A4, c4, hk, rfl, rfl, hO, hb⟩ := hrel
    by_cases hlt : k < nt
    · have ik : (k : Int) < (nt : Int) := by omega
      obtain ⟨b, off, rfl, hbB, hc⟩ := HTS1.out (by have := HNT.out; omega)
      obtain ⟨x, hx⟩ : ∃ x, c.ts[k]? = some x := ⟨c.ts[k]'(by have := HNT.out; omega), List.getElem?_eq_getElem _⟩
      have HST := Kept.mk (show (psC c).take (k + 1) = (psC c).take k ++ [x.p] by
        rw [List.take_add_one]
        have : (psC c)[k]? = some x.p := by
          unfold psC
          rw [List.getElem?_append_left (by rw [List.length_map]; have := HNT.out; omega), List.getElem?_map, hx]; rfl
        rw [this]; rfl)
      have g : ∀ o u, x.arr[o]? = some u → wr.cell? ⟨b, off + k * 10 + o, none⟩ = some u := fun o u hu => (hb.cell (p := ⟨b, off + k * 10 + o, none⟩) (by show b < M + 1; omega)).trans (hc k x o u hx hu)
      obtain ⟨tk, tp, t2, t3, t4, t5, t6, t7, t8, t9⟩ := x
      have e0 := g 0 _ rfl
      have e1 := g 1 _ rfl
      have e2 := g 2 _ rfl
      have e3 := g 3 _ rfl
      have e4 := g 4 _ rfl
      have e5 := g 5 _ rfl
      have e6 := g 6 _ rfl
      have e7 := g 7 _ rfl
      have e8 := g 8 _ rfl
      have e9 := g 9 _ rfl
      rw [Nat.add_zero] at e0
      have HB := Kept.mk hb
      have hws : M + 1 ≤ wr.heap.size := by have := hb.size; have := HZ1.out; omega
      clear hc hx g hb
      go_upto_region 5 with fail
      obtain ⟨Wa, hWa⟩ : ∃ Wa, Wa = wr.alloc (.cells #[.int .u8 tk, .int .i64 tp, .int .i64 t2, .int .i64 t3, .int .i64 t4, .int .i64 t5, .int .i64 t6, .int .i64 t7, .int .i64 t8, .int .i64 t9] 31) := ⟨_, rfl⟩
      obtain ⟨xb, hxb⟩ : ∃ xb, xb = wr.heap.size := ⟨_, rfl⟩
      have x1 : Wa.cell? ⟨xb, 1, none⟩ = some (.int .i64 tp) := by rw [hWa, hxb]; exact cell_of_row _ _ 1 _ _ _ (heap_alloc_new _ _)
      have HBa := Kept.mk (show Below (M + 1) W1 Wa by rw [hWa]; exact HB.out.trans ((below_box wr _).mono hws))
      have HOa := Kept.mk (show Wa.ownsRow (M + 1) 3 1 (.slice A4 k c4) k (((psC c).take k).map (Value.int .i64)) by rw [hWa]; exact hO.out.alloc _)
      have hwa : M + 1 ≤ Wa.heap.size := by rw [hWa]; simp; omega
      rw [← hWa, ← hxb]
      clear hWa hxb e0 e1 e2 e3 e4 e5 e6 e7 e8 e9 HB hO hws
      have HN5 := Kept.mk (show ∀ j u, [Value.int .i64 tp][j]? = some u → (Wa.alloc (.cells #[.int .i64 tp] 3)).cell? ((⟨Wa.heap.size, 0, none⟩ : Addr).add j) = some u from World.news_of_block (cs := #[.int .i64 tp]) (heap_alloc_new Wa _))
      have HO5 := Kept.mk (show (Wa.alloc (.cells #[.int .i64 tp] 3)).ownsRow (M + 1) 3 1 (.slice A4 k c4) k (((psC c).take k).map (Value.int .i64)) from HOa.out.alloc _)
      have HS5 := Kept.mk (show M + 1 ≤ (Wa.alloc (.cells #[.int .i64 tp] 3)).heap.size by simp; omega)
      have HF := Kept.mk (fun (w5 : World) (hg : (Wa.alloc (.cells #[.int .i64 tp] 3)).grownBy w5 (Value.slice A4 k c4).ownBlock) => show Below (M + 1) W1 w5 from
        HBa.out.trans (((below_box Wa _).mono hwa).grown hg HS5.out fun j hj => (HO5.out.lt j hj).1))
      go_wp2_with (at_builtin; refine wpList_append_lies _ rfl _ _ 103 rfl (M + 1) 3 j0 (.int .i64 0) 1 8 Try.underlying103 hj0 hj1 hj2 hj3 rfl (by decide) (.slice A4 k c4) k (((psC c).take k).map (Value.int .i64)) rfl HO5.out ⟨Wa.heap.size, 0, none⟩ 1 1 [.int .i64 tp] rfl rfl HN5.out (by simp [Value.oneCell']) (by decide) (by simp only [maxLen]; omega) (by omega) HS5.out _ rfl ?_; intro g5 cap5 w5 own5 grow5 lies5 hlt5; have HR := Kept.mk (HF.out w5 grow5); have HO := Kept.mk own5; clear own5 grow5 lies5 hlt5)
      go_roundw
      case rel => exact ⟨k + 1, _, _, by omega, by go_num, rfl, ⟨by rw [HST.out, List.map_append]; exact HO.out⟩, HR.out⟩
      case measure => simp [intOf]; omega
    · have hke : k = nt := by omega
      subst hke
      have HO := hO
      have HB := Kept.mk hb
      have c5 := (hb.cell (p := ⟨bc, 5, none⟩) (by show bc < _; omega)).trans HC5'.out
      obtain ⟨wq, hwq⟩ : ∃ wq, wq = wr := ⟨_, rfl⟩
      rw [← hwq] at HO HB c5 ⊢
      clear hO hb hwq wr c3
      go_wp2_with fail
      go_loopw [4, 29] (fun u t wr => ∃ (k' : Nat) (A5 : Option Addr) (c5 : Nat), k' ≤ nh ∧ t = .int .i64 k' ∧ u = .slice A5 (k + k') c5 ∧ Kept (wr.ownsRow (M + 1) 3 1 (.slice A5 (k + k') c5) (k + k') (((psC c).take (k + k')).map (Value.int .i64))) ∧ Below (M + 1) W1 wr) (fun _ t _ => nh - (intOf t).toNat)
      case atStart => exact ⟨0, A4, c4, by omega, rfl, rfl, HO, HB.out⟩
      case round =>
        clear HO HB c5
        obtain ⟨k', A5, c5, hk', rfl, rfl, hO, hb⟩ := hrel
        by_cases hlt' : k' < nh
        · have ik : (k' : Int) < (nh : Int) := by omega
          obtain ⟨b, off, rfl, hbB, hc⟩ := HHS1.out (by have := HNH.out; omega)
          obtain ⟨x, hx⟩ : ∃ x, c.hs[k']? = some x := ⟨c.hs[k']'(by have := HNH.out; omega), List.getElem?_eq_getElem _⟩
          have HST := Kept.mk (show (psC c).take (k + k' + 1) = (psC c).take (k + k') ++ [x.a] by
            rw [List.take_add_one]
            have : (psC c)[k + k']? = some x.a := by
              unfold psC
              rw [List.getElem?_append_right (by rw [List.length_map]; have := HNT.out; omega), List.length_map, ← HNT.out, Nat.add_sub_cancel_left, List.getElem?_map, hx]; rfl
            rw [this]; rfl)
          obtain ⟨c1, c2, c3, c4'⟩ := hc k' x hx
          replace c1 := (hb.cell (p := ⟨b, off + k' * 4, none⟩) (by show b < M + 1; omega)).trans c1
          replace c2 := (hb.cell (p := ⟨b, off + k' * 4 + 1, none⟩) (by show b < M + 1; omega)).trans c2
          replace c3 := (hb.cell (p := ⟨b, off + k' * 4 + 2, none⟩) (by show b < M + 1; omega)).trans c3
          replace c4' := (hb.cell (p := ⟨b, off + k' * 4 + 3, none⟩) (by show b < M + 1; omega)).trans c4'
          obtain ⟨xa, xb', xc, xd⟩ := x
          simp only at c1 c2 c3 c4' HST
          have HB := Kept.mk hb
          have hws : M + 1 ≤ wr.heap.size := by have := hb.size; have := HZ1.out; omega
          clear hc hx hb
          go_upto_region 10 with fail
          obtain ⟨Wa, hWa⟩ : ∃ Wa, Wa = wr.alloc (.cells #[.int .i64 xa, .int .i64 xb', .int .i64 xc, .int .i64 xd] 75) := ⟨_, rfl⟩
          obtain ⟨xb, hxb⟩ : ∃ xb, xb = wr.heap.size := ⟨_, rfl⟩
          have x0 : Wa.cell? ⟨xb, 0, none⟩ = some (.int .i64 xa) := by rw [hWa, hxb]; exact cell_of_row _ _ 0 _ _ _ (heap_alloc_new _ _)
          have HBa := Kept.mk (show Below (M + 1) W1 Wa by rw [hWa]; exact HB.out.trans ((below_box wr _).mono hws))
          obtain ⟨m, hm⟩ : ∃ m, m = k + k' := ⟨_, rfl⟩
          rw [← hm] at hO HST
          have HOa := Kept.mk (show Wa.ownsRow (M + 1) 3 1 (.slice A5 m c5) m (((psC c).take m).map (Value.int .i64)) by rw [hWa]; exact hO.out.alloc _)
          have hwa : M + 1 ≤ Wa.heap.size := by rw [hWa]; simp; omega
          have hmb : m ≤ 10995116277760 := by omega
          rw [← hWa, ← hxb, ← hm]
          have HMM := Kept.mk hm
          clear hWa hxb c1 c2 c3 c4' HB hO hws hm
          have HN5 := Kept.mk (show ∀ j u, [Value.int .i64 xa][j]? = some u → (Wa.alloc (.cells #[.int .i64 xa] 3)).cell? ((⟨Wa.heap.size, 0, none⟩ : Addr).add j) = some u from World.news_of_block (cs := #[.int .i64 xa]) (heap_alloc_new Wa _))
          have HO5 := Kept.mk (show (Wa.alloc (.cells #[.int .i64 xa] 3)).ownsRow (M + 1) 3 1 (.slice A5 m c5) m (((psC c).take m).map (Value.int .i64)) from HOa.out.alloc _)
          have HS5 := Kept.mk (show M + 1 ≤ (Wa.alloc (.cells #[.int .i64 xa] 3)).heap.size by simp; omega)
          have HF := Kept.mk (fun (w5 : World) (hg : (Wa.alloc (.cells #[.int .i64 xa] 3)).grownBy w5 (Value.slice A5 m c5).ownBlock) => show Below (M + 1) W1 w5 from
            HBa.out.trans (((below_box Wa _).mono hwa).grown hg HS5.out fun j hj => (HO5.out.lt j hj).1))
          go_wp2_with (at_builtin; refine wpList_append_lies _ rfl _ _ 103 rfl (M + 1) 3 j0 (.int .i64 0) 1 8 Try.underlying103 hj0 hj1 hj2 hj3 rfl (by decide) (.slice A5 m c5) m (((psC c).take m).map (Value.int .i64)) rfl HO5.out ⟨Wa.heap.size, 0, none⟩ 1 1 [.int .i64 xa] rfl rfl HN5.out (by simp [Value.oneCell']) (by decide) (by simp only [maxLen]; omega) (by omega) HS5.out _ rfl ?_; intro g5 cap5 w5 own5 grow5 lies5 hlt5; have HR := Kept.mk (HF.out w5 grow5); have HO := Kept.mk own5; clear own5 grow5 lies5 hlt5)
          go_roundw
          case rel => exact ⟨k' + 1, some ⟨g5, 0, none⟩, cap5, by omega, by go_num, by rw [HMM.out, Nat.add_assoc], ⟨by rw [← Nat.add_assoc, ← HMM.out, HST.out, List.map_append]; exact HO.out⟩, HR.out⟩
          case measure => simp [intOf]; omega
        · have hke' : k' = nh := by omega
          subst hke'
          obtain ⟨N, hN⟩ : ∃ N, N = k + k' := ⟨_, rfl⟩
          have hNl : (psC c).length = N := by unfold psC; rw [List.length_append, List.length_map, List.length_map, ← HNT.out, ← HNH.out, hN]
          rw [← hN] at hO
          rw [← hN]
          rw [← hNl, List.take_length, hNl] at hO
          have HO := Kept.mk (show wr.ownsRow (M + 1) 3 1 (.slice A5 N c5) N ((psC c).map (Value.int .i64)) from hO.out)
          have HJ1 := Kept.mk (show J pre0 wr by
            have hb2 : Below W.heap.size W wr := by rw [← HMW.out]; exact HB1.out.trans (hb.mono (Nat.le_succ M))
            exact HJ.out pre0 W wr none HJ0.out ⟨hb2.os, hb2.tape, hb2.output, hb2.size, fun i hi _ => hb2.block i hi⟩ (fun r e => by cases e))
          have HST1 := Kept.mk (show SetIs wr M 0 (fun a => ((psC c).take 0).contains a) from by
            have h2 : wr.heap[M]? = W1.heap[M]? := hb.block M (Nat.lt_succ_self M)
            exact (HSET.out.kept h2))
          have HSZ := Kept.mk (show M + 1 ≤ wr.heap.size by have := hb.size; have := HZ1.out; omega)
          have hNb : N ≤ 10995116277760 := by omega
          have HNL := Kept.mk hNl
          obtain ⟨wq', hwq'⟩ : ∃ wq', wq' = wr := ⟨_, rfl⟩
          rw [← hwq'] at HO HJ1 HST1 HSZ ⊢
          clear hO hN hNl hb HB1 HTS1 HHS1 HSET HC5' HZ1 hwq' wr
          go_wp2_with fail
          refine (wpIn_wide (n := n)).1 ?_
          gi_loopw [41] (fun t wr => ∃ (i : Nat), i ≤ N ∧ t = .int .i64 i ∧ J (pre0 ++ prF (psC c) i) wr ∧ SetIs wr M i (fun a => ((psC c).take i).contains a) ∧ Kept (wr.ownsRow (M + 1) 3 1 (.slice A5 N c5) N ((psC c).map (Value.int .i64))) ∧ M + 1 ≤ wr.heap.size) (fun t _ => N - (intOf t).toNat)
          case atStart => exact ⟨0, by omega, rfl, by simpa [prF] using HJ1.out, HST1.out, ⟨HO.out⟩, HSZ.out⟩
          case round =>
            clear HJ1 HST1 HO HSZ
            obtain ⟨i, hi, rfl, hj, hset, hO, hsz⟩ := hrel
            by_cases hil : i < N
            · have ii : (i : Int) < (N : Int) := by omega
              obtain ⟨x, hx⟩ : ∃ x, (psC c)[i]? = some x := ⟨(psC c)[i]'(by have := HNL.out; omega), List.getElem?_eq_getElem _⟩
              have hxw := HPW.out x (List.mem_of_getElem? hx)
              obtain ⟨g, cap', f1, f2, f3⟩ := hO.out.form (by omega)
              obtain rfl : A5 = some ⟨g, 0, none⟩ := by injection f1
              have gc : wr.cell? ⟨g, i, none⟩ = some (.int .i64 x) := by
                rw [hO.out.cellAt i (by omega), List.getElem?_map, hx]; rfl
              have hlook := set_look hset hxw
              obtain ⟨w5, hput, hset5, hturn⟩ := set_put hset hxw (by simp only [maxLen]; omega)
              rw [seen_succ hx] at hset5
              have hg5 := hturn.grown
              have hj5 : J (pre0 ++ prF (psC c) i) w5 := HJ.out _ wr w5 (some M) hj hg5 (fun r e => by cases e; exact ⟨by rw [← HMW.out]; exact Nat.le_refl _, hset.walk⟩)
              have hO5 : w5.ownsRow (M + 1) 3 1 (.slice (some ⟨g, 0, none⟩) N c5) N ((psC c).map (Value.int .i64)) := hO.out.kept hg5 (by right; intro e; simp [Value.ownBlock] at e; omega)
              have hsz5 : M + 1 ≤ w5.heap.size := by have := hg5.size; omega
              have HPF := Kept.mk (prF_succ hx)
              have HPL := Kept.mk (prF_len (psC c) i)
              obtain ⟨s, hs⟩ : ∃ s, s = ((psC c).take i).contains x := ⟨_, rfl⟩
              rw [← hs] at hlook HPF
              have HJ5 := Kept.mk hj5
              have HS5 := Kept.mk hset5
              have HO5 := Kept.mk hO5
              clear hx hxw f1 f2 f3 hset hj hO hset5 hturn hg5 hj5 hO5 hs
              cases s with
              | true =>
                have HFX := Kept.mk (show prF (psC c) (i + 1) = prF (psC c) i ++ [⟨7, (i : Int), 12⟩] from HPF.out)
                gi_wp2_with fail
                refine ⟨trivial, ?_⟩
                refine (callsIn_wide.2 (found_any ⟨7, (i : Int), 12⟩ w5)).mono ?_
                rintro e w6 ⟨rfl, hb6⟩
                have hj6 : J (pre0 ++ prF (psC c) i) w6 := HJ.out _ w5 w6 none HJ5.out ⟨hb6.os, hb6.tape, hb6.output, hb6.size, fun i hi _ => hb6.block i hi⟩ (fun r e => by cases e)
                have hk6 := KpV.below hb6
                have HS6 := Kept.mk (hk6.set HS5.out)
                have HO6 := Kept.mk (hk6.row HO5.out)
                have hsz6 : M + 1 ≤ w6.heap.size := by have := hb6.size; omega
                obtain ⟨fn, tmps, assign, body, hy, hRd⟩ := HY.out _ ⟨7, (i : Int), 12⟩ _ hj6 (by rw [List.length_append, HPL.out]; omega)
                dsimp only [encF] at hy
                clear hb6 hj6 hk6 hput hlook gc
                gi_wp2
                refine hRd.mono ?_
                rintro e w7 (⟨rfl, hj7, hk7⟩ | ⟨rfl, hjx⟩)
                · have HS7 := Kept.mk (hk7.set HS6.out)
                  have HO7 := Kept.mk (hk7.row HO6.out)
                  have hsz7 : M + 1 ≤ w7.heap.size := by have := hk7.size; omega
                  rw [List.append_assoc, ← HFX.out] at hj7
                  have HJ7 := Kept.mk hj7
                  clear hk7 hj7 hy hRd
                  gi_wp2
                  go_roundw
                  case rel => exact ⟨i + 1, by omega, by go_num, HJ7.out, HS7.out, ⟨HO7.out⟩, hsz7⟩
                  case measure => simp [intOf]; omega
                · gi_wp2
                  refine bodyPost_ret (results_none rfl _ _ _) rfl ?_
                  exact ⟨⟨_, rfl⟩, .inr ⟨i + 1, by have := HNL.out; omega, by rw [HFX.out, ← List.append_assoc]; exact hjx⟩⟩
              | false =>
                have HFX := Kept.mk (show prF (psC c) (i + 1) = prF (psC c) i ++ [⟨7, (i : Int), 0⟩] from HPF.out)
                gi_wp2_with fail
                refine ⟨trivial, ?_⟩
                refine (callsIn_wide.2 (found_any ⟨7, (i : Int), 0⟩ w5)).mono ?_
                rintro e w6 ⟨rfl, hb6⟩
                have hj6 : J (pre0 ++ prF (psC c) i) w6 := HJ.out _ w5 w6 none HJ5.out ⟨hb6.os, hb6.tape, hb6.output, hb6.size, fun i hi _ => hb6.block i hi⟩ (fun r e => by cases e)
                have hk6 := KpV.below hb6
                have HS6 := Kept.mk (hk6.set HS5.out)
                have HO6 := Kept.mk (hk6.row HO5.out)
                have hsz6 : M + 1 ≤ w6.heap.size := by have := hb6.size; omega
                obtain ⟨fn, tmps, assign, body, hy, hRd⟩ := HY.out _ ⟨7, (i : Int), 0⟩ _ hj6 (by rw [List.length_append, HPL.out]; omega)
                dsimp only [encF] at hy
                clear hb6 hj6 hk6 hput hlook gc
                gi_wp2
                refine hRd.mono ?_
                rintro e w7 (⟨rfl, hj7, hk7⟩ | ⟨rfl, hjx⟩)
                · have HS7 := Kept.mk (hk7.set HS6.out)
                  have HO7 := Kept.mk (hk7.row HO6.out)
                  have hsz7 : M + 1 ≤ w7.heap.size := by have := hk7.size; omega
                  rw [List.append_assoc, ← HFX.out] at hj7
                  have HJ7 := Kept.mk hj7
                  clear hk7 hj7 hy hRd
                  gi_wp2
                  go_roundw
                  case rel => exact ⟨i + 1, by omega, by go_num, HJ7.out, HS7.out, ⟨HO7.out⟩, hsz7⟩
                  case measure => simp [intOf]; omega
                · gi_wp2
                  refine bodyPost_ret (results_none rfl _ _ _) rfl ?_
                  exact ⟨⟨_, rfl⟩, .inr ⟨i + 1, by have := HNL.out; omega, by rw [HFX.out, ← List.append_assoc]; exact hjx⟩⟩
            · have hie : i = N := by omega
              have ii : decide ((i : Int) < (N : Int)) = false := decide_eq_false (by omega)
              rw [hie, ← HNL.out] at hj
              have HJF := Kept.mk hj
              clear hie hj hset hO hsz
              gi_wp2
              go_end0
              exact ⟨⟨_, rfl⟩, .inl HJF.out⟩
end Go.Proofs.Ytfneloplbkjbhaa
