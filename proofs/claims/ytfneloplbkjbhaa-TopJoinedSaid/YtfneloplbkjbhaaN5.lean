/-
  The walks of vet.looks, vet.First, vet.Check.
-/
import Derived.Test.YtfneloplbkjbhaaN4
import Derived.Laws.Rows
import Derived.Laws.CopyRow
namespace Go.Proofs.Ytfneloplbkjbhaa
open Go.RowKit Go.Shelf
set_option linter.unusedVariables false
attribute [local go_sem] Oper.semAt_some
theorem vlooks_any (cs : Array Value) (w : World) : Calls Try.prog 19 #[.agg cs] w fun e w' => ∃ b, e = .returned (.func (.func 27) #[] #[.pointer (some ⟨b, 0, none⟩)]) ∧ w'.heap[b]? = some (.cells cs 28) ∧ Below w.heap.size w w' := by
  go_enter Try.func19, Try.ntmps19
  go_wp2
  go_ret
  exact ⟨_, rfl, heap_alloc_new _ _, below_box _ _⟩
theorem looks_stops (n : Nat) (hn : 1 ≤ n) (B bc : Nat) (c : Cf) (cs : Array Value) (w : World) (hI : LkI B bc c cs w) :
    SeqStopsK Fence.wide n Try.prog 27 #[.pointer (some ⟨bc, 0, none⟩)] encF KpV (fun l => l = allF c) (fun pre => pre <+: allF c) 1125899906842624 w := fun l J Jx W hW hJ hJx hY h0 => by
  have hi := hI.below hW
  refine (looks_in n hn l bc c cs J Jx W hJ ⟨hi.box, hi.cv.mono hi.sz, Nat.le_refl _⟩ hY h0).mono ?_
  rintro e W' ⟨he, h | ⟨pre, hp, h⟩⟩
  · exact ⟨he, .inl ⟨_, rfl, h⟩⟩
  · exact ⟨he, .inr ⟨pre, hp, h⟩⟩
section
variable {P : Program}
theorem run_storeVar_rowV (w : World) (g : Nat) (t ty : TypeId) (cs new : Array Value) (hg : w.heap[g]? = some (.cells cs t (0, 0)))
    (hi : (P.info? ty).map (·.size) = some new.size) (hs : new.size = cs.size) (h1 : ∀ v ∈ new.toList, v.oneCell' = true) :
    (storeVar ty ⟨g, 0, none⟩ (.agg new)).run P w = .ok () (w.setRow g new) := by
  cases hq : P.info? ty with
  | none => simp [hq] at hi
  | some i =>
    have hsz : i.size = new.size := by simpa [hq] using hi
    have hst := run_storeCells_at (P := P) g 0 t new.toList 0 cs w hg (by simp; omega) h1
    have e : (cs.toList.take (0 + 0) ++ new.toList ++ cs.toList.drop (0 + 0 + new.toList.length)).toArray = new := by
      simp only [Nat.add_zero, List.take_zero, List.nil_append, Nat.zero_add]
      rw [List.drop_eq_nil_of_le (by simp; omega)]
      simp
    rw [e] at hst
    simp [storeVar, Sem.run_bind, sizeOf, typeInfo, hq, hsz, Value.cells, hst]
variable {F : Fence} {n : Nat}
theorem wpListIn_load_rowV (w : World) {ops : Array Oper} {rest : List Oper} {o : Oper} {a : Act} {Q : Exit → Act → World → Prop} (hgd : o.guard = none) (ty : TypeId) (x : Operand) (ho : o.op = .load ty x)
    (g : Nat) (hx : a.eval x = .pointer (some ⟨g, 0, none⟩)) (t : TypeId) (cs : Array Value) (fr : Nat × Nat) (d : TypeDesc) (hg : w.heap[g]? = some (.cells cs t fr))
    (hu : P.underlying ty = some d) (hd : (match d with | .struct _ | .array _ _ => true | _ => false) = true) (hi : (P.info? ty).map (·.size) = some cs.size)
    (h : wpListIn F n P ops Q rest (a.put o.dst (.agg cs)) w) : wpListIn F n P ops Q (o :: rest) a w := by
  refine wpListIn_plain hgd fun K hK' => ?_
  unfold Oper.wpIn
  refine ⟨?_, ?_⟩
  · simp [Oper.about, ho]
  · rw [Oper.semAt_eq _ _ _ (by rw [ho]; intro c hc'; cases hc')]
    unfold execOp
    simp only [ho, hx, Instr.loadAt, Instr.sureAddr, Sem.run_bind, Sem.run_pure, Result.andThen_ok, run_loadVar_row w g t ty cs fr d hg hu hd hi]
    exact hK' _ _ h
theorem wpListIn_store_rowV (w : World) {ops : Array Oper} {rest : List Oper} {o : Oper} {a : Act} {Q : Exit → Act → World → Prop} (hgd : o.guard = none) (ty : TypeId) (x y : Operand) (ho : o.op = .store ty x y)
    (g : Nat) (hx : a.eval x = .pointer (some ⟨g, 0, none⟩)) (new : Array Value) (hy : a.eval y = .agg new) (t : TypeId) (cs : Array Value) (hg : w.heap[g]? = some (.cells cs t (0, 0)))
    (hi : (P.info? ty).map (·.size) = some new.size) (hs : new.size = cs.size) (h1 : ∀ v ∈ new.toList, v.oneCell' = true)
    (h : wpListIn F n P ops Q rest (a.put o.dst undef) (w.setRow g new)) : wpListIn F n P ops Q (o :: rest) a w := by
  refine wpListIn_plain hgd fun K hK' => ?_
  unfold Oper.wpIn
  refine ⟨?_, ?_⟩
  · simp [Oper.about, ho]
  · rw [Oper.semAt_eq _ _ _ (by rw [ho]; intro c hc'; cases hc')]
    unfold execOp
    simp only [ho, hx, hy, Instr.storeAt, Instr.sureAddr, Sem.run_bind, Sem.run_pure, Result.andThen_ok, run_storeVar_rowV w g t ty cs new hg hi hs h1]
    exact hK' _ _ h
end
theorem blk_kept {W W' : World} {g : Nat} {cs : Array Value} {t : TypeId} {fr : Nat × Nat} {row : Option Nat} (h : W.heap[g]? = some (.cells cs t fr)) (hg : W.grownBy W' row) (hr : ∀ r, row = some r → ∃ o : Obj, W.heap[r]? = some o ∧ o.isCells = false) : W'.heap[g]? = some (.cells cs t fr) := by
  refine (hg.block g (lt_of_block h) fun e => ?_).trans h
  obtain ⟨o, ho, hc⟩ := hr g e.symm
  rw [h] at ho
  injection ho with ho
  subst ho
  cases hc
theorem keeps_row {W : World} {g : Nat} {cs : Array Value} {t : TypeId} {fr : Nat × Nat} (h : W.heap[g]? = some (.cells cs t fr)) (new : Array Value) : KeepsOthers W (W.setRow g new) :=
  ⟨by simp, fun k o hk ho => by
    by_cases e : k = g
    · subst e
      rw [h] at hk
      injection hk with hk
      subst hk
      cases ho
    · exact (setRow_other W g k new e).trans hk⟩
theorem below_row {B g : Nat} {w0 w : World} (hb : Below B w0 w) (hBg : B ≤ g) (cs : Array Value) : Below B w0 (w.setRow g cs) :=
  hb.trans ⟨rfl, rfl, rfl, by simp, fun i hi => setRow_other w g i _ (by omega)⟩
theorem flt_size (p a y : Int) : (Try.prog.info? 54).map (·.size) = some (#[Value.int .u8 p, .int .i64 a, .int .i64 y]).size := by
  show _ = some 3
  kernel_rfl
theorem results_first {fn : Func} (h : fn.results = #[.cell 2 54, .cell 3 4]) (tmps : Array Value) (w : World) (g g' : Nat) (p a y : Int) (ok : Bool)
    (hp : tmps.getD 2 undef = .pointer (some ⟨g, 0, none⟩)) (hg : w.heap[g]? = some (.cells #[.int .u8 p, .int .i64 a, .int .i64 y] 54)) (hu : tmps.getD 3 undef = .pointer (some ⟨g', 0, none⟩)) (hc : w.heap[g']? = some (.cells #[.bool ok] 4)) :
    (results fn tmps).run Try.prog w = .ok (.tuple #[.agg #[.int .u8 p, .int .i64 a, .int .i64 y], .bool ok]) w := by
  have hl := run_loadVar_row (P := Try.prog) w g 54 54 _ (0, 0) _ hg Try.underlying54 rfl (flt_size p a y)
  have hp' : tmps[2]?.getD undef = .pointer (some ⟨g, 0, none⟩) := by simpa using hp
  have hu' : tmps[3]?.getD undef = .pointer (some ⟨g', 0, none⟩) := by simpa using hu
  have hc' : w.cell? ⟨g', 0, none⟩ = some (.bool ok) := cell_of_row _ _ 0 _ _ _ hc
  have hl2 : (loadVar 4 ⟨g', 0, none⟩).run Try.prog w = .ok (.bool ok) w := by simp [go_sem, hc']
  simp only [results, h]
  simp [hp', hu', asAddr, hl, hl2]
set_option maxRecDepth 100000 in
set_option maxHeartbeats 2000000 in
theorem first_any (c : Cf) (cs : Array Value) (w : World) (h : CV w w.heap.size c cs) : Calls Try.prog 14 #[.agg cs] w fun e w' => ∃ p a y ok, e = .returned (.tuple #[.agg #[.int .u8 p, .int .i64 a, .int .i64 y], .bool ok]) ∧ (y = 0 ↔ ∀ x ∈ allF c, x.y = 0) ∧ Below w.heap.size w w' := by
  have HH := Kept.mk h
  obtain ⟨At, ct, Al, cl, Ah, ch, hcs, h5⟩ := h.x
  clear h h5
  refine (callsIn_wide (n := 4)).1 ?_
  refine callsIn_of_wp_marks Try.func14 rfl trivial ?_ rfl
  simp only [Try.ntmps14, List.size_toArray, List.length_cons, List.length_nil, Nat.reduceAdd, Nat.reduceSub, Array.replicate_succ, Array.replicate_zero, List.push_toArray, List.append_toArray, List.nil_append, List.cons_append]
  rw [hcs]
  gi_wp2_with fail
  refine ⟨trivial, ?_⟩
  refine (callsIn_wide.2 (vlooks_any _ _)).mono ?_
  rintro e w2 ⟨b, rfl, hbx, hb2⟩
  gi_wp2_with fail
  rw [← hcs] at hbx hb2 ⊢
  clear hcs
  obtain ⟨W2, hW2⟩ : ∃ W2, ((w.alloc (.cells cs 28)).alloc (.cells #[.int .u8 0, .int .i64 0, .int .i64 0] 54)).alloc (.cells #[.bool false] 4) = W2 := ⟨_, rfl⟩
  rw [hW2] at hb2
  have z2 : W2.heap.size = w.heap.size + 3 := by rw [← hW2]; simp
  have k1 : W2.heap[w.heap.size + 1]? = some (.cells #[.int .u8 0, .int .i64 0, .int .i64 0] 54) := by
    rw [← hW2, Below.heap_alloc _ _ _ (by simp)]
    have := heap_alloc_new (w.alloc (.cells cs 28)) (.cells #[.int .u8 0, .int .i64 0, .int .i64 0] 54)
    rwa [World.size_alloc] at this
  have k2 : W2.heap[w.heap.size + 2]? = some (.cells #[.bool false] 4) := by
    rw [← hW2]
    have := heap_alloc_new ((w.alloc (.cells cs 28)).alloc (.cells #[.int .u8 0, .int .i64 0, .int .i64 0] 54)) (.cells #[.bool false] 4)
    rwa [World.size_alloc, World.size_alloc] at this
  have hb0 : Below w.heap.size w W2 := by
    rw [← hW2]
    exact (((Below.refl _ _).alloc (Nat.le_refl _) _).alloc (by simp) _).alloc (by simp; omega) _
  have k1' := (hb2.block _ (by omega)).trans k1
  have k2' := (hb2.block _ (by omega)).trans k2
  have hbw := hb0.trans (hb2.mono (by omega))
  have hz2 := hb2.size
  have hcv := HH.out.below hbw
  obtain ⟨q, hq⟩ : ∃ q, q = w.heap.size := ⟨_, rfl⟩
  have hlk : LkI q b c cs w2 := ⟨hbx, by rw [hq]; exact hcv, by omega⟩
  have hqs : q + 3 ≤ w2.heap.size := by omega
  rw [← hq] at k1' k2' hbw ⊢
  have HQ := Kept.mk hq
  clear hW2 k1 k2 hb0 hb2 z2 hz2 hcv hbx hq W2
  refine wpIn_rangeFunc_ownH rfl (by omega) (gf := 27) (lb := #[.pointer (some ⟨b, 0, none⟩)]) rfl trivial (enters_of Try.func27 (by kernel_rfl) rfl)
    (looks_stops (4 - 1) (by omega) q b c cs w2 hlk)
    KpV.trans (fun W l o o' _ => KpV.book W l o o') (Below.refl _ _) (fun _ => rfl)
    (fun pre W => (W.heap[q + 1]? = some (.cells #[.int .u8 0, .int .i64 0, .int .i64 0] 54) ∧ W.heap[q + 2]? = some (.cells #[.bool false] 4) ∧ (∀ x ∈ pre, x.y = 0) ∧ q + 3 ≤ W.heap.size) ∧ Below q w W)
    (fun cd pre W => (cd = .ret ∧ ∃ x ∈ pre, x.y ≠ 0 ∧ W.heap[q + 1]? = some (.cells #[.int .u8 x.p, .int .i64 x.a, .int .i64 x.y] 54) ∧ W.heap[q + 2]? = some (.cells #[.bool true] 4)) ∧ Below q w W)
    (OwnFrom.and (Own.from (fun s A B row hs hg hr => by
      obtain ⟨g1, g2, g3, g4⟩ := hs
      exact ⟨blk_kept g1 hg hr, blk_kept g2 hg hr, g3, Nat.le_trans g4 hg.size⟩) _) (ownFrom_below (by rw [HQ.out]; exact Nat.le_refl _) (by omega)))
    (fun cd => OwnFrom.and (Own.from (fun s A B row hs hg hr => by
      obtain ⟨g1, x, g2, g3, g4, g5⟩ := hs
      exact ⟨g1, x, g2, g3, blk_kept g4 hg hr, blk_kept g5 hg hr⟩) _) (ownFrom_below (by rw [HQ.out]; exact Nat.le_refl _) (by omega)))
    ⟨⟨k1', k2', fun x hx => by simp at hx, hqs⟩, hbw⟩
    (fun x a' W => ∃ d, a' = { tmps := #[.agg cs, .pointer (some ⟨q, 0, none⟩), .pointer (some ⟨q + 1, 0, none⟩), .pointer (some ⟨q + 1 + 1, 0, none⟩), .pointer (some ⟨d, 0, none⟩), .agg cs, .func (.func 27) #[] #[.pointer (some ⟨b, 0, none⟩)], .agg #[.int .u8 x.p, .int .i64 x.a, .int .i64 x.y], undef, undef, undef, undef, undef], defers := [] } ∧ W.heap[d]? = some (.cells #[.int .u8 x.p, .int .i64 x.a, .int .i64 x.y] 54) ∧ q + 3 ≤ d)
    (fun x a' => Own.from (fun s A B row hs hg hr => by
      obtain ⟨d, g1, g2, g3⟩ := hs
      exact ⟨d, g1, blk_kept g2 hg hr, g3⟩) _) ?assign ?body ?done ?stop
  case assign =>
    rintro l pre ⟨xp, xa, xy⟩ W K ⟨⟨d1, d2, d3, d4⟩, hbW⟩ hK
    have HK := Kept.mk hK
    have hn := heap_alloc_new W (.cells #[.int .u8 xp, .int .i64 xa, .int .i64 xy] 54)
    have hb5 := below_box W (.cells #[.int .u8 xp, .int .i64 xa, .int .i64 xy] 54)
    clear hK
    gi_wp2
    exact HK.out _ _ ((KeepsOthers.alloc W _).from _) (KpV.below hb5) ⟨⟨(hb5.block _ (lt_of_block d1)).trans d1, (hb5.block _ (lt_of_block d2)).trans d2, d3, Nat.le_trans d4 hb5.size⟩, hbW.trans (hb5.mono (by omega))⟩ ⟨W.heap.size, rfl, hn, by omega⟩
  case body =>
    rintro l pre ⟨xp, xa, xy⟩ a' W hwl hlr ⟨⟨d1, d2, d3, d4⟩, hbW⟩ ⟨d, rfl, hx, hd⟩ hpl
    simp only at hx
    have x2 : W.cell? ⟨d, 2, none⟩ = some (.int .i64 xy) := cell_of_row _ _ 2 _ _ _ hx
    by_cases hy : xy = 0
    · have dy : (xy == 0) = true := by simp [hy]
      gi_wp2
      exact ⟨(KeepsOthers.refl W).from _, KpV.below (Below.refl _ _), ⟨d1, d2, fun x hx' => by
        rcases List.mem_append.1 hx' with h | h
        · exact d3 x h
        · simp at h; subst h; exact hy, d4⟩, hbW⟩
    · have dy : (xy == 0) = false := by simp [hy]
      have e2 : (W.setRow (q + 1) #[.int .u8 xp, .int .i64 xa, .int .i64 xy]).heap[q + 2]? = some (.cells #[.bool false] 4) := (setRow_other _ _ _ _ (by omega)).trans d2
      have c2 : (W.setRow (q + 1) #[.int .u8 xp, .int .i64 xa, .int .i64 xy]).cell? ⟨q + 1 + 1, 0, none⟩ = some (.bool false) := cell_of_row _ _ 0 _ _ _ e2
      have f2 : (W.setRow (q + 1) #[.int .u8 xp, .int .i64 xa, .int .i64 xy]).frozen? ⟨q + 1 + 1, 0, none⟩ = false := frozen_of_row _ _ _ _ _ e2
      have HD1 := Kept.mk (show KeepsOthers W ((W.setRow (q + 1) #[.int .u8 xp, .int .i64 xa, .int .i64 xy]).setCell ⟨q + 1 + 1, 0, none⟩ (.bool true)) from (keeps_row d1 _).trans (KeepsOthers.setCell _ _ _))
      have HD2 := Kept.mk (show ((W.setRow (q + 1) #[.int .u8 xp, .int .i64 xa, .int .i64 xy]).setCell ⟨q + 1 + 1, 0, none⟩ (.bool true)).heap[q + 1]? = some (.cells #[.int .u8 xp, .int .i64 xa, .int .i64 xy] 54) from (heap_setCell_other _ _ _ _ (by simp)).trans (setRow_heap _ _ _ _ _ _ d1))
      have HD3 := Kept.mk (show ((W.setRow (q + 1) #[.int .u8 xp, .int .i64 xa, .int .i64 xy]).setCell ⟨q + 1 + 1, 0, none⟩ (.bool true)).heap[q + 2]? = some (.cells #[.bool true] 4) from heap_setCell_same _ _ 0 _ _ _ e2)
      have HD4 := Kept.mk (show Below q w ((W.setRow (q + 1) #[.int .u8 xp, .int .i64 xa, .int .i64 xy]).setCell ⟨q + 1 + 1, 0, none⟩ (.bool true)) from (below_row hbW (by omega) _).setCell (p := ⟨q + 1 + 1, 0, none⟩) (by simp; omega) _)
      clear d2 d3 e2 hbW
      gi_wp2_with (first
        | (refine wpListIn_load_rowV _ rfl 54 _ rfl _ rfl 54 _ (0, 0) _ hx Try.underlying54 rfl (flt_size _ _ _) ?_)
        | (refine wpListIn_store_rowV _ rfl 54 _ _ rfl _ rfl _ rfl 54 _ d1 (flt_size _ _ _) rfl (by simp [Value.oneCell']) ?_))
      exact ⟨HD1.out.from _, ⟨rfl, ⟨xp, xa, xy⟩, by simp, hy, HD2.out, HD3.out⟩, HD4.out⟩
  case done =>
    rintro D l W hD rfl ⟨⟨d1, d2, d3, d4⟩, hbW⟩ hK
    have e2 : (W.setRow (q + 1) #[.int .u8 0, .int .i64 0, .int .i64 0]).heap[q + 2]? = some (.cells #[.bool false] 4) := (setRow_other _ _ _ _ (by omega)).trans d2
    have c2 : (W.setRow (q + 1) #[.int .u8 0, .int .i64 0, .int .i64 0]).cell? ⟨q + 1 + 1, 0, none⟩ = some (.bool false) := cell_of_row _ _ 0 _ _ _ e2
    have f2 : (W.setRow (q + 1) #[.int .u8 0, .int .i64 0, .int .i64 0]).frozen? ⟨q + 1 + 1, 0, none⟩ = false := frozen_of_row _ _ _ _ _ e2
    have HD1 := Kept.mk (show KeepsOthers W ((W.setRow (q + 1) #[.int .u8 0, .int .i64 0, .int .i64 0]).setCell ⟨q + 1 + 1, 0, none⟩ (.bool false)) from (keeps_row d1 _).trans (KeepsOthers.setCell _ _ _))
    have HD2 := Kept.mk (show ((W.setRow (q + 1) #[.int .u8 0, .int .i64 0, .int .i64 0]).setCell ⟨q + 1 + 1, 0, none⟩ (.bool false)).heap[q + 1]? = some (.cells #[.int .u8 0, .int .i64 0, .int .i64 0] 54) from (heap_setCell_other _ _ _ _ (by simp)).trans (setRow_heap _ _ _ _ _ _ d1))
    have HD3 := Kept.mk (show ((W.setRow (q + 1) #[.int .u8 0, .int .i64 0, .int .i64 0]).setCell ⟨q + 1 + 1, 0, none⟩ (.bool false)).heap[q + 2]? = some (.cells #[.bool false] 4) from heap_setCell_same _ _ 0 _ _ _ e2)
    have HD4 := Kept.mk (show Below q w ((W.setRow (q + 1) #[.int .u8 0, .int .i64 0, .int .i64 0]).setCell ⟨q + 1 + 1, 0, none⟩ (.bool false)) from (below_row hbW (by omega) _).setCell (p := ⟨q + 1 + 1, 0, none⟩) (by simp; omega) _)
    have HS := Kept.mk d3
    have HD := Kept.mk (show q ≤ D by omega)
    clear d2 d3 e2 hbW d4 k1' k2' hbw hlk
    gi_wp2_with (refine wpListIn_store_rowV _ rfl 54 _ _ rfl _ rfl _ rfl 54 _ d1 (flt_size _ _ _) rfl (by simp [Value.oneCell']) ?_)
    have hK2 := HD1.out.same D _ hK rfl
    refine ⟨by simp, .inl ⟨_, _, rfl, run_takeDeferred hK2, ?_⟩⟩
    have q1 := blk_kept HD2.out (grownBy_putObj' _ D (.deferred none)) (fun r e => by cases e; exact ⟨_, hK2, rfl⟩)
    have q2 := blk_kept HD3.out (grownBy_putObj' _ D (.deferred none)) (fun r e => by cases e; exact ⟨_, hK2, rfl⟩)
    refine ⟨_, results_first rfl _ _ (q + 1) (q + 2) 0 0 0 false rfl q1 rfl q2, 0, 0, 0, false, rfl, ⟨fun _ => HS.out, fun _ => rfl⟩, ?_⟩
    have hDw : w.heap.size ≤ D := by have := HQ.out; have := HD.out; omega
    rw [← HQ.out]
    exact HD4.out.trans ((Below.refl q _).grown (grownBy_putObj' _ D (.deferred none)) (by have := lt_of_block hK2; have := HD.out; omega) (fun k e => by cases e; exact HD.out))
  case stop =>
    rintro D cd pre W hD hpre ⟨⟨rfl, x, hx, hy, d1, d2⟩, hbW⟩ hK
    have hx' := hpre.subset hx
    have HD := Kept.mk (show q ≤ D by omega)
    gi_wp2
    refine ⟨by simp, .inl ⟨_, _, rfl, run_takeDeferred hK, ?_⟩⟩
    have q1 := blk_kept d1 (grownBy_putObj' _ D (.deferred none)) (fun r e => by cases e; exact ⟨_, hK, rfl⟩)
    have q2 := blk_kept d2 (grownBy_putObj' _ D (.deferred none)) (fun r e => by cases e; exact ⟨_, hK, rfl⟩)
    refine ⟨_, results_first rfl _ _ (q + 1) (q + 2) x.p x.a x.y true rfl q1 rfl q2, x.p, x.a, x.y, true, rfl, ⟨fun h => absurd h hy, fun h => h x hx'⟩, ?_⟩
    rw [← HQ.out]
    exact hbW.trans ((Below.refl q _).grown (grownBy_putObj' _ D (.deferred none)) (by have := lt_of_block hK; omega) (fun k e => by cases e; exact HD.out))
theorem vcheck_any (c : Cf) (cs : Array Value) (w : World) (h : CV w w.heap.size c cs) : Calls Try.prog 6 #[.agg cs] w fun e w' => ∃ y, e = .returned (.int .i64 y) ∧ (y = 0 ↔ ∀ x ∈ allF c, x.y = 0) ∧ Below w.heap.size w w' := by
  have HH := Kept.mk h
  obtain ⟨At, ct, Al, cl, Ah, ch, rfl, h5⟩ := h.x
  clear h h5
  go_enter Try.func6, Try.ntmps6
  have hbx := below_box w (.cells #[.int .i64 c.mn, .int .i64 c.mx, .int .i64 c.sw, .slice At c.ts.length ct, .slice Al c.ls.length cl, .slice Ah c.hs.length ch] 28)
  go_wp2_with (refine (first_any c _ _ (HH.out.next hbx)).mono ?_; rintro e w2 ⟨p, a, y, ok, rfl, hy, hb2⟩)
  go_ret
  exact ⟨y, rfl, hy, (hbx.trans (hb2.mono hbx.size)).alloc (by have := hbx.size; have := hb2.size; omega) _⟩
end Go.Proofs.Ytfneloplbkjbhaa
