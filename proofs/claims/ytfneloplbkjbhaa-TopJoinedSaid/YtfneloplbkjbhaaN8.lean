/-
  rta's sheet: loads.
-/
import Derived.Test.YtfneloplbkjbhaaN7
import Derived.Test.YtfneloplbkjbhaaN8a
namespace Go.Proofs.Ytfneloplbkjbhaa
open Go.RowKit Go.Shelf
set_option linter.unusedVariables false
attribute [local go_sem] Oper.semAt_some
theorem urgent_stops (n : Nat) (hn : 1 ≤ n) (bc B sb n₀ x₀ : Nat) (c : Cf) (x : Tk) (w : World) (hbx : w.heap[bc]? = some (.cells #[.pointer (some ⟨sb, 0, none⟩)] 41)) (hbn : bc < n₀) (hbx0 : bc ≠ x₀) (hSH : SH w B sb c x) (hB : B ≤ n₀) (hBx : B ≤ x₀) (hn0 : n₀ ≤ w.heap.size) (ok : OkC c) :
    SeqStopsK Fence.wide n Try.prog 20 #[.pointer (some ⟨bc, 0, none⟩)] encQ (KpX n₀ x₀) (fun l => l = urg c x.p c.ts) (fun _ => True) 32 w := fun l J Jx W hW hJ hJx hY h0 => by
  refine (urgent_in n hn l bc B sb n₀ x₀ c x J Jx W hJ ((hW.block _ (lt_of_block hbx)).trans hbx) hbn hbx0 (hSH.below (hW.mono (by omega))) hB hBx (Nat.le_trans hn0 hW.size) ok hY h0).mono ?_
  rintro e W' ⟨he, h | ⟨pre, h⟩⟩
  · exact ⟨he, .inl ⟨_, rfl, h⟩⟩
  · exact ⟨he, .inr ⟨pre, trivial, h⟩⟩
theorem app_step4 {W W4 : World} {o : Obj} {base N1 B sz : Nat} {e : TypeId} {k k' : Nat} {xs xs' : List Value} {v v' : Value} (hown : W.ownsRow base e sz v k xs) (hown4 : W4.ownsRow base e sz v' k' xs') (hg : (W.alloc o).grownBy W4 v.ownBlock) (hN : N1 < base) (hb : base ≤ W.heap.size) (hB : B ≤ N1) {u0 : Value} (hq : W.cell? ⟨N1, 0, none⟩ = some u0) :
    KeepsOthers W (W4.setCell ⟨N1, 0, none⟩ v') ∧ Below B W (W4.setCell ⟨N1, 0, none⟩ v') ∧ (W4.setCell ⟨N1, 0, none⟩ v').ownsRow base e sz v' k' xs' ∧ (∀ i, i < base → i ≠ N1 → (W4.setCell ⟨N1, 0, none⟩ v').heap[i]? = W.heap[i]?) ∧
      (∀ p : Addr, p.block < base → (W4.setCell ⟨N1, 0, none⟩ v').frozen? p = W.frozen? p) ∧ (W4.setCell ⟨N1, 0, none⟩ v').cell? ⟨N1, 0, none⟩ = some v' ∧ base ≤ (W4.setCell ⟨N1, 0, none⟩ v').heap.size ∧ W.heap.size ≤ (W4.setCell ⟨N1, 0, none⟩ v').heap.size := by
  have hne : ∀ i : Nat, i < base → some i ≠ v.ownBlock := fun i hp h => by have := (hown.lt i h.symm).1; omega
  have hg' : W.grownBy W4 v.ownBlock := (World.grownBy_alloc W o _).trans hg
  have hc4 : ∀ p : Addr, p.block < base → W4.cell? p = W.cell? p := fun p hp => hg'.cell_far p (by omega) (hne _ hp)
  have hf4 : ∀ p : Addr, p.block < base → W4.frozen? p = W.frozen? p := fun p hp => hg'.frozen_far p (by omega) (hne _ hp)
  have hsz := hg'.size
  refine ⟨(KeepsOthers.of_grownBy hg' (own_cells hown)).trans (KeepsOthers.setCell _ _ _), ?_, ?_, ?_, ?_, ?_, ?_, ?_⟩
  · exact (below_grown (Below.refl B W) hg' hown (by omega) (by omega)).setCell (p := ⟨N1, 0, none⟩) hB _
  · refine hown4.kept (grownBy_setCell' W4 N1 v') ?_
    cases hv : v'.ownBlock with
    | none => exact .inl rfl
    | some j => right; intro e; cases e; have := (hown4.lt _ hv).1; omega
  · intro i hi hn
    rw [heap_setCell_other _ _ _ _ (by exact hn)]
    exact hg'.block i (by omega) (fun e => hne i hi e)
  · intro p hp
    rw [World.frozen?_setCell]
    exact hf4 p hp
  · exact World.cell?_setCell_same' _ _ _ (by rw [hc4 ⟨N1, 0, none⟩ hN, hq]; rfl)
  · simp; omega
  · simp; omega
theorem wpList_app4g {P : Program} {w : World} {ops : Array Oper} {rest : List Oper} {o : Oper} {a : Act} {Q : Exit → Act → World → Prop} (hgd : o.guard = none) (s x : Operand) (t : TypeId)
    (ho : o.op = .call { callee := .builtin .append, args := #[s, x], argTypes := #[t, t] })
    (base : Nat) (e : TypeId) (i : TypeInfo) (z : Value) (bytes : Nat) (ht : P.underlying t = some (.slice e)) (hi : P.info? e = some i) (hz : i.zero = some z)
    (hsize : i.size = 4) (hby : i.bytes = bytes) (hzs : z.cells.size = 4) (hbb : bytes ≤ 65536)
    (v : Value) (n : Nat) (ys : List Value) (hs : a.eval s = v) (hown : w.ownsRow base e 4 v n ys)
    (A : Option Addr) (xs : List Q4) (c B : Nat) (hx : a.eval x = .slice A xs.length c) (hR : R4 w B A xs) (hn : A = none → c = 0) (hlen : n + xs.length ≤ 2147483648) (hbase : base ≤ w.heap.size)
    (h : ∀ v' w', w'.ownsRow base e 4 v' (n + xs.length) (ys ++ xs.flatMap Q4.cells) → w.grownBy w' v.ownBlock → wpList P ops Q rest (a.put o.dst v') w') : wpList P ops Q (o :: rest) a w := by
  cases A with
  | none =>
    have h0 : xs.length = 0 := by
      rcases Nat.eq_zero_or_pos xs.length with h0 | h0
      · exact h0
      · obtain ⟨_, _, e, _⟩ := hR h0; cases e
    have : xs = [] := List.eq_nil_of_length_eq_zero h0
    subst this
    refine wpList_append_own_none hgd s x t ho base e i 4 ht hi v n ys hs hown (by rw [hx, hn rfl]; rfl) ?_
    exact h v w (by simpa using hown) ⟨rfl, rfl, rfl, Nat.le_refl _, fun _ _ _ => rfl⟩
  | some ad =>
    obtain ⟨b, off, ic⟩ := ad
    refine wpList_append_own w hgd s x t ho base e i z 4 bytes ht hi hz hsize hby hzs (by omega) v n ys hs hown ⟨b, off, ic⟩ xs.length c (xs.flatMap Q4.cells) hx (cells4_length xs) ?_ (q4_onecell xs) (by simp only [maxLen]; omega) ?_ hbase ?_
    · intro j u hu
      have hj : j < xs.length * 4 := by
        have := (List.getElem?_eq_some_iff.1 hu).1
        rwa [cells4_length] at this
      obtain ⟨b', off', e', hb, hc⟩ := hR (by omega)
      cases e'
      exact r4_cells hR j u hu
    · calc (n + xs.length) * bytes ≤ 2147483648 * 65536 := Nat.mul_le_mul hlen hbb
        _ ≤ 140737488355328 := by omega
    · intro v' w' hw hg _
      exact h v' w' hw hg
theorem addL_none : ∀ ls : List Q4, ls.foldl addL none = none
  | [] => rfl
  | x :: r => by rw [List.foldl_cons]; exact addL_none r
theorem lnS_len : ∀ (ls : List Q4) (l m : List Q4), ls.foldl addL (some l) = some m → m.length ≤ l.length + ls.length
  | [], l, m, h => by simp at h; subst h; simp
  | x :: r, l, m, h => by
    rw [List.foldl_cons] at h
    cases hq : addL (some l) x with
    | none => rw [hq, addL_none] at h; cases h
    | some l' =>
      rw [hq] at h
      have h1 := lnS_len r l' m h
      have h2 : l'.length ≤ l.length + 1 := by
        have hq' : (if 1099511627776 < x.c * x.b then none else some (l ++ [lnL x])) = some l' := hq
        split at hq'
        · cases hq'
        · injection hq' with hq'; subst hq'; simp
      rw [List.length_cons]
      omega
theorem loL_len (ts ls : List Q4) (pr : Int) : (loL ts ls pr).length ≤ ts.length + ls.length := by
  unfold loL
  split
  · simp
  · cases hq : lnS (thS pr ts) ls with
    | none => simp
    | some m =>
      have h1 := lnS_len ls (thS pr ts) m hq
      have h2 := thS_len pr ts
      simp only [Option.getD_some]
      omega
set_option maxRecDepth 100000 in
set_option maxHeartbeats 4000000 in
theorem sloads_any (B sb : Nat) (c : Cf) (x : Tk) (w : World) (h : SH w B sb c x) (hB : B ≤ w.heap.size) (ok : OkC c) :
    Calls Try.prog 11 #[.pointer (some ⟨sb, 0, none⟩)] w (Z.LoadsRes w (urg c x.p c.ts ++ loL c.hs c.ls x.p) (loE c.hs c.ls x.p)) := by
  have HSH := Kept.mk h
  have OK := Kept.mk ok
  clear h ok
  obtain ⟨i0, hi, hz0, hz1, hz2⟩ := info_parts info_load4
  refine (callsIn_wide (n := 4)).1 ?_
  refine callsIn_of_wp_marks Try.func11 rfl trivial ?_ rfl
  simp only [Try.ntmps11, List.size_toArray, List.length_cons, List.length_nil, Nat.reduceAdd, Nat.reduceSub, Array.replicate_succ, Array.replicate_zero, List.push_toArray, List.append_toArray, List.nil_append, List.cons_append]
  gi_wp2_with fail
  refine ⟨trivial, ?_⟩
  refine (callsIn_wide.2 (urgent_any sb _)).mono ?_
  rintro e w2 ⟨b, rfl, hbq, hbx, hz2', hb2⟩
  gi_wp2_with fail
  obtain ⟨q, hq⟩ : ∃ q, q = w.heap.size := ⟨_, rfl⟩
  have hb0 : Below w.heap.size w w2 := (below_box w _).trans (hb2.mono (by simp))
  have z2 : w2.heap.size = q + 2 := by rw [hz2', hq]; simp
  have hbq' : b = q + 1 := by rw [hbq, hq]; simp
  have c0 : w2.cell? ⟨q, 0, none⟩ = some (.slice none 0 0) := by rw [hq]; exact box_cell hb2 0 _ rfl
  have f0 : w2.frozen? ⟨q, 0, none⟩ = false := by rw [hq]; exact box_free hb2 0
  have hsh := HSH.out.below (hb0.mono hB)
  subst hbq'
  have HQ := Kept.mk hq
  rw [← hq] at hb0 ⊢
  have hBq : B ≤ q := by rw [hq]; exact hB
  clear hbq hz2' hb2 hq
  refine wpIn_rangeFunc_ownH rfl (by omega) (gf := 20) (lb := #[.pointer (some ⟨q + 1, 0, none⟩)]) rfl trivial (enters_of Try.func20 (by kernel_rfl) rfl)
    (urgent_stops (4 - 1) (by omega) (q + 1) B sb (q + 2) q c x w2 hbx (by omega) (by omega) hsh (by omega) (by omega) (by omega) OK.out)
    KpX.trans (KpX.book (by omega)) (Below.refl _ _) (fun _ => rfl)
    (fun pre W => (∃ v : Value, pre.length ≤ 32 ∧ W.ownsRow (q + 2) 64 4 v pre.length (pre.flatMap Q4.cells) ∧ q + 2 ≤ W.heap.size ∧ W.cell? ⟨q, 0, none⟩ = some v ∧ W.frozen? ⟨q, 0, none⟩ = false) ∧ Below q w W)
    (fun cd pre W => False ∧ Below q w W)
    (OwnFrom.and (Own.from (fun s A B row hs hg hr => by
      obtain ⟨v, g2, g3, g4, g5, g6⟩ := hs
      exact ⟨v, g2, own_book g3 hg hr, Nat.le_trans g4 hg.size, cell_kept g5 hg hr, (frozen_kept g5 hg hr).trans g6⟩) _) (ownFrom_below (by rw [HQ.out]; exact Nat.le_refl _) (by omega)))
    (fun cd => OwnFrom.and (Own.from (fun s A B row hs hg hr => hs) _) (ownFrom_below (by rw [HQ.out]; exact Nat.le_refl _) (by omega)))
    ⟨⟨_, by simp, World.ownsRow_nil _ _ _ _, by omega, c0, f0⟩, hb0⟩
    (fun y a' W => ∃ d, a' = { tmps := #[.pointer (some ⟨sb, 0, none⟩), undef, .slice none 0 0, .int .i64 0, .pointer (some ⟨q, 0, none⟩), .pointer (some ⟨d, 0, none⟩), undef, undef, .pointer (some ⟨sb, 0, none⟩), .func (.func 20) #[] #[.pointer (some ⟨q + 1, 0, none⟩)], .agg #[.int .i64 y.a, .int .i64 y.b, .int .i64 y.c, .int .i64 y.d], undef, undef, undef, undef, undef, undef, undef, undef, undef, undef, undef, undef, undef, undef, undef, undef, undef, undef, undef, undef, undef, undef, undef, undef, undef, undef, undef], defers := [] } ∧ (∃ ty, W.heap[d]? = some (.cells #[.int .i64 y.a, .int .i64 y.b, .int .i64 y.c, .int .i64 y.d] ty)) ∧ q + 2 ≤ d)
    (fun y a' => Own.from (fun s A B row hs hg hr => by
      obtain ⟨d, g1, ⟨ty, g2⟩, g3⟩ := hs
      exact ⟨d, g1, ⟨ty, blk_kept g2 hg hr⟩, g3⟩) _) ?assign ?body ?done ?stop
  case assign =>
    rintro l pre ⟨ya, yb, yc, yd⟩ W K ⟨⟨v, d1, d2, d3, d4, d5⟩, hbW⟩ hK
    have HK := Kept.mk hK
    have hb5 : ∀ ty, Below W.heap.size W (W.alloc (.cells #[.int .i64 ya, .int .i64 yb, .int .i64 yc, .int .i64 yd] ty)) := fun ty => below_box W _
    clear hK
    gi_wp2
    exact HK.out _ _ ((KeepsOthers.alloc W _).from _) (KpX.of_below ((hb5 _).mono (by omega))) ⟨⟨v, d1, d2.alloc _, Nat.le_trans d3 (hb5 _).size, ((hb5 _).cell (p := ⟨q, 0, none⟩) (by show q < W.heap.size; omega)).trans d4, ((hb5 _).frozen (p := ⟨q, 0, none⟩) (by show q < W.heap.size; omega)).trans d5⟩, hbW.trans ((hb5 _).mono (by omega))⟩ ⟨W.heap.size, rfl, ⟨_, heap_alloc_new _ _⟩, by omega⟩
  case body =>
    rintro l pre ⟨ya, yb, yc, yd⟩ a' W hwl hlr ⟨⟨v, d1, d2, d3, d4, d5⟩, hbW⟩ ⟨d, rfl, ⟨ty, hx⟩, hd⟩ hpl
    simp only at hx
    have x0 : W.cell? ⟨d, 0, none⟩ = some (.int .i64 ya) := cell_of_row _ _ 0 _ _ _ hx
    have x1 : W.cell? ⟨d, 1, none⟩ = some (.int .i64 yb) := cell_of_row _ _ 1 _ _ _ hx
    have x2 : W.cell? ⟨d, 2, none⟩ = some (.int .i64 yc) := cell_of_row _ _ 2 _ _ _ hx
    have x3 : W.cell? ⟨d, 3, none⟩ = some (.int .i64 yd) := cell_of_row _ _ 3 _ _ _ hx
    obtain ⟨A0, cp, rfl⟩ := own_slice d2
    have HN5 := Kept.mk (fun (ty : TypeId) => show ∀ j u, [Value.int .i64 ya, .int .i64 yb, .int .i64 yc, .int .i64 yd][j]? = some u → (W.alloc (.cells #[.int .i64 ya, .int .i64 yb, .int .i64 yc, .int .i64 yd] ty)).cell? ((⟨W.heap.size, 0, none⟩ : Addr).add j) = some u from World.news_of_block (cs := #[.int .i64 ya, .int .i64 yb, .int .i64 yc, .int .i64 yd]) (heap_alloc_new W _))
    have hplen : pre.length < 32 := hpl
    clear hx
    gi_wp2_with ((gi_at_builtin; refine wpListIn_append_own _ rfl _ _ 47 rfl (q + 2) 64 i0 (.agg #[.int .i64 0, .int .i64 0, .int .i64 0, .int .i64 0]) 4 32 Try.underlying47 hi hz0 hz1 hz2 rfl (by decide) _ _ _ rfl (d2.alloc _) ⟨W.heap.size, 0, none⟩ 1 1 [.int .i64 ya, .int .i64 yb, .int .i64 yc, .int .i64 yd] rfl rfl (HN5.out _) (by simp [Value.oneCell']) (by simp only [maxLen]; omega) (by omega) (by simp; omega) ?_; intro v' w4 hown' hgrow _; obtain ⟨A4, cp4, rfl⟩ := own_slice hown'; have hne4 : ∀ i : Nat, i < q + 2 → some i ≠ (Value.slice A0 pre.length cp).ownBlock := (fun i hp h => by have := (d2.lt i h.symm).1; omega); have q4 := ((World.grownBy_alloc W _ _).trans hgrow).cell_far ⟨q, 0, none⟩ (by show q < _; omega) (hne4 q (by omega)); have f4 := ((World.grownBy_alloc W _ _).trans hgrow).frozen_far ⟨q, 0, none⟩ (by show q < _; omega) (hne4 q (by omega)); rw [d4] at q4; rw [d5] at f4))
    obtain ⟨k1, k2, k3, k4, k5, k6, k7, k8⟩ := app_step4 (B := q) d2 hown' hgrow (by omega) d3 (by omega) d4
    exact ⟨k1.from _, ⟨k8, fun i hi hne => k4 i hi hne⟩, ⟨_, by simp; omega, by rw [List.length_append, List.flatMap_append]; exact k3, k7, k6, (k5 _ (by show q < _; omega)).trans d5⟩, hbW.trans k2⟩
  case done =>
    rintro D l W hD rfl ⟨⟨v, d1, d2, d3, d4, d5⟩, hbW⟩ hK
    obtain ⟨A0, cp, rfl⟩ := own_slice d2
    have hshW := HSH.out.below (hbW.mono hBq)
    obtain ⟨hsb, At, ct, Al, cl, Ah, ch, h1, h2, h3, h4⟩ := hshW
    obtain ⟨xp, hxp⟩ : ∃ xp, xp = x.p := ⟨_, rfl⟩
    obtain ⟨nl, hnl⟩ : ∃ nl, nl = c.ls.length := ⟨_, rfl⟩
    obtain ⟨nh, hnh⟩ : ∃ nh, nh = c.hs.length := ⟨_, rfl⟩
    have s4 : W.cell? ⟨sb, 4, none⟩ = some (.slice Al nl cl) := by rw [hnl]; exact cell_of_row _ _ 4 _ _ _ h1
    have s5 : W.cell? ⟨sb, 5, none⟩ = some (.slice Ah nh ch) := by rw [hnh]; exact cell_of_row _ _ 5 _ _ _ h1
    have s7 : W.cell? ⟨sb, 7, none⟩ = some (.int .i64 xp) := by rw [hxp]; exact cell_of_row _ _ 7 _ _ _ h1
    have HU := Kept.mk (show urg c x.p c.ts = urg c xp c.ts by rw [hxp])
    obtain ⟨U, hU⟩ : ∃ U, U = urg c xp c.ts := ⟨_, rfl⟩
    obtain ⟨L2, hL2⟩ : ∃ L2, L2 = loL c.hs c.ls xp := ⟨_, rfl⟩
    obtain ⟨E2, hE2⟩ : ∃ E2, E2 = loE c.hs c.ls xp := ⟨_, rfl⟩
    rw [HU.out, ← hU] at d1 d2 d4
    have hsbW : sb < W.heap.size := by omega
    have HF := Kept.mk (fun (V : World) (hb : Below W.heap.size W V) => show V.cell? ⟨sb, 4, none⟩ = some (.slice Al nl cl) ∧ V.cell? ⟨sb, 5, none⟩ = some (.slice Ah nh ch) ∧ V.cell? ⟨sb, 7, none⟩ = some (.int .i64 xp) from
      ⟨(hb.cell (p := ⟨sb, 4, none⟩) hsbW).trans s4, (hb.cell (p := ⟨sb, 5, none⟩) hsbW).trans s5, (hb.cell (p := ⟨sb, 7, none⟩) hsbW).trans s7⟩)
    have HC := Kept.mk (fun (V : World) (hb : Below W.heap.size W V) => show Calls Try.prog 16 #[.slice Ah nh ch, .slice Al nl cl, .int .i64 xp] V (Z.LoadsRes V L2 E2) from by
      rw [hL2, hE2, hnl, hnh]
      have hz := hb.size
      refine Z.loads_any Ah Al c.hs c.ls ch cl xp V ((h4.below (hb.mono (by omega))).mono (by omega)) ((h3.below (hb.mono (by omega))).mono (by omega)) ?_
      have := OK.out.l2
      have := OK.out.h2
      omega)
    have hL2l : L2.length ≤ 1000 := by
      rw [hL2]
      have := loL_len c.hs c.ls xp
      have := OK.out.l2
      have := OK.out.h2
      omega
    have HEQ := Kept.mk (show urg c x.p c.ts ++ loL c.hs c.ls x.p = U ++ L2 ∧ loE c.hs c.ls x.p = E2 by rw [hU, hL2, hE2, hxp]; exact ⟨rfl, rfl⟩)
    have HK := Kept.mk hK
    have HD2 := Kept.mk d2
    have HD := Kept.mk (show q ≤ D by omega)
    have HB : Below W.heap.size W W.drew := (Below.refl _ _).drewN 1
    have HW := Kept.mk hbW
    clear h1 h2 h3 h4 hxp hnl hnh hU hL2 hE2 hK d2 hbx c0 f0 hsh hb0 hbW hsb
    gi_wp2_with fail
    refine wpIn_wide.2 ?_
    go_region_held3 (fun V => V.cell? ⟨sb, 4, none⟩ = some (.slice Al nl cl) ∧ V.cell? ⟨sb, 5, none⟩ = some (.slice Ah nh ch) ∧ V.cell? ⟨sb, 7, none⟩ = some (.int .i64 xp)) ((first | exact HF.out _ HB | go_keep)) (first
      | (go_at_call 16; refine (HC.out _ HB).mono ?_; rintro e w5 ⟨A5, c5, rfl, hR5, hb5, hn5⟩; have HR5 := Kept.mk hR5; have HN5 := Kept.mk hn5; replace HB := HB.trans (hb5.mono HB.size); clear hb5 hR5 hn5))
    all_goals
      rename_i K6 a6 hH6
      have c4 : w5.cell? ⟨q, 0, none⟩ = some (.slice A0 U.length cp) := (HB.cell (p := ⟨q, 0, none⟩) (by show q < _; omega)).trans d4
      have own5 := own_below HD2.out HB
      have hK5 : w5.heap[D]? = some (.deferred (some [])) := (HB.block D (lt_of_block HK.out)).trans HK.out
      have hz5 := HB.size
      refine a6 _ _ ?_
      refine wpIn_wide.2 ?_
      go_wp2_with (at_builtin; refine wpList_app4g rfl _ _ 47 rfl (q + 2) 64 i0 (.agg #[.int .i64 0, .int .i64 0, .int .i64 0, .int .i64 0]) 32 Try.underlying47 hi hz0 hz1 hz2 rfl (by decide) _ U.length (U.flatMap Q4.cells) rfl own5 A5 L2 c5 _ rfl HR5.out HN5.out (by omega) (by omega) ?_; intro v' w6 own6 hg6)
      have hK6 : w6.heap[D]? = some (.deferred (some [])) := (hg6.block D (lt_of_block hK5) (fun e => by have := own_cells own5 D _ e.symm hK5; cases this)).trans hK5
      refine ⟨by simp, .inl ⟨_, _, rfl, run_takeDeferred hK6, ?_⟩⟩
      obtain ⟨A6, cp6, rfl⟩ := own_slice own6
      have own7 := own_book own6 (grownBy_putObj' _ D (.deferred none)) (fun r e => by cases e; exact ⟨_, hK6, rfl⟩)
      refine ⟨.tuple #[.slice A6 (U.length + L2.length) cp6, .int .i64 E2], ?_, ?_⟩
      · simp [results, Try.f11, go_sem]
      · rw [HEQ.out.1, HEQ.out.2]
        rw [← List.flatMap_append] at own7
        refine Z.LoadsRes.own own7 ?_
        rw [← HQ.out]
        have b56 : Below q w5 w6 := below_grown (Below.refl q w5) hg6 own5 (by omega) (by omega)
        exact ((HW.out.trans (HB.mono (by omega))).trans b56).trans ((Below.refl q _).grown (grownBy_putObj' _ D (.deferred none)) (by have := lt_of_block hK6; have := HD.out; omega) (fun k e => by cases e; exact HD.out))
  case stop =>
    rintro D cd pre W hD hpre ⟨hf, hbW⟩ hK
    exact hf.elim
end Go.Proofs.Ytfneloplbkjbhaa
