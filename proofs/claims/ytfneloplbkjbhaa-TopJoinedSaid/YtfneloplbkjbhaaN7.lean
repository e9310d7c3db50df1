/-
  rta's sheet: the walk of base; the iterator over the more urgent; loads.
-/
import Derived.Test.YtfneloplbkjbhaaN6
import Derived.Test.YtfneloplbkjbhaaGA
import Derived.Deep.RegionHeld3
import Derived.Stop.RegionWithIn
namespace Go.Proofs.Ytfneloplbkjbhaa
open Go.RowKit Go.Shelf
set_option linter.unusedVariables false
attribute [local go_sem] Oper.semAt_some
theorem fold_inv {f : Int → Tk → Int} {P : Int → Prop} {Q : Tk → Prop} (hf : ∀ m t, P m → Q t → P (f m t)) : ∀ (ts : List Tk) (m : Int), P m → (∀ t ∈ ts, Q t) → P (ts.foldl f m)
  | [], m, hm, _ => hm
  | t :: r, m, hm, hq => fold_inv hf r _ (hf _ _ hm (hq t (by simp))) (fun u hu => hq u (by simp [hu]))
theorem blk_bd {c : Cf} (ok : OkC c) (p : Int) : 0 ≤ blk c.ts p ∧ blk c.ts p ≤ 1099511627776 := by
  refine fold_inv (P := fun m => 0 ≤ m ∧ m ≤ 1099511627776) (Q := fun t => TB t c.sw) ?_ c.ts 0 (by omega) (fun t ht => ok.tb ht)
  intro m t hm ht
  unfold blkF
  by_cases h1 : p ≤ t.p ∨ t.g < 0
  · rw [if_pos h1]; exact hm
  · rw [if_neg h1]
    by_cases h2 : p ≤ ceil c.ts t.g
    · rw [if_pos h2]
      have := ht.h (by omega)
      have := ht.e1
      have := ht.d1
      omega
    · rw [if_neg h2]; exact hm
def bas (c : Cf) (x : Tk) : Int := x.e + c.sw + blk c.ts x.p
set_option maxHeartbeats 2000000 in
theorem base_any (B sb : Nat) (c : Cf) (x : Tk) (w : World) (h : SH w B sb c x) (hB : B ≤ w.heap.size) (ok : OkC c) (hx : TB x c.sw) :
    Calls Try.prog 13 #[.pointer (some ⟨sb, 0, none⟩)] w fun e w' => e = .returned (.int .i64 (bas c x)) ∧ Below w.heap.size w w' := by
  have HSH := Kept.mk h
  have OK := Kept.mk ok
  obtain ⟨h0, At, ct, Al, cl, Ah, ch, h1, h2, h3, h4⟩ := h
  obtain ⟨xe, hxe⟩ : ∃ xe, xe = x.e := ⟨_, rfl⟩
  obtain ⟨sw, hsw⟩ : ∃ sw, sw = c.sw := ⟨_, rfl⟩
  obtain ⟨bk, hbk⟩ : ∃ bk, bk = blk c.ts x.p := ⟨_, rfl⟩
  have hsb : sb < w.heap.size := by omega
  have s2 : w.cell? ⟨sb, 2, none⟩ = some (.int .i64 sw) := by rw [hsw]; exact cell_of_row _ _ 2 _ _ _ h1
  have s11 : w.cell? ⟨sb, 11, none⟩ = some (.int .i64 xe) := by rw [hxe]; exact cell_of_row _ _ 11 _ _ _ h1
  have HV := Kept.mk (show bas c x = xe + sw + bk by unfold bas; rw [hxe, hsw, hbk])
  have HF := Kept.mk (fun (V : World) (hb : Below w.heap.size w V) => show V.cell? ⟨sb, 2, none⟩ = some (.int .i64 sw) ∧ V.cell? ⟨sb, 11, none⟩ = some (.int .i64 xe) from
    ⟨(hb.cell (p := ⟨sb, 2, none⟩) hsb).trans s2, (hb.cell (p := ⟨sb, 11, none⟩) hsb).trans s11⟩)
  have HC := Kept.mk (fun (V : World) (hb : Below w.heap.size w V) => show Calls Try.prog 18 #[.pointer (some ⟨sb, 0, none⟩)] V (fun e V' => e = .returned (.int .i64 bk) ∧ Below V.heap.size V V') from by
    rw [hbk]
    exact blocking_any B sb c x V (HSH.out.below (hb.mono hB)) (by have := hb.size; omega) OK.out)
  have y1 : 0 ≤ xe ∧ xe ≤ 1099511627776 := by have := hx.e0; have := hx.e1; have := hx.d1; omega
  have y2 : 0 ≤ sw ∧ sw ≤ 1099511627776 := by have := ok.s1; have := ok.s2; omega
  have y3 : 0 ≤ bk ∧ bk ≤ 1099511627776 := by rw [hbk]; exact blk_bd ok _
  obtain ⟨y11, y12⟩ := y1
  obtain ⟨y21, y22⟩ := y2
  obtain ⟨y31, y32⟩ := y3
  have HR := Kept.mk (show IntKind.i64.wrap (IntKind.i64.wrap (xe + sw) + bk) = bas c x by
    have w1 : IntKind.i64.wrap (xe + sw) = xe + sw := IntWalk.i64_in _ (by omega)
    have w2 : IntKind.i64.wrap (xe + sw + bk) = xe + sw + bk := IntWalk.i64_in _ (by omega)
    rw [HV.out, w1, w2])
  have HB : Below w.heap.size w w.drew := (Below.refl _ _).drewN 1
  clear h0 h1 h2 h3 h4 hxe hsw hbk ok hx
  go_enter Try.func13, Try.ntmps13
  go_upto_region 1 with fail
  go_region_held3 (fun V => V.cell? ⟨sb, 2, none⟩ = some (.int .i64 sw) ∧ V.cell? ⟨sb, 11, none⟩ = some (.int .i64 xe)) ((first | exact HF.out _ HB | go_keep)) (first
    | (go_at_call 18; refine (HC.out _ HB).mono ?_; rintro e w5 ⟨rfl, hb5⟩; replace HB := HB.trans (hb5.mono HB.size); clear hb5))
  all_goals
    go_wp2
    go_ret
    exact ⟨ret_i HR.out, HB⟩
/-- A load. -/
def ldT (c : Cf) (t : Tk) : Q4 := ⟨t.b, lagV c.mn t, max 1 (t.b - lagV c.mn t), t.e + c.sw⟩
def urg (c : Cf) (p : Int) (ts : List Tk) : List Q4 := (ts.filter fun t => decide (p < t.p)).map (ldT c)
theorem urg_succ {c : Cf} {p : Int} {ts : List Tk} {k : Nat} {x : Tk} (h : ts[k]? = some x) : urg c p (ts.take (k + 1)) = urg c p (ts.take k) ++ (if p < x.p then [ldT c x] else []) := by
  unfold urg
  rw [List.take_add_one, h, List.filter_append, List.map_append]
  by_cases hp : p < x.p
  · simp [hp]
  · simp [hp]
theorem urg_len {c : Cf} {p : Int} (ts : List Tk) : (urg c p ts).length ≤ ts.length := by
  unfold urg
  rw [List.length_map]
  exact List.length_filter_le _ _
abbrev encQ (x : Q4) : Array Value := #[.agg #[.int .i64 x.a, .int .i64 x.b, .int .i64 x.c, .int .i64 x.d]]
theorem urgent_any (sb : Nat) (w : World) : Calls Try.prog 15 #[.pointer (some ⟨sb, 0, none⟩)] w fun e w' => ∃ b, e = .returned (.func (.func 20) #[] #[.pointer (some ⟨b, 0, none⟩)]) ∧ b = w.heap.size ∧ w'.heap[b]? = some (.cells #[.pointer (some ⟨sb, 0, none⟩)] 41) ∧ w'.heap.size = w.heap.size + 1 ∧ Below w.heap.size w w' := by
  go_enter Try.func15, Try.ntmps15
  go_wp2
  go_ret
  exact ⟨_, rfl, rfl, heap_alloc_new _ _, by simp, below_box _ _⟩
theorem KeepB.rt {w w' : World} {B : Nat} {A : Option Addr} {ts : List Tk} (h : RT w B A ts) (hs : ∀ i, i < B → w'.heap[i]? = w.heap[i]?) : RT w' B A ts := fun h0 => by
  obtain ⟨b, off, e, h1, h2⟩ := h h0
  exact ⟨b, off, e, h1, fun j x o u hj ho => (World.cell?_of_block (a := ⟨b, off + j * 10 + o, none⟩) (hs b h1)).trans (h2 j x o u hj ho)⟩
theorem KeepB.r4 {w w' : World} {B : Nat} {A : Option Addr} {xs : List Q4} (h : R4 w B A xs) (hs : ∀ i, i < B → w'.heap[i]? = w.heap[i]?) : R4 w' B A xs := fun h0 => by
  obtain ⟨b, off, e, h1, h2⟩ := h h0
  have q : ∀ o, w'.cell? ⟨b, o, none⟩ = w.cell? ⟨b, o, none⟩ := fun o => World.cell?_of_block (a := ⟨b, o, none⟩) (hs b h1)
  exact ⟨b, off, e, h1, fun j x hj => ⟨(q _).trans (h2 j x hj).1, (q _).trans (h2 j x hj).2.1, (q _).trans (h2 j x hj).2.2.1, (q _).trans (h2 j x hj).2.2.2⟩⟩
theorem KeepB.sh {w w' : World} {B sb : Nat} {c : Cf} {x : Tk} (h : SH w B sb c x) (hs : ∀ i, i < B → w'.heap[i]? = w.heap[i]?) : SH w' B sb c x := by
  obtain ⟨h0, At, ct, Al, cl, Ah, ch, h1, h2, h3, h4⟩ := h
  exact ⟨h0, At, ct, Al, cl, Ah, ch, (hs _ h0).trans h1, KeepB.rt h2 hs, KeepB.r4 h3 hs, KeepB.r4 h4 hs⟩
/-- What a round keeps: all blocks below n₀ but x. -/
structure KpX (n₀ x : Nat) (W W' : World) : Prop where
  size : W.heap.size ≤ W'.heap.size
  block : ∀ i, i < n₀ → i ≠ x → W'.heap[i]? = W.heap[i]?
theorem KpX.trans {n₀ x : Nat} {A B C : World} (h : KpX n₀ x A B) (k : KpX n₀ x B C) : KpX n₀ x A C := ⟨Nat.le_trans h.size k.size, fun i hi hx => (k.block i hi hx).trans (h.block i hi hx)⟩
theorem KpX.of_below {n₀ x : Nat} {A B : World} (h : Below n₀ A B) : KpX n₀ x A B := ⟨h.size, fun i hi _ => h.block i hi⟩
theorem KpX.book {n₀ x : Nat} {w : World} (hn : n₀ ≤ w.heap.size) (W : World) (l : Nat) (o o' : Obj) (hl : w.heap.size ≤ l) (h : W.heap[l]? = some o) (hc : o.isCells = false) (hw : o.isWalk = false) : KpX n₀ x W (W.putObj l o') :=
  KpX.of_below (belowK_b hn W l o o' hl h hc hw)
set_option maxRecDepth 100000 in
set_option maxHeartbeats 8000000 in
theorem urgent_in (n : Nat) (hn : 1 ≤ n) (l bc B sb n₀ x₀ : Nat) (c : Cf) (x : Tk) (J Jx : List Q4 → World → Prop) (W : World)
    (hJ : AbidesFrom W.heap.size J) (hbx : W.heap[bc]? = some (.cells #[.pointer (some ⟨sb, 0, none⟩)] 41)) (hbn : bc < n₀) (hbx0 : bc ≠ x₀) (hSH : SH W B sb c x) (hB : B ≤ n₀) (hBx : B ≤ x₀) (hn0 : n₀ ≤ W.heap.size) (ok : OkC c)
    (hY : ∀ pre y W1, J pre W1 → pre.length < 32 → YieldAt Fence.wide (n - 1) Try.prog l (encQ y) W1 fun e W' =>
      (e = .returned (.bool true) ∧ J (pre ++ [y]) W' ∧ KpX n₀ x₀ W1 W') ∨ (e = .returned (.bool false) ∧ Jx (pre ++ [y]) W'))
    (h0 : J [] W) :
    CallsIn Fence.wide n Try.prog 20 #[.func (.yield l) #[] #[], .pointer (some ⟨bc, 0, none⟩)] W fun e W' => (∃ v, e = .returned v) ∧
      (J (urg c x.p c.ts) W' ∨ (∃ pre, Jx pre W')) := by
  have HJB := Kept.mk (fun (pre : List Q4) (V V' : World) (h : J pre V) (hb : Below V.heap.size V V') => hJ pre V V' none h ⟨hb.os, hb.tape, hb.output, hb.size, fun i hi _ => hb.block i hi⟩ (fun r e => by cases e))
  have HY := Kept.mk hY
  have OK := Kept.mk ok
  have hl := ok.t2
  obtain ⟨xp, hxp⟩ : ∃ xp, xp = x.p := ⟨_, rfl⟩
  obtain ⟨sw, hsw⟩ : ∃ sw, sw = c.sw := ⟨_, rfl⟩
  obtain ⟨nt, hnt⟩ : ∃ nt, nt = c.ts.length := ⟨_, rfl⟩
  have hSH' := hSH
  obtain ⟨hsb, At, ct, Al, cl, Ah, ch, h1, h2, h3, h4⟩ := hSH'
  obtain ⟨X, hX⟩ : ∃ X : Array Value, X = #[.int .i64 c.mn, .int .i64 c.mx, .int .i64 c.sw, .slice At c.ts.length ct, .slice Al c.ls.length cl, .slice Ah c.hs.length ch, .int .u8 x.k, .int .i64 x.p, .int .i64 x.b, .int .i64 x.c, .int .i64 x.d, .int .i64 x.e, .int .i64 x.f, .int .i64 x.g, .int .i64 x.h, .int .i64 x.i] := ⟨_, rfl⟩
  rw [← hX] at h1
  have X3 := Kept.mk (show X[3]? = some (.slice At nt ct) by rw [hX, hnt]; rfl)
  have X2 := Kept.mk (show X[2]? = some (.int .i64 sw) by rw [hX, hsw]; rfl)
  have X7 := Kept.mk (show X[7]? = some (.int .i64 xp) by rw [hX, hxp]; rfl)
  have HNT := Kept.mk hnt
  have HSW := Kept.mk hsw
  have ws0 : 0 ≤ sw := by rw [hsw]; exact ok.s1
  have ws1 : sw ≤ 1099511627776 := by rw [hsw]; exact ok.s2
  have lm0 := ok.m1
  have lm1 := ok.m2
  rw [← hnt] at hl
  have HI := Kept.mk (show SH W B sb c x ∧ RT W B At c.ts ∧ W.heap[sb]? = some (.cells X 46) from ⟨hSH, h2, h1⟩)
  have HBX := Kept.mk hbx
  have HJ0 := Kept.mk h0
  have b0 : W.cell? ⟨bc, 0, none⟩ = some (.pointer (some ⟨sb, 0, none⟩)) := cell_of_row _ _ 0 _ _ _ hbx
  have s3 : W.cell? ⟨sb, 3, none⟩ = some (.slice At nt ct) := (cell_of_row _ _ 3 _ _ _ h1).trans X3.out
  have HN0 := Kept.mk hn0
  rw [← hxp]
  clear hJ hY h0 hSH hbx ok hX hnt hsw hxp h1 h2 h3 h4
  refine callsIn_of_wp Try.func20 rfl trivial ?_ rfl
  simp only [Try.ntmps20, List.size_toArray, List.length_cons, List.length_nil, Nat.reduceAdd, Nat.reduceSub, Array.replicate_succ, Array.replicate_zero, List.push_toArray, List.append_toArray, List.nil_append, List.cons_append]
  gi_wp2_with fail
  gi_loopw [13] (fun t wr => ∃ k : Nat, k ≤ nt ∧ t = .int .i64 k ∧ J (urg c xp (c.ts.take k)) wr ∧ Kept (wr.heap[bc]? = some (.cells #[.pointer (some ⟨sb, 0, none⟩)] 41)) ∧ Kept (SH wr B sb c x ∧ RT wr B At c.ts ∧ wr.heap[sb]? = some (.cells X 46)) ∧ Kept (n₀ ≤ wr.heap.size)) (fun t _ => nt - (intOf t).toNat)
  case atStart => exact ⟨0, by omega, rfl, HJ0.out, HBX, HI, HN0⟩
  case round =>
    clear HJ0 HBX HI b0 s3 HN0
    obtain ⟨k, hk, rfl, hj, HBX, HI, HN0⟩ := hrel
    by_cases hlt : k < nt
    · have ik : (k : Int) < (nt : Int) := by omega
      obtain ⟨y, hy⟩ : ∃ y, c.ts[k]? = some y := ⟨c.ts[k]'(by have := HNT.out; omega), List.getElem?_eq_getElem _⟩
      have htb := OK.out.tb (List.mem_of_getElem? hy)
      have HS := Kept.mk (urg_succ (c := c) (p := xp) hy)
      have HUL := Kept.mk (show (urg c xp (c.ts.take k)).length < 32 by have := urg_len (c := c) (p := xp) (c.ts.take k); rw [List.length_take] at this; omega)
      obtain ⟨b, off, rfl, hbB, hc⟩ := HI.out.2.1 (by have := HNT.out; omega)
      obtain ⟨tk, tp, t2, t3, t4, t5, t6, t7, t8, t9⟩ := y
      have e0 := hc k _ 0 _ hy rfl
      have e1 := hc k _ 1 _ hy rfl
      have e2 := hc k _ 2 _ hy rfl
      have e3 := hc k _ 3 _ hy rfl
      have e4 := hc k _ 4 _ hy rfl
      have e5 := hc k _ 5 _ hy rfl
      have e6 := hc k _ 6 _ hy rfl
      have e7 := hc k _ 7 _ hy rfl
      have e8 := hc k _ 8 _ hy rfl
      have e9 := hc k _ 9 _ hy rfl
      rw [Nat.add_zero] at e0
      have q1 := htb.b0
      have q2 := htb.b1
      have q3 := htb.e0
      have q4 : t5 ≤ 1099511627776 := Int.le_trans htb.e1 htb.d1
      simp only at q1 q2 q3
      have hba := below_box wr (.cells #[.int .u8 tk, .int .i64 tp, .int .i64 t2, .int .i64 t3, .int .i64 t4, .int .i64 t5, .int .i64 t6, .int .i64 t7, .int .i64 t8, .int .i64 t9] 31)
      have hn0 := HN0.out
      clear hc hy htb
      gi_wp2_with fail
      obtain ⟨Wa, hWa⟩ : ∃ Wa, Wa = wr.alloc (.cells #[.int .u8 tk, .int .i64 tp, .int .i64 t2, .int .i64 t3, .int .i64 t4, .int .i64 t5, .int .i64 t6, .int .i64 t7, .int .i64 t8, .int .i64 t9] 31) := ⟨_, rfl⟩
      obtain ⟨xb, hxb⟩ : ∃ xb, xb = wr.heap.size := ⟨_, rfl⟩
      have hxbx : Wa.heap[xb]? = some (.cells #[.int .u8 tk, .int .i64 tp, .int .i64 t2, .int .i64 t3, .int .i64 t4, .int .i64 t5, .int .i64 t6, .int .i64 t7, .int .i64 t8, .int .i64 t9] 31) := by rw [hWa, hxb]; exact heap_alloc_new _ _
      rw [← hWa, ← hxb]
      rw [← hWa] at hba
      clear hWa hxb e0 e1 e2 e3 e4 e5 e6 e7 e8 e9
      have b1 : Wa.cell? ⟨bc, 0, none⟩ = some (.pointer (some ⟨sb, 0, none⟩)) := cell_of_row _ _ 0 _ _ _ ((hba.block _ (lt_of_block HBX.out)).trans HBX.out)
      have s7 : Wa.cell? ⟨sb, 7, none⟩ = some (.int .i64 xp) := (cell_of_row _ _ 7 _ _ _ ((hba.block _ (lt_of_block HI.out.2.2)).trans HI.out.2.2)).trans X7.out
      have x1 : Wa.cell? ⟨xb, 1, none⟩ = some (.int .i64 tp) := cell_of_row _ _ 1 _ _ _ hxbx
      have HXB := Kept.mk hxbx
      clear hxbx
      by_cases hp : xp < tp
      · have d1 : decide (tp ≤ xp) = false := decide_eq_false (by omega)
        rw [if_pos hp] at HS
        clear hp
        refine wpIn_wide.2 ?_
        go_quiet (fail)
        obtain ⟨Wb, hWb⟩ : ∃ Wb, Wb = Wa.drewN nq := ⟨_, rfl⟩
        have hbb : Below wr.heap.size wr Wb := by rw [hWb]; exact hba.drewN nq
        have hxb : Wb.heap[xb]? = some (.cells #[.int .u8 tk, .int .i64 tp, .int .i64 t2, .int .i64 t3, .int .i64 t4, .int .i64 t5, .int .i64 t6, .int .i64 t7, .int .i64 t8, .int .i64 t9] 31) := by rw [hWb]; exact HXB.out
        rw [← hWb]
        clear hWb b1 s7 x1 hba HXB
        have hzb := hbb.size
        have HJb := Kept.mk (HJB.out _ _ _ hj hbb)
        have HIb := Kept.mk (show SH Wb B sb c x ∧ RT Wb B (some ⟨b, off, none⟩) c.ts ∧ Wb.heap[sb]? = some (.cells X 46) from ⟨HI.out.1.below (hbb.mono (by omega)), HI.out.2.1.below (hbb.mono (by omega)), (hbb.block _ (lt_of_block HI.out.2.2)).trans HI.out.2.2⟩)
        have HBb := Kept.mk ((hbb.block _ (lt_of_block HBX.out)).trans HBX.out)
        have b1 : Wb.cell? ⟨bc, 0, none⟩ = some (.pointer (some ⟨sb, 0, none⟩)) := cell_of_row _ _ 0 _ _ _ HBb.out
        have x0 : Wb.cell? ⟨xb, 0, none⟩ = some (.int .u8 tk) := cell_of_row _ _ 0 _ _ _ hxb
        have x1 : Wb.cell? ⟨xb, 1, none⟩ = some (.int .i64 tp) := cell_of_row _ _ 1 _ _ _ hxb
        have x2 : Wb.cell? ⟨xb, 2, none⟩ = some (.int .i64 t2) := cell_of_row _ _ 2 _ _ _ hxb
        have x3 : Wb.cell? ⟨xb, 3, none⟩ = some (.int .i64 t3) := cell_of_row _ _ 3 _ _ _ hxb
        have x4 : Wb.cell? ⟨xb, 4, none⟩ = some (.int .i64 t4) := cell_of_row _ _ 4 _ _ _ hxb
        have x5 : Wb.cell? ⟨xb, 5, none⟩ = some (.int .i64 t5) := cell_of_row _ _ 5 _ _ _ hxb
        have x6 : Wb.cell? ⟨xb, 6, none⟩ = some (.int .i64 t6) := cell_of_row _ _ 6 _ _ _ hxb
        have x7 : Wb.cell? ⟨xb, 7, none⟩ = some (.int .i64 t7) := cell_of_row _ _ 7 _ _ _ hxb
        have x8 : Wb.cell? ⟨xb, 8, none⟩ = some (.int .i64 t8) := cell_of_row _ _ 8 _ _ _ hxb
        have x9 : Wb.cell? ⟨xb, 9, none⟩ = some (.int .i64 t9) := cell_of_row _ _ 9 _ _ _ hxb
        have hnb : n₀ ≤ Wb.heap.size := by omega
        clear hj HI HBX HN0 hn0 hzb hbb
        gi_wp2_with fail
        refine ⟨trivial, ?_⟩
        refine (callsIn_wide.2 (lag_any B sb c x ⟨tk, tp, t2, t3, t4, t5, t6, t7, t8, t9⟩ Wb HIb.out.1 (by omega))).mono ?_
        rintro e w5 ⟨rfl, hb5⟩
        obtain ⟨lg, hlg⟩ : ∃ lg, lg = lagV c.mn ⟨tk, tp, t2, t3, t4, t5, t6, t7, t8, t9⟩ := ⟨_, rfl⟩
        have lg0 : 0 ≤ lg := by rw [hlg]; unfold lagV; split <;> omega
        have lg1 : lg ≤ 1073741824 := by rw [hlg]; unfold lagV; split <;> omega
        have HS' := Kept.mk (show urg c xp (c.ts.take (k + 1)) = urg c xp (c.ts.take k) ++ [⟨t2, lg, max 1 (t2 - lg), t5 + sw⟩] by rw [HS.out, HSW.out, hlg]; rfl)
        rw [← hlg]
        have hz5 := hb5.size
        have HJ5 := Kept.mk (HJB.out _ _ _ HJb.out hb5)
        have HI5 := Kept.mk (show SH w5 B sb c x ∧ RT w5 B (some ⟨b, off, none⟩) c.ts ∧ w5.heap[sb]? = some (.cells X 46) from ⟨HIb.out.1.below (hb5.mono (by omega)), HIb.out.2.1.below (hb5.mono (by omega)), (hb5.block _ (lt_of_block HIb.out.2.2)).trans HIb.out.2.2⟩)
        have HB5 := Kept.mk ((hb5.block _ (lt_of_block HBb.out)).trans HBb.out)
        have hx5 := (hb5.block _ (lt_of_block hxb)).trans hxb
        have y2 : w5.cell? ⟨xb, 2, none⟩ = some (.int .i64 t2) := cell_of_row _ _ 2 _ _ _ hx5
        have hn5 : n₀ ≤ w5.heap.size := by omega
        clear x0 x1 x2 x3 x4 x5 x6 x7 x8 x9 b1 hxb hlg hb5 hz5 HJb HIb HBb HS hnb
        gi_wp2_with fail
        obtain ⟨mx, hmx⟩ : ∃ mx, mx = max 1 (t2 - lg) := ⟨_, rfl⟩
        rw [← hmx] at HS' ⊢
        obtain ⟨dd, hdd⟩ : ∃ dd, dd = w5.heap.size := ⟨_, rfl⟩
        rw [← hdd]
        generalize hWe : w5.alloc _ = We
        have hd : ∃ ty, We.heap[dd]? = some (.cells #[.int .i64 t2, .int .i64 lg, .int .i64 mx] ty) := ⟨_, by rw [← hWe, hdd]; exact heap_alloc_new _ _⟩
        have hbe : Below w5.heap.size w5 We.drew := by rw [← hWe]; exact (below_box _ _).drewN 1
        obtain ⟨ty, hd⟩ := hd
        have hze : w5.heap.size ≤ We.heap.size := hbe.size
        have HJe := HJB.out _ _ _ HJ5.out hbe
        obtain ⟨fn, tmps, assign, body, hy, hRd⟩ := HY.out _ ⟨t2, lg, mx, t5 + sw⟩ _ HJe HUL.out
        dsimp only [encQ] at hy
        have hwr : IntKind.i64.wrap (t5 + sw) = t5 + sw := IntWalk.i64_in _ (by omega)
        rw [← hwr] at hy
        clear hwr
        have HR := Kept.mk (hRd.mono (R' := fun e w7 => ∃ bv, e = .returned (.bool bv) ∧ ((bv = true ∧ J (urg c xp (c.ts.take (k + 1))) w7 ∧ KpX n₀ x₀ We w7) ∨ (bv = false ∧ ∃ pre, Jx pre w7))) (by
          rintro e w7 (⟨rfl, h1, h2⟩ | ⟨rfl, h1⟩)
          · exact ⟨true, rfl, .inl ⟨rfl, by rw [HS'.out]; exact h1, ⟨h2.size, h2.block⟩⟩⟩
          · exact ⟨false, rfl, .inr ⟨rfl, _, h1⟩⟩))
        have HIe := Kept.mk (show SH We B sb c x ∧ RT We B (some ⟨b, off, none⟩) c.ts ∧ We.heap[sb]? = some (.cells X 46) from
          have hbe' : Below w5.heap.size w5 We := by rw [← hWe]; exact below_box _ _
          ⟨HI5.out.1.below (hbe'.mono (by omega)), HI5.out.2.1.below (hbe'.mono (by omega)), (hbe'.block _ (lt_of_block HI5.out.2.2)).trans HI5.out.2.2⟩)
        have HBe := Kept.mk ((hbe.block _ (lt_of_block HB5.out)).trans HB5.out)
        have HXe := (hbe.block _ (lt_of_block hx5)).trans hx5
        have v0 : We.cell? ⟨dd, 0, none⟩ = some (.int .i64 t2) := cell_of_row _ _ 0 _ _ _ hd
        have v1 : We.cell? ⟨dd, 1, none⟩ = some (.int .i64 lg) := cell_of_row _ _ 1 _ _ _ hd
        have v2 : We.cell? ⟨dd, 2, none⟩ = some (.int .i64 mx) := cell_of_row _ _ 2 _ _ _ hd
        have v5 : We.cell? ⟨xb, 5, none⟩ = some (.int .i64 t5) := cell_of_row _ _ 5 _ _ _ (show We.heap[xb]? = _ from HXe)
        have vb : We.cell? ⟨bc, 0, none⟩ = some (.pointer (some ⟨sb, 0, none⟩)) := cell_of_row _ _ 0 _ _ _ (show We.heap[bc]? = _ from HBe.out)
        have vs : We.cell? ⟨sb, 2, none⟩ = some (.int .i64 sw) := (cell_of_row _ _ 2 _ _ _ HIe.out.2.2).trans X2.out
        clear hWe hd hbe HJe HJ5 HI5 HB5 hx5 HXe y2 hdd hRd HS' hmx
        gi_region_with (refine HR.out.mono ?_; rintro e w7 ⟨bv, rfl, hh⟩)
        all_goals
          rcases hh with ⟨rfl, hj7, hk7⟩ | ⟨rfl, pre, hjx⟩
          · have HJ7 := Kept.mk hj7
            have HB7 := Kept.mk ((hk7.block bc hbn hbx0).trans HBe.out)
            have hsame : ∀ i, i < B → w7.heap[i]? = We.heap[i]? := fun i hi => hk7.block i (by omega) (by omega)
            have HI7 := Kept.mk (show SH w7 B sb c x ∧ RT w7 B (some ⟨b, off, none⟩) c.ts ∧ w7.heap[sb]? = some (.cells X 46) from ⟨KeepB.sh HIe.out.1 hsame, KeepB.rt HIe.out.2.1 hsame, (hsame _ hsb).trans HIe.out.2.2⟩)
            have hn7 : n₀ ≤ w7.heap.size := by have := hk7.size; omega
            clear hj7 hk7 hsame v0 v1 v2 v5 vb vs HIe HBe hy HR
            gi_wp2
            go_roundw
            case rel => exact ⟨k + 1, by omega, by go_num, HJ7.out, HB7, HI7, ⟨hn7⟩⟩
            case measure => simp [intOf]; omega
          · gi_wp2
            refine bodyPost_ret (results_none rfl _ _ _) rfl ?_
            exact ⟨⟨_, rfl⟩, .inr ⟨_, hjx⟩⟩
      · have d1 : decide (tp ≤ xp) = true := decide_eq_true (by omega)
        rw [if_neg hp, List.append_nil] at HS
        clear hp
        refine wpIn_wide.2 ?_
        go_quiet (fail)
        have hbb : Below wr.heap.size wr (Wa.drewN nq) := hba.drewN nq
        have hzb := hbb.size
        have HJb := Kept.mk (HJB.out _ _ _ hj hbb)
        rw [← HS.out] at HJb
        have HIb := Kept.mk (show SH (Wa.drewN nq) B sb c x ∧ RT (Wa.drewN nq) B (some ⟨b, off, none⟩) c.ts ∧ (Wa.drewN nq).heap[sb]? = some (.cells X 46) from ⟨HI.out.1.below (hbb.mono (by omega)), HI.out.2.1.below (hbb.mono (by omega)), (hbb.block _ (lt_of_block HI.out.2.2)).trans HI.out.2.2⟩)
        have HBb := Kept.mk ((hbb.block _ (lt_of_block HBX.out)).trans HBX.out)
        have hnb : n₀ ≤ (Wa.drewN nq).heap.size := by omega
        gi_wp2
        go_roundw
        case rel => exact ⟨k + 1, by omega, by go_num, HJb.out, HBb, HIb, ⟨hnb⟩⟩
        case measure => simp [intOf]; omega
    · have hke : k = nt := by omega
      rw [hke, HNT.out, List.take_length] at hj
      have HJ1 := Kept.mk hj
      clear hke hj HBX HI HN0
      gi_wp2
      go_end0
      exact ⟨⟨_, rfl⟩, .inl HJ1.out⟩
end Go.Proofs.Ytfneloplbkjbhaa
