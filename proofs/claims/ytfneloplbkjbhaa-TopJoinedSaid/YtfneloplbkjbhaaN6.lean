/-
  rta's sheet: the walks of lag, ceiling, blocking, base.
-/
import Derived.Test.YtfneloplbkjbhaaN5
import Derived.BigQuiet
import Derived.Deep.QuietTactic
namespace Go.Proofs.Ytfneloplbkjbhaa
open Go.RowKit Go.Shelf
set_option linter.unusedVariables false
attribute [local go_sem] Oper.semAt_some
/-- A configuration that is all right. -/
structure OkC (c : Cf) : Prop where
  m1 : 1 ≤ c.mn
  m2 : c.mn ≤ 1073741824
  s1 : 0 ≤ c.sw
  s2 : c.sw ≤ 1099511627776
  t1 : 1 ≤ c.ts.length
  t2 : c.ts.length ≤ 32
  l2 : c.ls.length ≤ 64
  h2 : c.hs.length = c.ls.length
  tk : ∀ t ∈ c.ts, tkE t c.sw = 0
theorem mem_ixF {α : Type} {p : Int} {f : α → Int} {l : List α} {x : α} (h : x ∈ l) : ∃ k : Nat, (⟨p, (k : Int), f x⟩ : Ft) ∈ ixF p f l l.length := by
  obtain ⟨k, hk⟩ := List.mem_iff_getElem?.1 h
  have hlt : k < l.length := (List.getElem?_eq_some_iff.1 hk).1
  exact ⟨k, List.mem_map.2 ⟨k, List.mem_range.2 hlt, by rw [hk]; rfl⟩⟩
theorem okC_of {c : Cf} (h : ∀ x ∈ allF c, x.y = 0) : OkC c := by
  have a1 : tmE c.mn c.mx = 0 := h ⟨1, 0, tmE c.mn c.mx⟩ (by simp [allF, hdF])
  have a2 : chE c.sw = 0 := h ⟨2, 0, chE c.sw⟩ (by simp [allF, hdF])
  have a3 : maE c = 0 := h ⟨3, 0, maE c⟩ (by simp [allF, hdF])
  have b1 : 1 ≤ c.mn ∧ c.mx < 2147483648 ∧ 2 * c.mn ≤ c.mx := by unfold tmE at a1; split at a1 <;> omega
  have b2 : 0 ≤ c.sw ∧ c.sw ≤ 1099511627776 := by unfold chE at a2; split at a2 <;> omega
  have b3 : 1 ≤ c.ts.length ∧ c.ts.length ≤ 32 ∧ c.ls.length ≤ 64 ∧ c.hs.length = c.ls.length := by unfold maE at a3; split at a3 <;> omega
  refine ⟨b1.1, by omega, b2.1, b2.2, b3.1, b3.2.1, b3.2.2.1, b3.2.2.2, fun t ht => ?_⟩
  obtain ⟨k, hk⟩ := mem_ixF (p := 4) (f := fun t => tkE t c.sw) ht
  exact h _ (by simp only [allF, List.mem_append]; exact .inl (.inl (.inl (.inr hk))))
/-- What a task that is all right has. -/
structure TB (t : Tk) (sw : Int) : Prop where
  k : t.k = 1 ∨ t.k = 2
  p0 : 0 ≤ t.p
  p1 : t.p ≤ 63
  g : t.g < 16
  b0 : 1 ≤ t.b
  b1 : t.b ≤ 1099511627776
  d0 : 1 ≤ t.d
  d1 : t.d ≤ 1099511627776
  db : t.d ≤ t.b
  e0 : 1 ≤ t.e
  e1 : t.e ≤ t.d
  es : sw ≤ t.d - t.e
  h : 0 ≤ t.g → 0 ≤ t.h ∧ t.h < t.i ∧ t.i ≤ t.e
theorem tb_of {t : Tk} {sw : Int} (h : tkE t sw = 0) : TB t sw := by
  unfold tkE at h
  split at h
  · omega
  split at h
  · omega
  split at h
  · omega
  split at h
  · omega
  split at h
  · omega
  split at h
  · omega
  split at h
  · omega
  · rename_i a1 a2 a3 a4 a5 a6 a7
    constructor <;> omega
theorem OkC.tb {c : Cf} (h : OkC c) {t : Tk} (ht : t ∈ c.ts) : TB t c.sw := tb_of (h.tk t ht)
/-- A sheet in memory. -/
def SH (w : World) (B sb : Nat) (c : Cf) (x : Tk) : Prop := sb < B ∧ ∃ At ct Al cl Ah ch,
  w.heap[sb]? = some (.cells #[.int .i64 c.mn, .int .i64 c.mx, .int .i64 c.sw, .slice At c.ts.length ct, .slice Al c.ls.length cl, .slice Ah c.hs.length ch, .int .u8 x.k, .int .i64 x.p, .int .i64 x.b, .int .i64 x.c, .int .i64 x.d, .int .i64 x.e, .int .i64 x.f, .int .i64 x.g, .int .i64 x.h, .int .i64 x.i] 46) ∧
  RT w B At c.ts ∧ R4 w B Al c.ls ∧ R4 w B Ah c.hs
theorem SH.below {w w' : World} {B sb : Nat} {c : Cf} {x : Tk} (h : SH w B sb c x) (hb : Below B w w') : SH w' B sb c x := by
  obtain ⟨h0, At, ct, Al, cl, Ah, ch, h1, h2, h3, h4⟩ := h
  exact ⟨h0, At, ct, Al, cl, Ah, ch, (hb.block _ h0).trans h1, h2.below hb, h3.below hb, h4.below hb⟩
def lagV (mn : Int) (t : Tk) : Int := if t.k = 1 then mn else 0
theorem lag_any (B sb : Nat) (c : Cf) (x t : Tk) (w : World) (h : SH w B sb c x) (hB : B ≤ w.heap.size) :
    Calls Try.prog 10 #[.pointer (some ⟨sb, 0, none⟩), .agg t.arr] w fun e w' => e = .returned (.int .i64 (lagV c.mn t)) ∧ Below w.heap.size w w' := by
  obtain ⟨h0, At, ct, Al, cl, Ah, ch, h1, h2, h3, h4⟩ := h
  have c0 : w.cell? ⟨sb, 0, none⟩ = some (.int .i64 c.mn) := cell_of_row _ _ 0 _ _ _ h1
  obtain ⟨k, p, b, tc, d, e, f, g, h, i⟩ := t
  have hlt : sb < w.heap.size := by omega
  clear h1 h2 h3 h4
  by_cases hk : k = 1
  · have dk : (k == 1) = true := by simp [hk]
    go_enter Try.func10, Try.ntmps10
    go_wp2
    go_ret
    exact ⟨ret_i (by simp [lagV, hk]), below_box _ _⟩
  · have dk : (k == 1) = false := by simp [hk]
    go_enter Try.func10, Try.ntmps10
    go_wp2
    go_ret
    exact ⟨ret_i (by simp [lagV, hk]), below_box _ _⟩
theorem fold_succ {β : Type} (f : β → Tk → β) (z : β) {ts : List Tk} {k : Nat} {x : Tk} (h : ts[k]? = some x) : (ts.take (k + 1)).foldl f z = f ((ts.take k).foldl f z) x := by
  rw [List.take_add_one, h, List.foldl_append]; rfl
def ceilF (r : Int) (m : Int) (t : Tk) : Int := if t.g = r then max m t.p else m
def ceil (ts : List Tk) (r : Int) : Int := ts.foldl (ceilF r) 0
set_option maxHeartbeats 2000000 in
theorem ceiling_any (B sb : Nat) (c : Cf) (x : Tk) (r : Int) (w : World) (h : SH w B sb c x) (hB : B ≤ w.heap.size) (hl : c.ts.length ≤ 32) :
    Calls Try.prog 26 #[.pointer (some ⟨sb, 0, none⟩), .int .i64 r] w fun e w' => e = .returned (.int .i64 (ceil c.ts r)) ∧ Below w.heap.size w w' := by
  obtain ⟨h0, At, ct, Al, cl, Ah, ch, h1, h2, h3, h4⟩ := h
  obtain ⟨nt, hnt⟩ : ∃ nt, nt = c.ts.length := ⟨_, rfl⟩
  have c3 : w.cell? ⟨sb, 3, none⟩ = some (.slice At nt ct) := by rw [hnt]; exact cell_of_row _ _ 3 _ _ _ h1
  have HT := Kept.mk h2
  have HNT := Kept.mk hnt
  rw [← hnt] at hl
  clear h1 h2 h3 h4 h0 hnt
  go_enter Try.func26, Try.ntmps26
  go_wp2_with fail
  go_loopw [5, 14] (fun u t wr => ∃ k : Nat, k ≤ nt ∧ t = .int .i64 k ∧ u = .int .i64 ((c.ts.take k).foldl (ceilF r) 0) ∧ Below w.heap.size w wr) (fun _ t _ => nt - (intOf t).toNat)
  case atStart => exact ⟨0, by omega, rfl, rfl, Below.refl _ _⟩
  case round =>
    obtain ⟨k, hk, rfl, rfl, hb⟩ := hrel
    by_cases hlt : k < nt
    · have ik : (k : Int) < (nt : Int) := by omega
      obtain ⟨y, hy⟩ : ∃ y, c.ts[k]? = some y := ⟨c.ts[k]'(by have := HNT.out; omega), List.getElem?_eq_getElem _⟩
      have HS := Kept.mk (fold_succ (ceilF r) 0 hy)
      obtain ⟨b, off, rfl, hbB, hc⟩ := HT.out (by have := HNT.out; omega)
      have g : ∀ o u, y.arr[o]? = some u → wr.cell? ⟨b, off + k * 10 + o, none⟩ = some u := fun o u hu => (hb.cell (p := ⟨b, off + k * 10 + o, none⟩) (by show b < w.heap.size; omega)).trans (hc k y o u hy hu)
      obtain ⟨m, hm⟩ : ∃ m, m = (c.ts.take k).foldl (ceilF r) 0 := ⟨_, rfl⟩
      rw [← hm] at HS ⊢
      obtain ⟨tk, tp, t2, t3, t4, t5, t6, t7, t8, t9⟩ := y
      have e0 := g 0 _ rfl
      have e1 := g 1 _ rfl
      have e2 := g 2 _ rfl
      have e3 := g 3 _ rfl
      have e4 := g 4 _ rfl
      have e5 := g 5 _ rfl
      have e6 := g 6 _ rfl
      have e7 := g 7 _ rfl
      have e8 := g 8 _ rfl
      have e9 := g 9 _ rfl
      rw [Nat.add_zero] at e0
      have HB := Kept.mk (hb.trans ((below_box wr (.cells #[.int .u8 tk, .int .i64 tp, .int .i64 t2, .int .i64 t3, .int .i64 t4, .int .i64 t5, .int .i64 t6, .int .i64 t7, .int .i64 t8, .int .i64 t9] 31)).mono hb.size))
      clear hc hy g hb hm
      by_cases hg : t7 = r
      · have dg : (t7 == r) = true := by simp [hg]
        have hb := HB.out
        rw [hg] at hb e7
        replace HB := Kept.mk hb
        clear hb
        go_wp2
        go_roundw
        case rel => exact ⟨k + 1, by omega, by go_num, by rw [HS.out]; simp only [ceilF]; rw [if_pos hg], HB.out⟩
        case measure => simp [intOf]; omega
      · have dg : (t7 == r) = false := by simp [hg]
        go_wp2
        go_roundw
        case rel => exact ⟨k + 1, by omega, by go_num, by rw [HS.out]; simp only [ceilF]; rw [if_neg hg], HB.out⟩
        case measure => simp [intOf]; omega
    · have hke : k = nt := by omega
      rw [hke, HNT.out, List.take_length]
      have HB := Kept.mk hb
      have ik : decide ((k : Int) < (nt : Int)) = false := decide_eq_false (by omega)
      rw [hke] at ik
      clear hb
      go_wp2
      go_ret
      exact ⟨rfl, HB.out⟩
def blkF (p : Int) (ts : List Tk) (m : Int) (t : Tk) : Int := if p ≤ t.p ∨ t.g < 0 then m else if p ≤ ceil ts t.g then max m (t.i - t.h) else m
def blk (ts : List Tk) (p : Int) : Int := ts.foldl (blkF p ts) 0
set_option maxHeartbeats 4000000 in
theorem blocking_any (B sb : Nat) (c : Cf) (x : Tk) (w : World) (h : SH w B sb c x) (hB : B ≤ w.heap.size) (ok : OkC c) :
    Calls Try.prog 18 #[.pointer (some ⟨sb, 0, none⟩)] w fun e w' => e = .returned (.int .i64 (blk c.ts x.p)) ∧ Below w.heap.size w w' := by
  have HSH := Kept.mk h
  have OK := Kept.mk ok
  have hl := ok.t2
  obtain ⟨h0, At, ct, Al, cl, Ah, ch, h1, h2, h3, h4⟩ := h
  obtain ⟨nt, hnt⟩ : ∃ nt, nt = c.ts.length := ⟨_, rfl⟩
  obtain ⟨xp, hxp⟩ : ∃ xp, xp = x.p := ⟨_, rfl⟩
  have c3 : w.cell? ⟨sb, 3, none⟩ = some (.slice At nt ct) := by rw [hnt]; exact cell_of_row _ _ 3 _ _ _ h1
  have C7 := Kept.mk (show w.cell? ⟨sb, 7, none⟩ = some (.int .i64 xp) by rw [hxp]; exact cell_of_row _ _ 7 _ _ _ h1)
  have HT := Kept.mk h2
  have HNT := Kept.mk hnt
  rw [← hnt] at hl
  rw [← hxp]
  have hsb : sb < w.heap.size := by omega
  clear h1 h2 h3 h4 h0 hnt ok hxp
  go_enter Try.func18, Try.ntmps18
  go_wp2_with fail
  go_loopw [3, 12] (fun u t wr => ∃ k : Nat, k ≤ nt ∧ t = .int .i64 k ∧ u = .int .i64 ((c.ts.take k).foldl (blkF xp c.ts) 0) ∧ Below w.heap.size w wr) (fun _ t _ => nt - (intOf t).toNat)
  case atStart => exact ⟨0, by omega, rfl, rfl, Below.refl _ _⟩
  case round =>
    obtain ⟨k, hk, rfl, rfl, hb⟩ := hrel
    by_cases hlt : k < nt
    · have ik : (k : Int) < (nt : Int) := by omega
      obtain ⟨y, hy⟩ : ∃ y, c.ts[k]? = some y := ⟨c.ts[k]'(by have := HNT.out; omega), List.getElem?_eq_getElem _⟩
      have htb := OK.out.tb (List.mem_of_getElem? hy)
      have HS := Kept.mk (fold_succ (blkF xp c.ts) 0 hy)
      obtain ⟨b, off, rfl, hbB, hc⟩ := HT.out (by have := HNT.out; omega)
      have g : ∀ o u, y.arr[o]? = some u → wr.cell? ⟨b, off + k * 10 + o, none⟩ = some u := fun o u hu => (hb.cell (p := ⟨b, off + k * 10 + o, none⟩) (by show b < w.heap.size; omega)).trans (hc k y o u hy hu)
      obtain ⟨m, hm⟩ : ∃ m, m = (c.ts.take k).foldl (blkF xp c.ts) 0 := ⟨_, rfl⟩
      rw [← hm] at HS ⊢
      obtain ⟨tk, tp, t2, t3, t4, t5, t6, t7, t8, t9⟩ := y
      have e0 := g 0 _ rfl
      have e1 := g 1 _ rfl
      have e2 := g 2 _ rfl
      have e3 := g 3 _ rfl
      have e4 := g 4 _ rfl
      have e5 := g 5 _ rfl
      have e6 := g 6 _ rfl
      have e7 := g 7 _ rfl
      have e8 := g 8 _ rfl
      have e9 := g 9 _ rfl
      rw [Nat.add_zero] at e0
      have HB0 := Kept.mk hb
      have hws := hb.size
      have hh : 0 ≤ t7 → 0 ≤ t8 ∧ t8 < t9 ∧ t9 ≤ 1099511627776 := fun h7 => by
        have q1 := htb.h h7
        have q2 := htb.e1
        have q3 := htb.d1
        simp only at q1 q2 q3
        omega
      clear hc hy g hb hm htb
      go_upto_region 5 with fail
      obtain ⟨Wa, hWa⟩ : ∃ Wa, Wa = wr.alloc (.cells #[.int .u8 tk, .int .i64 tp, .int .i64 t2, .int .i64 t3, .int .i64 t4, .int .i64 t5, .int .i64 t6, .int .i64 t7, .int .i64 t8, .int .i64 t9] 31) := ⟨_, rfl⟩
      obtain ⟨xb, hxb⟩ : ∃ xb, xb = wr.heap.size := ⟨_, rfl⟩
      have hxbx : Wa.heap[xb]? = some (.cells #[.int .u8 tk, .int .i64 tp, .int .i64 t2, .int .i64 t3, .int .i64 t4, .int .i64 t5, .int .i64 t6, .int .i64 t7, .int .i64 t8, .int .i64 t9] 31) := by rw [hWa, hxb]; exact heap_alloc_new _ _
      have x1 : Wa.cell? ⟨xb, 1, none⟩ = some (.int .i64 tp) := cell_of_row _ _ 1 _ _ _ hxbx
      have x7 : Wa.cell? ⟨xb, 7, none⟩ = some (.int .i64 t7) := cell_of_row _ _ 7 _ _ _ hxbx
      have x8 : Wa.cell? ⟨xb, 8, none⟩ = some (.int .i64 t8) := cell_of_row _ _ 8 _ _ _ hxbx
      have x9 : Wa.cell? ⟨xb, 9, none⟩ = some (.int .i64 t9) := cell_of_row _ _ 9 _ _ _ hxbx
      have HB := Kept.mk (show Below w.heap.size w Wa by rw [hWa]; exact HB0.out.trans ((below_box wr _).mono hws))
      have s7 : Wa.cell? ⟨sb, 7, none⟩ = some (.int .i64 xp) := (HB.out.cell (p := ⟨sb, 7, none⟩) hsb).trans C7.out
      have hxl : xb < Wa.heap.size := lt_of_block hxbx
      have hwa : w.heap.size ≤ Wa.heap.size := HB.out.size
      rw [← hWa, ← hxb]
      clear hWa hxb e0 e1 e2 e3 e4 e5 e6 e7 e8 e9 HB0 hws hxbx
      by_cases h1 : xp ≤ tp
      · have d1 : decide (xp ≤ tp) = true := decide_eq_true h1
        have HV := Kept.mk (show blkF xp c.ts m ⟨tk, tp, t2, t3, t4, t5, t6, t7, t8, t9⟩ = m from if_pos (.inl h1))
        clear hh h1
        go_quiet (fail)
        go_wp2
        go_roundw
        case rel => exact ⟨k + 1, by omega, by go_num, by rw [HS.out, HV.out], HB.out.drewN _⟩
        case measure => simp [intOf]; omega
      · have d1 : decide (xp ≤ tp) = false := decide_eq_false h1
        by_cases h2 : t7 < 0
        · have d2 : decide (t7 < 0) = true := decide_eq_true h2
          have HV := Kept.mk (show blkF xp c.ts m ⟨tk, tp, t2, t3, t4, t5, t6, t7, t8, t9⟩ = m from if_pos (.inr h2))
          clear hh h1
          go_quiet (fail)
          go_wp2
          go_roundw
          case rel => exact ⟨k + 1, by omega, by go_num, by rw [HS.out, HV.out], HB.out.drewN _⟩
          case measure => simp [intOf]; omega
        · have d2 : decide (t7 < 0) = false := decide_eq_false h2
          obtain ⟨q1, q2, q3⟩ := hh (by omega)
          obtain ⟨cv, hcv⟩ : ∃ cv, cv = ceil c.ts t7 := ⟨_, rfl⟩
          have HV := Kept.mk (show blkF xp c.ts m ⟨tk, tp, t2, t3, t4, t5, t6, t7, t8, t9⟩ = if xp ≤ cv then max m (t9 - t8) else m by rw [hcv]; exact if_neg (by simp only; omega))
          have HF := Kept.mk (fun (V : World) (hb : Below Wa.heap.size Wa V) => show V.cell? ⟨sb, 7, none⟩ = some (.int .i64 xp) ∧ V.cell? ⟨xb, 7, none⟩ = some (.int .i64 t7) ∧ V.cell? ⟨xb, 8, none⟩ = some (.int .i64 t8) ∧ V.cell? ⟨xb, 9, none⟩ = some (.int .i64 t9) from
            ⟨(hb.cell (p := ⟨sb, 7, none⟩) (by show sb < _; omega)).trans s7, (hb.cell (p := ⟨xb, 7, none⟩) hxl).trans x7, (hb.cell (p := ⟨xb, 8, none⟩) hxl).trans x8, (hb.cell (p := ⟨xb, 9, none⟩) hxl).trans x9⟩)
          have HC := Kept.mk (fun (V : World) (hb : Below Wa.heap.size Wa V) => show Calls Try.prog 26 #[.pointer (some ⟨sb, 0, none⟩), .int .i64 t7] V (fun e V' => e = .returned (.int .i64 cv) ∧ Below V.heap.size V V') from by
            rw [hcv]
            exact ceiling_any B sb c x t7 V (HSH.out.below ((HB.out.mono hB).trans (hb.mono (by omega)))) (by have := hb.size; omega) OK.out.t2)
          clear hh h1 h2 hcv
          go_quiet (fail)
          go_upto_region 6 with fail
          have HW := HB
          clear HB
          have HB : Below Wa.heap.size Wa (Wa.drewN nq).drew := ((Below.refl _ _).drewN nq).drewN 1
          clear s7 x1 x7 x8 x9
          obtain ⟨s7, x7, x8, x9⟩ := HF.out _ ((Below.refl _ _).drewN nq)
          by_cases h3 : xp ≤ cv
          · have d3 : decide (xp ≤ cv) = true := decide_eq_true h3
            rw [if_pos h3] at HV
            clear h3
            go_region_held3 (fun V => V.cell? ⟨sb, 7, none⟩ = some (.int .i64 xp) ∧ V.cell? ⟨xb, 7, none⟩ = some (.int .i64 t7) ∧ V.cell? ⟨xb, 8, none⟩ = some (.int .i64 t8) ∧ V.cell? ⟨xb, 9, none⟩ = some (.int .i64 t9)) ((first | exact HF.out _ HB | go_keep)) (first
              | (go_at_call 26; refine (HC.out _ HB).mono ?_; rintro e w5 ⟨rfl, hb5⟩; replace HB := HB.trans (hb5.mono HB.size); clear hb5))
            all_goals
              go_wp2
              go_roundw
              case rel => exact ⟨k + 1, by omega, by go_num, by rw [HS.out, HV.out], HW.out.trans (HB.mono hwa)⟩
              case measure => simp [intOf]; omega
          · have d3 : decide (xp ≤ cv) = false := decide_eq_false h3
            rw [if_neg h3] at HV
            clear h3
            go_region_held3 (fun V => V.cell? ⟨sb, 7, none⟩ = some (.int .i64 xp) ∧ V.cell? ⟨xb, 7, none⟩ = some (.int .i64 t7) ∧ V.cell? ⟨xb, 8, none⟩ = some (.int .i64 t8) ∧ V.cell? ⟨xb, 9, none⟩ = some (.int .i64 t9)) ((first | exact HF.out _ HB | go_keep)) (first
              | (go_at_call 26; refine (HC.out _ HB).mono ?_; rintro e w5 ⟨rfl, hb5⟩; replace HB := HB.trans (hb5.mono HB.size); clear hb5))
            all_goals
              go_wp2
              go_roundw
              case rel => exact ⟨k + 1, by omega, by go_num, by rw [HS.out, HV.out], HW.out.trans (HB.mono hwa)⟩
              case measure => simp [intOf]; omega
    · have hke : k = nt := by omega
      rw [hke, HNT.out, List.take_length]
      have HB := Kept.mk hb
      have ik : decide ((k : Int) < (nt : Int)) = false := decide_eq_false (by omega)
      rw [hke] at ik
      clear hb
      go_wp2
      go_ret
      exact ⟨rfl, HB.out⟩
end Go.Proofs.Ytfneloplbkjbhaa
