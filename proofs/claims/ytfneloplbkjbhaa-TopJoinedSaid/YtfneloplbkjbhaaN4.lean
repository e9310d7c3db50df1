/-
  The walk of vet.looks' function: an iterator over all that is looked at.
-/
import Derived.Test.YtfneloplbkjbhaaNM
import Derived.Test.YtfneloplbkjbhaaN2
import Derived.Test.YtfneloplbkjbhaaN3
import Derived.Deep.RegionHeld3
namespace Go.Proofs.Ytfneloplbkjbhaa
open Go.RowKit Go.Shelf
set_option linter.unusedVariables false
attribute [local go_sem] Oper.semAt_some
theorem KpV.cell {w w' : World} (hk : KpV w w') {b o : Nat} {v : Value} (h : w.cell? ⟨b, o, none⟩ = some v) : w'.cell? ⟨b, o, none⟩ = some v := by
  obtain ⟨o', h1, h2⟩ := cells_of_cell h
  rw [World.cell?_of_block (a := ⟨b, o, none⟩) ((hk.same b o' h1 (.inl h2)).trans h1.symm)]
  exact h
theorem RT.kpv {w w' : World} {B : Nat} {A : Option Addr} {ts : List Tk} (h : RT w B A ts) (hk : KpV w w') : RT w' B A ts := fun h0 => by
  obtain ⟨b, off, e, h1, h2⟩ := h h0
  exact ⟨b, off, e, h1, fun j x o u hj ho => hk.cell (h2 j x o u hj ho)⟩
theorem R4.kpv {w w' : World} {B : Nat} {A : Option Addr} {xs : List Q4} (h : R4 w B A xs) (hk : KpV w w') : R4 w' B A xs := fun h0 => by
  obtain ⟨b, off, e, h1, h2⟩ := h h0
  exact ⟨b, off, e, h1, fun j x hj => ⟨hk.cell (h2 j x hj).1, hk.cell (h2 j x hj).2.1, hk.cell (h2 j x hj).2.2.1, hk.cell (h2 j x hj).2.2.2⟩⟩
/-- What the iterator reads. -/
structure LkI (B : Nat) (bc : Nat) (c : Cf) (cs : Array Value) (w : World) : Prop where
  box : w.heap[bc]? = some (.cells cs 28)
  cv : CV w B c cs
  sz : B ≤ w.heap.size
theorem LkI.below {B bc : Nat} {c : Cf} {cs : Array Value} {w w' : World} (h : LkI B bc c cs w) (hb : Below w.heap.size w w') : LkI B bc c cs w' :=
  ⟨(hb.block bc (lt_of_block h.box)).trans h.box, h.cv.below (hb.mono h.sz), Nat.le_trans h.sz hb.size⟩
theorem LkI.kpv {B bc : Nat} {c : Cf} {cs : Array Value} {w w' : World} (h : LkI B bc c cs w) (hk : KpV w w') : LkI B bc c cs w' := by
  obtain ⟨At, ct, Al, cl, Ah, ch, e, h1, h2, h3⟩ := h.cv.x
  exact ⟨hk.same bc _ h.box (.inl rfl), ⟨h.cv.mx, h.cv.pw, h.cv.hw, h.cv.tl, h.cv.ll, h.cv.hl, At, ct, Al, cl, Ah, ch, e, h1.kpv hk, h2.kpv hk, h3.kpv hk⟩, Nat.le_trans h.sz hk.size⟩
def hdF (c : Cf) : List Ft := [⟨1, 0, tmE c.mn c.mx⟩, ⟨2, 0, chE c.sw⟩, ⟨3, 0, maE c⟩]
def ixF {α : Type} (p : Int) (f : α → Int) (l : List α) (k : Nat) : List Ft := (List.range k).map fun (i : Nat) => ⟨p, (i : Int), (l[i]?.map f).getD 0⟩
theorem ixF_succ {α : Type} {p : Int} {f : α → Int} {l : List α} {k : Nat} {x : α} (h : l[k]? = some x) : ixF p f l (k + 1) = ixF p f l k ++ [⟨p, k, f x⟩] := by
  unfold ixF
  rw [List.range_succ, List.map_append, List.map_singleton, h]; rfl
theorem ixF_len {α : Type} (p : Int) (f : α → Int) (l : List α) (k : Nat) : (ixF p f l k).length = k := by simp [ixF]
/-- All that is looked at. -/
def allF (c : Cf) : List Ft := hdF c ++ ixF 4 (fun t => tkE t c.sw) c.ts c.ts.length ++ ixF 5 lnE' c.ls c.ls.length ++ ixF 6 thE' c.hs c.hs.length ++ prF (psC c) (psC c).length
theorem ixF_pref {α : Type} (p : Int) (f : α → Int) (l : List α) {k : Nat} (h : k ≤ l.length) : ixF p f l k <+: ixF p f l l.length := by
  unfold ixF
  refine List.IsPrefix.map _ ?_
  rw [show k = min k l.length by omega, ← List.take_range]
  exact List.take_prefix _ _
theorem prF_pref (ps : List Int) {k n : Nat} (h : k ≤ n) : prF ps k <+: prF ps n := by
  unfold prF
  refine List.IsPrefix.map _ ?_
  rw [show k = min k n by omega, ← List.take_range]
  exact List.take_prefix _ _
theorem pref_hs {c : Cf} {l : List Ft} (h : l <+: hdF c ++ ixF 4 (fun t => tkE t c.sw) c.ts c.ts.length ++ ixF 5 lnE' c.ls c.ls.length ++ ixF 6 thE' c.hs c.hs.length) : l <+: allF c := h.trans (List.prefix_append _ _)
theorem pref_ls {c : Cf} {l : List Ft} (h : l <+: hdF c ++ ixF 4 (fun t => tkE t c.sw) c.ts c.ts.length ++ ixF 5 lnE' c.ls c.ls.length) : l <+: allF c := pref_hs (h.trans (List.prefix_append _ _))
theorem pref_ts {c : Cf} {l : List Ft} (h : l <+: hdF c ++ ixF 4 (fun t => tkE t c.sw) c.ts c.ts.length) : l <+: allF c := pref_ls (h.trans (List.prefix_append _ _))
theorem pref_hd {c : Cf} {l : List Ft} (h : l <+: hdF c) : l <+: allF c := pref_ts (h.trans (List.prefix_append _ _))
theorem prios_any (cs : Array Value) (w : World) : Calls Try.prog 35 #[.agg cs] w fun e w' => ∃ b, e = .returned (.func (.func 44) #[] #[.pointer (some ⟨b, 0, none⟩)]) ∧ w'.heap[b]? = some (.cells cs 28) ∧ Below w.heap.size w w' := by
  go_enter Try.func35, Try.ntmps35
  go_wp2
  go_ret
  exact ⟨_, rfl, heap_alloc_new _ _, below_box _ _⟩
set_option maxRecDepth 100000 in
set_option maxHeartbeats 40000000 in
theorem looks_in (n : Nat) (hn : 1 ≤ n) (l bc : Nat) (c : Cf) (cs : Array Value) (J Jx : List Ft → World → Prop) (W : World)
    (hJ : AbidesFrom W.heap.size J) (hI : LkI W.heap.size bc c cs W)
    (hY : ∀ pre x W1, J pre W1 → pre.length < 1125899906842624 → YieldAt Fence.wide (n - 1) Try.prog l (encF x) W1 fun e W' =>
      (e = .returned (.bool true) ∧ J (pre ++ [x]) W' ∧ KpV W1 W') ∨ (e = .returned (.bool false) ∧ Jx (pre ++ [x]) W'))
    (h0 : J [] W) :
    CallsIn Fence.wide n Try.prog 27 #[.func (.yield l) #[] #[], .pointer (some ⟨bc, 0, none⟩)] W fun e W' => (∃ v, e = .returned v) ∧
      (J (allF c) W' ∨ (∃ pre, pre <+: allF c ∧ Jx pre W')) := by
  have HJB := Kept.mk (fun (pre : List Ft) (V V' : World) (h : J pre V) (hb : Below V.heap.size V V') => hJ pre V V' none h ⟨hb.os, hb.tape, hb.output, hb.size, fun i hi _ => hb.block i hi⟩ (fun r e => by cases e))
  have HJ := Kept.mk hJ
  have HY := Kept.mk hY
  have HJ0 := Kept.mk h0
  have HI := Kept.mk hI
  have htl := hI.cv.tl
  have hll := hI.cv.ll
  have hhl := hI.cv.hl
  have HMX := Kept.mk hI.cv.mx
  obtain ⟨At, ct, Al, cl, Ah, ch, rfl, _⟩ := hI.cv.x
  have hbl := lt_of_block hI.box
  clear hJ hY h0 hI
  refine callsIn_of_wp Try.func27 rfl trivial ?_ rfl
  simp only [Try.ntmps27, List.size_toArray, List.length_cons, List.length_nil, Nat.reduceAdd, Nat.reduceSub, Array.replicate_succ, Array.replicate_zero, List.push_toArray, List.append_toArray, List.nil_append, List.cons_append]
  refine wpIn_wide.2 ?_
  obtain ⟨tm, htm⟩ : ∃ tm, tm = tmE c.mn c.mx := ⟨_, rfl⟩
  obtain ⟨cg, hcg⟩ : ∃ cg, cg = chE c.sw := ⟨_, rfl⟩
  obtain ⟨my, hmy⟩ : ∃ my, my = maE c := ⟨_, rfl⟩
  have HHD := Kept.mk (show hdF c = [⟨1, 0, tm⟩, ⟨2, 0, cg⟩, ⟨3, 0, my⟩] by unfold hdF; rw [htm, hcg, hmy])
  obtain ⟨cmn, hcmn⟩ : ∃ x, x = c.mn := ⟨_, rfl⟩
  obtain ⟨cmx, hcmx⟩ : ∃ x, x = c.mx := ⟨_, rfl⟩
  obtain ⟨csw, hcsw⟩ : ∃ x, x = c.sw := ⟨_, rfl⟩
  obtain ⟨nt, hnt⟩ : ∃ x, x = c.ts.length := ⟨_, rfl⟩
  obtain ⟨nl, hnl⟩ : ∃ x, x = c.ls.length := ⟨_, rfl⟩
  obtain ⟨nh, hnh⟩ : ∃ x, x = c.hs.length := ⟨_, rfl⟩
  have HC1 := Kept.mk (fun (V : World) => show Calls Try.prog 29 #[.agg #[.int .i64 cmn, .int .i64 cmx]] V (fun e V' => e = .returned (.int .i64 tm) ∧ Below V.heap.size V V') from by rw [htm, hcmn, hcmx]; exact tcheck_any c.mn c.mx HMX.out V)
  have HC2 := Kept.mk (fun (V : World) (hb : Below W.heap.size W V) => show Calls Try.prog 30 #[.agg #[.int .i64 cmn, .int .i64 cmx, .int .i64 csw, .slice At nt ct, .slice Al nl cl, .slice Ah nh ch]] V (fun e V' => e = .returned (.int .i64 cg) ∧ Below V.heap.size V V') from by rw [hcg, hcmn, hcmx, hcsw, hnt, hnl, hnh]; exact change_any c _ V _ (HI.out.cv.below hb))
  have HC3 := Kept.mk (fun (V : World) (hb : Below W.heap.size W V) => show Calls Try.prog 31 #[.agg #[.int .i64 cmn, .int .i64 cmx, .int .i64 csw, .slice At nt ct, .slice Al nl cl, .slice Ah nh ch]] V (fun e V' => e = .returned (.int .i64 my) ∧ Below V.heap.size V V') from by rw [hmy, hcmn, hcmx, hcsw, hnt, hnl, hnh]; exact many_any c _ V _ (HI.out.cv.below hb))
  have HS := Kept.mk (fun (V : World) (hb : Below W.heap.size W V) => show V.cell? ⟨bc, 0, none⟩ = some (.int .i64 cmn) ∧ V.cell? ⟨bc, 1, none⟩ = some (.int .i64 cmx) ∧ V.cell? ⟨bc, 2, none⟩ = some (.int .i64 csw) ∧ V.cell? ⟨bc, 3, none⟩ = some (.slice At nt ct) ∧ V.cell? ⟨bc, 4, none⟩ = some (.slice Al nl cl) ∧ V.cell? ⟨bc, 5, none⟩ = some (.slice Ah nh ch) from by
    have h := (hb.block bc hbl).trans HI.out.box
    rw [hcmn, hcmx, hcsw, hnt, hnl, hnh]
    exact ⟨cell_of_row _ _ 0 _ _ _ h, cell_of_row _ _ 1 _ _ _ h, cell_of_row _ _ 2 _ _ _ h, cell_of_row _ _ 3 _ _ _ h, cell_of_row _ _ 4 _ _ _ h, cell_of_row _ _ 5 _ _ _ h⟩)
  have HSW := Kept.mk hcsw
  have HNT := Kept.mk hnt
  have HNL := Kept.mk hnl
  have HNH := Kept.mk hnh
  rw [← hnt] at htl
  rw [← hnl] at hll
  rw [← hnh] at hhl
  have HB : Below W.heap.size W W.drew := (Below.refl _ _).drewN 1
  clear htm hcg hmy hcmn hcmx hcsw hnt hnl hnh
  go_upto_region 0 with fail
  go_cut [3] from 12 to 22 (fun s wx => ∃ g, s = .slice (some ⟨g, 0, none⟩) 3 3 ∧ wx.heap[g]? = some (.cells #[.int .u8 1, .int .i64 0, .int .i64 tm, .int .u8 2, .int .i64 0, .int .i64 cg, .int .u8 3, .int .i64 0, .int .i64 my] 54) ∧ Below W.heap.size W wx)
  case first =>
    go_region_held3 (fun V => V.cell? ⟨bc, 0, none⟩ = some (.int .i64 cmn) ∧ V.cell? ⟨bc, 1, none⟩ = some (.int .i64 cmx) ∧ V.cell? ⟨bc, 2, none⟩ = some (.int .i64 csw) ∧ V.cell? ⟨bc, 3, none⟩ = some (.slice At nt ct) ∧ V.cell? ⟨bc, 4, none⟩ = some (.slice Al nl cl) ∧ V.cell? ⟨bc, 5, none⟩ = some (.slice Ah nh ch)) ((first | exact HS.out _ HB | go_keep)) (first
      | (go_at_call 29; refine (HC1.out _).mono ?_; rintro e w5 ⟨rfl, hb5⟩; replace HB := HB.trans (hb5.mono HB.size); clear hb5)
      | (go_at_call 30; refine (HC2.out _ HB).mono ?_; rintro e w5 ⟨rfl, hb5⟩; replace HB := HB.trans (hb5.mono HB.size); clear hb5)
      | (go_at_call 31; refine (HC3.out _ HB).mono ?_; rintro e w5 ⟨rfl, hb5⟩; replace HB := HB.trans (hb5.mono HB.size); clear hb5)
      | (go_at_call 28; refine (found_any ⟨1, 0, tm⟩ _).mono ?_; rintro e w5 ⟨rfl, hb5⟩; replace HB := HB.trans (hb5.mono HB.size); clear hb5)
      | (go_at_call 28; refine (found_any ⟨2, 0, cg⟩ _).mono ?_; rintro e w5 ⟨rfl, hb5⟩; replace HB := HB.trans (hb5.mono HB.size); clear hb5)
      | (go_at_call 28; refine (found_any ⟨3, 0, my⟩ _).mono ?_; rintro e w5 ⟨rfl, hb5⟩; replace HB := HB.trans (hb5.mono HB.size); clear hb5))
    all_goals (go_wp2_with fail)
    all_goals go_meet
    all_goals exact ⟨_, rfl, heap_alloc_new _ _, HB.alloc HB.size _⟩
  case rest =>
    obtain ⟨g, rfl, hg, hb⟩ := hcut
    have HJ1 := Kept.mk (HJB.out [] W wc HJ0.out hb)
    have HI1 := Kept.mk (HI.out.below hb)
    have HG1 := Kept.mk hg
    have HH := Kept.mk (fun (V : World) (k : Nat) (hk : k < 3) (hg : V.heap[g]? = some (.cells #[.int .u8 1, .int .i64 0, .int .i64 tm, .int .u8 2, .int .i64 0, .int .i64 cg, .int .u8 3, .int .i64 0, .int .i64 my] 54)) => show ∃ x : Ft, (hdF c)[k]? = some x ∧ V.cell? ⟨g, k * 3, none⟩ = some (.int .u8 x.p) ∧ V.cell? ⟨g, k * 3 + 1, none⟩ = some (.int .i64 x.a) ∧ V.cell? ⟨g, k * 3 + 2, none⟩ = some (.int .i64 x.y) from by
      rw [HHD.out]
      rcases (show k = 0 ∨ k = 1 ∨ k = 2 by omega) with rfl | rfl | rfl
      · exact ⟨_, rfl, cell_of_row _ _ 0 _ _ _ hg, cell_of_row _ _ 1 _ _ _ hg, cell_of_row _ _ 2 _ _ _ hg⟩
      · exact ⟨_, rfl, cell_of_row _ _ 3 _ _ _ hg, cell_of_row _ _ 4 _ _ _ hg, cell_of_row _ _ 5 _ _ _ hg⟩
      · exact ⟨_, rfl, cell_of_row _ _ 6 _ _ _ hg, cell_of_row _ _ 7 _ _ _ hg, cell_of_row _ _ 8 _ _ _ hg⟩)
    have HHL := Kept.mk (show (hdF c).length = 3 from rfl)
    clear hg hb HB HC1 HC2 HC3 HS HJ0
    go_wp2_with fail
    refine (wpIn_wide (n := n)).1 ?_
    gi_loopw [25] (fun t wr => ∃ k : Nat, k ≤ 3 ∧ t = .int .i64 k ∧ J ((hdF c).take k) wr ∧ Kept (wr.heap[g]? = some (.cells #[.int .u8 1, .int .i64 0, .int .i64 tm, .int .u8 2, .int .i64 0, .int .i64 cg, .int .u8 3, .int .i64 0, .int .i64 my] 54)) ∧ Kept (LkI W.heap.size bc c #[.int .i64 c.mn, .int .i64 c.mx, .int .i64 c.sw, .slice At c.ts.length ct, .slice Al c.ls.length cl, .slice Ah c.hs.length ch] wr)) (fun t _ => 3 - (intOf t).toNat)
    case atStart => exact ⟨0, by omega, rfl, HJ1.out, HG1, HI1⟩
    case round =>
      clear HJ1 HI1 HG1
      obtain ⟨k, hk, rfl, hj, hg, hi⟩ := hrel
      by_cases hlt : k < 3
      · have ik : (k : Int) < 3 := by omega
        obtain ⟨x, hx, e1, e2, e3⟩ := HH.out wr k hlt hg.out
        have HX := Kept.mk (show (hdF c).take (k + 1) = (hdF c).take k ++ [x] by rw [List.take_add_one, hx]; rfl)
        have HXL := Kept.mk (show ((hdF c).take k).length < 1125899906842624 by rw [List.length_take, HHL.out]; omega)
        obtain ⟨xp, xa, xy⟩ := x
        simp only at e1 e2 e3
        have hb5 := below_box wr (.cells #[.int .u8 xp, .int .i64 xa, .int .i64 xy] 54)
        have hj5 := HJB.out _ _ _ hj hb5
        have HI5 := Kept.mk (hi.out.below hb5)
        have HG5 := Kept.mk ((hb5.block g (lt_of_block hg.out)).trans hg.out)
        obtain ⟨fn, tmps, assign, body, hy, hRd⟩ := HY.out _ ⟨xp, xa, xy⟩ _ hj5 HXL.out
        dsimp only [encF] at hy
        clear hx hj hg hi hb5 hj5
        gi_wp2
        refine hRd.mono ?_
        rintro e w7 (⟨rfl, hj7, hk7⟩ | ⟨rfl, hjx⟩)
        · have HI7 := Kept.mk (HI5.out.kpv hk7)
          have HG7 := Kept.mk (hk7.same g _ HG5.out (.inl rfl))
          rw [← HX.out] at hj7
          have HJ7 := Kept.mk hj7
          clear hk7 hj7 hy hRd e1 e2 e3
          gi_wp2
          go_roundw
          case rel => exact ⟨k + 1, by omega, by go_num, HJ7.out, HG7, HI7⟩
          case measure => simp [intOf]; omega
        · gi_wp2
          refine bodyPost_ret (results_none rfl _ _ _) rfl ?_
          exact ⟨⟨_, rfl⟩, .inr ⟨_, pref_hd (HX.out ▸ List.take_prefix _ _), hjx⟩⟩
      · have hke : k = 3 := by omega
        rw [hke] at hj
        rw [List.take_of_length_le (by rw [HHL.out]; omega)] at hj
        have HJ1 := Kept.mk hj
        have HI1 := hi
        obtain ⟨w0, hw0⟩ : ∃ w0, w0 = wr := ⟨_, rfl⟩
        rw [← hw0] at HJ1 HI1 ⊢
        clear hke hj hg hi hw0 wr HH
        have ik : decide ((k : Int) < 3) = false := decide_eq_false (by omega)
        have q3 : w0.cell? ⟨bc, 3, none⟩ = some (.slice At nt ct) := by rw [HNT.out]; exact cell_of_row _ _ 3 _ _ _ HI1.out.box
        gi_wp2_with fail
        go_wp2_with fail
        refine (wpIn_wide (n := n)).1 ?_
        gi_loopw [37] (fun t wr => ∃ k : Nat, k ≤ nt ∧ t = .int .i64 k ∧ J (hdF c ++ ixF 4 (fun t => tkE t c.sw) c.ts k) wr ∧ Kept (LkI W.heap.size bc c #[.int .i64 c.mn, .int .i64 c.mx, .int .i64 c.sw, .slice At c.ts.length ct, .slice Al c.ls.length cl, .slice Ah c.hs.length ch] wr)) (fun t _ => nt - (intOf t).toNat)
        case atStart => exact ⟨0, by omega, rfl, by simpa [ixF] using HJ1.out, HI1⟩
        case round =>
          clear HJ1 HI1 q3
          obtain ⟨k4, hk, rfl, hj, hi⟩ := hrel
          by_cases hlt : k4 < nt
          · have ik : (k4 : Int) < (nt : Int) := by omega
            obtain ⟨x, hx⟩ : ∃ x, c.ts[k4]? = some x := ⟨c.ts[k4]'(by have := HNT.out; omega), List.getElem?_eq_getElem _⟩
            have HX := Kept.mk (show ixF 4 (fun t => tkE t c.sw) c.ts (k4 + 1) = ixF 4 (fun t => tkE t c.sw) c.ts k4 ++ [⟨4, k4, tkE x c.sw⟩] from ixF_succ hx)
            obtain ⟨At', ct', Al', cl', Ah', ch', e0, r1, _, _⟩ := hi.out.cv.x
            have eAt : At = At' := by
              have h := congrArg (fun a : Array Value => a[3]?) e0
              simp at h
              exact h.1
            subst eAt
            obtain ⟨b, off, rfl, hbB, hc⟩ := r1 (by have := HNT.out; omega)
            obtain ⟨tk, tp, t2, t3, t4, t5, t6, t7, t8, t9⟩ := x
            have e1 := hc k4 _ 0 _ hx rfl
            have e2 := hc k4 _ 1 _ hx rfl
            have e3 := hc k4 _ 2 _ hx rfl
            have e4 := hc k4 _ 3 _ hx rfl
            have e5 := hc k4 _ 4 _ hx rfl
            have e6 := hc k4 _ 5 _ hx rfl
            have e7 := hc k4 _ 6 _ hx rfl
            have e8 := hc k4 _ 7 _ hx rfl
            have e9 := hc k4 _ 8 _ hx rfl
            have e10 := hc k4 _ 9 _ hx rfl
            rw [Nat.add_zero] at e1
            clear e0 r1
            have hb5 := below_box wr (.cells #[.int .u8 tk, .int .i64 tp, .int .i64 t2, .int .i64 t3, .int .i64 t4, .int .i64 t5, .int .i64 t6, .int .i64 t7, .int .i64 t8, .int .i64 t9] 31)
            have hj5 := HJB.out _ _ _ hj hb5
            have HI5 := Kept.mk (hi.out.below hb5)
            have q2 : (wr.alloc (.cells #[.int .u8 tk, .int .i64 tp, .int .i64 t2, .int .i64 t3, .int .i64 t4, .int .i64 t5, .int .i64 t6, .int .i64 t7, .int .i64 t8, .int .i64 t9] 31)).cell? ⟨bc, 2, none⟩ = some (.int .i64 csw) := by rw [HSW.out]; exact cell_of_row _ _ 2 _ _ _ HI5.out.box
            have HJ5 := Kept.mk hj5
            clear hj hi hb5 hj5 hx hc
            gi_wp2_with fail
            refine ⟨trivial, ?_⟩
            refine (callsIn_wide.2 (by rw [HSW.out]; exact task_any ⟨tk, tp, t2, t3, t4, t5, t6, t7, t8, t9⟩ c.sw _)).mono ?_
            rintro e w5 ⟨rfl, hb5⟩
            have HJ6 := Kept.mk (HJB.out _ _ _ HJ5.out hb5)
            have HI6 := Kept.mk (HI5.out.below hb5)
            obtain ⟨fy, hfy⟩ : ∃ fy, fy = tkE ⟨tk, tp, t2, t3, t4, t5, t6, t7, t8, t9⟩ c.sw := ⟨_, rfl⟩
            rw [← hfy] at HX ⊢
            clear hfy hb5 q2 HJ5 HI5
            gi_wp2_with fail
            refine ⟨trivial, ?_⟩
            refine (callsIn_wide.2 (found_any ⟨4, (k4 : Int), fy⟩ w5)).mono ?_
            rintro e w6 ⟨rfl, hb6⟩
            have hj6 := HJB.out _ _ _ HJ6.out hb6
            have HI7 := Kept.mk (HI6.out.below hb6)
            obtain ⟨fn, tmps, assign, body, hy, hRd⟩ := HY.out _ ⟨4, (k4 : Int), fy⟩ _ hj6 (by simp only [List.length_append, ixF_len, HHL.out]; have := HNT.out; have := HNL.out; omega)
            dsimp only [encF] at hy
            clear hb6 hj6 HJ6 HI6
            gi_wp2
            refine hRd.mono ?_
            rintro e w7 (⟨rfl, hj7, hk7⟩ | ⟨rfl, hjx⟩)
            · have HI8 := Kept.mk (HI7.out.kpv hk7)
              rw [List.append_assoc _ (ixF 4 (fun t => tkE t c.sw) c.ts k4) _, ← HX.out] at hj7
              have HJ7 := Kept.mk hj7
              clear hk7 hj7 hy hRd
              gi_wp2
              go_roundw
              case rel => exact ⟨k4 + 1, by omega, by go_num, HJ7.out, HI8⟩
              case measure => simp [intOf]; omega
            · gi_wp2
              refine bodyPost_ret (results_none rfl _ _ _) rfl ?_
              exact ⟨⟨_, rfl⟩, .inr ⟨_, pref_ts (by rw [List.append_assoc, ← HX.out]; exact (List.prefix_append_right_inj _).2 (ixF_pref _ _ _ (by have := HNT.out; omega))), hjx⟩⟩
          · have hke : k4 = nt := by omega
            rw [hke, HNT.out] at hj
            have HJ1 := Kept.mk hj
            have HI1 := hi
            obtain ⟨w0', hw0⟩ : ∃ w0', w0' = wr := ⟨_, rfl⟩
            rw [← hw0] at HJ1 HI1 ⊢
            clear hke hj hi hw0 wr
            have ik : decide ((k4 : Int) < (nt : Int)) = false := decide_eq_false (by omega)
            have q4 : w0'.cell? ⟨bc, 4, none⟩ = some (.slice Al nl cl) := by rw [HNL.out]; exact cell_of_row _ _ 4 _ _ _ HI1.out.box
            gi_wp2_with fail
            go_wp2_with fail
            refine (wpIn_wide (n := n)).1 ?_
            gi_loopw [55] (fun t wr => ∃ k : Nat, k ≤ nl ∧ t = .int .i64 k ∧ J ((hdF c ++ ixF 4 (fun t => tkE t c.sw) c.ts c.ts.length) ++ ixF 5 lnE' c.ls k) wr ∧ Kept (LkI W.heap.size bc c #[.int .i64 c.mn, .int .i64 c.mx, .int .i64 c.sw, .slice At c.ts.length ct, .slice Al c.ls.length cl, .slice Ah c.hs.length ch] wr)) (fun t _ => nl - (intOf t).toNat)
            case atStart => exact ⟨0, by omega, rfl, by simpa [ixF] using HJ1.out, HI1⟩
            case round =>
              clear HJ1 HI1 q4
              obtain ⟨k5, hk, rfl, hj, hi⟩ := hrel
              by_cases hlt : k5 < nl
              · have ik : (k5 : Int) < (nl : Int) := by omega
                obtain ⟨x, hx⟩ : ∃ x, c.ls[k5]? = some x := ⟨c.ls[k5]'(by have := HNL.out; omega), List.getElem?_eq_getElem _⟩
                have HX := Kept.mk (show ixF 5 lnE' c.ls (k5 + 1) = ixF 5 lnE' c.ls k5 ++ [⟨5, k5, lnE' x⟩] from ixF_succ hx)
                obtain ⟨At', ct', Al', cl', Ah', ch', e0, _, r1, _⟩ := hi.out.cv.x
                have eAt : Al = Al' := by
                  have h := congrArg (fun a : Array Value => a[4]?) e0
                  simp at h
                  exact h.1
                subst eAt
                obtain ⟨b, off, rfl, hbB, hc⟩ := r1 (by have := HNL.out; omega)
                obtain ⟨e1, e2, e3, e4⟩ := hc k5 x hx
                obtain ⟨xa, xb, xc, xd⟩ := x
                simp only at e1 e2 e3 e4
                clear e0 r1
                have hb5 := below_box wr (.cells #[.int .i64 xa, .int .i64 xb, .int .i64 xc, .int .i64 xd] 78)
                have hj5 := HJB.out _ _ _ hj hb5
                have HI5 := Kept.mk (hi.out.below hb5)
                have q2 : (wr.alloc (.cells #[.int .i64 xa, .int .i64 xb, .int .i64 xc, .int .i64 xd] 78)).cell? ⟨bc, 2, none⟩ = some (.int .i64 csw) := by rw [HSW.out]; exact cell_of_row _ _ 2 _ _ _ HI5.out.box
                have HJ5 := Kept.mk hj5
                clear hj hi hb5 hj5 hx hc
                gi_wp2_with fail
                refine ⟨trivial, ?_⟩
                refine (callsIn_wide.2 (vline_any ⟨xa, xb, xc, xd⟩ _)).mono ?_
                rintro e w5 ⟨rfl, hb5⟩
                have HJ6 := Kept.mk (HJB.out _ _ _ HJ5.out hb5)
                have HI6 := Kept.mk (HI5.out.below hb5)
                obtain ⟨fy, hfy⟩ : ∃ fy, fy = lnE' ⟨xa, xb, xc, xd⟩ := ⟨_, rfl⟩
                rw [← hfy] at HX ⊢
                clear hfy hb5 q2 HJ5 HI5
                gi_wp2_with fail
                refine ⟨trivial, ?_⟩
                refine (callsIn_wide.2 (found_any ⟨5, (k5 : Int), fy⟩ w5)).mono ?_
                rintro e w6 ⟨rfl, hb6⟩
                have hj6 := HJB.out _ _ _ HJ6.out hb6
                have HI7 := Kept.mk (HI6.out.below hb6)
                obtain ⟨fn, tmps, assign, body, hy, hRd⟩ := HY.out _ ⟨5, (k5 : Int), fy⟩ _ hj6 (by simp only [List.length_append, ixF_len, HHL.out]; have := HNT.out; have := HNL.out; omega)
                dsimp only [encF] at hy
                clear hb6 hj6 HJ6 HI6
                gi_wp2
                refine hRd.mono ?_
                rintro e w7 (⟨rfl, hj7, hk7⟩ | ⟨rfl, hjx⟩)
                · have HI8 := Kept.mk (HI7.out.kpv hk7)
                  rw [List.append_assoc _ (ixF 5 lnE' c.ls k5) _, ← HX.out] at hj7
                  have HJ7 := Kept.mk hj7
                  clear hk7 hj7 hy hRd
                  gi_wp2
                  go_roundw
                  case rel => exact ⟨k5 + 1, by omega, by go_num, HJ7.out, HI8⟩
                  case measure => simp [intOf]; omega
                · gi_wp2
                  refine bodyPost_ret (results_none rfl _ _ _) rfl ?_
                  exact ⟨⟨_, rfl⟩, .inr ⟨_, pref_ls (by rw [List.append_assoc, ← HX.out]; exact (List.prefix_append_right_inj _).2 (ixF_pref _ _ _ (by have := HNL.out; omega))), hjx⟩⟩
              · have hke : k5 = nl := by omega
                rw [hke, HNL.out] at hj
                have HJ1 := Kept.mk hj
                have HI1 := hi
                obtain ⟨w0', hw0⟩ : ∃ w0', w0' = wr := ⟨_, rfl⟩
                rw [← hw0] at HJ1 HI1 ⊢
                clear hke hj hi hw0 wr
                have ik : decide ((k5 : Int) < (nl : Int)) = false := decide_eq_false (by omega)
                have q5 : w0'.cell? ⟨bc, 5, none⟩ = some (.slice Ah nh ch) := by rw [HNH.out]; exact cell_of_row _ _ 5 _ _ _ HI1.out.box
                gi_wp2_with fail
                go_wp2_with fail
                refine (wpIn_wide (n := n)).1 ?_
                gi_loopw [71] (fun t wr => ∃ k : Nat, k ≤ nh ∧ t = .int .i64 k ∧ J ((hdF c ++ ixF 4 (fun t => tkE t c.sw) c.ts c.ts.length ++ ixF 5 lnE' c.ls c.ls.length) ++ ixF 6 thE' c.hs k) wr ∧ Kept (LkI W.heap.size bc c #[.int .i64 c.mn, .int .i64 c.mx, .int .i64 c.sw, .slice At c.ts.length ct, .slice Al c.ls.length cl, .slice Ah c.hs.length ch] wr)) (fun t _ => nh - (intOf t).toNat)
                case atStart => exact ⟨0, by omega, rfl, by simpa [ixF] using HJ1.out, HI1⟩
                case round =>
                  clear HJ1 HI1 q5
                  obtain ⟨k6, hk, rfl, hj, hi⟩ := hrel
                  by_cases hlt : k6 < nh
                  · have ik : (k6 : Int) < (nh : Int) := by omega
                    obtain ⟨x, hx⟩ : ∃ x, c.hs[k6]? = some x := ⟨c.hs[k6]'(by have := HNH.out; omega), List.getElem?_eq_getElem _⟩
                    have HX := Kept.mk (show ixF 6 thE' c.hs (k6 + 1) = ixF 6 thE' c.hs k6 ++ [⟨6, k6, thE' x⟩] from ixF_succ hx)
                    obtain ⟨At', ct', Al', cl', Ah', ch', e0, _, _, r1⟩ := hi.out.cv.x
                    have eAt : Ah = Ah' := by
                      have h := congrArg (fun a : Array Value => a[5]?) e0
                      simp at h
                      exact h.1
                    subst eAt
                    obtain ⟨b, off, rfl, hbB, hc⟩ := r1 (by have := HNH.out; omega)
                    obtain ⟨e1, e2, e3, e4⟩ := hc k6 x hx
                    obtain ⟨xa, xb, xc, xd⟩ := x
                    simp only at e1 e2 e3 e4
                    clear e0 r1
                    have hb5 := below_box wr (.cells #[.int .i64 xa, .int .i64 xb, .int .i64 xc, .int .i64 xd] 75)
                    have hj5 := HJB.out _ _ _ hj hb5
                    have HI5 := Kept.mk (hi.out.below hb5)
                    have q2 : (wr.alloc (.cells #[.int .i64 xa, .int .i64 xb, .int .i64 xc, .int .i64 xd] 75)).cell? ⟨bc, 2, none⟩ = some (.int .i64 csw) := by rw [HSW.out]; exact cell_of_row _ _ 2 _ _ _ HI5.out.box
                    have HJ5 := Kept.mk hj5
                    clear hj hi hb5 hj5 hx hc
                    gi_wp2_with fail
                    refine ⟨trivial, ?_⟩
                    refine (callsIn_wide.2 (vthread_any ⟨xa, xb, xc, xd⟩ _)).mono ?_
                    rintro e w5 ⟨rfl, hb5⟩
                    have HJ6 := Kept.mk (HJB.out _ _ _ HJ5.out hb5)
                    have HI6 := Kept.mk (HI5.out.below hb5)
                    obtain ⟨fy, hfy⟩ : ∃ fy, fy = thE' ⟨xa, xb, xc, xd⟩ := ⟨_, rfl⟩
                    rw [← hfy] at HX ⊢
                    clear hfy hb5 q2 HJ5 HI5
                    gi_wp2_with fail
                    refine ⟨trivial, ?_⟩
                    refine (callsIn_wide.2 (found_any ⟨6, (k6 : Int), fy⟩ w5)).mono ?_
                    rintro e w6 ⟨rfl, hb6⟩
                    have hj6 := HJB.out _ _ _ HJ6.out hb6
                    have HI7 := Kept.mk (HI6.out.below hb6)
                    obtain ⟨fn, tmps, assign, body, hy, hRd⟩ := HY.out _ ⟨6, (k6 : Int), fy⟩ _ hj6 (by simp only [List.length_append, ixF_len, HHL.out]; have := HNT.out; have := HNL.out; omega)
                    dsimp only [encF] at hy
                    clear hb6 hj6 HJ6 HI6
                    gi_wp2
                    refine hRd.mono ?_
                    rintro e w7 (⟨rfl, hj7, hk7⟩ | ⟨rfl, hjx⟩)
                    · have HI8 := Kept.mk (HI7.out.kpv hk7)
                      rw [List.append_assoc _ (ixF 6 thE' c.hs k6) _, ← HX.out] at hj7
                      have HJ7 := Kept.mk hj7
                      clear hk7 hj7 hy hRd
                      gi_wp2
                      go_roundw
                      case rel => exact ⟨k6 + 1, by omega, by go_num, HJ7.out, HI8⟩
                      case measure => simp [intOf]; omega
                    · gi_wp2
                      refine bodyPost_ret (results_none rfl _ _ _) rfl ?_
                      exact ⟨⟨_, rfl⟩, .inr ⟨_, pref_hs (by rw [List.append_assoc, ← HX.out]; exact (List.prefix_append_right_inj _).2 (ixF_pref _ _ _ (by have := HNH.out; omega))), hjx⟩⟩
                  · have hke : k6 = nh := by omega
                    rw [hke, HNH.out] at hj
                    have HJ1 := Kept.mk hj
                    have HI1 := hi
                    obtain ⟨w0', hw0⟩ : ∃ w0', w0' = wr := ⟨_, rfl⟩
                    rw [← hw0] at HJ1 HI1 ⊢
                    clear hke hj hi hw0 wr
                    have ik : decide ((k6 : Int) < (nh : Int)) = false := decide_eq_false (by omega)
                    have q := HI1.out.box
                    have HPB := HI1.out.cv
                    have r0 : w0'.cell? ⟨bc, 0, none⟩ = some (.int .i64 c.mn) := cell_of_row _ _ 0 _ _ _ q
                    have r1 : w0'.cell? ⟨bc, 1, none⟩ = some (.int .i64 c.mx) := cell_of_row _ _ 1 _ _ _ q
                    have r2 : w0'.cell? ⟨bc, 2, none⟩ = some (.int .i64 c.sw) := cell_of_row _ _ 2 _ _ _ q
                    have r3 : w0'.cell? ⟨bc, 3, none⟩ = some (.slice At c.ts.length ct) := cell_of_row _ _ 3 _ _ _ q
                    have r4 : w0'.cell? ⟨bc, 4, none⟩ = some (.slice Al c.ls.length cl) := cell_of_row _ _ 4 _ _ _ q
                    have r5 : w0'.cell? ⟨bc, 5, none⟩ = some (.slice Ah c.hs.length ch) := cell_of_row _ _ 5 _ _ _ q
                    have HCV := Kept.mk HPB
                    clear q HPB
                    gi_wp2_with fail
                    go_wp2_with fail
                    refine (prios_any _ _).mono ?_
                    rintro e w5 ⟨b5, rfl, hbx, hb5⟩
                    have hj5 := HJB.out _ _ _ HJ1.out hb5
                    have HJ5 : AbidesFrom w5.heap.size J := fun s V V' row hs hg hr => HJ.out s V V' row hs hg (fun r e => ⟨Nat.le_trans (Nat.le_trans HI1.out.sz hb5.size) (hr r e).1, (hr r e).2⟩)
                    have HP := Kept.mk (callsIn_wide.1 (prios_in n hn l b5 c _ J Jx w5 HJ5 hbx (((HCV.out.mono HI1.out.sz).below hb5).mono hb5.size) HY.out _ (by simp only [List.length_append, ixF_len, HHL.out]; have := HNT.out; have := HNL.out; have := HNH.out; omega) hj5))
                    clear hj5 HJ5 hbx hb5 r0 r1 r2 r3 r4 r5
                    go_wp2_with fail
                    refine HP.out.mono ?_
                    rintro e w6 ⟨⟨v, rfl⟩, h⟩
                    go_wp2
                    go_end0
                    rcases h with h | ⟨k, hk, h⟩
                    · exact ⟨⟨_, rfl⟩, .inl h⟩
                    · exact ⟨⟨_, rfl⟩, .inr ⟨_, (List.prefix_append_right_inj _).2 (prF_pref _ hk), h⟩⟩
end Go.Proofs.Ytfneloplbkjbhaa
