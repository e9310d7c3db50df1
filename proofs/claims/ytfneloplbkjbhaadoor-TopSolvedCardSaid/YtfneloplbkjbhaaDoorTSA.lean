/-
  A configuration is read again: add, of the first two lines.
-/
import Derived.Test.YtfneloplbkjbhaaDoorTS9
namespace Go.Proofs.YtfneloplbkjbhaaDoor
open Go.RowKit Go.Shelf
open Go.Lib (byteCells itoa)
set_option linter.unusedVariables false
set_option linter.unusedSimpArgs false
/-- What add leaves. -/
def AddRes (B g : Nat) (d : Rd) (ok : Bool) (w : World) (e : Ending) (w' : World) : Prop := e = .returned (.bool ok) ∧ (∃ vt vl vh, RD B g d vt vl vh w') ∧ FX B g w w'
/-- The words as they lie. -/
theorem ws_new (w : World) (ss : List (List UInt8)) (n : Nat) (hn : n = ss.length) : WS (w.heap.size + 1) w.heap.size ss 0 false ((w.alloc (.cells (ss.map fun s => Value.string (BA s)).toArray 9)).alloc (.cells #[.slice (some ⟨w.heap.size, 0, none⟩) n n, .bool false] 106)) := by
  subst hn
  exact ⟨⟨some ⟨w.heap.size, 0, none⟩, fun _ => rfl, heap_new2 _ _ _⟩, (heap_alloc_old _ _ (by simp)).trans (heap_alloc_new _ _), by omega⟩
theorem keeps_putAt {g : Nat} {cs0 cs : Array Value} {t t0 : TypeId} {w w' : World} (h : PutAt g cs t w w') (h0 : w.heap[g]? = some (.cells cs0 t0 (0, 0))) : KeepsOthers w w' :=
  ⟨Nat.le_of_eq h.size.symm, fun k o hk ho => by
    by_cases e : k = g
    · subst e
      rw [h0] at hk
      injection hk with hk
      subst hk
      cases ho
    · exact (h.far k e).trans hk⟩
theorem FX.put {B g : Nat} {w w' : World} {cs cs0 : Array Value} {t t0 : TypeId} (h : PutAt g cs t w w') (h0 : w.heap[g]? = some (.cells cs0 t0 (0, 0))) : FX B g w w' :=
  ⟨(h.below g (Nat.le_refl _)).os, (h.below g (Nat.le_refl _)).tape, (h.below g (Nat.le_refl _)).output, (h.below g (Nat.le_refl _)).size, fun i _ hn => h.far i hn, keeps_putAt h h0⟩
/-- A row of the reader's stays where only block g turns. -/
theorem own_gb {B g : Nat} {w w' : World} {v : Value} {e : TypeId} {sz n : Nat} {xs : List Value} (h : w.ownsRow B e sz v n xs) (hg : w.grownBy w' (some g)) (hB : g < B) : w'.ownsRow B e sz v n xs :=
  h.kept hg (by
    cases hv : v.ownBlock with
    | none => exact .inl rfl
    | some j => right; intro e; have := (h.lt j hv).1; injection e with e; omega)
theorem gb_put {g : Nat} {w w' : World} {cs : Array Value} {t : TypeId} (h : PutAt g cs t w w') : w.grownBy w' (some g) :=
  ⟨(h.below g (Nat.le_refl _)).os, (h.below g (Nat.le_refl _)).tape, (h.below g (Nat.le_refl _)).output, (h.below g (Nat.le_refl _)).size, fun i _ hn => h.far i (fun e => hn (by rw [e]))⟩
theorem size_tm : (Tryd.prog.info? 42).map (·.size) = some 2 := by kernel_rfl
theorem two_one (x y : Int) : ∀ v ∈ (#[Value.int .i64 x, .int .i64 y] : Array Value).toList, v.oneCell' = true := by
  intro v hv; simp at hv; rcases hv with rfl | rfl <;> rfl
/-- The reader's ending: one line more, and all its words are read. -/
structure AtEnd (B g gw K : Nat) (ss : List (List UInt8)) (w w6 : World) (c0 c1 c2 c3 c4 c5 c6 : Value) : Prop where
  me : w6.heap[g]? = some (.cells #[c0, c1, c2, c3, c4, c5, c6] 85 (0, 0))
  ws : ∃ a, w6.heap[gw]? = some (.cells #[.slice a 0 0, .bool false] 106 (0, 0))
  ne : gw ≠ g
  fx : FX B g w w6
theorem AtEnd.set {B g gw K : Nat} {ss : List (List UInt8)} {w w6 : World} {c0 c1 c2 c3 c4 c5 c6 : Value} (h : AtEnd B g gw K ss w w6 c0 c1 c2 c3 c4 c5 c6) (v : Value) : AtEnd B g gw K ss w (w6.setCell ⟨g, 6, none⟩ v) c0 c1 c2 c3 c4 c5 v := by
  obtain ⟨a, ha⟩ := h.ws
  exact ⟨set_at h.me v, ⟨a, (heap_setCell_other w6 ⟨g, 6, none⟩ gw v h.ne).trans ha⟩, h.ne, h.fx.trans (FX.set B g 6 w6 v)⟩
theorem ws_end {g K : Nat} {ss : List (List UInt8)} {o : Nat} {w : World} (h : WS g K ss o false w) (ho : ss.length - o = 0) : ∃ a, w.heap[g]? = some (.cells #[.slice a 0 0, .bool false] 106 (0, 0)) := by
  obtain ⟨a, _, h1⟩ := h.me
  rw [ho] at h1
  exact ⟨a, h1⟩
set_option maxRecDepth 100000 in
set_option maxHeartbeats 6400000 in
/-- The timing's line, at any time. -/
theorem add_timing (B g : Nat) (mn mx m0 x0 sw a : Int) (ts : List Tk) (ls hs : List Q4) (vt vl vh : Value) (ok : Bool) (w : World) (hRD : RD B g ⟨m0, x0, sw, ts, ls, hs, a⟩ vt vl vh w) (EN : EnvS g w) (hgB : g < B) (hBw : B ≤ w.heap.size) (h1 : TN mn) (h2 : TN mx) (ha : 0 ≤ a) (ha2 : a ≤ 1000) (hok : (a == 0) = ok) :
    Calls Tryd.prog 33 #[.pointer (some ⟨g, 0, none⟩), .string (BA (l1T mn mx))] w (AddRes B g ⟨mn, mx, sw, ts, ls, hs, a + 1⟩ ok w) := by
  have hnos : ∀ x ∈ [itoa mn, itoa mx], (32 : UInt8) ∉ x := nums_no (ns := [mn, mx]) (fun n hn => by simp at hn; rcases hn with rfl | rfl <;> assumption)
  have hlen : (wT ++ blanks [itoa mn, itoa mx]).length ≤ 65536 := by
    rw [← l1_words]
    have := nums_le (ns := [mn, mx]) (k := 2) (fun n hn => by simp at hn; rcases hn with rfl | rfl <;> assumption) (by simp)
    unfold l1T
    simp only [List.length_append, List.length_cons, List.length_nil]
    omega
  cases ok
  · obtain ⟨m1, hm1⟩ := EN.mx
    have HSP := Kept.mk (split_line wT [itoa mn, itoa mx] 3 w rfl (by decide) hnos hlen EN.mx)
    rw [← l1_words mn mx] at HSP
    have HRD := Kept.mk hRD
    have HEN := Kept.mk EN
    have hgl := hRD.lt
    clear hRD EN hm1
    go_enter Tryd.func33, Tryd.ntmps33
    go_upto_region 2 with (go_at_call 38; refine HSP.out.mono ?_; rintro e w1 ⟨rfl, rfl⟩)
    obtain ⟨W2, hW2⟩ : ∃ W2, W2 = (w.alloc (.cells #[.string (BA wT), .string (BA (itoa mn)), .string (BA (itoa mx))] 9)).alloc (.cells #[.slice (some ⟨w.heap.size, 0, none⟩) 3 3, .bool false] 106) := ⟨_, rfl⟩
    obtain ⟨gw, hgw⟩ : ∃ gw, gw = w.heap.size + 1 := ⟨_, rfl⟩
    have hb2 : Below w.heap.size w W2 := by rw [hW2]; exact (below_box w _).alloc (by simp) _
    have hws : WS gw w.heap.size (wT :: [itoa mn, itoa mx]) 0 false W2 := by rw [hW2, hgw]; exact ws_new w (wT :: [itoa mn, itoa mx]) 3 rfl
    have s2 : W2.heap.size = w.heap.size + 2 := by rw [hW2]; simp
    rw [← hW2, ← hgw]
    have HGW := Kept.mk hgw
    have R0 : WR g gw w.heap.size (wT :: [itoa mn, itoa mx]) false W2 0 W2 := ⟨hws, gb_refl _ _, HEN.out.on (hb2.mono (by omega)), by omega, by omega, by simp⟩
    have HU := Kept.mk (fun (U : World) (o : Nat) (h : WR g gw w.heap.size (wT :: [itoa mn, itoa mx]) false W2 o U) => show w.grownBy U (some gw) from gb_trans (gb_below hb2 _) h.gb)
    have HRU := Kept.mk (fun (U : World) (o : Nat) (h : WR g gw w.heap.size (wT :: [itoa mn, itoa mx]) false W2 o U) => HRD.out.on (HU.out U o h) (by omega))
    obtain ⟨c6, -⟩ := (HRU.out _ _ R0).at (i := 6) rfl
    clear hW2 hgw hws hb2 s2
    have q0 := Kept.mk (R0.word (s := wT) rfl)
    clear R0
    go_wp2_with (go_at_call 45; refine q0.out.mono ?_; rintro e w3 ⟨rfl, R1⟩; refine Hid.out ?_)
    refine Lib.hid ?_
    clear q0 c6
    obtain ⟨c6, -⟩ := (HRU.out _ _ R1).at (i := 6) rfl
    have q1 := Kept.mk (R1.num (n := mn) rfl h1)
    clear R1
    go_wp2_with (go_at_call 46; refine q1.out.mono ?_; rintro e w4 ⟨rfl, R2⟩; refine Hid.out ?_)
    refine Lib.hid ?_
    clear q1 c6
    have q2 := Kept.mk (R2.num (n := mx) rfl h2)
    clear R2
    go_wp2_with (go_at_call 46; refine q2.out.mono ?_; rintro e w5 ⟨rfl, R3⟩; refine Hid.out ?_)
    refine Lib.hid ?_
    clear q2
    have HD5 := Kept.mk (HRU.out _ _ R3)
    have HG5 := Kept.mk (HU.out _ _ R3)
    have HW5 := Kept.mk (ws_end R3.ws rfl)
    have hme5 := HD5.out.me
    have g5 : g < w5.heap.size := HD5.out.lt
    clear R3
    go_wp2_with (refine wpList_store_at rfl 42 _ _ rfl g 0 rfl #[.int .i64 mn, .int .i64 mx] rfl 85 _ #[.int .i64 mn, .int .i64 mx, .int .i64 sw, vt, vl, vh, .int .i64 a] hme5 size_tm (by simp) (two_one _ _) rfl ?_; intro w6 hp; have HP := Kept.mk hp; clear hp hme5; refine Hid.out ?_)
    refine Lib.hid ?_
    have HE := Kept.mk (show AtEnd B g gw w.heap.size [wT, itoa mn, itoa mx] w w6 (.int .i64 mn) (.int .i64 mx) (.int .i64 sw) vt vl vh (.int .i64 a) from
      ⟨HP.out.here, by obtain ⟨a, ha⟩ := HW5.out; exact ⟨a, (HP.out.far gw (by have := HGW.out; omega)).trans ha⟩, by have := HGW.out; omega, (FX.of_new HG5.out hBw (by have := HGW.out; omega)).trans (FX.put HP.out HD5.out.me)⟩)
    have G56 := Kept.mk (gb_put HP.out)
    have e6 := cell_of_row _ _ 6 _ _ _ HE.out.me
    have f6 : w6.frozen? ⟨g, 6, none⟩ = false := by simp [World.frozen?, HE.out.me]
    simp only [List.getElem?_toArray, List.getElem?_cons_zero, List.getElem?_cons_succ] at e6
    go_upto_region 22 with fail
    have HE7 := Kept.mk (HE.out.set (.int .i64 (a + 1)))
    obtain ⟨w7, hw7⟩ : ∃ w7, w7 = w6.setCell ⟨g, 6, none⟩ (.int .i64 (a + 1)) := ⟨_, rfl⟩
    rw [← hw7] at HE7 ⊢
    have G67 := Kept.mk (show w6.grownBy w7 (some g) from by rw [hw7]; exact gb_set _ _ _ _)
    clear hw7 e6 f6
    obtain ⟨ax, hax⟩ := HE7.out.ws
    have b0 := cell_of_row _ _ 0 _ _ _ hax
    have b1 := cell_of_row _ _ 1 _ _ _ hax
    simp only [List.getElem?_toArray, List.getElem?_cons_zero, List.getElem?_cons_succ] at b0 b1
    clear hax
    go_wp2
    go_ret
    exact ⟨rfl, ⟨_, _, _, ⟨HE7.out.me, own_gb (own_gb HD5.out.ot G56.out hgB) G67.out hgB, own_gb (own_gb HD5.out.ol G56.out hgB) G67.out hgB, own_gb (own_gb HD5.out.oh G56.out hgB) G67.out hgB⟩⟩, HE7.out.fx⟩
  · obtain ⟨m1, hm1⟩ := EN.mx
    have HSP := Kept.mk (split_line wT [itoa mn, itoa mx] 3 w rfl (by decide) hnos hlen EN.mx)
    rw [← l1_words mn mx] at HSP
    have HRD := Kept.mk hRD
    have HEN := Kept.mk EN
    have hgl := hRD.lt
    clear hRD EN hm1
    go_enter Tryd.func33, Tryd.ntmps33
    go_upto_region 2 with (go_at_call 38; refine HSP.out.mono ?_; rintro e w1 ⟨rfl, rfl⟩)
    obtain ⟨W2, hW2⟩ : ∃ W2, W2 = (w.alloc (.cells #[.string (BA wT), .string (BA (itoa mn)), .string (BA (itoa mx))] 9)).alloc (.cells #[.slice (some ⟨w.heap.size, 0, none⟩) 3 3, .bool false] 106) := ⟨_, rfl⟩
    obtain ⟨gw, hgw⟩ : ∃ gw, gw = w.heap.size + 1 := ⟨_, rfl⟩
    have hb2 : Below w.heap.size w W2 := by rw [hW2]; exact (below_box w _).alloc (by simp) _
    have hws : WS gw w.heap.size (wT :: [itoa mn, itoa mx]) 0 false W2 := by rw [hW2, hgw]; exact ws_new w (wT :: [itoa mn, itoa mx]) 3 rfl
    have s2 : W2.heap.size = w.heap.size + 2 := by rw [hW2]; simp
    rw [← hW2, ← hgw]
    have HGW := Kept.mk hgw
    have R0 : WR g gw w.heap.size (wT :: [itoa mn, itoa mx]) false W2 0 W2 := ⟨hws, gb_refl _ _, HEN.out.on (hb2.mono (by omega)), by omega, by omega, by simp⟩
    have HU := Kept.mk (fun (U : World) (o : Nat) (h : WR g gw w.heap.size (wT :: [itoa mn, itoa mx]) false W2 o U) => show w.grownBy U (some gw) from gb_trans (gb_below hb2 _) h.gb)
    have HRU := Kept.mk (fun (U : World) (o : Nat) (h : WR g gw w.heap.size (wT :: [itoa mn, itoa mx]) false W2 o U) => HRD.out.on (HU.out U o h) (by omega))
    obtain ⟨c6, -⟩ := (HRU.out _ _ R0).at (i := 6) rfl
    clear hW2 hgw hws hb2 s2
    have q0 := Kept.mk (R0.word (s := wT) rfl)
    clear R0
    go_wp2_with (go_at_call 45; refine q0.out.mono ?_; rintro e w3 ⟨rfl, R1⟩; refine Hid.out ?_)
    refine Lib.hid ?_
    clear q0 c6
    obtain ⟨c6, -⟩ := (HRU.out _ _ R1).at (i := 6) rfl
    have q1 := Kept.mk (R1.num (n := mn) rfl h1)
    clear R1
    go_wp2_with (go_at_call 46; refine q1.out.mono ?_; rintro e w4 ⟨rfl, R2⟩; refine Hid.out ?_)
    refine Lib.hid ?_
    clear q1 c6
    have q2 := Kept.mk (R2.num (n := mx) rfl h2)
    clear R2
    go_wp2_with (go_at_call 46; refine q2.out.mono ?_; rintro e w5 ⟨rfl, R3⟩; refine Hid.out ?_)
    refine Lib.hid ?_
    clear q2
    have HD5 := Kept.mk (HRU.out _ _ R3)
    have HG5 := Kept.mk (HU.out _ _ R3)
    have HW5 := Kept.mk (ws_end R3.ws rfl)
    have hme5 := HD5.out.me
    have g5 : g < w5.heap.size := HD5.out.lt
    clear R3
    go_wp2_with (refine wpList_store_at rfl 42 _ _ rfl g 0 rfl #[.int .i64 mn, .int .i64 mx] rfl 85 _ #[.int .i64 mn, .int .i64 mx, .int .i64 sw, vt, vl, vh, .int .i64 a] hme5 size_tm (by simp) (two_one _ _) rfl ?_; intro w6 hp; have HP := Kept.mk hp; clear hp hme5; refine Hid.out ?_)
    refine Lib.hid ?_
    have HE := Kept.mk (show AtEnd B g gw w.heap.size [wT, itoa mn, itoa mx] w w6 (.int .i64 mn) (.int .i64 mx) (.int .i64 sw) vt vl vh (.int .i64 a) from
      ⟨HP.out.here, by obtain ⟨a, ha⟩ := HW5.out; exact ⟨a, (HP.out.far gw (by have := HGW.out; omega)).trans ha⟩, by have := HGW.out; omega, (FX.of_new HG5.out hBw (by have := HGW.out; omega)).trans (FX.put HP.out HD5.out.me)⟩)
    have G56 := Kept.mk (gb_put HP.out)
    have e6 := cell_of_row _ _ 6 _ _ _ HE.out.me
    have f6 : w6.frozen? ⟨g, 6, none⟩ = false := by simp [World.frozen?, HE.out.me]
    simp only [List.getElem?_toArray, List.getElem?_cons_zero, List.getElem?_cons_succ] at e6
    go_upto_region 22 with fail
    have HE7 := Kept.mk (HE.out.set (.int .i64 (a + 1)))
    obtain ⟨w7, hw7⟩ : ∃ w7, w7 = w6.setCell ⟨g, 6, none⟩ (.int .i64 (a + 1)) := ⟨_, rfl⟩
    rw [← hw7] at HE7 ⊢
    have G67 := Kept.mk (show w6.grownBy w7 (some g) from by rw [hw7]; exact gb_set _ _ _ _)
    clear hw7 e6 f6
    obtain ⟨ax, hax⟩ := HE7.out.ws
    have b0 := cell_of_row _ _ 0 _ _ _ hax
    have b1 := cell_of_row _ _ 1 _ _ _ hax
    simp only [List.getElem?_toArray, List.getElem?_cons_zero, List.getElem?_cons_succ] at b0 b1
    clear hax
    go_wp2
    go_ret
    exact ⟨rfl, ⟨_, _, _, ⟨HE7.out.me, own_gb (own_gb HD5.out.ot G56.out hgB) G67.out hgB, own_gb (own_gb HD5.out.ol G56.out hgB) G67.out hgB, own_gb (own_gb HD5.out.oh G56.out hgB) G67.out hgB⟩⟩, HE7.out.fx⟩
set_option maxRecDepth 100000 in
set_option maxHeartbeats 6400000 in
/-- The switch's line, at any time. -/
theorem add_switch (B g : Nat) (mn mx sw s0 a : Int) (ts : List Tk) (ls hs : List Q4) (vt vl vh : Value) (ok : Bool) (w : World) (hRD : RD B g ⟨mn, mx, s0, ts, ls, hs, a⟩ vt vl vh w) (EN : EnvS g w) (hgB : g < B) (hBw : B ≤ w.heap.size) (h1 : TN sw) (ha : 0 ≤ a) (ha2 : a ≤ 1000) (hok : (a == 1) = ok) :
    Calls Tryd.prog 33 #[.pointer (some ⟨g, 0, none⟩), .string (BA (l2T sw))] w (AddRes B g ⟨mn, mx, sw, ts, ls, hs, a + 1⟩ ok w) := by
  have hnos : ∀ x ∈ [itoa sw], (32 : UInt8) ∉ x := nums_no (ns := [sw]) (fun n hn => by simp at hn; rcases hn with rfl; assumption)
  have hlen : (wS ++ blanks [itoa sw]).length ≤ 65536 := by
    rw [← l2_words]
    have := nums_le (ns := [sw]) (k := 1) (fun n hn => by simp at hn; rcases hn with rfl; assumption) (by simp)
    unfold l2T
    simp only [List.length_append, List.length_cons, List.length_nil]
    omega
  cases ok
  · obtain ⟨m1, hm1⟩ := EN.mx
    have HSP := Kept.mk (split_line wS [itoa sw] 2 w rfl (by decide) hnos hlen EN.mx)
    rw [← l2_words sw] at HSP
    have HRD := Kept.mk hRD
    have HEN := Kept.mk EN
    have hgl := hRD.lt
    clear hRD EN hm1
    go_enter Tryd.func33, Tryd.ntmps33
    go_upto_region 2 with (go_at_call 38; refine HSP.out.mono ?_; rintro e w1 ⟨rfl, rfl⟩)
    obtain ⟨W2, hW2⟩ : ∃ W2, W2 = (w.alloc (.cells #[.string (BA wS), .string (BA (itoa sw))] 9)).alloc (.cells #[.slice (some ⟨w.heap.size, 0, none⟩) 2 2, .bool false] 106) := ⟨_, rfl⟩
    obtain ⟨gw, hgw⟩ : ∃ gw, gw = w.heap.size + 1 := ⟨_, rfl⟩
    have hb2 : Below w.heap.size w W2 := by rw [hW2]; exact (below_box w _).alloc (by simp) _
    have hws : WS gw w.heap.size (wS :: [itoa sw]) 0 false W2 := by rw [hW2, hgw]; exact ws_new w (wS :: [itoa sw]) 2 rfl
    have s2 : W2.heap.size = w.heap.size + 2 := by rw [hW2]; simp
    rw [← hW2, ← hgw]
    have HGW := Kept.mk hgw
    have R0 : WR g gw w.heap.size (wS :: [itoa sw]) false W2 0 W2 := ⟨hws, gb_refl _ _, HEN.out.on (hb2.mono (by omega)), by omega, by omega, by simp⟩
    have HU := Kept.mk (fun (U : World) (o : Nat) (h : WR g gw w.heap.size (wS :: [itoa sw]) false W2 o U) => show w.grownBy U (some gw) from gb_trans (gb_below hb2 _) h.gb)
    have HRU := Kept.mk (fun (U : World) (o : Nat) (h : WR g gw w.heap.size (wS :: [itoa sw]) false W2 o U) => HRD.out.on (HU.out U o h) (by omega))
    obtain ⟨c6, -⟩ := (HRU.out _ _ R0).at (i := 6) rfl
    clear hW2 hgw hws hb2 s2
    have q0 := Kept.mk (R0.word (s := wS) rfl)
    clear R0
    go_wp2_with (go_at_call 45; refine q0.out.mono ?_; rintro e w3 ⟨rfl, R1⟩; refine Hid.out ?_)
    refine Lib.hid ?_
    clear q0 c6
    obtain ⟨c6, -⟩ := (HRU.out _ _ R1).at (i := 6) rfl
    have q1 := Kept.mk (R1.num (n := sw) rfl h1)
    clear R1
    go_wp2_with (go_at_call 46; refine q1.out.mono ?_; rintro e w5 ⟨rfl, R3⟩; refine Hid.out ?_)
    refine Lib.hid ?_
    clear q1 c6
    have HD5 := Kept.mk (HRU.out _ _ R3)
    have HG5 := Kept.mk (HU.out _ _ R3)
    have HW5 := Kept.mk (ws_end R3.ws rfl)
    obtain ⟨e2, f2⟩ := HD5.out.at (i := 2) rfl
    have g5 : g < w5.heap.size := HD5.out.lt
    clear R3
    go_upto_region 21 with fail
    obtain ⟨w6, hw6⟩ : ∃ w6, w6 = w5.setCell ⟨g, 2, none⟩ (.int .i64 sw) := ⟨_, rfl⟩
    have hme6 : w6.heap[g]? = some (.cells #[.int .i64 mn, .int .i64 mx, .int .i64 sw, vt, vl, vh, .int .i64 a] 85 (0, 0)) := by rw [hw6]; exact set_at HD5.out.me _
    have HE := Kept.mk (show AtEnd B g gw w.heap.size [wS, itoa sw] w w6 (.int .i64 mn) (.int .i64 mx) (.int .i64 sw) vt vl vh (.int .i64 a) from
      ⟨hme6, by obtain ⟨a, ha⟩ := HW5.out; exact ⟨a, by rw [hw6]; exact (heap_setCell_other w5 ⟨g, 2, none⟩ gw _ (by have := HGW.out; simp; omega)).trans ha⟩, by have := HGW.out; omega, (FX.of_new HG5.out hBw (by have := HGW.out; omega)).trans (by rw [hw6]; exact FX.set B g 2 w5 _)⟩)
    have G56 := Kept.mk (show w5.grownBy w6 (some g) from by rw [hw6]; exact gb_set _ _ _ _)
    rw [← hw6]
    clear hw6 hme6 e2 f2
    have e6 := cell_of_row _ _ 6 _ _ _ HE.out.me
    have f6 : w6.frozen? ⟨g, 6, none⟩ = false := by simp [World.frozen?, HE.out.me]
    simp only [List.getElem?_toArray, List.getElem?_cons_zero, List.getElem?_cons_succ] at e6
    go_upto_region 22 with fail
    have HE7 := Kept.mk (HE.out.set (.int .i64 (a + 1)))
    obtain ⟨w7, hw7⟩ : ∃ w7, w7 = w6.setCell ⟨g, 6, none⟩ (.int .i64 (a + 1)) := ⟨_, rfl⟩
    rw [← hw7] at HE7 ⊢
    have G67 := Kept.mk (show w6.grownBy w7 (some g) from by rw [hw7]; exact gb_set _ _ _ _)
    clear hw7 e6 f6
    obtain ⟨ax, hax⟩ := HE7.out.ws
    have b0 := cell_of_row _ _ 0 _ _ _ hax
    have b1 := cell_of_row _ _ 1 _ _ _ hax
    simp only [List.getElem?_toArray, List.getElem?_cons_zero, List.getElem?_cons_succ] at b0 b1
    clear hax
    go_wp2
    go_ret
    exact ⟨rfl, ⟨_, _, _, ⟨HE7.out.me, own_gb (own_gb HD5.out.ot G56.out hgB) G67.out hgB, own_gb (own_gb HD5.out.ol G56.out hgB) G67.out hgB, own_gb (own_gb HD5.out.oh G56.out hgB) G67.out hgB⟩⟩, HE7.out.fx⟩
  · obtain ⟨m1, hm1⟩ := EN.mx
    have HSP := Kept.mk (split_line wS [itoa sw] 2 w rfl (by decide) hnos hlen EN.mx)
    rw [← l2_words sw] at HSP
    have HRD := Kept.mk hRD
    have HEN := Kept.mk EN
    have hgl := hRD.lt
    clear hRD EN hm1
    go_enter Tryd.func33, Tryd.ntmps33
    go_upto_region 2 with (go_at_call 38; refine HSP.out.mono ?_; rintro e w1 ⟨rfl, rfl⟩)
    obtain ⟨W2, hW2⟩ : ∃ W2, W2 = (w.alloc (.cells #[.string (BA wS), .string (BA (itoa sw))] 9)).alloc (.cells #[.slice (some ⟨w.heap.size, 0, none⟩) 2 2, .bool false] 106) := ⟨_, rfl⟩
    obtain ⟨gw, hgw⟩ : ∃ gw, gw = w.heap.size + 1 := ⟨_, rfl⟩
    have hb2 : Below w.heap.size w W2 := by rw [hW2]; exact (below_box w _).alloc (by simp) _
    have hws : WS gw w.heap.size (wS :: [itoa sw]) 0 false W2 := by rw [hW2, hgw]; exact ws_new w (wS :: [itoa sw]) 2 rfl
    have s2 : W2.heap.size = w.heap.size + 2 := by rw [hW2]; simp
    rw [← hW2, ← hgw]
    have HGW := Kept.mk hgw
    have R0 : WR g gw w.heap.size (wS :: [itoa sw]) false W2 0 W2 := ⟨hws, gb_refl _ _, HEN.out.on (hb2.mono (by omega)), by omega, by omega, by simp⟩
    have HU := Kept.mk (fun (U : World) (o : Nat) (h : WR g gw w.heap.size (wS :: [itoa sw]) false W2 o U) => show w.grownBy U (some gw) from gb_trans (gb_below hb2 _) h.gb)
    have HRU := Kept.mk (fun (U : World) (o : Nat) (h : WR g gw w.heap.size (wS :: [itoa sw]) false W2 o U) => HRD.out.on (HU.out U o h) (by omega))
    obtain ⟨c6, -⟩ := (HRU.out _ _ R0).at (i := 6) rfl
    clear hW2 hgw hws hb2 s2
    have q0 := Kept.mk (R0.word (s := wS) rfl)
    clear R0
    go_wp2_with (go_at_call 45; refine q0.out.mono ?_; rintro e w3 ⟨rfl, R1⟩; refine Hid.out ?_)
    refine Lib.hid ?_
    clear q0 c6
    obtain ⟨c6, -⟩ := (HRU.out _ _ R1).at (i := 6) rfl
    have q1 := Kept.mk (R1.num (n := sw) rfl h1)
    clear R1
    go_wp2_with (go_at_call 46; refine q1.out.mono ?_; rintro e w5 ⟨rfl, R3⟩; refine Hid.out ?_)
    refine Lib.hid ?_
    clear q1 c6
    have HD5 := Kept.mk (HRU.out _ _ R3)
    have HG5 := Kept.mk (HU.out _ _ R3)
    have HW5 := Kept.mk (ws_end R3.ws rfl)
    obtain ⟨e2, f2⟩ := HD5.out.at (i := 2) rfl
    have g5 : g < w5.heap.size := HD5.out.lt
    clear R3
    go_upto_region 21 with fail
    obtain ⟨w6, hw6⟩ : ∃ w6, w6 = w5.setCell ⟨g, 2, none⟩ (.int .i64 sw) := ⟨_, rfl⟩
    have hme6 : w6.heap[g]? = some (.cells #[.int .i64 mn, .int .i64 mx, .int .i64 sw, vt, vl, vh, .int .i64 a] 85 (0, 0)) := by rw [hw6]; exact set_at HD5.out.me _
    have HE := Kept.mk (show AtEnd B g gw w.heap.size [wS, itoa sw] w w6 (.int .i64 mn) (.int .i64 mx) (.int .i64 sw) vt vl vh (.int .i64 a) from
      ⟨hme6, by obtain ⟨a, ha⟩ := HW5.out; exact ⟨a, by rw [hw6]; exact (heap_setCell_other w5 ⟨g, 2, none⟩ gw _ (by have := HGW.out; simp; omega)).trans ha⟩, by have := HGW.out; omega, (FX.of_new HG5.out hBw (by have := HGW.out; omega)).trans (by rw [hw6]; exact FX.set B g 2 w5 _)⟩)
    have G56 := Kept.mk (show w5.grownBy w6 (some g) from by rw [hw6]; exact gb_set _ _ _ _)
    rw [← hw6]
    clear hw6 hme6 e2 f2
    have e6 := cell_of_row _ _ 6 _ _ _ HE.out.me
    have f6 : w6.frozen? ⟨g, 6, none⟩ = false := by simp [World.frozen?, HE.out.me]
    simp only [List.getElem?_toArray, List.getElem?_cons_zero, List.getElem?_cons_succ] at e6
    go_upto_region 22 with fail
    have HE7 := Kept.mk (HE.out.set (.int .i64 (a + 1)))
    obtain ⟨w7, hw7⟩ : ∃ w7, w7 = w6.setCell ⟨g, 6, none⟩ (.int .i64 (a + 1)) := ⟨_, rfl⟩
    rw [← hw7] at HE7 ⊢
    have G67 := Kept.mk (show w6.grownBy w7 (some g) from by rw [hw7]; exact gb_set _ _ _ _)
    clear hw7 e6 f6
    obtain ⟨ax, hax⟩ := HE7.out.ws
    have b0 := cell_of_row _ _ 0 _ _ _ hax
    have b1 := cell_of_row _ _ 1 _ _ _ hax
    simp only [List.getElem?_toArray, List.getElem?_cons_zero, List.getElem?_cons_succ] at b0 b1
    clear hax
    go_wp2
    go_ret
    exact ⟨rfl, ⟨_, _, _, ⟨HE7.out.me, own_gb (own_gb HD5.out.ot G56.out hgB) G67.out hgB, own_gb (own_gb HD5.out.ol G56.out hgB) G67.out hgB, own_gb (own_gb HD5.out.oh G56.out hgB) G67.out hgB⟩⟩, HE7.out.fx⟩
end Go.Proofs.YtfneloplbkjbhaaDoor
