/-
  A configuration is read again: add, of a task's line.
-/
import Derived.Test.YtfneloplbkjbhaaDoorTSC
namespace Go.Proofs.YtfneloplbkjbhaaDoor
open Go.RowKit Go.Shelf
open Go.Lib (byteCells itoa)
set_option linter.unusedVariables false
set_option linter.unusedSimpArgs false
set_option maxRecDepth 100000 in
set_option maxHeartbeats 12800000 in
theorem add_periodic (B g : Nat) (mn mx sw a : Int) (ts : List Tk) (ls hs : List Q4) (t : Tk) (vt vl vh : Value) (b1 b2 b3 : Bool) (w : World) (hRD : RD B g ⟨mn, mx, sw, ts, ls, hs, a⟩ vt vl vh w) (EN : EnvS g w) (hgB : g < B) (hBw : B ≤ w.heap.size) (ht : okTk t) (hk : t.k = 1) (hlen : ts.length ≤ 1000) (hlen2 : ls.length ≤ 1000) (ha : 0 ≤ a) (ha2 : a ≤ 1000) (hl0 : (tkT t).length ≤ 65536) (hb1 : decide (2 ≤ a) = b1) (hb2 : (ls.length == 0) = b2) (hb3 : decide (ts.length < 32) = b3) :
    Calls Tryd.prog 33 #[.pointer (some ⟨g, 0, none⟩), .string (BA (tkT t))] w (AddRes B g ⟨mn, mx, sw, ts ++ [t], ls, hs, a + 1⟩ (b1 && b2 && b3) w) := by
  have hd0 : tkWord t = wP := by unfold tkWord; rw [hk]; rfl
  have htx : tkT t = wP ++ blanks (tkWs t) := by rw [tk_words, hd0]; rfl
  have hln : (wP ++ blanks (tkWs t)).length ≤ 65536 := by rw [← htx]; exact hl0
  have hnn : (tkWs t).length ≤ 20 := by
    unfold tkWs
    split
    · show 6 ≤ 20; omega
    · show 10 ≤ 20; omega
  obtain ⟨n, hn⟩ : ∃ n, n = (tkWs t).length + 1 := ⟨_, rfl⟩
  have HT := Kept.mk ht
  have HK := Kept.mk hk
  have hnos := ht.no
  obtain ⟨At, ct, rfl⟩ := own_slice hRD.ot
  obtain ⟨Al, cl, rfl⟩ := own_slice hRD.ol
  obtain ⟨i0, hi, hz0, hz1, hz2⟩ := info_parts info_tk
  obtain ⟨tx, htxx⟩ : ∃ tx, tx = tkT t := ⟨_, rfl⟩
  rw [← htxx] at htx ⊢
  obtain ⟨nt, hnt⟩ : ∃ nt, nt = ts.length := ⟨_, rfl⟩
  obtain ⟨nl, hnl⟩ : ∃ nl, nl = ls.length := ⟨_, rfl⟩
  simp only at hRD
  rw [← hnt] at hRD hlen hb3
  rw [← hnl] at hRD hlen2 hb2
  have HNT := Kept.mk hnt
  have hb2' : ((nl : Int) == 0) = b2 := by
    rw [← hb2]
    cases nl with
    | zero => rfl
    | succ m => show _ = false; rw [beq_eq_false_iff_ne]; omega
  have hb3' : decide ((nt : Int) < 32) = b3 := by
    rw [← hb3]
    congr 1
    simp only [eq_iff_iff]
    omega
  clear ht hk hl0 hd0 htxx hnt hnl
  obtain ⟨ws, hws⟩ : ∃ ws, ws = tkWs t := ⟨_, rfl⟩
  rw [← hws] at htx hln hnn hn hnos
  have HWS := Kept.mk hws
  clear hws
  have HN := Kept.mk hn
  have HTXT := Kept.mk htx
  clear hn htx
  cases b1
  · obtain ⟨m1, hm1⟩ := EN.mx
    obtain ⟨row, hrow⟩ : ∃ row, row = ((wP :: ws).map fun s => Value.string (BA s)).toArray := ⟨_, rfl⟩
    have hsp := split_line wP ws n w HN.out.symm (by decide) hnos hln EN.mx
    rw [← hrow, ← HTXT.out] at hsp
    have HROW := Kept.mk hrow
    have HSP := Kept.mk hsp
    have HRD := Kept.mk hRD
    have HEN := Kept.mk EN
    have hgl := hRD.lt
    clear hRD EN hm1 hsp hrow
    go_enter Tryd.func33, Tryd.ntmps33
    go_upto_region 2 with (go_at_call 38; refine HSP.out.mono ?_; rintro e w1 ⟨rfl, rfl⟩)
    obtain ⟨W2, hW2⟩ : ∃ W2, W2 = (w.alloc (.cells row 9)).alloc (.cells #[.slice (some ⟨w.heap.size, 0, none⟩) n n, .bool false] 106) := ⟨_, rfl⟩
    obtain ⟨gw, hgw⟩ : ∃ gw, gw = w.heap.size + 1 := ⟨_, rfl⟩
    have hb2 : Below w.heap.size w W2 := by rw [hW2]; exact (below_box w _).alloc (by simp) _
    have hws : WS gw w.heap.size (wP :: ws) 0 false W2 := by rw [hW2, hgw, HROW.out]; exact ws_new w (wP :: ws) n (by rw [List.length_cons]; exact HN.out)
    have s2 : W2.heap.size = w.heap.size + 2 := by rw [hW2]; simp
    rw [← hW2, ← hgw]
    have HGW := Kept.mk hgw
    have R0 : WR g gw w.heap.size (wP :: ws) false W2 0 W2 := ⟨hws, gb_refl _ _, HEN.out.on (hb2.mono (by omega)), by omega, by omega, by rw [List.length_cons]; omega⟩
    have HU := Kept.mk (fun (U : World) (o : Nat) (h : WR g gw w.heap.size (wP :: ws) false W2 o U) => show w.grownBy U (some gw) from gb_trans (gb_below hb2 _) h.gb)
    have HRU := Kept.mk (fun (U : World) (o : Nat) (h : WR g gw w.heap.size (wP :: ws) false W2 o U) => HRD.out.on (HU.out U o h) (by omega))
    obtain ⟨c6, -⟩ := (HRU.out _ _ R0).at (i := 6) rfl
    clear hW2 hgw hws hb2 s2 HROW
    have q0 := Kept.mk (R0.word (s := wP) rfl)
    clear R0
    go_wp2_with (go_at_call 45; refine q0.out.mono ?_; rintro e w3 ⟨rfl, R1⟩; refine Hid.out ?_)
    refine Lib.hid ?_
    clear q0 c6
    clear HSP
    have HM := Kept.mk (show Mid B g gw w.heap.size (wP :: ws) w ⟨mn, mx, sw, ts, ls, hs, a⟩ (.slice At nt ct) (.slice Al nl cl) vh 1 w3 from
      ⟨HRU.out _ _ R1, R1.ws, FX.of_new (HU.out _ _ R1) hBw (by have := HGW.out; omega), HEN.out, hgB, by have := HGW.out; omega, hBw, hBw, by rw [List.length_cons]; omega⟩)
    obtain ⟨c3, -⟩ := HM.out.rd.at (i := 3) rfl
    obtain ⟨c4, -⟩ := HM.out.rd.at (i := 4) rfl
    clear R1 HU HRU
    go_upto_region 13 with fail
    have HSB := Kept.mk (fun (V : World) (o : Nat) (h : Mid B g gw w.heap.size (wP :: ws) w ⟨mn, mx, sw, ts, ls, hs, a⟩ (.slice At nt ct) (.slice Al nl cl) vh o V) => show (fun V : World => V.cell? ⟨g, 3, none⟩ = some (.slice At nt ct)) V from (h.rd.at (i := 3) rfl).1)
    refine wp_region_late (fun V : World => V.cell? ⟨g, 3, none⟩ = some (.slice At nt ct)) (fun i => i == 13) (by kernel_rfl) ?_
    obtain ⟨wd, hwd⟩ : ∃ wd, wd = w3.drew := ⟨_, rfl⟩
    have M1 := Kept.mk (HM.out.on (show Below w3.heap.size w3 wd from by rw [hwd]; exact (Below.refl _ _).drewN 1))
    have HS0 := Kept.mk (HSB.out _ _ M1.out)
    rw [← hwd]
    clear hwd c3 c4
    refine wpAnyT_take (i := 0) (v := ?va0) [0, 13] (by simp only [List.getElem?_toArray, List.getElem?_cons_succ, List.getElem?_cons_zero]; exact rfl) (by kernel_rfl) (by kernel_rfl) (by kernel_rfl) (by kernel_rfl) (by intro _ _ _ h; exact h) (Or.inl ⟨by rfl, ?hya0⟩) HS0.out ?resta0
    case hya0 => (intro w hSw; go_simp; try with_reducible rfl)
    try simp only [Act.put, List.setIfInBounds_toArray, List.set_cons_zero, List.set_cons_succ]
    refine wpAnyT_take (i := 1) (v := ?va1) [1, 13] (by simp only [List.getElem?_toArray, List.getElem?_cons_succ, List.getElem?_cons_zero]; exact rfl) (by kernel_rfl) (by kernel_rfl) (by kernel_rfl) (by kernel_rfl) (by intro _ _ _ h; exact h) (Or.inl ⟨by rfl, ?hya1⟩) HS0.out ?resta1
    case hya1 => (intro w hSw; go_simp; try with_reducible rfl)
    try simp only [Act.put, List.setIfInBounds_toArray, List.set_cons_zero, List.set_cons_succ]
    refine wpAnyT_take (i := 2) (v := ?va2) [2, 13] (by simp only [List.getElem?_toArray, List.getElem?_cons_succ, List.getElem?_cons_zero]; exact rfl) (by kernel_rfl) (by kernel_rfl) (by kernel_rfl) (by kernel_rfl) (by intro _ _ _ h; exact h) (Or.inl ⟨by rfl, ?hya2⟩) HS0.out ?resta2
    case hya2 => (intro w hSw; go_simp; try with_reducible rfl)
    try simp only [Act.put, List.setIfInBounds_toArray, List.set_cons_zero, List.set_cons_succ]
    refine wpAnyT_take (i := 3) (v := ?va3) [3, 13] (by simp only [List.getElem?_toArray, List.getElem?_cons_succ, List.getElem?_cons_zero]; exact rfl) (by kernel_rfl) (by kernel_rfl) (by kernel_rfl) (by kernel_rfl) (by intro _ _ _ h; exact h) (Or.inl ⟨by rfl, ?hya3⟩) HS0.out ?resta3
    case hya3 => (intro w hSw; go_simp; try with_reducible rfl)
    try simp only [Act.put, List.setIfInBounds_toArray, List.set_cons_zero, List.set_cons_succ]
    refine wpAnyT_take (i := 4) (v := ?va4) [4, 13] (by simp only [List.getElem?_toArray, List.getElem?_cons_succ, List.getElem?_cons_zero]; exact rfl) (by kernel_rfl) (by kernel_rfl) (by kernel_rfl) (by kernel_rfl) (by intro _ _ _ h; exact h) (Or.inl ⟨by rfl, ?hya4⟩) HS0.out ?resta4
    case hya4 => (intro w hSw; go_simp; try with_reducible rfl)
    try simp only [Act.put, List.setIfInBounds_toArray, List.set_cons_zero, List.set_cons_succ]
    refine wpAnyT_take (i := 5) (v := ?va5) [5, 13] (by simp only [List.getElem?_toArray, List.getElem?_cons_succ, List.getElem?_cons_zero]; exact rfl) (by kernel_rfl) (by kernel_rfl) (by kernel_rfl) (by kernel_rfl) (by intro _ _ _ h; exact h) (Or.inl ⟨by rfl, ?hya5⟩) HS0.out ?resta5
    case hya5 => (intro w hSw; go_simp; try with_reducible rfl)
    try simp only [Act.put, List.setIfInBounds_toArray, List.set_cons_zero, List.set_cons_succ]
    refine wpAnyT_take (i := 6) (v := ?va6) [6, 13] (by simp only [List.getElem?_toArray, List.getElem?_cons_succ, List.getElem?_cons_zero]; exact rfl) (by kernel_rfl) (by kernel_rfl) (by kernel_rfl) (by kernel_rfl) (by intro _ _ _ h; exact h) (Or.inl ⟨by rfl, ?hya6⟩) HS0.out ?resta6
    case hya6 => (intro w hSw; go_simp; try with_reducible rfl)
    try simp only [Act.put, List.setIfInBounds_toArray, List.set_cons_zero, List.set_cons_succ]
    refine wpAnyT_one 7 (by kernel_rfl) (by simp only [List.getElem?_toArray, List.getElem?_cons_succ, List.getElem?_cons_zero]; exact rfl) (fun K hK => ?_)
    go_simp
    go_at_call 47
    rw [← HK.out]
    refine (task_any g gw w.heap.size wP t wd HT.out (by rw [← HWS.out]; exact M1.out.ws) M1.out.env (by have := HGW.out; omega)).mono ?_
    rintro e w4 ⟨rfl, hws4, hg4⟩
    rw [← HWS.out] at hws4
    have M2 := Kept.mk (M1.out.call hws4 hg4)
    have S2 := Kept.mk (HSB.out _ _ M2.out)
    clear hws4 hg4
    refine hK.out _ _ (fun _ => S2.out) ?_
    clear hK K
    try simp only [Act.put, List.setIfInBounds_toArray, List.set_cons_zero, List.set_cons_succ]
    refine wpAnyT_one 8 (by kernel_rfl) (by simp only [List.getElem?_toArray, List.getElem?_cons_succ, List.getElem?_cons_zero]; exact rfl) (fun K hK => ?_)
    go_simp
    have M6 := Kept.mk (M2.out.on (below_box w4 (.cells t.cells.toArray 54)))
    have S6 := Kept.mk (HSB.out _ _ M6.out)
    have hnew := cells_new w4 w4.heap.size rfl t.cells 54
    refine hK.out _ _ (fun _ => S6.out) ?_
    clear hK K
    try simp only [Act.put, List.setIfInBounds_toArray, List.set_cons_zero, List.set_cons_succ]
    refine wpAnyT_one 9 (by kernel_rfl) (by simp only [List.getElem?_toArray, List.getElem?_cons_succ, List.getElem?_cons_zero]; exact rfl) (fun K hK => ?_)
    refine step_wp' rfl (wp_append_own _ (.tmp 73) (.tmp 76) 43 rfl B 54 i0 (.agg #[.int .u8 0, .int .i64 0, .int .i64 0, .int .i64 0, .int .i64 0, .int .i64 0, .int .i64 0, .int .i64 0, .int .i64 0, .int .i64 0]) 10 80 Tryd.underlying43 hi hz0 hz1 hz2 rfl (by decide) (.slice At nt ct) nt (ts.flatMap Tk.cells) rfl (own_len M6.out.rd.ot HNT.out.symm) ⟨w4.heap.size, 0, none⟩ 1 1 t.cells rfl rfl hnew (tk_cells_one t) (by simp only [maxLen]; omega) (by omega) (by have := M2.out.fx.size; simp; omega) ?_)
    intro v5 w5 hown5 hg5 _
    have hme5 := (M6.out.grown M6.out.rd.ot (by decide) (by decide) hg5).me
    have hfl : (ts ++ [t]).flatMap Tk.cells = ts.flatMap Tk.cells ++ t.cells := by rw [List.flatMap_append]; simp
    have hlp : nt + 1 = (ts ++ [t]).length := by rw [HNT.out]; simp
    rw [← hfl] at hown5
    obtain ⟨m, hm⟩ : ∃ m, m = nt + 1 := ⟨_, rfl⟩
    rw [← hm] at hown5 hlp
    obtain ⟨A5, k5, rfl⟩ := own_slice hown5
    have c45 := cell_of_row _ _ 3 _ _ _ hme5
    have f45 : w5.frozen? ⟨g, 3, none⟩ = false := by simp [World.frozen?, hme5]
    simp only [List.getElem?_toArray, List.getElem?_cons_zero, List.getElem?_cons_succ] at c45
    have S7 := Kept.mk (show (fun V : World => V.cell? ⟨g, 3, none⟩ = some (.slice At nt ct)) w5 from c45)
    have M7 := Kept.mk (M6.out.task hown5 hlp hg5)
    clear hown5 hg5 hnew hme5 hfl hlp hm
    refine hK.out _ _ (fun _ => S7.out) ?_
    clear hK K
    try simp only [Act.put, List.setIfInBounds_toArray, List.set_cons_zero, List.set_cons_succ]
    refine wpAnyT_take (i := 10) (v := ?va10) [10, 11, 12, 13] (by simp only [List.getElem?_toArray, List.getElem?_cons_succ, List.getElem?_cons_zero]; exact rfl) (by kernel_rfl) (by kernel_rfl) (by kernel_rfl) (by kernel_rfl) (by intro _ _ _ h; exact h) (Or.inl ⟨by rfl, ?hya10⟩) S7.out ?resta10
    case hya10 => (intro w hSw; go_simp; try with_reducible rfl)
    try simp only [Act.put, List.setIfInBounds_toArray, List.set_cons_zero, List.set_cons_succ]
    refine wpAnyT_take (i := 11) (v := ?va11) [11, 12, 13] (by simp only [List.getElem?_toArray, List.getElem?_cons_succ, List.getElem?_cons_zero]; exact rfl) (by kernel_rfl) (by kernel_rfl) (by kernel_rfl) (by kernel_rfl) (by intro _ _ _ h; exact h) (Or.inl ⟨by rfl, ?hya11⟩) S7.out ?resta11
    case hya11 => (intro w hSw; go_simp; try with_reducible rfl)
    try simp only [Act.put, List.setIfInBounds_toArray, List.set_cons_zero, List.set_cons_succ]
    refine wpAnyT_take (i := 12) (v := ?va12) [12, 13] (by simp only [List.getElem?_toArray, List.getElem?_cons_succ, List.getElem?_cons_zero]; exact rfl) (by kernel_rfl) (by kernel_rfl) (by kernel_rfl) (by kernel_rfl) (by intro _ _ _ h; exact h) (Or.inl ⟨by rfl, ?hya12⟩) S7.out ?resta12
    case hya12 => (intro w hSw; go_simp; try with_reducible rfl)
    try simp only [Act.put, List.setIfInBounds_toArray, List.set_cons_zero, List.set_cons_succ]
    refine wpAnyT_one 13 (by kernel_rfl) (by simp only [List.getElem?_toArray, List.getElem?_cons_succ, List.getElem?_cons_zero]; exact rfl) (fun K hK => ?_)
    go_simp
    refine hK.out _ _ (fun h => (by cases h)) ?_
    clear hK K
    try simp only [Act.put, List.setIfInBounds_toArray, List.set_cons_zero, List.set_cons_succ]
    refine wpAnyT_done (by kernel_rfl) ?_ _
    obtain ⟨w6, hw6⟩ : ∃ w6, w6 = w5.setCell ⟨g, 3, none⟩ (.slice A5 m k5) := ⟨_, rfl⟩
    rw [← hw6] at M7 ⊢
    clear hw6 c45 f45 S7 M6 S6 HS0 HSB M1 M2 S2 HM
    have HE := Kept.mk (show AtEnd B g gw w.heap.size (wP :: ws) w w6 (.int .i64 mn) (.int .i64 mx) (.int .i64 sw) (.slice A5 m k5) (.slice Al nl cl) vh (.int .i64 a) from
      ⟨M7.out.rd.me, ws_end M7.out.ws (by rw [List.length_cons]; omega), by have := HGW.out; omega, M7.out.fx⟩)
    have e6 := cell_of_row _ _ 6 _ _ _ HE.out.me
    have f6 : w6.frozen? ⟨g, 6, none⟩ = false := by simp [World.frozen?, HE.out.me]
    simp only [List.getElem?_toArray, List.getElem?_cons_zero, List.getElem?_cons_succ] at e6
    go_upto_region 22 with fail
    have HE7 := Kept.mk (HE.out.set (.int .i64 (a + 1)))
    obtain ⟨w7, hw7⟩ : ∃ w7, w7 = w6.setCell ⟨g, 6, none⟩ (.int .i64 (a + 1)) := ⟨_, rfl⟩
    rw [← hw7] at HE7 ⊢
    have G67 := Kept.mk (show w6.grownBy w7 (some g) from by rw [hw7]; exact gb_set _ _ _ _)
    clear hw7 e6 f6
    obtain ⟨ax, hax⟩ := HE7.out.ws
    have b0 := cell_of_row _ _ 0 _ _ _ hax
    have b1 := cell_of_row _ _ 1 _ _ _ hax
    simp only [List.getElem?_toArray, List.getElem?_cons_zero, List.getElem?_cons_succ] at b0 b1
    clear hax
    go_wp2
    go_ret
    exact ⟨rfl, ⟨_, _, _, ⟨HE7.out.me, own_gb M7.out.rd.ot G67.out hgB, own_gb M7.out.rd.ol G67.out hgB, own_gb M7.out.rd.oh G67.out hgB⟩⟩, HE7.out.fx⟩
  · cases b2
    · obtain ⟨m1, hm1⟩ := EN.mx
      obtain ⟨row, hrow⟩ : ∃ row, row = ((wP :: ws).map fun s => Value.string (BA s)).toArray := ⟨_, rfl⟩
      have hsp := split_line wP ws n w HN.out.symm (by decide) hnos hln EN.mx
      rw [← hrow, ← HTXT.out] at hsp
      have HROW := Kept.mk hrow
      have HSP := Kept.mk hsp
      have HRD := Kept.mk hRD
      have HEN := Kept.mk EN
      have hgl := hRD.lt
      clear hRD EN hm1 hsp hrow
      go_enter Tryd.func33, Tryd.ntmps33
      go_upto_region 2 with (go_at_call 38; refine HSP.out.mono ?_; rintro e w1 ⟨rfl, rfl⟩)
      obtain ⟨W2, hW2⟩ : ∃ W2, W2 = (w.alloc (.cells row 9)).alloc (.cells #[.slice (some ⟨w.heap.size, 0, none⟩) n n, .bool false] 106) := ⟨_, rfl⟩
      obtain ⟨gw, hgw⟩ : ∃ gw, gw = w.heap.size + 1 := ⟨_, rfl⟩
      have hb2 : Below w.heap.size w W2 := by rw [hW2]; exact (below_box w _).alloc (by simp) _
      have hws : WS gw w.heap.size (wP :: ws) 0 false W2 := by rw [hW2, hgw, HROW.out]; exact ws_new w (wP :: ws) n (by rw [List.length_cons]; exact HN.out)
      have s2 : W2.heap.size = w.heap.size + 2 := by rw [hW2]; simp
      rw [← hW2, ← hgw]
      have HGW := Kept.mk hgw
      have R0 : WR g gw w.heap.size (wP :: ws) false W2 0 W2 := ⟨hws, gb_refl _ _, HEN.out.on (hb2.mono (by omega)), by omega, by omega, by rw [List.length_cons]; omega⟩
      have HU := Kept.mk (fun (U : World) (o : Nat) (h : WR g gw w.heap.size (wP :: ws) false W2 o U) => show w.grownBy U (some gw) from gb_trans (gb_below hb2 _) h.gb)
      have HRU := Kept.mk (fun (U : World) (o : Nat) (h : WR g gw w.heap.size (wP :: ws) false W2 o U) => HRD.out.on (HU.out U o h) (by omega))
      obtain ⟨c6, -⟩ := (HRU.out _ _ R0).at (i := 6) rfl
      clear hW2 hgw hws hb2 s2 HROW
      have q0 := Kept.mk (R0.word (s := wP) rfl)
      clear R0
      go_wp2_with (go_at_call 45; refine q0.out.mono ?_; rintro e w3 ⟨rfl, R1⟩; refine Hid.out ?_)
      refine Lib.hid ?_
      clear q0 c6
      clear HSP
      have HM := Kept.mk (show Mid B g gw w.heap.size (wP :: ws) w ⟨mn, mx, sw, ts, ls, hs, a⟩ (.slice At nt ct) (.slice Al nl cl) vh 1 w3 from
        ⟨HRU.out _ _ R1, R1.ws, FX.of_new (HU.out _ _ R1) hBw (by have := HGW.out; omega), HEN.out, hgB, by have := HGW.out; omega, hBw, hBw, by rw [List.length_cons]; omega⟩)
      obtain ⟨c3, -⟩ := HM.out.rd.at (i := 3) rfl
      obtain ⟨c4, -⟩ := HM.out.rd.at (i := 4) rfl
      clear R1 HU HRU
      go_upto_region 13 with fail
      have HSB := Kept.mk (fun (V : World) (o : Nat) (h : Mid B g gw w.heap.size (wP :: ws) w ⟨mn, mx, sw, ts, ls, hs, a⟩ (.slice At nt ct) (.slice Al nl cl) vh o V) => show (fun V : World => V.cell? ⟨g, 3, none⟩ = some (.slice At nt ct)) V from (h.rd.at (i := 3) rfl).1)
      refine wp_region_late (fun V : World => V.cell? ⟨g, 3, none⟩ = some (.slice At nt ct)) (fun i => i == 13) (by kernel_rfl) ?_
      obtain ⟨wd, hwd⟩ : ∃ wd, wd = w3.drew := ⟨_, rfl⟩
      have M1 := Kept.mk (HM.out.on (show Below w3.heap.size w3 wd from by rw [hwd]; exact (Below.refl _ _).drewN 1))
      have HS0 := Kept.mk (HSB.out _ _ M1.out)
      rw [← hwd]
      clear hwd c3 c4
      refine wpAnyT_take (i := 0) (v := ?vb0) [0, 13] (by simp only [List.getElem?_toArray, List.getElem?_cons_succ, List.getElem?_cons_zero]; exact rfl) (by kernel_rfl) (by kernel_rfl) (by kernel_rfl) (by kernel_rfl) (by intro _ _ _ h; exact h) (Or.inl ⟨by rfl, ?hyb0⟩) HS0.out ?restb0
      case hyb0 => (intro w hSw; go_simp; try with_reducible rfl)
      try simp only [Act.put, List.setIfInBounds_toArray, List.set_cons_zero, List.set_cons_succ]
      refine wpAnyT_take (i := 1) (v := ?vb1) [1, 13] (by simp only [List.getElem?_toArray, List.getElem?_cons_succ, List.getElem?_cons_zero]; exact rfl) (by kernel_rfl) (by kernel_rfl) (by kernel_rfl) (by kernel_rfl) (by intro _ _ _ h; exact h) (Or.inl ⟨by rfl, ?hyb1⟩) HS0.out ?restb1
      case hyb1 => (intro w hSw; go_simp; try with_reducible rfl)
      try simp only [Act.put, List.setIfInBounds_toArray, List.set_cons_zero, List.set_cons_succ]
      refine wpAnyT_take (i := 2) (v := ?vb2) [2, 13] (by simp only [List.getElem?_toArray, List.getElem?_cons_succ, List.getElem?_cons_zero]; exact rfl) (by kernel_rfl) (by kernel_rfl) (by kernel_rfl) (by kernel_rfl) (by intro _ _ _ h; exact h) (Or.inl ⟨by rfl, ?hyb2⟩) HS0.out ?restb2
      case hyb2 => (intro w hSw; go_simp; try with_reducible rfl)
      try simp only [Act.put, List.setIfInBounds_toArray, List.set_cons_zero, List.set_cons_succ]
      refine wpAnyT_take (i := 3) (v := ?vb3) [3, 13] (by simp only [List.getElem?_toArray, List.getElem?_cons_succ, List.getElem?_cons_zero]; exact rfl) (by kernel_rfl) (by kernel_rfl) (by kernel_rfl) (by kernel_rfl) (by intro _ _ _ h; exact h) (Or.inl ⟨by rfl, ?hyb3⟩) HS0.out ?restb3
      case hyb3 => (intro w hSw; go_simp; try with_reducible rfl)
      try simp only [Act.put, List.setIfInBounds_toArray, List.set_cons_zero, List.set_cons_succ]
      refine wpAnyT_take (i := 4) (v := ?vb4) [4, 13] (by simp only [List.getElem?_toArray, List.getElem?_cons_succ, List.getElem?_cons_zero]; exact rfl) (by kernel_rfl) (by kernel_rfl) (by kernel_rfl) (by kernel_rfl) (by intro _ _ _ h; exact h) (Or.inl ⟨by rfl, ?hyb4⟩) HS0.out ?restb4
      case hyb4 => (intro w hSw; go_simp; try with_reducible rfl)
      try simp only [Act.put, List.setIfInBounds_toArray, List.set_cons_zero, List.set_cons_succ]
      refine wpAnyT_take (i := 5) (v := ?vb5) [5, 13] (by simp only [List.getElem?_toArray, List.getElem?_cons_succ, List.getElem?_cons_zero]; exact rfl) (by kernel_rfl) (by kernel_rfl) (by kernel_rfl) (by kernel_rfl) (by intro _ _ _ h; exact h) (Or.inl ⟨by rfl, ?hyb5⟩) HS0.out ?restb5
      case hyb5 => (intro w hSw; go_simp; try with_reducible rfl)
      try simp only [Act.put, List.setIfInBounds_toArray, List.set_cons_zero, List.set_cons_succ]
      refine wpAnyT_take (i := 6) (v := ?vb6) [6, 13] (by simp only [List.getElem?_toArray, List.getElem?_cons_succ, List.getElem?_cons_zero]; exact rfl) (by kernel_rfl) (by kernel_rfl) (by kernel_rfl) (by kernel_rfl) (by intro _ _ _ h; exact h) (Or.inl ⟨by rfl, ?hyb6⟩) HS0.out ?restb6
      case hyb6 => (intro w hSw; go_simp; try with_reducible rfl)
      try simp only [Act.put, List.setIfInBounds_toArray, List.set_cons_zero, List.set_cons_succ]
      refine wpAnyT_one 7 (by kernel_rfl) (by simp only [List.getElem?_toArray, List.getElem?_cons_succ, List.getElem?_cons_zero]; exact rfl) (fun K hK => ?_)
      go_simp
      go_at_call 47
      rw [← HK.out]
      refine (task_any g gw w.heap.size wP t wd HT.out (by rw [← HWS.out]; exact M1.out.ws) M1.out.env (by have := HGW.out; omega)).mono ?_
      rintro e w4 ⟨rfl, hws4, hg4⟩
      rw [← HWS.out] at hws4
      have M2 := Kept.mk (M1.out.call hws4 hg4)
      have S2 := Kept.mk (HSB.out _ _ M2.out)
      clear hws4 hg4
      refine hK.out _ _ (fun _ => S2.out) ?_
      clear hK K
      try simp only [Act.put, List.setIfInBounds_toArray, List.set_cons_zero, List.set_cons_succ]
      refine wpAnyT_one 8 (by kernel_rfl) (by simp only [List.getElem?_toArray, List.getElem?_cons_succ, List.getElem?_cons_zero]; exact rfl) (fun K hK => ?_)
      go_simp
      have M6 := Kept.mk (M2.out.on (below_box w4 (.cells t.cells.toArray 54)))
      have S6 := Kept.mk (HSB.out _ _ M6.out)
      have hnew := cells_new w4 w4.heap.size rfl t.cells 54
      refine hK.out _ _ (fun _ => S6.out) ?_
      clear hK K
      try simp only [Act.put, List.setIfInBounds_toArray, List.set_cons_zero, List.set_cons_succ]
      refine wpAnyT_one 9 (by kernel_rfl) (by simp only [List.getElem?_toArray, List.getElem?_cons_succ, List.getElem?_cons_zero]; exact rfl) (fun K hK => ?_)
      refine step_wp' rfl (wp_append_own _ (.tmp 73) (.tmp 76) 43 rfl B 54 i0 (.agg #[.int .u8 0, .int .i64 0, .int .i64 0, .int .i64 0, .int .i64 0, .int .i64 0, .int .i64 0, .int .i64 0, .int .i64 0, .int .i64 0]) 10 80 Tryd.underlying43 hi hz0 hz1 hz2 rfl (by decide) (.slice At nt ct) nt (ts.flatMap Tk.cells) rfl (own_len M6.out.rd.ot HNT.out.symm) ⟨w4.heap.size, 0, none⟩ 1 1 t.cells rfl rfl hnew (tk_cells_one t) (by simp only [maxLen]; omega) (by omega) (by have := M2.out.fx.size; simp; omega) ?_)
      intro v5 w5 hown5 hg5 _
      have hme5 := (M6.out.grown M6.out.rd.ot (by decide) (by decide) hg5).me
      have hfl : (ts ++ [t]).flatMap Tk.cells = ts.flatMap Tk.cells ++ t.cells := by rw [List.flatMap_append]; simp
      have hlp : nt + 1 = (ts ++ [t]).length := by rw [HNT.out]; simp
      rw [← hfl] at hown5
      obtain ⟨m, hm⟩ : ∃ m, m = nt + 1 := ⟨_, rfl⟩
      rw [← hm] at hown5 hlp
      obtain ⟨A5, k5, rfl⟩ := own_slice hown5
      have c45 := cell_of_row _ _ 3 _ _ _ hme5
      have f45 : w5.frozen? ⟨g, 3, none⟩ = false := by simp [World.frozen?, hme5]
      simp only [List.getElem?_toArray, List.getElem?_cons_zero, List.getElem?_cons_succ] at c45
      have S7 := Kept.mk (show (fun V : World => V.cell? ⟨g, 3, none⟩ = some (.slice At nt ct)) w5 from c45)
      have M7 := Kept.mk (M6.out.task hown5 hlp hg5)
      clear hown5 hg5 hnew hme5 hfl hlp hm
      refine hK.out _ _ (fun _ => S7.out) ?_
      clear hK K
      try simp only [Act.put, List.setIfInBounds_toArray, List.set_cons_zero, List.set_cons_succ]
      refine wpAnyT_take (i := 10) (v := ?vb10) [10, 11, 12, 13] (by simp only [List.getElem?_toArray, List.getElem?_cons_succ, List.getElem?_cons_zero]; exact rfl) (by kernel_rfl) (by kernel_rfl) (by kernel_rfl) (by kernel_rfl) (by intro _ _ _ h; exact h) (Or.inl ⟨by rfl, ?hyb10⟩) S7.out ?restb10
      case hyb10 => (intro w hSw; go_simp; try with_reducible rfl)
      try simp only [Act.put, List.setIfInBounds_toArray, List.set_cons_zero, List.set_cons_succ]
      refine wpAnyT_take (i := 11) (v := ?vb11) [11, 12, 13] (by simp only [List.getElem?_toArray, List.getElem?_cons_succ, List.getElem?_cons_zero]; exact rfl) (by kernel_rfl) (by kernel_rfl) (by kernel_rfl) (by kernel_rfl) (by intro _ _ _ h; exact h) (Or.inl ⟨by rfl, ?hyb11⟩) S7.out ?restb11
      case hyb11 => (intro w hSw; go_simp; try with_reducible rfl)
      try simp only [Act.put, List.setIfInBounds_toArray, List.set_cons_zero, List.set_cons_succ]
      refine wpAnyT_take (i := 12) (v := ?vb12) [12, 13] (by simp only [List.getElem?_toArray, List.getElem?_cons_succ, List.getElem?_cons_zero]; exact rfl) (by kernel_rfl) (by kernel_rfl) (by kernel_rfl) (by kernel_rfl) (by intro _ _ _ h; exact h) (Or.inl ⟨by rfl, ?hyb12⟩) S7.out ?restb12
      case hyb12 => (intro w hSw; go_simp; try with_reducible rfl)
      try simp only [Act.put, List.setIfInBounds_toArray, List.set_cons_zero, List.set_cons_succ]
      refine wpAnyT_one 13 (by kernel_rfl) (by simp only [List.getElem?_toArray, List.getElem?_cons_succ, List.getElem?_cons_zero]; exact rfl) (fun K hK => ?_)
      go_simp
      refine hK.out _ _ (fun h => (by cases h)) ?_
      clear hK K
      try simp only [Act.put, List.setIfInBounds_toArray, List.set_cons_zero, List.set_cons_succ]
      refine wpAnyT_done (by kernel_rfl) ?_ _
      obtain ⟨w6, hw6⟩ : ∃ w6, w6 = w5.setCell ⟨g, 3, none⟩ (.slice A5 m k5) := ⟨_, rfl⟩
      rw [← hw6] at M7 ⊢
      clear hw6 c45 f45 S7 M6 S6 HS0 HSB M1 M2 S2 HM
      have HE := Kept.mk (show AtEnd B g gw w.heap.size (wP :: ws) w w6 (.int .i64 mn) (.int .i64 mx) (.int .i64 sw) (.slice A5 m k5) (.slice Al nl cl) vh (.int .i64 a) from
        ⟨M7.out.rd.me, ws_end M7.out.ws (by rw [List.length_cons]; omega), by have := HGW.out; omega, M7.out.fx⟩)
      have e6 := cell_of_row _ _ 6 _ _ _ HE.out.me
      have f6 : w6.frozen? ⟨g, 6, none⟩ = false := by simp [World.frozen?, HE.out.me]
      simp only [List.getElem?_toArray, List.getElem?_cons_zero, List.getElem?_cons_succ] at e6
      go_upto_region 22 with fail
      have HE7 := Kept.mk (HE.out.set (.int .i64 (a + 1)))
      obtain ⟨w7, hw7⟩ : ∃ w7, w7 = w6.setCell ⟨g, 6, none⟩ (.int .i64 (a + 1)) := ⟨_, rfl⟩
      rw [← hw7] at HE7 ⊢
      have G67 := Kept.mk (show w6.grownBy w7 (some g) from by rw [hw7]; exact gb_set _ _ _ _)
      clear hw7 e6 f6
      obtain ⟨ax, hax⟩ := HE7.out.ws
      have b0 := cell_of_row _ _ 0 _ _ _ hax
      have b1 := cell_of_row _ _ 1 _ _ _ hax
      simp only [List.getElem?_toArray, List.getElem?_cons_zero, List.getElem?_cons_succ] at b0 b1
      clear hax
      go_wp2
      go_ret
      exact ⟨rfl, ⟨_, _, _, ⟨HE7.out.me, own_gb M7.out.rd.ot G67.out hgB, own_gb M7.out.rd.ol G67.out hgB, own_gb M7.out.rd.oh G67.out hgB⟩⟩, HE7.out.fx⟩
    · cases b3
      · obtain ⟨m1, hm1⟩ := EN.mx
        obtain ⟨row, hrow⟩ : ∃ row, row = ((wP :: ws).map fun s => Value.string (BA s)).toArray := ⟨_, rfl⟩
        have hsp := split_line wP ws n w HN.out.symm (by decide) hnos hln EN.mx
        rw [← hrow, ← HTXT.out] at hsp
        have HROW := Kept.mk hrow
        have HSP := Kept.mk hsp
        have HRD := Kept.mk hRD
        have HEN := Kept.mk EN
        have hgl := hRD.lt
        clear hRD EN hm1 hsp hrow
        go_enter Tryd.func33, Tryd.ntmps33
        go_upto_region 2 with (go_at_call 38; refine HSP.out.mono ?_; rintro e w1 ⟨rfl, rfl⟩)
        obtain ⟨W2, hW2⟩ : ∃ W2, W2 = (w.alloc (.cells row 9)).alloc (.cells #[.slice (some ⟨w.heap.size, 0, none⟩) n n, .bool false] 106) := ⟨_, rfl⟩
        obtain ⟨gw, hgw⟩ : ∃ gw, gw = w.heap.size + 1 := ⟨_, rfl⟩
        have hb2 : Below w.heap.size w W2 := by rw [hW2]; exact (below_box w _).alloc (by simp) _
        have hws : WS gw w.heap.size (wP :: ws) 0 false W2 := by rw [hW2, hgw, HROW.out]; exact ws_new w (wP :: ws) n (by rw [List.length_cons]; exact HN.out)
        have s2 : W2.heap.size = w.heap.size + 2 := by rw [hW2]; simp
        rw [← hW2, ← hgw]
        have HGW := Kept.mk hgw
        have R0 : WR g gw w.heap.size (wP :: ws) false W2 0 W2 := ⟨hws, gb_refl _ _, HEN.out.on (hb2.mono (by omega)), by omega, by omega, by rw [List.length_cons]; omega⟩
        have HU := Kept.mk (fun (U : World) (o : Nat) (h : WR g gw w.heap.size (wP :: ws) false W2 o U) => show w.grownBy U (some gw) from gb_trans (gb_below hb2 _) h.gb)
        have HRU := Kept.mk (fun (U : World) (o : Nat) (h : WR g gw w.heap.size (wP :: ws) false W2 o U) => HRD.out.on (HU.out U o h) (by omega))
        obtain ⟨c6, -⟩ := (HRU.out _ _ R0).at (i := 6) rfl
        clear hW2 hgw hws hb2 s2 HROW
        have q0 := Kept.mk (R0.word (s := wP) rfl)
        clear R0
        go_wp2_with (go_at_call 45; refine q0.out.mono ?_; rintro e w3 ⟨rfl, R1⟩; refine Hid.out ?_)
        refine Lib.hid ?_
        clear q0 c6
        clear HSP
        have HM := Kept.mk (show Mid B g gw w.heap.size (wP :: ws) w ⟨mn, mx, sw, ts, ls, hs, a⟩ (.slice At nt ct) (.slice Al nl cl) vh 1 w3 from
          ⟨HRU.out _ _ R1, R1.ws, FX.of_new (HU.out _ _ R1) hBw (by have := HGW.out; omega), HEN.out, hgB, by have := HGW.out; omega, hBw, hBw, by rw [List.length_cons]; omega⟩)
        obtain ⟨c3, -⟩ := HM.out.rd.at (i := 3) rfl
        obtain ⟨c4, -⟩ := HM.out.rd.at (i := 4) rfl
        clear R1 HU HRU
        go_upto_region 13 with fail
        have HSB := Kept.mk (fun (V : World) (o : Nat) (h : Mid B g gw w.heap.size (wP :: ws) w ⟨mn, mx, sw, ts, ls, hs, a⟩ (.slice At nt ct) (.slice Al nl cl) vh o V) => show (fun V : World => V.cell? ⟨g, 3, none⟩ = some (.slice At nt ct)) V from (h.rd.at (i := 3) rfl).1)
        refine wp_region_late (fun V : World => V.cell? ⟨g, 3, none⟩ = some (.slice At nt ct)) (fun i => i == 13) (by kernel_rfl) ?_
        obtain ⟨wd, hwd⟩ : ∃ wd, wd = w3.drew := ⟨_, rfl⟩
        have M1 := Kept.mk (HM.out.on (show Below w3.heap.size w3 wd from by rw [hwd]; exact (Below.refl _ _).drewN 1))
        have HS0 := Kept.mk (HSB.out _ _ M1.out)
        rw [← hwd]
        clear hwd c3 c4
        refine wpAnyT_take (i := 0) (v := ?vc0) [0, 13] (by simp only [List.getElem?_toArray, List.getElem?_cons_succ, List.getElem?_cons_zero]; exact rfl) (by kernel_rfl) (by kernel_rfl) (by kernel_rfl) (by kernel_rfl) (by intro _ _ _ h; exact h) (Or.inl ⟨by rfl, ?hyc0⟩) HS0.out ?restc0
        case hyc0 => (intro w hSw; go_simp; try with_reducible rfl)
        try simp only [Act.put, List.setIfInBounds_toArray, List.set_cons_zero, List.set_cons_succ]
        refine wpAnyT_take (i := 1) (v := ?vc1) [1, 13] (by simp only [List.getElem?_toArray, List.getElem?_cons_succ, List.getElem?_cons_zero]; exact rfl) (by kernel_rfl) (by kernel_rfl) (by kernel_rfl) (by kernel_rfl) (by intro _ _ _ h; exact h) (Or.inl ⟨by rfl, ?hyc1⟩) HS0.out ?restc1
        case hyc1 => (intro w hSw; go_simp; try with_reducible rfl)
        try simp only [Act.put, List.setIfInBounds_toArray, List.set_cons_zero, List.set_cons_succ]
        refine wpAnyT_take (i := 2) (v := ?vc2) [2, 13] (by simp only [List.getElem?_toArray, List.getElem?_cons_succ, List.getElem?_cons_zero]; exact rfl) (by kernel_rfl) (by kernel_rfl) (by kernel_rfl) (by kernel_rfl) (by intro _ _ _ h; exact h) (Or.inl ⟨by rfl, ?hyc2⟩) HS0.out ?restc2
        case hyc2 => (intro w hSw; go_simp; try with_reducible rfl)
        try simp only [Act.put, List.setIfInBounds_toArray, List.set_cons_zero, List.set_cons_succ]
        refine wpAnyT_take (i := 3) (v := ?vc3) [3, 13] (by simp only [List.getElem?_toArray, List.getElem?_cons_succ, List.getElem?_cons_zero]; exact rfl) (by kernel_rfl) (by kernel_rfl) (by kernel_rfl) (by kernel_rfl) (by intro _ _ _ h; exact h) (Or.inl ⟨by rfl, ?hyc3⟩) HS0.out ?restc3
        case hyc3 => (intro w hSw; go_simp; try with_reducible rfl)
        try simp only [Act.put, List.setIfInBounds_toArray, List.set_cons_zero, List.set_cons_succ]
        refine wpAnyT_take (i := 4) (v := ?vc4) [4, 13] (by simp only [List.getElem?_toArray, List.getElem?_cons_succ, List.getElem?_cons_zero]; exact rfl) (by kernel_rfl) (by kernel_rfl) (by kernel_rfl) (by kernel_rfl) (by intro _ _ _ h; exact h) (Or.inl ⟨by rfl, ?hyc4⟩) HS0.out ?restc4
        case hyc4 => (intro w hSw; go_simp; try with_reducible rfl)
        try simp only [Act.put, List.setIfInBounds_toArray, List.set_cons_zero, List.set_cons_succ]
        refine wpAnyT_take (i := 5) (v := ?vc5) [5, 13] (by simp only [List.getElem?_toArray, List.getElem?_cons_succ, List.getElem?_cons_zero]; exact rfl) (by kernel_rfl) (by kernel_rfl) (by kernel_rfl) (by kernel_rfl) (by intro _ _ _ h; exact h) (Or.inl ⟨by rfl, ?hyc5⟩) HS0.out ?restc5
        case hyc5 => (intro w hSw; go_simp; try with_reducible rfl)
        try simp only [Act.put, List.setIfInBounds_toArray, List.set_cons_zero, List.set_cons_succ]
        refine wpAnyT_take (i := 6) (v := ?vc6) [6, 13] (by simp only [List.getElem?_toArray, List.getElem?_cons_succ, List.getElem?_cons_zero]; exact rfl) (by kernel_rfl) (by kernel_rfl) (by kernel_rfl) (by kernel_rfl) (by intro _ _ _ h; exact h) (Or.inl ⟨by rfl, ?hyc6⟩) HS0.out ?restc6
        case hyc6 => (intro w hSw; go_simp; try with_reducible rfl)
        try simp only [Act.put, List.setIfInBounds_toArray, List.set_cons_zero, List.set_cons_succ]
        refine wpAnyT_one 7 (by kernel_rfl) (by simp only [List.getElem?_toArray, List.getElem?_cons_succ, List.getElem?_cons_zero]; exact rfl) (fun K hK => ?_)
        go_simp
        go_at_call 47
        rw [← HK.out]
        refine (task_any g gw w.heap.size wP t wd HT.out (by rw [← HWS.out]; exact M1.out.ws) M1.out.env (by have := HGW.out; omega)).mono ?_
        rintro e w4 ⟨rfl, hws4, hg4⟩
        rw [← HWS.out] at hws4
        have M2 := Kept.mk (M1.out.call hws4 hg4)
        have S2 := Kept.mk (HSB.out _ _ M2.out)
        clear hws4 hg4
        refine hK.out _ _ (fun _ => S2.out) ?_
        clear hK K
        try simp only [Act.put, List.setIfInBounds_toArray, List.set_cons_zero, List.set_cons_succ]
        refine wpAnyT_one 8 (by kernel_rfl) (by simp only [List.getElem?_toArray, List.getElem?_cons_succ, List.getElem?_cons_zero]; exact rfl) (fun K hK => ?_)
        go_simp
        have M6 := Kept.mk (M2.out.on (below_box w4 (.cells t.cells.toArray 54)))
        have S6 := Kept.mk (HSB.out _ _ M6.out)
        have hnew := cells_new w4 w4.heap.size rfl t.cells 54
        refine hK.out _ _ (fun _ => S6.out) ?_
        clear hK K
        try simp only [Act.put, List.setIfInBounds_toArray, List.set_cons_zero, List.set_cons_succ]
        refine wpAnyT_one 9 (by kernel_rfl) (by simp only [List.getElem?_toArray, List.getElem?_cons_succ, List.getElem?_cons_zero]; exact rfl) (fun K hK => ?_)
        refine step_wp' rfl (wp_append_own _ (.tmp 73) (.tmp 76) 43 rfl B 54 i0 (.agg #[.int .u8 0, .int .i64 0, .int .i64 0, .int .i64 0, .int .i64 0, .int .i64 0, .int .i64 0, .int .i64 0, .int .i64 0, .int .i64 0]) 10 80 Tryd.underlying43 hi hz0 hz1 hz2 rfl (by decide) (.slice At nt ct) nt (ts.flatMap Tk.cells) rfl (own_len M6.out.rd.ot HNT.out.symm) ⟨w4.heap.size, 0, none⟩ 1 1 t.cells rfl rfl hnew (tk_cells_one t) (by simp only [maxLen]; omega) (by omega) (by have := M2.out.fx.size; simp; omega) ?_)
        intro v5 w5 hown5 hg5 _
        have hme5 := (M6.out.grown M6.out.rd.ot (by decide) (by decide) hg5).me
        have hfl : (ts ++ [t]).flatMap Tk.cells = ts.flatMap Tk.cells ++ t.cells := by rw [List.flatMap_append]; simp
        have hlp : nt + 1 = (ts ++ [t]).length := by rw [HNT.out]; simp
        rw [← hfl] at hown5
        obtain ⟨m, hm⟩ : ∃ m, m = nt + 1 := ⟨_, rfl⟩
        rw [← hm] at hown5 hlp
        obtain ⟨A5, k5, rfl⟩ := own_slice hown5
        have c45 := cell_of_row _ _ 3 _ _ _ hme5
        have f45 : w5.frozen? ⟨g, 3, none⟩ = false := by simp [World.frozen?, hme5]
        simp only [List.getElem?_toArray, List.getElem?_cons_zero, List.getElem?_cons_succ] at c45
        have S7 := Kept.mk (show (fun V : World => V.cell? ⟨g, 3, none⟩ = some (.slice At nt ct)) w5 from c45)
        have M7 := Kept.mk (M6.out.task hown5 hlp hg5)
        clear hown5 hg5 hnew hme5 hfl hlp hm
        refine hK.out _ _ (fun _ => S7.out) ?_
        clear hK K
        try simp only [Act.put, List.setIfInBounds_toArray, List.set_cons_zero, List.set_cons_succ]
        refine wpAnyT_take (i := 10) (v := ?vc10) [10, 11, 12, 13] (by simp only [List.getElem?_toArray, List.getElem?_cons_succ, List.getElem?_cons_zero]; exact rfl) (by kernel_rfl) (by kernel_rfl) (by kernel_rfl) (by kernel_rfl) (by intro _ _ _ h; exact h) (Or.inl ⟨by rfl, ?hyc10⟩) S7.out ?restc10
        case hyc10 => (intro w hSw; go_simp; try with_reducible rfl)
        try simp only [Act.put, List.setIfInBounds_toArray, List.set_cons_zero, List.set_cons_succ]
        refine wpAnyT_take (i := 11) (v := ?vc11) [11, 12, 13] (by simp only [List.getElem?_toArray, List.getElem?_cons_succ, List.getElem?_cons_zero]; exact rfl) (by kernel_rfl) (by kernel_rfl) (by kernel_rfl) (by kernel_rfl) (by intro _ _ _ h; exact h) (Or.inl ⟨by rfl, ?hyc11⟩) S7.out ?restc11
        case hyc11 => (intro w hSw; go_simp; try with_reducible rfl)
        try simp only [Act.put, List.setIfInBounds_toArray, List.set_cons_zero, List.set_cons_succ]
        refine wpAnyT_take (i := 12) (v := ?vc12) [12, 13] (by simp only [List.getElem?_toArray, List.getElem?_cons_succ, List.getElem?_cons_zero]; exact rfl) (by kernel_rfl) (by kernel_rfl) (by kernel_rfl) (by kernel_rfl) (by intro _ _ _ h; exact h) (Or.inl ⟨by rfl, ?hyc12⟩) S7.out ?restc12
        case hyc12 => (intro w hSw; go_simp; try with_reducible rfl)
        try simp only [Act.put, List.setIfInBounds_toArray, List.set_cons_zero, List.set_cons_succ]
        refine wpAnyT_one 13 (by kernel_rfl) (by simp only [List.getElem?_toArray, List.getElem?_cons_succ, List.getElem?_cons_zero]; exact rfl) (fun K hK => ?_)
        go_simp
        refine hK.out _ _ (fun h => (by cases h)) ?_
        clear hK K
        try simp only [Act.put, List.setIfInBounds_toArray, List.set_cons_zero, List.set_cons_succ]
        refine wpAnyT_done (by kernel_rfl) ?_ _
        obtain ⟨w6, hw6⟩ : ∃ w6, w6 = w5.setCell ⟨g, 3, none⟩ (.slice A5 m k5) := ⟨_, rfl⟩
        rw [← hw6] at M7 ⊢
        clear hw6 c45 f45 S7 M6 S6 HS0 HSB M1 M2 S2 HM
        have HE := Kept.mk (show AtEnd B g gw w.heap.size (wP :: ws) w w6 (.int .i64 mn) (.int .i64 mx) (.int .i64 sw) (.slice A5 m k5) (.slice Al nl cl) vh (.int .i64 a) from
          ⟨M7.out.rd.me, ws_end M7.out.ws (by rw [List.length_cons]; omega), by have := HGW.out; omega, M7.out.fx⟩)
        have e6 := cell_of_row _ _ 6 _ _ _ HE.out.me
        have f6 : w6.frozen? ⟨g, 6, none⟩ = false := by simp [World.frozen?, HE.out.me]
        simp only [List.getElem?_toArray, List.getElem?_cons_zero, List.getElem?_cons_succ] at e6
        go_upto_region 22 with fail
        have HE7 := Kept.mk (HE.out.set (.int .i64 (a + 1)))
        obtain ⟨w7, hw7⟩ : ∃ w7, w7 = w6.setCell ⟨g, 6, none⟩ (.int .i64 (a + 1)) := ⟨_, rfl⟩
        rw [← hw7] at HE7 ⊢
        have G67 := Kept.mk (show w6.grownBy w7 (some g) from by rw [hw7]; exact gb_set _ _ _ _)
        clear hw7 e6 f6
        obtain ⟨ax, hax⟩ := HE7.out.ws
        have b0 := cell_of_row _ _ 0 _ _ _ hax
        have b1 := cell_of_row _ _ 1 _ _ _ hax
        simp only [List.getElem?_toArray, List.getElem?_cons_zero, List.getElem?_cons_succ] at b0 b1
        clear hax
        go_wp2
        go_ret
        exact ⟨rfl, ⟨_, _, _, ⟨HE7.out.me, own_gb M7.out.rd.ot G67.out hgB, own_gb M7.out.rd.ol G67.out hgB, own_gb M7.out.rd.oh G67.out hgB⟩⟩, HE7.out.fx⟩
      · obtain ⟨m1, hm1⟩ := EN.mx
        obtain ⟨row, hrow⟩ : ∃ row, row = ((wP :: ws).map fun s => Value.string (BA s)).toArray := ⟨_, rfl⟩
        have hsp := split_line wP ws n w HN.out.symm (by decide) hnos hln EN.mx
        rw [← hrow, ← HTXT.out] at hsp
        have HROW := Kept.mk hrow
        have HSP := Kept.mk hsp
        have HRD := Kept.mk hRD
        have HEN := Kept.mk EN
        have hgl := hRD.lt
        clear hRD EN hm1 hsp hrow
        go_enter Tryd.func33, Tryd.ntmps33
        go_upto_region 2 with (go_at_call 38; refine HSP.out.mono ?_; rintro e w1 ⟨rfl, rfl⟩)
        obtain ⟨W2, hW2⟩ : ∃ W2, W2 = (w.alloc (.cells row 9)).alloc (.cells #[.slice (some ⟨w.heap.size, 0, none⟩) n n, .bool false] 106) := ⟨_, rfl⟩
        obtain ⟨gw, hgw⟩ : ∃ gw, gw = w.heap.size + 1 := ⟨_, rfl⟩
        have hb2 : Below w.heap.size w W2 := by rw [hW2]; exact (below_box w _).alloc (by simp) _
        have hws : WS gw w.heap.size (wP :: ws) 0 false W2 := by rw [hW2, hgw, HROW.out]; exact ws_new w (wP :: ws) n (by rw [List.length_cons]; exact HN.out)
        have s2 : W2.heap.size = w.heap.size + 2 := by rw [hW2]; simp
        rw [← hW2, ← hgw]
        have HGW := Kept.mk hgw
        have R0 : WR g gw w.heap.size (wP :: ws) false W2 0 W2 := ⟨hws, gb_refl _ _, HEN.out.on (hb2.mono (by omega)), by omega, by omega, by rw [List.length_cons]; omega⟩
        have HU := Kept.mk (fun (U : World) (o : Nat) (h : WR g gw w.heap.size (wP :: ws) false W2 o U) => show w.grownBy U (some gw) from gb_trans (gb_below hb2 _) h.gb)
        have HRU := Kept.mk (fun (U : World) (o : Nat) (h : WR g gw w.heap.size (wP :: ws) false W2 o U) => HRD.out.on (HU.out U o h) (by omega))
        obtain ⟨c6, -⟩ := (HRU.out _ _ R0).at (i := 6) rfl
        clear hW2 hgw hws hb2 s2 HROW
        have q0 := Kept.mk (R0.word (s := wP) rfl)
        clear R0
        go_wp2_with (go_at_call 45; refine q0.out.mono ?_; rintro e w3 ⟨rfl, R1⟩; refine Hid.out ?_)
        refine Lib.hid ?_
        clear q0 c6
        clear HSP
        have HM := Kept.mk (show Mid B g gw w.heap.size (wP :: ws) w ⟨mn, mx, sw, ts, ls, hs, a⟩ (.slice At nt ct) (.slice Al nl cl) vh 1 w3 from
          ⟨HRU.out _ _ R1, R1.ws, FX.of_new (HU.out _ _ R1) hBw (by have := HGW.out; omega), HEN.out, hgB, by have := HGW.out; omega, hBw, hBw, by rw [List.length_cons]; omega⟩)
        obtain ⟨c3, -⟩ := HM.out.rd.at (i := 3) rfl
        obtain ⟨c4, -⟩ := HM.out.rd.at (i := 4) rfl
        clear R1 HU HRU
        go_upto_region 13 with fail
        have HSB := Kept.mk (fun (V : World) (o : Nat) (h : Mid B g gw w.heap.size (wP :: ws) w ⟨mn, mx, sw, ts, ls, hs, a⟩ (.slice At nt ct) (.slice Al nl cl) vh o V) => show (fun V : World => V.cell? ⟨g, 3, none⟩ = some (.slice At nt ct)) V from (h.rd.at (i := 3) rfl).1)
        refine wp_region_late (fun V : World => V.cell? ⟨g, 3, none⟩ = some (.slice At nt ct)) (fun i => i == 13) (by kernel_rfl) ?_
        obtain ⟨wd, hwd⟩ : ∃ wd, wd = w3.drew := ⟨_, rfl⟩
        have M1 := Kept.mk (HM.out.on (show Below w3.heap.size w3 wd from by rw [hwd]; exact (Below.refl _ _).drewN 1))
        have HS0 := Kept.mk (HSB.out _ _ M1.out)
        rw [← hwd]
        clear hwd c3 c4
        refine wpAnyT_take (i := 0) (v := ?vd0) [0, 13] (by simp only [List.getElem?_toArray, List.getElem?_cons_succ, List.getElem?_cons_zero]; exact rfl) (by kernel_rfl) (by kernel_rfl) (by kernel_rfl) (by kernel_rfl) (by intro _ _ _ h; exact h) (Or.inl ⟨by rfl, ?hyd0⟩) HS0.out ?restd0
        case hyd0 => (intro w hSw; go_simp; try with_reducible rfl)
        try simp only [Act.put, List.setIfInBounds_toArray, List.set_cons_zero, List.set_cons_succ]
        refine wpAnyT_take (i := 1) (v := ?vd1) [1, 13] (by simp only [List.getElem?_toArray, List.getElem?_cons_succ, List.getElem?_cons_zero]; exact rfl) (by kernel_rfl) (by kernel_rfl) (by kernel_rfl) (by kernel_rfl) (by intro _ _ _ h; exact h) (Or.inl ⟨by rfl, ?hyd1⟩) HS0.out ?restd1
        case hyd1 => (intro w hSw; go_simp; try with_reducible rfl)
        try simp only [Act.put, List.setIfInBounds_toArray, List.set_cons_zero, List.set_cons_succ]
        refine wpAnyT_take (i := 2) (v := ?vd2) [2, 13] (by simp only [List.getElem?_toArray, List.getElem?_cons_succ, List.getElem?_cons_zero]; exact rfl) (by kernel_rfl) (by kernel_rfl) (by kernel_rfl) (by kernel_rfl) (by intro _ _ _ h; exact h) (Or.inl ⟨by rfl, ?hyd2⟩) HS0.out ?restd2
        case hyd2 => (intro w hSw; go_simp; try with_reducible rfl)
        try simp only [Act.put, List.setIfInBounds_toArray, List.set_cons_zero, List.set_cons_succ]
        refine wpAnyT_take (i := 3) (v := ?vd3) [3, 13] (by simp only [List.getElem?_toArray, List.getElem?_cons_succ, List.getElem?_cons_zero]; exact rfl) (by kernel_rfl) (by kernel_rfl) (by kernel_rfl) (by kernel_rfl) (by intro _ _ _ h; exact h) (Or.inl ⟨by rfl, ?hyd3⟩) HS0.out ?restd3
        case hyd3 => (intro w hSw; go_simp; try with_reducible rfl)
        try simp only [Act.put, List.setIfInBounds_toArray, List.set_cons_zero, List.set_cons_succ]
        refine wpAnyT_take (i := 4) (v := ?vd4) [4, 13] (by simp only [List.getElem?_toArray, List.getElem?_cons_succ, List.getElem?_cons_zero]; exact rfl) (by kernel_rfl) (by kernel_rfl) (by kernel_rfl) (by kernel_rfl) (by intro _ _ _ h; exact h) (Or.inl ⟨by rfl, ?hyd4⟩) HS0.out ?restd4
        case hyd4 => (intro w hSw; go_simp; try with_reducible rfl)
        try simp only [Act.put, List.setIfInBounds_toArray, List.set_cons_zero, List.set_cons_succ]
        refine wpAnyT_take (i := 5) (v := ?vd5) [5, 13] (by simp only [List.getElem?_toArray, List.getElem?_cons_succ, List.getElem?_cons_zero]; exact rfl) (by kernel_rfl) (by kernel_rfl) (by kernel_rfl) (by kernel_rfl) (by intro _ _ _ h; exact h) (Or.inl ⟨by rfl, ?hyd5⟩) HS0.out ?restd5
        case hyd5 => (intro w hSw; go_simp; try with_reducible rfl)
        try simp only [Act.put, List.setIfInBounds_toArray, List.set_cons_zero, List.set_cons_succ]
        refine wpAnyT_take (i := 6) (v := ?vd6) [6, 13] (by simp only [List.getElem?_toArray, List.getElem?_cons_succ, List.getElem?_cons_zero]; exact rfl) (by kernel_rfl) (by kernel_rfl) (by kernel_rfl) (by kernel_rfl) (by intro _ _ _ h; exact h) (Or.inl ⟨by rfl, ?hyd6⟩) HS0.out ?restd6
        case hyd6 => (intro w hSw; go_simp; try with_reducible rfl)
        try simp only [Act.put, List.setIfInBounds_toArray, List.set_cons_zero, List.set_cons_succ]
        refine wpAnyT_one 7 (by kernel_rfl) (by simp only [List.getElem?_toArray, List.getElem?_cons_succ, List.getElem?_cons_zero]; exact rfl) (fun K hK => ?_)
        go_simp
        go_at_call 47
        rw [← HK.out]
        refine (task_any g gw w.heap.size wP t wd HT.out (by rw [← HWS.out]; exact M1.out.ws) M1.out.env (by have := HGW.out; omega)).mono ?_
        rintro e w4 ⟨rfl, hws4, hg4⟩
        rw [← HWS.out] at hws4
        have M2 := Kept.mk (M1.out.call hws4 hg4)
        have S2 := Kept.mk (HSB.out _ _ M2.out)
        clear hws4 hg4
        refine hK.out _ _ (fun _ => S2.out) ?_
        clear hK K
        try simp only [Act.put, List.setIfInBounds_toArray, List.set_cons_zero, List.set_cons_succ]
        refine wpAnyT_one 8 (by kernel_rfl) (by simp only [List.getElem?_toArray, List.getElem?_cons_succ, List.getElem?_cons_zero]; exact rfl) (fun K hK => ?_)
        go_simp
        have M6 := Kept.mk (M2.out.on (below_box w4 (.cells t.cells.toArray 54)))
        have S6 := Kept.mk (HSB.out _ _ M6.out)
        have hnew := cells_new w4 w4.heap.size rfl t.cells 54
        refine hK.out _ _ (fun _ => S6.out) ?_
        clear hK K
        try simp only [Act.put, List.setIfInBounds_toArray, List.set_cons_zero, List.set_cons_succ]
        refine wpAnyT_one 9 (by kernel_rfl) (by simp only [List.getElem?_toArray, List.getElem?_cons_succ, List.getElem?_cons_zero]; exact rfl) (fun K hK => ?_)
        refine step_wp' rfl (wp_append_own _ (.tmp 73) (.tmp 76) 43 rfl B 54 i0 (.agg #[.int .u8 0, .int .i64 0, .int .i64 0, .int .i64 0, .int .i64 0, .int .i64 0, .int .i64 0, .int .i64 0, .int .i64 0, .int .i64 0]) 10 80 Tryd.underlying43 hi hz0 hz1 hz2 rfl (by decide) (.slice At nt ct) nt (ts.flatMap Tk.cells) rfl (own_len M6.out.rd.ot HNT.out.symm) ⟨w4.heap.size, 0, none⟩ 1 1 t.cells rfl rfl hnew (tk_cells_one t) (by simp only [maxLen]; omega) (by omega) (by have := M2.out.fx.size; simp; omega) ?_)
        intro v5 w5 hown5 hg5 _
        have hme5 := (M6.out.grown M6.out.rd.ot (by decide) (by decide) hg5).me
        have hfl : (ts ++ [t]).flatMap Tk.cells = ts.flatMap Tk.cells ++ t.cells := by rw [List.flatMap_append]; simp
        have hlp : nt + 1 = (ts ++ [t]).length := by rw [HNT.out]; simp
        rw [← hfl] at hown5
        obtain ⟨m, hm⟩ : ∃ m, m = nt + 1 := ⟨_, rfl⟩
        rw [← hm] at hown5 hlp
        obtain ⟨A5, k5, rfl⟩ := own_slice hown5
        have c45 := cell_of_row _ _ 3 _ _ _ hme5
        have f45 : w5.frozen? ⟨g, 3, none⟩ = false := by simp [World.frozen?, hme5]
        simp only [List.getElem?_toArray, List.getElem?_cons_zero, List.getElem?_cons_succ] at c45
        have S7 := Kept.mk (show (fun V : World => V.cell? ⟨g, 3, none⟩ = some (.slice At nt ct)) w5 from c45)
        have M7 := Kept.mk (M6.out.task hown5 hlp hg5)
        clear hown5 hg5 hnew hme5 hfl hlp hm
        refine hK.out _ _ (fun _ => S7.out) ?_
        clear hK K
        try simp only [Act.put, List.setIfInBounds_toArray, List.set_cons_zero, List.set_cons_succ]
        refine wpAnyT_take (i := 10) (v := ?vd10) [10, 11, 12, 13] (by simp only [List.getElem?_toArray, List.getElem?_cons_succ, List.getElem?_cons_zero]; exact rfl) (by kernel_rfl) (by kernel_rfl) (by kernel_rfl) (by kernel_rfl) (by intro _ _ _ h; exact h) (Or.inl ⟨by rfl, ?hyd10⟩) S7.out ?restd10
        case hyd10 => (intro w hSw; go_simp; try with_reducible rfl)
        try simp only [Act.put, List.setIfInBounds_toArray, List.set_cons_zero, List.set_cons_succ]
        refine wpAnyT_take (i := 11) (v := ?vd11) [11, 12, 13] (by simp only [List.getElem?_toArray, List.getElem?_cons_succ, List.getElem?_cons_zero]; exact rfl) (by kernel_rfl) (by kernel_rfl) (by kernel_rfl) (by kernel_rfl) (by intro _ _ _ h; exact h) (Or.inl ⟨by rfl, ?hyd11⟩) S7.out ?restd11
        case hyd11 => (intro w hSw; go_simp; try with_reducible rfl)
        try simp only [Act.put, List.setIfInBounds_toArray, List.set_cons_zero, List.set_cons_succ]
        refine wpAnyT_take (i := 12) (v := ?vd12) [12, 13] (by simp only [List.getElem?_toArray, List.getElem?_cons_succ, List.getElem?_cons_zero]; exact rfl) (by kernel_rfl) (by kernel_rfl) (by kernel_rfl) (by kernel_rfl) (by intro _ _ _ h; exact h) (Or.inl ⟨by rfl, ?hyd12⟩) S7.out ?restd12
        case hyd12 => (intro w hSw; go_simp; try with_reducible rfl)
        try simp only [Act.put, List.setIfInBounds_toArray, List.set_cons_zero, List.set_cons_succ]
        refine wpAnyT_one 13 (by kernel_rfl) (by simp only [List.getElem?_toArray, List.getElem?_cons_succ, List.getElem?_cons_zero]; exact rfl) (fun K hK => ?_)
        go_simp
        refine hK.out _ _ (fun h => (by cases h)) ?_
        clear hK K
        try simp only [Act.put, List.setIfInBounds_toArray, List.set_cons_zero, List.set_cons_succ]
        refine wpAnyT_done (by kernel_rfl) ?_ _
        obtain ⟨w6, hw6⟩ : ∃ w6, w6 = w5.setCell ⟨g, 3, none⟩ (.slice A5 m k5) := ⟨_, rfl⟩
        rw [← hw6] at M7 ⊢
        clear hw6 c45 f45 S7 M6 S6 HS0 HSB M1 M2 S2 HM
        have HE := Kept.mk (show AtEnd B g gw w.heap.size (wP :: ws) w w6 (.int .i64 mn) (.int .i64 mx) (.int .i64 sw) (.slice A5 m k5) (.slice Al nl cl) vh (.int .i64 a) from
          ⟨M7.out.rd.me, ws_end M7.out.ws (by rw [List.length_cons]; omega), by have := HGW.out; omega, M7.out.fx⟩)
        have e6 := cell_of_row _ _ 6 _ _ _ HE.out.me
        have f6 : w6.frozen? ⟨g, 6, none⟩ = false := by simp [World.frozen?, HE.out.me]
        simp only [List.getElem?_toArray, List.getElem?_cons_zero, List.getElem?_cons_succ] at e6
        go_upto_region 22 with fail
        have HE7 := Kept.mk (HE.out.set (.int .i64 (a + 1)))
        obtain ⟨w7, hw7⟩ : ∃ w7, w7 = w6.setCell ⟨g, 6, none⟩ (.int .i64 (a + 1)) := ⟨_, rfl⟩
        rw [← hw7] at HE7 ⊢
        have G67 := Kept.mk (show w6.grownBy w7 (some g) from by rw [hw7]; exact gb_set _ _ _ _)
        clear hw7 e6 f6
        obtain ⟨ax, hax⟩ := HE7.out.ws
        have b0 := cell_of_row _ _ 0 _ _ _ hax
        have b1 := cell_of_row _ _ 1 _ _ _ hax
        simp only [List.getElem?_toArray, List.getElem?_cons_zero, List.getElem?_cons_succ] at b0 b1
        clear hax
        go_wp2
        go_ret
        exact ⟨rfl, ⟨_, _, _, ⟨HE7.out.me, own_gb M7.out.rd.ot G67.out hgB, own_gb M7.out.rd.ol G67.out hgB, own_gb M7.out.rd.oh G67.out hgB⟩⟩, HE7.out.fx⟩
set_option maxRecDepth 100000 in
set_option maxHeartbeats 12800000 in
theorem add_sporadic (B g : Nat) (mn mx sw a : Int) (ts : List Tk) (ls hs : List Q4) (t : Tk) (vt vl vh : Value) (b1 b2 b3 : Bool) (w : World) (hRD : RD B g ⟨mn, mx, sw, ts, ls, hs, a⟩ vt vl vh w) (EN : EnvS g w) (hgB : g < B) (hBw : B ≤ w.heap.size) (ht : okTk t) (hk : t.k = 2) (hlen : ts.length ≤ 1000) (hlen2 : ls.length ≤ 1000) (ha : 0 ≤ a) (ha2 : a ≤ 1000) (hl0 : (tkT t).length ≤ 65536) (hb1 : decide (2 ≤ a) = b1) (hb2 : (ls.length == 0) = b2) (hb3 : decide (ts.length < 32) = b3) :
    Calls Tryd.prog 33 #[.pointer (some ⟨g, 0, none⟩), .string (BA (tkT t))] w (AddRes B g ⟨mn, mx, sw, ts ++ [t], ls, hs, a + 1⟩ (b1 && b2 && b3) w) := by
  have hd0 : tkWord t = wQ := by unfold tkWord; rw [hk]; rfl
  have htx : tkT t = wQ ++ blanks (tkWs t) := by rw [tk_words, hd0]; rfl
  have hln : (wQ ++ blanks (tkWs t)).length ≤ 65536 := by rw [← htx]; exact hl0
  have hnn : (tkWs t).length ≤ 20 := by
    unfold tkWs
    split
    · show 6 ≤ 20; omega
    · show 10 ≤ 20; omega
  obtain ⟨n, hn⟩ : ∃ n, n = (tkWs t).length + 1 := ⟨_, rfl⟩
  have HT := Kept.mk ht
  have HK := Kept.mk hk
  have hnos := ht.no
  obtain ⟨At, ct, rfl⟩ := own_slice hRD.ot
  obtain ⟨Al, cl, rfl⟩ := own_slice hRD.ol
  obtain ⟨i0, hi, hz0, hz1, hz2⟩ := info_parts info_tk
  obtain ⟨tx, htxx⟩ : ∃ tx, tx = tkT t := ⟨_, rfl⟩
  rw [← htxx] at htx ⊢
  obtain ⟨nt, hnt⟩ : ∃ nt, nt = ts.length := ⟨_, rfl⟩
  obtain ⟨nl, hnl⟩ : ∃ nl, nl = ls.length := ⟨_, rfl⟩
  simp only at hRD
  rw [← hnt] at hRD hlen hb3
  rw [← hnl] at hRD hlen2 hb2
  have HNT := Kept.mk hnt
  have hb2' : ((nl : Int) == 0) = b2 := by
    rw [← hb2]
    cases nl with
    | zero => rfl
    | succ m => show _ = false; rw [beq_eq_false_iff_ne]; omega
  have hb3' : decide ((nt : Int) < 32) = b3 := by
    rw [← hb3]
    congr 1
    simp only [eq_iff_iff]
    omega
  clear ht hk hl0 hd0 htxx hnt hnl
  obtain ⟨ws, hws⟩ : ∃ ws, ws = tkWs t := ⟨_, rfl⟩
  rw [← hws] at htx hln hnn hn hnos
  have HWS := Kept.mk hws
  clear hws
  have HN := Kept.mk hn
  have HTXT := Kept.mk htx
  clear hn htx
  cases b1
  · obtain ⟨m1, hm1⟩ := EN.mx
    obtain ⟨row, hrow⟩ : ∃ row, row = ((wQ :: ws).map fun s => Value.string (BA s)).toArray := ⟨_, rfl⟩
    have hsp := split_line wQ ws n w HN.out.symm (by decide) hnos hln EN.mx
    rw [← hrow, ← HTXT.out] at hsp
    have HROW := Kept.mk hrow
    have HSP := Kept.mk hsp
    have HRD := Kept.mk hRD
    have HEN := Kept.mk EN
    have hgl := hRD.lt
    clear hRD EN hm1 hsp hrow
    go_enter Tryd.func33, Tryd.ntmps33
    go_upto_region 2 with (go_at_call 38; refine HSP.out.mono ?_; rintro e w1 ⟨rfl, rfl⟩)
    obtain ⟨W2, hW2⟩ : ∃ W2, W2 = (w.alloc (.cells row 9)).alloc (.cells #[.slice (some ⟨w.heap.size, 0, none⟩) n n, .bool false] 106) := ⟨_, rfl⟩
    obtain ⟨gw, hgw⟩ : ∃ gw, gw = w.heap.size + 1 := ⟨_, rfl⟩
    have hb2 : Below w.heap.size w W2 := by rw [hW2]; exact (below_box w _).alloc (by simp) _
    have hws : WS gw w.heap.size (wQ :: ws) 0 false W2 := by rw [hW2, hgw, HROW.out]; exact ws_new w (wQ :: ws) n (by rw [List.length_cons]; exact HN.out)
    have s2 : W2.heap.size = w.heap.size + 2 := by rw [hW2]; simp
    rw [← hW2, ← hgw]
    have HGW := Kept.mk hgw
    have R0 : WR g gw w.heap.size (wQ :: ws) false W2 0 W2 := ⟨hws, gb_refl _ _, HEN.out.on (hb2.mono (by omega)), by omega, by omega, by rw [List.length_cons]; omega⟩
    have HU := Kept.mk (fun (U : World) (o : Nat) (h : WR g gw w.heap.size (wQ :: ws) false W2 o U) => show w.grownBy U (some gw) from gb_trans (gb_below hb2 _) h.gb)
    have HRU := Kept.mk (fun (U : World) (o : Nat) (h : WR g gw w.heap.size (wQ :: ws) false W2 o U) => HRD.out.on (HU.out U o h) (by omega))
    obtain ⟨c6, -⟩ := (HRU.out _ _ R0).at (i := 6) rfl
    clear hW2 hgw hws hb2 s2 HROW
    have q0 := Kept.mk (R0.word (s := wQ) rfl)
    clear R0
    go_wp2_with (go_at_call 45; refine q0.out.mono ?_; rintro e w3 ⟨rfl, R1⟩; refine Hid.out ?_)
    refine Lib.hid ?_
    clear q0 c6
    clear HSP
    have HM := Kept.mk (show Mid B g gw w.heap.size (wQ :: ws) w ⟨mn, mx, sw, ts, ls, hs, a⟩ (.slice At nt ct) (.slice Al nl cl) vh 1 w3 from
      ⟨HRU.out _ _ R1, R1.ws, FX.of_new (HU.out _ _ R1) hBw (by have := HGW.out; omega), HEN.out, hgB, by have := HGW.out; omega, hBw, hBw, by rw [List.length_cons]; omega⟩)
    obtain ⟨c3, -⟩ := HM.out.rd.at (i := 3) rfl
    obtain ⟨c4, -⟩ := HM.out.rd.at (i := 4) rfl
    clear R1 HU HRU
    go_upto_region 16 with fail
    have HSB := Kept.mk (fun (V : World) (o : Nat) (h : Mid B g gw w.heap.size (wQ :: ws) w ⟨mn, mx, sw, ts, ls, hs, a⟩ (.slice At nt ct) (.slice Al nl cl) vh o V) => show (fun V : World => V.cell? ⟨g, 3, none⟩ = some (.slice At nt ct)) V from (h.rd.at (i := 3) rfl).1)
    refine wp_region_late (fun V : World => V.cell? ⟨g, 3, none⟩ = some (.slice At nt ct)) (fun i => i == 13) (by kernel_rfl) ?_
    obtain ⟨wd, hwd⟩ : ∃ wd, wd = w3.drew := ⟨_, rfl⟩
    have M1 := Kept.mk (HM.out.on (show Below w3.heap.size w3 wd from by rw [hwd]; exact (Below.refl _ _).drewN 1))
    have HS0 := Kept.mk (HSB.out _ _ M1.out)
    rw [← hwd]
    clear hwd c3 c4
    refine wpAnyT_take (i := 0) (v := ?va0) [0, 13] (by simp only [List.getElem?_toArray, List.getElem?_cons_succ, List.getElem?_cons_zero]; exact rfl) (by kernel_rfl) (by kernel_rfl) (by kernel_rfl) (by kernel_rfl) (by intro _ _ _ h; exact h) (Or.inl ⟨by rfl, ?hya0⟩) HS0.out ?resta0
    case hya0 => (intro w hSw; go_simp; try with_reducible rfl)
    try simp only [Act.put, List.setIfInBounds_toArray, List.set_cons_zero, List.set_cons_succ]
    refine wpAnyT_take (i := 1) (v := ?va1) [1, 13] (by simp only [List.getElem?_toArray, List.getElem?_cons_succ, List.getElem?_cons_zero]; exact rfl) (by kernel_rfl) (by kernel_rfl) (by kernel_rfl) (by kernel_rfl) (by intro _ _ _ h; exact h) (Or.inl ⟨by rfl, ?hya1⟩) HS0.out ?resta1
    case hya1 => (intro w hSw; go_simp; try with_reducible rfl)
    try simp only [Act.put, List.setIfInBounds_toArray, List.set_cons_zero, List.set_cons_succ]
    refine wpAnyT_take (i := 2) (v := ?va2) [2, 13] (by simp only [List.getElem?_toArray, List.getElem?_cons_succ, List.getElem?_cons_zero]; exact rfl) (by kernel_rfl) (by kernel_rfl) (by kernel_rfl) (by kernel_rfl) (by intro _ _ _ h; exact h) (Or.inl ⟨by rfl, ?hya2⟩) HS0.out ?resta2
    case hya2 => (intro w hSw; go_simp; try with_reducible rfl)
    try simp only [Act.put, List.setIfInBounds_toArray, List.set_cons_zero, List.set_cons_succ]
    refine wpAnyT_take (i := 3) (v := ?va3) [3, 13] (by simp only [List.getElem?_toArray, List.getElem?_cons_succ, List.getElem?_cons_zero]; exact rfl) (by kernel_rfl) (by kernel_rfl) (by kernel_rfl) (by kernel_rfl) (by intro _ _ _ h; exact h) (Or.inl ⟨by rfl, ?hya3⟩) HS0.out ?resta3
    case hya3 => (intro w hSw; go_simp; try with_reducible rfl)
    try simp only [Act.put, List.setIfInBounds_toArray, List.set_cons_zero, List.set_cons_succ]
    refine wpAnyT_take (i := 4) (v := ?va4) [4, 13] (by simp only [List.getElem?_toArray, List.getElem?_cons_succ, List.getElem?_cons_zero]; exact rfl) (by kernel_rfl) (by kernel_rfl) (by kernel_rfl) (by kernel_rfl) (by intro _ _ _ h; exact h) (Or.inl ⟨by rfl, ?hya4⟩) HS0.out ?resta4
    case hya4 => (intro w hSw; go_simp; try with_reducible rfl)
    try simp only [Act.put, List.setIfInBounds_toArray, List.set_cons_zero, List.set_cons_succ]
    refine wpAnyT_take (i := 5) (v := ?va5) [5, 13] (by simp only [List.getElem?_toArray, List.getElem?_cons_succ, List.getElem?_cons_zero]; exact rfl) (by kernel_rfl) (by kernel_rfl) (by kernel_rfl) (by kernel_rfl) (by intro _ _ _ h; exact h) (Or.inl ⟨by rfl, ?hya5⟩) HS0.out ?resta5
    case hya5 => (intro w hSw; go_simp; try with_reducible rfl)
    try simp only [Act.put, List.setIfInBounds_toArray, List.set_cons_zero, List.set_cons_succ]
    refine wpAnyT_take (i := 6) (v := ?va6) [6, 13] (by simp only [List.getElem?_toArray, List.getElem?_cons_succ, List.getElem?_cons_zero]; exact rfl) (by kernel_rfl) (by kernel_rfl) (by kernel_rfl) (by kernel_rfl) (by intro _ _ _ h; exact h) (Or.inl ⟨by rfl, ?hya6⟩) HS0.out ?resta6
    case hya6 => (intro w hSw; go_simp; try with_reducible rfl)
    try simp only [Act.put, List.setIfInBounds_toArray, List.set_cons_zero, List.set_cons_succ]
    refine wpAnyT_one 7 (by kernel_rfl) (by simp only [List.getElem?_toArray, List.getElem?_cons_succ, List.getElem?_cons_zero]; exact rfl) (fun K hK => ?_)
    go_simp
    go_at_call 47
    rw [← HK.out]
    refine (task_any g gw w.heap.size wQ t wd HT.out (by rw [← HWS.out]; exact M1.out.ws) M1.out.env (by have := HGW.out; omega)).mono ?_
    rintro e w4 ⟨rfl, hws4, hg4⟩
    rw [← HWS.out] at hws4
    have M2 := Kept.mk (M1.out.call hws4 hg4)
    have S2 := Kept.mk (HSB.out _ _ M2.out)
    clear hws4 hg4
    refine hK.out _ _ (fun _ => S2.out) ?_
    clear hK K
    try simp only [Act.put, List.setIfInBounds_toArray, List.set_cons_zero, List.set_cons_succ]
    refine wpAnyT_one 8 (by kernel_rfl) (by simp only [List.getElem?_toArray, List.getElem?_cons_succ, List.getElem?_cons_zero]; exact rfl) (fun K hK => ?_)
    go_simp
    have M6 := Kept.mk (M2.out.on (below_box w4 (.cells t.cells.toArray 54)))
    have S6 := Kept.mk (HSB.out _ _ M6.out)
    have hnew := cells_new w4 w4.heap.size rfl t.cells 54
    refine hK.out _ _ (fun _ => S6.out) ?_
    clear hK K
    try simp only [Act.put, List.setIfInBounds_toArray, List.set_cons_zero, List.set_cons_succ]
    refine wpAnyT_one 9 (by kernel_rfl) (by simp only [List.getElem?_toArray, List.getElem?_cons_succ, List.getElem?_cons_zero]; exact rfl) (fun K hK => ?_)
    refine step_wp' rfl (wp_append_own _ (.tmp 107) (.tmp 110) 43 rfl B 54 i0 (.agg #[.int .u8 0, .int .i64 0, .int .i64 0, .int .i64 0, .int .i64 0, .int .i64 0, .int .i64 0, .int .i64 0, .int .i64 0, .int .i64 0]) 10 80 Tryd.underlying43 hi hz0 hz1 hz2 rfl (by decide) (.slice At nt ct) nt (ts.flatMap Tk.cells) rfl (own_len M6.out.rd.ot HNT.out.symm) ⟨w4.heap.size, 0, none⟩ 1 1 t.cells rfl rfl hnew (tk_cells_one t) (by simp only [maxLen]; omega) (by omega) (by have := M2.out.fx.size; simp; omega) ?_)
    intro v5 w5 hown5 hg5 _
    have hme5 := (M6.out.grown M6.out.rd.ot (by decide) (by decide) hg5).me
    have hfl : (ts ++ [t]).flatMap Tk.cells = ts.flatMap Tk.cells ++ t.cells := by rw [List.flatMap_append]; simp
    have hlp : nt + 1 = (ts ++ [t]).length := by rw [HNT.out]; simp
    rw [← hfl] at hown5
    obtain ⟨m, hm⟩ : ∃ m, m = nt + 1 := ⟨_, rfl⟩
    rw [← hm] at hown5 hlp
    obtain ⟨A5, k5, rfl⟩ := own_slice hown5
    have c45 := cell_of_row _ _ 3 _ _ _ hme5
    have f45 : w5.frozen? ⟨g, 3, none⟩ = false := by simp [World.frozen?, hme5]
    simp only [List.getElem?_toArray, List.getElem?_cons_zero, List.getElem?_cons_succ] at c45
    have S7 := Kept.mk (show (fun V : World => V.cell? ⟨g, 3, none⟩ = some (.slice At nt ct)) w5 from c45)
    have M7 := Kept.mk (M6.out.task hown5 hlp hg5)
    clear hown5 hg5 hnew hme5 hfl hlp hm
    refine hK.out _ _ (fun _ => S7.out) ?_
    clear hK K
    try simp only [Act.put, List.setIfInBounds_toArray, List.set_cons_zero, List.set_cons_succ]
    refine wpAnyT_take (i := 10) (v := ?va10) [10, 11, 12, 13] (by simp only [List.getElem?_toArray, List.getElem?_cons_succ, List.getElem?_cons_zero]; exact rfl) (by kernel_rfl) (by kernel_rfl) (by kernel_rfl) (by kernel_rfl) (by intro _ _ _ h; exact h) (Or.inl ⟨by rfl, ?hya10⟩) S7.out ?resta10
    case hya10 => (intro w hSw; go_simp; try with_reducible rfl)
    try simp only [Act.put, List.setIfInBounds_toArray, List.set_cons_zero, List.set_cons_succ]
    refine wpAnyT_take (i := 11) (v := ?va11) [11, 12, 13] (by simp only [List.getElem?_toArray, List.getElem?_cons_succ, List.getElem?_cons_zero]; exact rfl) (by kernel_rfl) (by kernel_rfl) (by kernel_rfl) (by kernel_rfl) (by intro _ _ _ h; exact h) (Or.inl ⟨by rfl, ?hya11⟩) S7.out ?resta11
    case hya11 => (intro w hSw; go_simp; try with_reducible rfl)
    try simp only [Act.put, List.setIfInBounds_toArray, List.set_cons_zero, List.set_cons_succ]
    refine wpAnyT_take (i := 12) (v := ?va12) [12, 13] (by simp only [List.getElem?_toArray, List.getElem?_cons_succ, List.getElem?_cons_zero]; exact rfl) (by kernel_rfl) (by kernel_rfl) (by kernel_rfl) (by kernel_rfl) (by intro _ _ _ h; exact h) (Or.inl ⟨by rfl, ?hya12⟩) S7.out ?resta12
    case hya12 => (intro w hSw; go_simp; try with_reducible rfl)
    try simp only [Act.put, List.setIfInBounds_toArray, List.set_cons_zero, List.set_cons_succ]
    refine wpAnyT_one 13 (by kernel_rfl) (by simp only [List.getElem?_toArray, List.getElem?_cons_succ, List.getElem?_cons_zero]; exact rfl) (fun K hK => ?_)
    go_simp
    refine hK.out _ _ (fun h => (by cases h)) ?_
    clear hK K
    try simp only [Act.put, List.setIfInBounds_toArray, List.set_cons_zero, List.set_cons_succ]
    refine wpAnyT_done (by kernel_rfl) ?_ _
    obtain ⟨w6, hw6⟩ : ∃ w6, w6 = w5.setCell ⟨g, 3, none⟩ (.slice A5 m k5) := ⟨_, rfl⟩
    rw [← hw6] at M7 ⊢
    clear hw6 c45 f45 S7 M6 S6 HS0 HSB M1 M2 S2 HM
    have HE := Kept.mk (show AtEnd B g gw w.heap.size (wQ :: ws) w w6 (.int .i64 mn) (.int .i64 mx) (.int .i64 sw) (.slice A5 m k5) (.slice Al nl cl) vh (.int .i64 a) from
      ⟨M7.out.rd.me, ws_end M7.out.ws (by rw [List.length_cons]; omega), by have := HGW.out; omega, M7.out.fx⟩)
    have e6 := cell_of_row _ _ 6 _ _ _ HE.out.me
    have f6 : w6.frozen? ⟨g, 6, none⟩ = false := by simp [World.frozen?, HE.out.me]
    simp only [List.getElem?_toArray, List.getElem?_cons_zero, List.getElem?_cons_succ] at e6
    go_upto_region 22 with fail
    have HE7 := Kept.mk (HE.out.set (.int .i64 (a + 1)))
    obtain ⟨w7, hw7⟩ : ∃ w7, w7 = w6.setCell ⟨g, 6, none⟩ (.int .i64 (a + 1)) := ⟨_, rfl⟩
    rw [← hw7] at HE7 ⊢
    have G67 := Kept.mk (show w6.grownBy w7 (some g) from by rw [hw7]; exact gb_set _ _ _ _)
    clear hw7 e6 f6
    obtain ⟨ax, hax⟩ := HE7.out.ws
    have b0 := cell_of_row _ _ 0 _ _ _ hax
    have b1 := cell_of_row _ _ 1 _ _ _ hax
    simp only [List.getElem?_toArray, List.getElem?_cons_zero, List.getElem?_cons_succ] at b0 b1
    clear hax
    go_wp2
    go_ret
    exact ⟨rfl, ⟨_, _, _, ⟨HE7.out.me, own_gb M7.out.rd.ot G67.out hgB, own_gb M7.out.rd.ol G67.out hgB, own_gb M7.out.rd.oh G67.out hgB⟩⟩, HE7.out.fx⟩
  · cases b2
    · obtain ⟨m1, hm1⟩ := EN.mx
      obtain ⟨row, hrow⟩ : ∃ row, row = ((wQ :: ws).map fun s => Value.string (BA s)).toArray := ⟨_, rfl⟩
      have hsp := split_line wQ ws n w HN.out.symm (by decide) hnos hln EN.mx
      rw [← hrow, ← HTXT.out] at hsp
      have HROW := Kept.mk hrow
      have HSP := Kept.mk hsp
      have HRD := Kept.mk hRD
      have HEN := Kept.mk EN
      have hgl := hRD.lt
      clear hRD EN hm1 hsp hrow
      go_enter Tryd.func33, Tryd.ntmps33
      go_upto_region 2 with (go_at_call 38; refine HSP.out.mono ?_; rintro e w1 ⟨rfl, rfl⟩)
      obtain ⟨W2, hW2⟩ : ∃ W2, W2 = (w.alloc (.cells row 9)).alloc (.cells #[.slice (some ⟨w.heap.size, 0, none⟩) n n, .bool false] 106) := ⟨_, rfl⟩
      obtain ⟨gw, hgw⟩ : ∃ gw, gw = w.heap.size + 1 := ⟨_, rfl⟩
      have hb2 : Below w.heap.size w W2 := by rw [hW2]; exact (below_box w _).alloc (by simp) _
      have hws : WS gw w.heap.size (wQ :: ws) 0 false W2 := by rw [hW2, hgw, HROW.out]; exact ws_new w (wQ :: ws) n (by rw [List.length_cons]; exact HN.out)
      have s2 : W2.heap.size = w.heap.size + 2 := by rw [hW2]; simp
      rw [← hW2, ← hgw]
      have HGW := Kept.mk hgw
      have R0 : WR g gw w.heap.size (wQ :: ws) false W2 0 W2 := ⟨hws, gb_refl _ _, HEN.out.on (hb2.mono (by omega)), by omega, by omega, by rw [List.length_cons]; omega⟩
      have HU := Kept.mk (fun (U : World) (o : Nat) (h : WR g gw w.heap.size (wQ :: ws) false W2 o U) => show w.grownBy U (some gw) from gb_trans (gb_below hb2 _) h.gb)
      have HRU := Kept.mk (fun (U : World) (o : Nat) (h : WR g gw w.heap.size (wQ :: ws) false W2 o U) => HRD.out.on (HU.out U o h) (by omega))
      obtain ⟨c6, -⟩ := (HRU.out _ _ R0).at (i := 6) rfl
      clear hW2 hgw hws hb2 s2 HROW
      have q0 := Kept.mk (R0.word (s := wQ) rfl)
      clear R0
      go_wp2_with (go_at_call 45; refine q0.out.mono ?_; rintro e w3 ⟨rfl, R1⟩; refine Hid.out ?_)
      refine Lib.hid ?_
      clear q0 c6
      clear HSP
      have HM := Kept.mk (show Mid B g gw w.heap.size (wQ :: ws) w ⟨mn, mx, sw, ts, ls, hs, a⟩ (.slice At nt ct) (.slice Al nl cl) vh 1 w3 from
        ⟨HRU.out _ _ R1, R1.ws, FX.of_new (HU.out _ _ R1) hBw (by have := HGW.out; omega), HEN.out, hgB, by have := HGW.out; omega, hBw, hBw, by rw [List.length_cons]; omega⟩)
      obtain ⟨c3, -⟩ := HM.out.rd.at (i := 3) rfl
      obtain ⟨c4, -⟩ := HM.out.rd.at (i := 4) rfl
      clear R1 HU HRU
      go_upto_region 16 with fail
      have HSB := Kept.mk (fun (V : World) (o : Nat) (h : Mid B g gw w.heap.size (wQ :: ws) w ⟨mn, mx, sw, ts, ls, hs, a⟩ (.slice At nt ct) (.slice Al nl cl) vh o V) => show (fun V : World => V.cell? ⟨g, 3, none⟩ = some (.slice At nt ct)) V from (h.rd.at (i := 3) rfl).1)
      refine wp_region_late (fun V : World => V.cell? ⟨g, 3, none⟩ = some (.slice At nt ct)) (fun i => i == 13) (by kernel_rfl) ?_
      obtain ⟨wd, hwd⟩ : ∃ wd, wd = w3.drew := ⟨_, rfl⟩
      have M1 := Kept.mk (HM.out.on (show Below w3.heap.size w3 wd from by rw [hwd]; exact (Below.refl _ _).drewN 1))
      have HS0 := Kept.mk (HSB.out _ _ M1.out)
      rw [← hwd]
      clear hwd c3 c4
      refine wpAnyT_take (i := 0) (v := ?vb0) [0, 13] (by simp only [List.getElem?_toArray, List.getElem?_cons_succ, List.getElem?_cons_zero]; exact rfl) (by kernel_rfl) (by kernel_rfl) (by kernel_rfl) (by kernel_rfl) (by intro _ _ _ h; exact h) (Or.inl ⟨by rfl, ?hyb0⟩) HS0.out ?restb0
      case hyb0 => (intro w hSw; go_simp; try with_reducible rfl)
      try simp only [Act.put, List.setIfInBounds_toArray, List.set_cons_zero, List.set_cons_succ]
      refine wpAnyT_take (i := 1) (v := ?vb1) [1, 13] (by simp only [List.getElem?_toArray, List.getElem?_cons_succ, List.getElem?_cons_zero]; exact rfl) (by kernel_rfl) (by kernel_rfl) (by kernel_rfl) (by kernel_rfl) (by intro _ _ _ h; exact h) (Or.inl ⟨by rfl, ?hyb1⟩) HS0.out ?restb1
      case hyb1 => (intro w hSw; go_simp; try with_reducible rfl)
      try simp only [Act.put, List.setIfInBounds_toArray, List.set_cons_zero, List.set_cons_succ]
      refine wpAnyT_take (i := 2) (v := ?vb2) [2, 13] (by simp only [List.getElem?_toArray, List.getElem?_cons_succ, List.getElem?_cons_zero]; exact rfl) (by kernel_rfl) (by kernel_rfl) (by kernel_rfl) (by kernel_rfl) (by intro _ _ _ h; exact h) (Or.inl ⟨by rfl, ?hyb2⟩) HS0.out ?restb2
      case hyb2 => (intro w hSw; go_simp; try with_reducible rfl)
      try simp only [Act.put, List.setIfInBounds_toArray, List.set_cons_zero, List.set_cons_succ]
      refine wpAnyT_take (i := 3) (v := ?vb3) [3, 13] (by simp only [List.getElem?_toArray, List.getElem?_cons_succ, List.getElem?_cons_zero]; exact rfl) (by kernel_rfl) (by kernel_rfl) (by kernel_rfl) (by kernel_rfl) (by intro _ _ _ h; exact h) (Or.inl ⟨by rfl, ?hyb3⟩) HS0.out ?restb3
      case hyb3 => (intro w hSw; go_simp; try with_reducible rfl)
      try simp only [Act.put, List.setIfInBounds_toArray, List.set_cons_zero, List.set_cons_succ]
      refine wpAnyT_take (i := 4) (v := ?vb4) [4, 13] (by simp only [List.getElem?_toArray, List.getElem?_cons_succ, List.getElem?_cons_zero]; exact rfl) (by kernel_rfl) (by kernel_rfl) (by kernel_rfl) (by kernel_rfl) (by intro _ _ _ h; exact h) (Or.inl ⟨by rfl, ?hyb4⟩) HS0.out ?restb4
      case hyb4 => (intro w hSw; go_simp; try with_reducible rfl)
      try simp only [Act.put, List.setIfInBounds_toArray, List.set_cons_zero, List.set_cons_succ]
      refine wpAnyT_take (i := 5) (v := ?vb5) [5, 13] (by simp only [List.getElem?_toArray, List.getElem?_cons_succ, List.getElem?_cons_zero]; exact rfl) (by kernel_rfl) (by kernel_rfl) (by kernel_rfl) (by kernel_rfl) (by intro _ _ _ h; exact h) (Or.inl ⟨by rfl, ?hyb5⟩) HS0.out ?restb5
      case hyb5 => (intro w hSw; go_simp; try with_reducible rfl)
      try simp only [Act.put, List.setIfInBounds_toArray, List.set_cons_zero, List.set_cons_succ]
      refine wpAnyT_take (i := 6) (v := ?vb6) [6, 13] (by simp only [List.getElem?_toArray, List.getElem?_cons_succ, List.getElem?_cons_zero]; exact rfl) (by kernel_rfl) (by kernel_rfl) (by kernel_rfl) (by kernel_rfl) (by intro _ _ _ h; exact h) (Or.inl ⟨by rfl, ?hyb6⟩) HS0.out ?restb6
      case hyb6 => (intro w hSw; go_simp; try with_reducible rfl)
      try simp only [Act.put, List.setIfInBounds_toArray, List.set_cons_zero, List.set_cons_succ]
      refine wpAnyT_one 7 (by kernel_rfl) (by simp only [List.getElem?_toArray, List.getElem?_cons_succ, List.getElem?_cons_zero]; exact rfl) (fun K hK => ?_)
      go_simp
      go_at_call 47
      rw [← HK.out]
      refine (task_any g gw w.heap.size wQ t wd HT.out (by rw [← HWS.out]; exact M1.out.ws) M1.out.env (by have := HGW.out; omega)).mono ?_
      rintro e w4 ⟨rfl, hws4, hg4⟩
      rw [← HWS.out] at hws4
      have M2 := Kept.mk (M1.out.call hws4 hg4)
      have S2 := Kept.mk (HSB.out _ _ M2.out)
      clear hws4 hg4
      refine hK.out _ _ (fun _ => S2.out) ?_
      clear hK K
      try simp only [Act.put, List.setIfInBounds_toArray, List.set_cons_zero, List.set_cons_succ]
      refine wpAnyT_one 8 (by kernel_rfl) (by simp only [List.getElem?_toArray, List.getElem?_cons_succ, List.getElem?_cons_zero]; exact rfl) (fun K hK => ?_)
      go_simp
      have M6 := Kept.mk (M2.out.on (below_box w4 (.cells t.cells.toArray 54)))
      have S6 := Kept.mk (HSB.out _ _ M6.out)
      have hnew := cells_new w4 w4.heap.size rfl t.cells 54
      refine hK.out _ _ (fun _ => S6.out) ?_
      clear hK K
      try simp only [Act.put, List.setIfInBounds_toArray, List.set_cons_zero, List.set_cons_succ]
      refine wpAnyT_one 9 (by kernel_rfl) (by simp only [List.getElem?_toArray, List.getElem?_cons_succ, List.getElem?_cons_zero]; exact rfl) (fun K hK => ?_)
      refine step_wp' rfl (wp_append_own _ (.tmp 107) (.tmp 110) 43 rfl B 54 i0 (.agg #[.int .u8 0, .int .i64 0, .int .i64 0, .int .i64 0, .int .i64 0, .int .i64 0, .int .i64 0, .int .i64 0, .int .i64 0, .int .i64 0]) 10 80 Tryd.underlying43 hi hz0 hz1 hz2 rfl (by decide) (.slice At nt ct) nt (ts.flatMap Tk.cells) rfl (own_len M6.out.rd.ot HNT.out.symm) ⟨w4.heap.size, 0, none⟩ 1 1 t.cells rfl rfl hnew (tk_cells_one t) (by simp only [maxLen]; omega) (by omega) (by have := M2.out.fx.size; simp; omega) ?_)
      intro v5 w5 hown5 hg5 _
      have hme5 := (M6.out.grown M6.out.rd.ot (by decide) (by decide) hg5).me
      have hfl : (ts ++ [t]).flatMap Tk.cells = ts.flatMap Tk.cells ++ t.cells := by rw [List.flatMap_append]; simp
      have hlp : nt + 1 = (ts ++ [t]).length := by rw [HNT.out]; simp
      rw [← hfl] at hown5
      obtain ⟨m, hm⟩ : ∃ m, m = nt + 1 := ⟨_, rfl⟩
      rw [← hm] at hown5 hlp
      obtain ⟨A5, k5, rfl⟩ := own_slice hown5
      have c45 := cell_of_row _ _ 3 _ _ _ hme5
      have f45 : w5.frozen? ⟨g, 3, none⟩ = false := by simp [World.frozen?, hme5]
      simp only [List.getElem?_toArray, List.getElem?_cons_zero, List.getElem?_cons_succ] at c45
      have S7 := Kept.mk (show (fun V : World => V.cell? ⟨g, 3, none⟩ = some (.slice At nt ct)) w5 from c45)
      have M7 := Kept.mk (M6.out.task hown5 hlp hg5)
      clear hown5 hg5 hnew hme5 hfl hlp hm
      refine hK.out _ _ (fun _ => S7.out) ?_
      clear hK K
      try simp only [Act.put, List.setIfInBounds_toArray, List.set_cons_zero, List.set_cons_succ]
      refine wpAnyT_take (i := 10) (v := ?vb10) [10, 11, 12, 13] (by simp only [List.getElem?_toArray, List.getElem?_cons_succ, List.getElem?_cons_zero]; exact rfl) (by kernel_rfl) (by kernel_rfl) (by kernel_rfl) (by kernel_rfl) (by intro _ _ _ h; exact h) (Or.inl ⟨by rfl, ?hyb10⟩) S7.out ?restb10
      case hyb10 => (intro w hSw; go_simp; try with_reducible rfl)
      try simp only [Act.put, List.setIfInBounds_toArray, List.set_cons_zero, List.set_cons_succ]
      refine wpAnyT_take (i := 11) (v := ?vb11) [11, 12, 13] (by simp only [List.getElem?_toArray, List.getElem?_cons_succ, List.getElem?_cons_zero]; exact rfl) (by kernel_rfl) (by kernel_rfl) (by kernel_rfl) (by kernel_rfl) (by intro _ _ _ h; exact h) (Or.inl ⟨by rfl, ?hyb11⟩) S7.out ?restb11
      case hyb11 => (intro w hSw; go_simp; try with_reducible rfl)
      try simp only [Act.put, List.setIfInBounds_toArray, List.set_cons_zero, List.set_cons_succ]
      refine wpAnyT_take (i := 12) (v := ?vb12) [12, 13] (by simp only [List.getElem?_toArray, List.getElem?_cons_succ, List.getElem?_cons_zero]; exact rfl) (by kernel_rfl) (by kernel_rfl) (by kernel_rfl) (by kernel_rfl) (by intro _ _ _ h; exact h) (Or.inl ⟨by rfl, ?hyb12⟩) S7.out ?restb12
      case hyb12 => (intro w hSw; go_simp; try with_reducible rfl)
      try simp only [Act.put, List.setIfInBounds_toArray, List.set_cons_zero, List.set_cons_succ]
      refine wpAnyT_one 13 (by kernel_rfl) (by simp only [List.getElem?_toArray, List.getElem?_cons_succ, List.getElem?_cons_zero]; exact rfl) (fun K hK => ?_)
      go_simp
      refine hK.out _ _ (fun h => (by cases h)) ?_
      clear hK K
      try simp only [Act.put, List.setIfInBounds_toArray, List.set_cons_zero, List.set_cons_succ]
      refine wpAnyT_done (by kernel_rfl) ?_ _
      obtain ⟨w6, hw6⟩ : ∃ w6, w6 = w5.setCell ⟨g, 3, none⟩ (.slice A5 m k5) := ⟨_, rfl⟩
      rw [← hw6] at M7 ⊢
      clear hw6 c45 f45 S7 M6 S6 HS0 HSB M1 M2 S2 HM
      have HE := Kept.mk (show AtEnd B g gw w.heap.size (wQ :: ws) w w6 (.int .i64 mn) (.int .i64 mx) (.int .i64 sw) (.slice A5 m k5) (.slice Al nl cl) vh (.int .i64 a) from
        ⟨M7.out.rd.me, ws_end M7.out.ws (by rw [List.length_cons]; omega), by have := HGW.out; omega, M7.out.fx⟩)
      have e6 := cell_of_row _ _ 6 _ _ _ HE.out.me
      have f6 : w6.frozen? ⟨g, 6, none⟩ = false := by simp [World.frozen?, HE.out.me]
      simp only [List.getElem?_toArray, List.getElem?_cons_zero, List.getElem?_cons_succ] at e6
      go_upto_region 22 with fail
      have HE7 := Kept.mk (HE.out.set (.int .i64 (a + 1)))
      obtain ⟨w7, hw7⟩ : ∃ w7, w7 = w6.setCell ⟨g, 6, none⟩ (.int .i64 (a + 1)) := ⟨_, rfl⟩
      rw [← hw7] at HE7 ⊢
      have G67 := Kept.mk (show w6.grownBy w7 (some g) from by rw [hw7]; exact gb_set _ _ _ _)
      clear hw7 e6 f6
      obtain ⟨ax, hax⟩ := HE7.out.ws
      have b0 := cell_of_row _ _ 0 _ _ _ hax
      have b1 := cell_of_row _ _ 1 _ _ _ hax
      simp only [List.getElem?_toArray, List.getElem?_cons_zero, List.getElem?_cons_succ] at b0 b1
      clear hax
      go_wp2
      go_ret
      exact ⟨rfl, ⟨_, _, _, ⟨HE7.out.me, own_gb M7.out.rd.ot G67.out hgB, own_gb M7.out.rd.ol G67.out hgB, own_gb M7.out.rd.oh G67.out hgB⟩⟩, HE7.out.fx⟩
    · cases b3
      · obtain ⟨m1, hm1⟩ := EN.mx
        obtain ⟨row, hrow⟩ : ∃ row, row = ((wQ :: ws).map fun s => Value.string (BA s)).toArray := ⟨_, rfl⟩
        have hsp := split_line wQ ws n w HN.out.symm (by decide) hnos hln EN.mx
        rw [← hrow, ← HTXT.out] at hsp
        have HROW := Kept.mk hrow
        have HSP := Kept.mk hsp
        have HRD := Kept.mk hRD
        have HEN := Kept.mk EN
        have hgl := hRD.lt
        clear hRD EN hm1 hsp hrow
        go_enter Tryd.func33, Tryd.ntmps33
        go_upto_region 2 with (go_at_call 38; refine HSP.out.mono ?_; rintro e w1 ⟨rfl, rfl⟩)
        obtain ⟨W2, hW2⟩ : ∃ W2, W2 = (w.alloc (.cells row 9)).alloc (.cells #[.slice (some ⟨w.heap.size, 0, none⟩) n n, .bool false] 106) := ⟨_, rfl⟩
        obtain ⟨gw, hgw⟩ : ∃ gw, gw = w.heap.size + 1 := ⟨_, rfl⟩
        have hb2 : Below w.heap.size w W2 := by rw [hW2]; exact (below_box w _).alloc (by simp) _
        have hws : WS gw w.heap.size (wQ :: ws) 0 false W2 := by rw [hW2, hgw, HROW.out]; exact ws_new w (wQ :: ws) n (by rw [List.length_cons]; exact HN.out)
        have s2 : W2.heap.size = w.heap.size + 2 := by rw [hW2]; simp
        rw [← hW2, ← hgw]
        have HGW := Kept.mk hgw
        have R0 : WR g gw w.heap.size (wQ :: ws) false W2 0 W2 := ⟨hws, gb_refl _ _, HEN.out.on (hb2.mono (by omega)), by omega, by omega, by rw [List.length_cons]; omega⟩
        have HU := Kept.mk (fun (U : World) (o : Nat) (h : WR g gw w.heap.size (wQ :: ws) false W2 o U) => show w.grownBy U (some gw) from gb_trans (gb_below hb2 _) h.gb)
        have HRU := Kept.mk (fun (U : World) (o : Nat) (h : WR g gw w.heap.size (wQ :: ws) false W2 o U) => HRD.out.on (HU.out U o h) (by omega))
        obtain ⟨c6, -⟩ := (HRU.out _ _ R0).at (i := 6) rfl
        clear hW2 hgw hws hb2 s2 HROW
        have q0 := Kept.mk (R0.word (s := wQ) rfl)
        clear R0
        go_wp2_with (go_at_call 45; refine q0.out.mono ?_; rintro e w3 ⟨rfl, R1⟩; refine Hid.out ?_)
        refine Lib.hid ?_
        clear q0 c6
        clear HSP
        have HM := Kept.mk (show Mid B g gw w.heap.size (wQ :: ws) w ⟨mn, mx, sw, ts, ls, hs, a⟩ (.slice At nt ct) (.slice Al nl cl) vh 1 w3 from
          ⟨HRU.out _ _ R1, R1.ws, FX.of_new (HU.out _ _ R1) hBw (by have := HGW.out; omega), HEN.out, hgB, by have := HGW.out; omega, hBw, hBw, by rw [List.length_cons]; omega⟩)
        obtain ⟨c3, -⟩ := HM.out.rd.at (i := 3) rfl
        obtain ⟨c4, -⟩ := HM.out.rd.at (i := 4) rfl
        clear R1 HU HRU
        go_upto_region 16 with fail
        have HSB := Kept.mk (fun (V : World) (o : Nat) (h : Mid B g gw w.heap.size (wQ :: ws) w ⟨mn, mx, sw, ts, ls, hs, a⟩ (.slice At nt ct) (.slice Al nl cl) vh o V) => show (fun V : World => V.cell? ⟨g, 3, none⟩ = some (.slice At nt ct)) V from (h.rd.at (i := 3) rfl).1)
        refine wp_region_late (fun V : World => V.cell? ⟨g, 3, none⟩ = some (.slice At nt ct)) (fun i => i == 13) (by kernel_rfl) ?_
        obtain ⟨wd, hwd⟩ : ∃ wd, wd = w3.drew := ⟨_, rfl⟩
        have M1 := Kept.mk (HM.out.on (show Below w3.heap.size w3 wd from by rw [hwd]; exact (Below.refl _ _).drewN 1))
        have HS0 := Kept.mk (HSB.out _ _ M1.out)
        rw [← hwd]
        clear hwd c3 c4
        refine wpAnyT_take (i := 0) (v := ?vc0) [0, 13] (by simp only [List.getElem?_toArray, List.getElem?_cons_succ, List.getElem?_cons_zero]; exact rfl) (by kernel_rfl) (by kernel_rfl) (by kernel_rfl) (by kernel_rfl) (by intro _ _ _ h; exact h) (Or.inl ⟨by rfl, ?hyc0⟩) HS0.out ?restc0
        case hyc0 => (intro w hSw; go_simp; try with_reducible rfl)
        try simp only [Act.put, List.setIfInBounds_toArray, List.set_cons_zero, List.set_cons_succ]
        refine wpAnyT_take (i := 1) (v := ?vc1) [1, 13] (by simp only [List.getElem?_toArray, List.getElem?_cons_succ, List.getElem?_cons_zero]; exact rfl) (by kernel_rfl) (by kernel_rfl) (by kernel_rfl) (by kernel_rfl) (by intro _ _ _ h; exact h) (Or.inl ⟨by rfl, ?hyc1⟩) HS0.out ?restc1
        case hyc1 => (intro w hSw; go_simp; try with_reducible rfl)
        try simp only [Act.put, List.setIfInBounds_toArray, List.set_cons_zero, List.set_cons_succ]
        refine wpAnyT_take (i := 2) (v := ?vc2) [2, 13] (by simp only [List.getElem?_toArray, List.getElem?_cons_succ, List.getElem?_cons_zero]; exact rfl) (by kernel_rfl) (by kernel_rfl) (by kernel_rfl) (by kernel_rfl) (by intro _ _ _ h; exact h) (Or.inl ⟨by rfl, ?hyc2⟩) HS0.out ?restc2
        case hyc2 => (intro w hSw; go_simp; try with_reducible rfl)
        try simp only [Act.put, List.setIfInBounds_toArray, List.set_cons_zero, List.set_cons_succ]
        refine wpAnyT_take (i := 3) (v := ?vc3) [3, 13] (by simp only [List.getElem?_toArray, List.getElem?_cons_succ, List.getElem?_cons_zero]; exact rfl) (by kernel_rfl) (by kernel_rfl) (by kernel_rfl) (by kernel_rfl) (by intro _ _ _ h; exact h) (Or.inl ⟨by rfl, ?hyc3⟩) HS0.out ?restc3
        case hyc3 => (intro w hSw; go_simp; try with_reducible rfl)
        try simp only [Act.put, List.setIfInBounds_toArray, List.set_cons_zero, List.set_cons_succ]
        refine wpAnyT_take (i := 4) (v := ?vc4) [4, 13] (by simp only [List.getElem?_toArray, List.getElem?_cons_succ, List.getElem?_cons_zero]; exact rfl) (by kernel_rfl) (by kernel_rfl) (by kernel_rfl) (by kernel_rfl) (by intro _ _ _ h; exact h) (Or.inl ⟨by rfl, ?hyc4⟩) HS0.out ?restc4
        case hyc4 => (intro w hSw; go_simp; try with_reducible rfl)
        try simp only [Act.put, List.setIfInBounds_toArray, List.set_cons_zero, List.set_cons_succ]
        refine wpAnyT_take (i := 5) (v := ?vc5) [5, 13] (by simp only [List.getElem?_toArray, List.getElem?_cons_succ, List.getElem?_cons_zero]; exact rfl) (by kernel_rfl) (by kernel_rfl) (by kernel_rfl) (by kernel_rfl) (by intro _ _ _ h; exact h) (Or.inl ⟨by rfl, ?hyc5⟩) HS0.out ?restc5
        case hyc5 => (intro w hSw; go_simp; try with_reducible rfl)
        try simp only [Act.put, List.setIfInBounds_toArray, List.set_cons_zero, List.set_cons_succ]
        refine wpAnyT_take (i := 6) (v := ?vc6) [6, 13] (by simp only [List.getElem?_toArray, List.getElem?_cons_succ, List.getElem?_cons_zero]; exact rfl) (by kernel_rfl) (by kernel_rfl) (by kernel_rfl) (by kernel_rfl) (by intro _ _ _ h; exact h) (Or.inl ⟨by rfl, ?hyc6⟩) HS0.out ?restc6
        case hyc6 => (intro w hSw; go_simp; try with_reducible rfl)
        try simp only [Act.put, List.setIfInBounds_toArray, List.set_cons_zero, List.set_cons_succ]
        refine wpAnyT_one 7 (by kernel_rfl) (by simp only [List.getElem?_toArray, List.getElem?_cons_succ, List.getElem?_cons_zero]; exact rfl) (fun K hK => ?_)
        go_simp
        go_at_call 47
        rw [← HK.out]
        refine (task_any g gw w.heap.size wQ t wd HT.out (by rw [← HWS.out]; exact M1.out.ws) M1.out.env (by have := HGW.out; omega)).mono ?_
        rintro e w4 ⟨rfl, hws4, hg4⟩
        rw [← HWS.out] at hws4
        have M2 := Kept.mk (M1.out.call hws4 hg4)
        have S2 := Kept.mk (HSB.out _ _ M2.out)
        clear hws4 hg4
        refine hK.out _ _ (fun _ => S2.out) ?_
        clear hK K
        try simp only [Act.put, List.setIfInBounds_toArray, List.set_cons_zero, List.set_cons_succ]
        refine wpAnyT_one 8 (by kernel_rfl) (by simp only [List.getElem?_toArray, List.getElem?_cons_succ, List.getElem?_cons_zero]; exact rfl) (fun K hK => ?_)
        go_simp
        have M6 := Kept.mk (M2.out.on (below_box w4 (.cells t.cells.toArray 54)))
        have S6 := Kept.mk (HSB.out _ _ M6.out)
        have hnew := cells_new w4 w4.heap.size rfl t.cells 54
        refine hK.out _ _ (fun _ => S6.out) ?_
        clear hK K
        try simp only [Act.put, List.setIfInBounds_toArray, List.set_cons_zero, List.set_cons_succ]
        refine wpAnyT_one 9 (by kernel_rfl) (by simp only [List.getElem?_toArray, List.getElem?_cons_succ, List.getElem?_cons_zero]; exact rfl) (fun K hK => ?_)
        refine step_wp' rfl (wp_append_own _ (.tmp 107) (.tmp 110) 43 rfl B 54 i0 (.agg #[.int .u8 0, .int .i64 0, .int .i64 0, .int .i64 0, .int .i64 0, .int .i64 0, .int .i64 0, .int .i64 0, .int .i64 0, .int .i64 0]) 10 80 Tryd.underlying43 hi hz0 hz1 hz2 rfl (by decide) (.slice At nt ct) nt (ts.flatMap Tk.cells) rfl (own_len M6.out.rd.ot HNT.out.symm) ⟨w4.heap.size, 0, none⟩ 1 1 t.cells rfl rfl hnew (tk_cells_one t) (by simp only [maxLen]; omega) (by omega) (by have := M2.out.fx.size; simp; omega) ?_)
        intro v5 w5 hown5 hg5 _
        have hme5 := (M6.out.grown M6.out.rd.ot (by decide) (by decide) hg5).me
        have hfl : (ts ++ [t]).flatMap Tk.cells = ts.flatMap Tk.cells ++ t.cells := by rw [List.flatMap_append]; simp
        have hlp : nt + 1 = (ts ++ [t]).length := by rw [HNT.out]; simp
        rw [← hfl] at hown5
        obtain ⟨m, hm⟩ : ∃ m, m = nt + 1 := ⟨_, rfl⟩
        rw [← hm] at hown5 hlp
        obtain ⟨A5, k5, rfl⟩ := own_slice hown5
        have c45 := cell_of_row _ _ 3 _ _ _ hme5
        have f45 : w5.frozen? ⟨g, 3, none⟩ = false := by simp [World.frozen?, hme5]
        simp only [List.getElem?_toArray, List.getElem?_cons_zero, List.getElem?_cons_succ] at c45
        have S7 := Kept.mk (show (fun V : World => V.cell? ⟨g, 3, none⟩ = some (.slice At nt ct)) w5 from c45)
        have M7 := Kept.mk (M6.out.task hown5 hlp hg5)
        clear hown5 hg5 hnew hme5 hfl hlp hm
        refine hK.out _ _ (fun _ => S7.out) ?_
        clear hK K
        try simp only [Act.put, List.setIfInBounds_toArray, List.set_cons_zero, List.set_cons_succ]
        refine wpAnyT_take (i := 10) (v := ?vc10) [10, 11, 12, 13] (by simp only [List.getElem?_toArray, List.getElem?_cons_succ, List.getElem?_cons_zero]; exact rfl) (by kernel_rfl) (by kernel_rfl) (by kernel_rfl) (by kernel_rfl) (by intro _ _ _ h; exact h) (Or.inl ⟨by rfl, ?hyc10⟩) S7.out ?restc10
        case hyc10 => (intro w hSw; go_simp; try with_reducible rfl)
        try simp only [Act.put, List.setIfInBounds_toArray, List.set_cons_zero, List.set_cons_succ]
        refine wpAnyT_take (i := 11) (v := ?vc11) [11, 12, 13] (by simp only [List.getElem?_toArray, List.getElem?_cons_succ, List.getElem?_cons_zero]; exact rfl) (by kernel_rfl) (by kernel_rfl) (by kernel_rfl) (by kernel_rfl) (by intro _ _ _ h; exact h) (Or.inl ⟨by rfl, ?hyc11⟩) S7.out ?restc11
        case hyc11 => (intro w hSw; go_simp; try with_reducible rfl)
        try simp only [Act.put, List.setIfInBounds_toArray, List.set_cons_zero, List.set_cons_succ]
        refine wpAnyT_take (i := 12) (v := ?vc12) [12, 13] (by simp only [List.getElem?_toArray, List.getElem?_cons_succ, List.getElem?_cons_zero]; exact rfl) (by kernel_rfl) (by kernel_rfl) (by kernel_rfl) (by kernel_rfl) (by intro _ _ _ h; exact h) (Or.inl ⟨by rfl, ?hyc12⟩) S7.out ?restc12
        case hyc12 => (intro w hSw; go_simp; try with_reducible rfl)
        try simp only [Act.put, List.setIfInBounds_toArray, List.set_cons_zero, List.set_cons_succ]
        refine wpAnyT_one 13 (by kernel_rfl) (by simp only [List.getElem?_toArray, List.getElem?_cons_succ, List.getElem?_cons_zero]; exact rfl) (fun K hK => ?_)
        go_simp
        refine hK.out _ _ (fun h => (by cases h)) ?_
        clear hK K
        try simp only [Act.put, List.setIfInBounds_toArray, List.set_cons_zero, List.set_cons_succ]
        refine wpAnyT_done (by kernel_rfl) ?_ _
        obtain ⟨w6, hw6⟩ : ∃ w6, w6 = w5.setCell ⟨g, 3, none⟩ (.slice A5 m k5) := ⟨_, rfl⟩
        rw [← hw6] at M7 ⊢
        clear hw6 c45 f45 S7 M6 S6 HS0 HSB M1 M2 S2 HM
        have HE := Kept.mk (show AtEnd B g gw w.heap.size (wQ :: ws) w w6 (.int .i64 mn) (.int .i64 mx) (.int .i64 sw) (.slice A5 m k5) (.slice Al nl cl) vh (.int .i64 a) from
          ⟨M7.out.rd.me, ws_end M7.out.ws (by rw [List.length_cons]; omega), by have := HGW.out; omega, M7.out.fx⟩)
        have e6 := cell_of_row _ _ 6 _ _ _ HE.out.me
        have f6 : w6.frozen? ⟨g, 6, none⟩ = false := by simp [World.frozen?, HE.out.me]
        simp only [List.getElem?_toArray, List.getElem?_cons_zero, List.getElem?_cons_succ] at e6
        go_upto_region 22 with fail
        have HE7 := Kept.mk (HE.out.set (.int .i64 (a + 1)))
        obtain ⟨w7, hw7⟩ : ∃ w7, w7 = w6.setCell ⟨g, 6, none⟩ (.int .i64 (a + 1)) := ⟨_, rfl⟩
        rw [← hw7] at HE7 ⊢
        have G67 := Kept.mk (show w6.grownBy w7 (some g) from by rw [hw7]; exact gb_set _ _ _ _)
        clear hw7 e6 f6
        obtain ⟨ax, hax⟩ := HE7.out.ws
        have b0 := cell_of_row _ _ 0 _ _ _ hax
        have b1 := cell_of_row _ _ 1 _ _ _ hax
        simp only [List.getElem?_toArray, List.getElem?_cons_zero, List.getElem?_cons_succ] at b0 b1
        clear hax
        go_wp2
        go_ret
        exact ⟨rfl, ⟨_, _, _, ⟨HE7.out.me, own_gb M7.out.rd.ot G67.out hgB, own_gb M7.out.rd.ol G67.out hgB, own_gb M7.out.rd.oh G67.out hgB⟩⟩, HE7.out.fx⟩
      · obtain ⟨m1, hm1⟩ := EN.mx
        obtain ⟨row, hrow⟩ : ∃ row, row = ((wQ :: ws).map fun s => Value.string (BA s)).toArray := ⟨_, rfl⟩
        have hsp := split_line wQ ws n w HN.out.symm (by decide) hnos hln EN.mx
        rw [← hrow, ← HTXT.out] at hsp
        have HROW := Kept.mk hrow
        have HSP := Kept.mk hsp
        have HRD := Kept.mk hRD
        have HEN := Kept.mk EN
        have hgl := hRD.lt
        clear hRD EN hm1 hsp hrow
        go_enter Tryd.func33, Tryd.ntmps33
        go_upto_region 2 with (go_at_call 38; refine HSP.out.mono ?_; rintro e w1 ⟨rfl, rfl⟩)
        obtain ⟨W2, hW2⟩ : ∃ W2, W2 = (w.alloc (.cells row 9)).alloc (.cells #[.slice (some ⟨w.heap.size, 0, none⟩) n n, .bool false] 106) := ⟨_, rfl⟩
        obtain ⟨gw, hgw⟩ : ∃ gw, gw = w.heap.size + 1 := ⟨_, rfl⟩
        have hb2 : Below w.heap.size w W2 := by rw [hW2]; exact (below_box w _).alloc (by simp) _
        have hws : WS gw w.heap.size (wQ :: ws) 0 false W2 := by rw [hW2, hgw, HROW.out]; exact ws_new w (wQ :: ws) n (by rw [List.length_cons]; exact HN.out)
        have s2 : W2.heap.size = w.heap.size + 2 := by rw [hW2]; simp
        rw [← hW2, ← hgw]
        have HGW := Kept.mk hgw
        have R0 : WR g gw w.heap.size (wQ :: ws) false W2 0 W2 := ⟨hws, gb_refl _ _, HEN.out.on (hb2.mono (by omega)), by omega, by omega, by rw [List.length_cons]; omega⟩
        have HU := Kept.mk (fun (U : World) (o : Nat) (h : WR g gw w.heap.size (wQ :: ws) false W2 o U) => show w.grownBy U (some gw) from gb_trans (gb_below hb2 _) h.gb)
        have HRU := Kept.mk (fun (U : World) (o : Nat) (h : WR g gw w.heap.size (wQ :: ws) false W2 o U) => HRD.out.on (HU.out U o h) (by omega))
        obtain ⟨c6, -⟩ := (HRU.out _ _ R0).at (i := 6) rfl
        clear hW2 hgw hws hb2 s2 HROW
        have q0 := Kept.mk (R0.word (s := wQ) rfl)
        clear R0
        go_wp2_with (go_at_call 45; refine q0.out.mono ?_; rintro e w3 ⟨rfl, R1⟩; refine Hid.out ?_)
        refine Lib.hid ?_
        clear q0 c6
        clear HSP
        have HM := Kept.mk (show Mid B g gw w.heap.size (wQ :: ws) w ⟨mn, mx, sw, ts, ls, hs, a⟩ (.slice At nt ct) (.slice Al nl cl) vh 1 w3 from
          ⟨HRU.out _ _ R1, R1.ws, FX.of_new (HU.out _ _ R1) hBw (by have := HGW.out; omega), HEN.out, hgB, by have := HGW.out; omega, hBw, hBw, by rw [List.length_cons]; omega⟩)
        obtain ⟨c3, -⟩ := HM.out.rd.at (i := 3) rfl
        obtain ⟨c4, -⟩ := HM.out.rd.at (i := 4) rfl
        clear R1 HU HRU
        go_upto_region 16 with fail
        have HSB := Kept.mk (fun (V : World) (o : Nat) (h : Mid B g gw w.heap.size (wQ :: ws) w ⟨mn, mx, sw, ts, ls, hs, a⟩ (.slice At nt ct) (.slice Al nl cl) vh o V) => show (fun V : World => V.cell? ⟨g, 3, none⟩ = some (.slice At nt ct)) V from (h.rd.at (i := 3) rfl).1)
        refine wp_region_late (fun V : World => V.cell? ⟨g, 3, none⟩ = some (.slice At nt ct)) (fun i => i == 13) (by kernel_rfl) ?_
        obtain ⟨wd, hwd⟩ : ∃ wd, wd = w3.drew := ⟨_, rfl⟩
        have M1 := Kept.mk (HM.out.on (show Below w3.heap.size w3 wd from by rw [hwd]; exact (Below.refl _ _).drewN 1))
        have HS0 := Kept.mk (HSB.out _ _ M1.out)
        rw [← hwd]
        clear hwd c3 c4
        refine wpAnyT_take (i := 0) (v := ?vd0) [0, 13] (by simp only [List.getElem?_toArray, List.getElem?_cons_succ, List.getElem?_cons_zero]; exact rfl) (by kernel_rfl) (by kernel_rfl) (by kernel_rfl) (by kernel_rfl) (by intro _ _ _ h; exact h) (Or.inl ⟨by rfl, ?hyd0⟩) HS0.out ?restd0
        case hyd0 => (intro w hSw; go_simp; try with_reducible rfl)
        try simp only [Act.put, List.setIfInBounds_toArray, List.set_cons_zero, List.set_cons_succ]
        refine wpAnyT_take (i := 1) (v := ?vd1) [1, 13] (by simp only [List.getElem?_toArray, List.getElem?_cons_succ, List.getElem?_cons_zero]; exact rfl) (by kernel_rfl) (by kernel_rfl) (by kernel_rfl) (by kernel_rfl) (by intro _ _ _ h; exact h) (Or.inl ⟨by rfl, ?hyd1⟩) HS0.out ?restd1
        case hyd1 => (intro w hSw; go_simp; try with_reducible rfl)
        try simp only [Act.put, List.setIfInBounds_toArray, List.set_cons_zero, List.set_cons_succ]
        refine wpAnyT_take (i := 2) (v := ?vd2) [2, 13] (by simp only [List.getElem?_toArray, List.getElem?_cons_succ, List.getElem?_cons_zero]; exact rfl) (by kernel_rfl) (by kernel_rfl) (by kernel_rfl) (by kernel_rfl) (by intro _ _ _ h; exact h) (Or.inl ⟨by rfl, ?hyd2⟩) HS0.out ?restd2
        case hyd2 => (intro w hSw; go_simp; try with_reducible rfl)
        try simp only [Act.put, List.setIfInBounds_toArray, List.set_cons_zero, List.set_cons_succ]
        refine wpAnyT_take (i := 3) (v := ?vd3) [3, 13] (by simp only [List.getElem?_toArray, List.getElem?_cons_succ, List.getElem?_cons_zero]; exact rfl) (by kernel_rfl) (by kernel_rfl) (by kernel_rfl) (by kernel_rfl) (by intro _ _ _ h; exact h) (Or.inl ⟨by rfl, ?hyd3⟩) HS0.out ?restd3
        case hyd3 => (intro w hSw; go_simp; try with_reducible rfl)
        try simp only [Act.put, List.setIfInBounds_toArray, List.set_cons_zero, List.set_cons_succ]
        refine wpAnyT_take (i := 4) (v := ?vd4) [4, 13] (by simp only [List.getElem?_toArray, List.getElem?_cons_succ, List.getElem?_cons_zero]; exact rfl) (by kernel_rfl) (by kernel_rfl) (by kernel_rfl) (by kernel_rfl) (by intro _ _ _ h; exact h) (Or.inl ⟨by rfl, ?hyd4⟩) HS0.out ?restd4
        case hyd4 => (intro w hSw; go_simp; try with_reducible rfl)
        try simp only [Act.put, List.setIfInBounds_toArray, List.set_cons_zero, List.set_cons_succ]
        refine wpAnyT_take (i := 5) (v := ?vd5) [5, 13] (by simp only [List.getElem?_toArray, List.getElem?_cons_succ, List.getElem?_cons_zero]; exact rfl) (by kernel_rfl) (by kernel_rfl) (by kernel_rfl) (by kernel_rfl) (by intro _ _ _ h; exact h) (Or.inl ⟨by rfl, ?hyd5⟩) HS0.out ?restd5
        case hyd5 => (intro w hSw; go_simp; try with_reducible rfl)
        try simp only [Act.put, List.setIfInBounds_toArray, List.set_cons_zero, List.set_cons_succ]
        refine wpAnyT_take (i := 6) (v := ?vd6) [6, 13] (by simp only [List.getElem?_toArray, List.getElem?_cons_succ, List.getElem?_cons_zero]; exact rfl) (by kernel_rfl) (by kernel_rfl) (by kernel_rfl) (by kernel_rfl) (by intro _ _ _ h; exact h) (Or.inl ⟨by rfl, ?hyd6⟩) HS0.out ?restd6
        case hyd6 => (intro w hSw; go_simp; try with_reducible rfl)
        try simp only [Act.put, List.setIfInBounds_toArray, List.set_cons_zero, List.set_cons_succ]
        refine wpAnyT_one 7 (by kernel_rfl) (by simp only [List.getElem?_toArray, List.getElem?_cons_succ, List.getElem?_cons_zero]; exact rfl) (fun K hK => ?_)
        go_simp
        go_at_call 47
        rw [← HK.out]
        refine (task_any g gw w.heap.size wQ t wd HT.out (by rw [← HWS.out]; exact M1.out.ws) M1.out.env (by have := HGW.out; omega)).mono ?_
        rintro e w4 ⟨rfl, hws4, hg4⟩
        rw [← HWS.out] at hws4
        have M2 := Kept.mk (M1.out.call hws4 hg4)
        have S2 := Kept.mk (HSB.out _ _ M2.out)
        clear hws4 hg4
        refine hK.out _ _ (fun _ => S2.out) ?_
        clear hK K
        try simp only [Act.put, List.setIfInBounds_toArray, List.set_cons_zero, List.set_cons_succ]
        refine wpAnyT_one 8 (by kernel_rfl) (by simp only [List.getElem?_toArray, List.getElem?_cons_succ, List.getElem?_cons_zero]; exact rfl) (fun K hK => ?_)
        go_simp
        have M6 := Kept.mk (M2.out.on (below_box w4 (.cells t.cells.toArray 54)))
        have S6 := Kept.mk (HSB.out _ _ M6.out)
        have hnew := cells_new w4 w4.heap.size rfl t.cells 54
        refine hK.out _ _ (fun _ => S6.out) ?_
        clear hK K
        try simp only [Act.put, List.setIfInBounds_toArray, List.set_cons_zero, List.set_cons_succ]
        refine wpAnyT_one 9 (by kernel_rfl) (by simp only [List.getElem?_toArray, List.getElem?_cons_succ, List.getElem?_cons_zero]; exact rfl) (fun K hK => ?_)
        refine step_wp' rfl (wp_append_own _ (.tmp 107) (.tmp 110) 43 rfl B 54 i0 (.agg #[.int .u8 0, .int .i64 0, .int .i64 0, .int .i64 0, .int .i64 0, .int .i64 0, .int .i64 0, .int .i64 0, .int .i64 0, .int .i64 0]) 10 80 Tryd.underlying43 hi hz0 hz1 hz2 rfl (by decide) (.slice At nt ct) nt (ts.flatMap Tk.cells) rfl (own_len M6.out.rd.ot HNT.out.symm) ⟨w4.heap.size, 0, none⟩ 1 1 t.cells rfl rfl hnew (tk_cells_one t) (by simp only [maxLen]; omega) (by omega) (by have := M2.out.fx.size; simp; omega) ?_)
        intro v5 w5 hown5 hg5 _
        have hme5 := (M6.out.grown M6.out.rd.ot (by decide) (by decide) hg5).me
        have hfl : (ts ++ [t]).flatMap Tk.cells = ts.flatMap Tk.cells ++ t.cells := by rw [List.flatMap_append]; simp
        have hlp : nt + 1 = (ts ++ [t]).length := by rw [HNT.out]; simp
        rw [← hfl] at hown5
        obtain ⟨m, hm⟩ : ∃ m, m = nt + 1 := ⟨_, rfl⟩
        rw [← hm] at hown5 hlp
        obtain ⟨A5, k5, rfl⟩ := own_slice hown5
        have c45 := cell_of_row _ _ 3 _ _ _ hme5
        have f45 : w5.frozen? ⟨g, 3, none⟩ = false := by simp [World.frozen?, hme5]
        simp only [List.getElem?_toArray, List.getElem?_cons_zero, List.getElem?_cons_succ] at c45
        have S7 := Kept.mk (show (fun V : World => V.cell? ⟨g, 3, none⟩ = some (.slice At nt ct)) w5 from c45)
        have M7 := Kept.mk (M6.out.task hown5 hlp hg5)
        clear hown5 hg5 hnew hme5 hfl hlp hm
        refine hK.out _ _ (fun _ => S7.out) ?_
        clear hK K
        try simp only [Act.put, List.setIfInBounds_toArray, List.set_cons_zero, List.set_cons_succ]
        refine wpAnyT_take (i := 10) (v := ?vd10) [10, 11, 12, 13] (by simp only [List.getElem?_toArray, List.getElem?_cons_succ, List.getElem?_cons_zero]; exact rfl) (by kernel_rfl) (by kernel_rfl) (by kernel_rfl) (by kernel_rfl) (by intro _ _ _ h; exact h) (Or.inl ⟨by rfl, ?hyd10⟩) S7.out ?restd10
        case hyd10 => (intro w hSw; go_simp; try with_reducible rfl)
        try simp only [Act.put, List.setIfInBounds_toArray, List.set_cons_zero, List.set_cons_succ]
        refine wpAnyT_take (i := 11) (v := ?vd11) [11, 12, 13] (by simp only [List.getElem?_toArray, List.getElem?_cons_succ, List.getElem?_cons_zero]; exact rfl) (by kernel_rfl) (by kernel_rfl) (by kernel_rfl) (by kernel_rfl) (by intro _ _ _ h; exact h) (Or.inl ⟨by rfl, ?hyd11⟩) S7.out ?restd11
        case hyd11 => (intro w hSw; go_simp; try with_reducible rfl)
        try simp only [Act.put, List.setIfInBounds_toArray, List.set_cons_zero, List.set_cons_succ]
        refine wpAnyT_take (i := 12) (v := ?vd12) [12, 13] (by simp only [List.getElem?_toArray, List.getElem?_cons_succ, List.getElem?_cons_zero]; exact rfl) (by kernel_rfl) (by kernel_rfl) (by kernel_rfl) (by kernel_rfl) (by intro _ _ _ h; exact h) (Or.inl ⟨by rfl, ?hyd12⟩) S7.out ?restd12
        case hyd12 => (intro w hSw; go_simp; try with_reducible rfl)
        try simp only [Act.put, List.setIfInBounds_toArray, List.set_cons_zero, List.set_cons_succ]
        refine wpAnyT_one 13 (by kernel_rfl) (by simp only [List.getElem?_toArray, List.getElem?_cons_succ, List.getElem?_cons_zero]; exact rfl) (fun K hK => ?_)
        go_simp
        refine hK.out _ _ (fun h => (by cases h)) ?_
        clear hK K
        try simp only [Act.put, List.setIfInBounds_toArray, List.set_cons_zero, List.set_cons_succ]
        refine wpAnyT_done (by kernel_rfl) ?_ _
        obtain ⟨w6, hw6⟩ : ∃ w6, w6 = w5.setCell ⟨g, 3, none⟩ (.slice A5 m k5) := ⟨_, rfl⟩
        rw [← hw6] at M7 ⊢
        clear hw6 c45 f45 S7 M6 S6 HS0 HSB M1 M2 S2 HM
        have HE := Kept.mk (show AtEnd B g gw w.heap.size (wQ :: ws) w w6 (.int .i64 mn) (.int .i64 mx) (.int .i64 sw) (.slice A5 m k5) (.slice Al nl cl) vh (.int .i64 a) from
          ⟨M7.out.rd.me, ws_end M7.out.ws (by rw [List.length_cons]; omega), by have := HGW.out; omega, M7.out.fx⟩)
        have e6 := cell_of_row _ _ 6 _ _ _ HE.out.me
        have f6 : w6.frozen? ⟨g, 6, none⟩ = false := by simp [World.frozen?, HE.out.me]
        simp only [List.getElem?_toArray, List.getElem?_cons_zero, List.getElem?_cons_succ] at e6
        go_upto_region 22 with fail
        have HE7 := Kept.mk (HE.out.set (.int .i64 (a + 1)))
        obtain ⟨w7, hw7⟩ : ∃ w7, w7 = w6.setCell ⟨g, 6, none⟩ (.int .i64 (a + 1)) := ⟨_, rfl⟩
        rw [← hw7] at HE7 ⊢
        have G67 := Kept.mk (show w6.grownBy w7 (some g) from by rw [hw7]; exact gb_set _ _ _ _)
        clear hw7 e6 f6
        obtain ⟨ax, hax⟩ := HE7.out.ws
        have b0 := cell_of_row _ _ 0 _ _ _ hax
        have b1 := cell_of_row _ _ 1 _ _ _ hax
        simp only [List.getElem?_toArray, List.getElem?_cons_zero, List.getElem?_cons_succ] at b0 b1
        clear hax
        go_wp2
        go_ret
        exact ⟨rfl, ⟨_, _, _, ⟨HE7.out.me, own_gb M7.out.rd.ot G67.out hgB, own_gb M7.out.rd.ol G67.out hgB, own_gb M7.out.rd.oh G67.out hgB⟩⟩, HE7.out.fx⟩
/-- A task's line, at any time. -/
theorem add_task (B g : Nat) (mn mx sw a : Int) (ts : List Tk) (ls hs : List Q4) (t : Tk) (vt vl vh : Value) (w : World) (hRD : RD B g ⟨mn, mx, sw, ts, ls, hs, a⟩ vt vl vh w) (EN : EnvS g w) (hgB : g < B) (hBw : B ≤ w.heap.size) (ht : okTk t) (hlen : ts.length ≤ 1000) (hlen2 : ls.length ≤ 1000) (ha : 0 ≤ a) (ha2 : a ≤ 1000) (hl0 : (tkT t).length ≤ 65536) :
    Calls Tryd.prog 33 #[.pointer (some ⟨g, 0, none⟩), .string (BA (tkT t))] w (AddRes B g ⟨mn, mx, sw, ts ++ [t], ls, hs, a + 1⟩ (decide (2 ≤ a) && (ls.length == 0) && decide (ts.length < 32)) w) := by
  rcases ht.k with hk | hk
  · exact add_periodic B g mn mx sw a ts ls hs t vt vl vh _ _ _ w hRD EN hgB hBw ht hk hlen hlen2 ha ha2 hl0 rfl rfl rfl
  · exact add_sporadic B g mn mx sw a ts ls hs t vt vl vh _ _ _ w hRD EN hgB hBw ht hk hlen hlen2 ha ha2 hl0 rfl rfl rfl
end Go.Proofs.YtfneloplbkjbhaaDoor
