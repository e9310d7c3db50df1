/-
  A configuration is read again: add, of a line with its thread: the walk.
-/
import Derived.Test.YtfneloplbkjbhaaDoorTSB
namespace Go.Proofs.YtfneloplbkjbhaaDoor
open Go.RowKit Go.Shelf
open Go.Lib (byteCells itoa)
set_option linter.unusedVariables false
set_option linter.unusedSimpArgs false
set_option maxRecDepth 100000 in
set_option maxHeartbeats 6400000 in
theorem add_line (B g : Nat) (mn mx sw a : Int) (ts : List Tk) (ls hs : List Q4) (xa xb xc xd ya yb yc yd : Int) (vt vl vh : Value) (b1 b2 : Bool) (w : World) (hRD : RD B g ⟨mn, mx, sw, ts, ls, hs, a⟩ vt vl vh w) (EN : EnvS g w) (hgB : g < B) (hBw : B ≤ w.heap.size) (hT : ∀ n ∈ svNums ⟨xa, xb, xc, xd⟩ ⟨ya, yb, yc, yd⟩, TN n) (hlen : ls.length ≤ 1000) (hlen2 : hs.length ≤ 1000) (ha : 0 ≤ a) (ha2 : a ≤ 1000) (hl0 : (svT ⟨xa, xb, xc, xd⟩ ⟨ya, yb, yc, yd⟩).length ≤ 65536) (hb1 : decide (2 ≤ a) = b1) (hb2 : decide (ls.length < 64) = b2) :
    Calls Tryd.prog 33 #[.pointer (some ⟨g, 0, none⟩), .string (BA (svT ⟨xa, xb, xc, xd⟩ ⟨ya, yb, yc, yd⟩))] w (AddRes B g ⟨mn, mx, sw, ts, ls ++ [⟨xa, xb, xc, xd⟩], hs ++ [⟨ya, yb, yc, yd⟩], a + 1⟩ (b1 && b2) w) := by
  have htx : svT ⟨xa, xb, xc, xd⟩ ⟨ya, yb, yc, yd⟩ = wL ++ blanks [itoa xa, itoa xb, itoa xc, itoa xd, itoa ya, itoa yb, itoa yc, itoa yd] := sv_words _ _
  have hln : (wL ++ blanks [itoa xa, itoa xb, itoa xc, itoa xd, itoa ya, itoa yb, itoa yc, itoa yd]).length ≤ 65536 := by rw [← htx]; exact hl0
  have hnos : ∀ x ∈ [itoa xa, itoa xb, itoa xc, itoa xd, itoa ya, itoa yb, itoa yc, itoa yd], (32 : UInt8) ∉ x := nums_no hT
  have hTT : TN xa ∧ TN xb ∧ TN xc ∧ TN xd ∧ TN ya ∧ TN yb ∧ TN yc ∧ TN yd := by
    simp only [svNums, List.mem_cons, List.not_mem_nil, or_false] at hT
    exact ⟨hT _ (.inl rfl), hT _ (.inr (.inl rfl)), hT _ (.inr (.inr (.inl rfl))), hT _ (.inr (.inr (.inr (.inl rfl)))), hT _ (.inr (.inr (.inr (.inr (.inl rfl))))), hT _ (.inr (.inr (.inr (.inr (.inr (.inl rfl)))))), hT _ (.inr (.inr (.inr (.inr (.inr (.inr (.inl rfl))))))), hT _ (.inr (.inr (.inr (.inr (.inr (.inr (.inr rfl)))))))⟩
  have HTT := Kept.mk hTT
  obtain ⟨Al, cl, rfl⟩ := own_slice hRD.ol
  obtain ⟨Ah, ch, rfl⟩ := own_slice hRD.oh
  obtain ⟨i0, hi, hz0, hz1, hz2⟩ := info_parts info_ln
  obtain ⟨i1, hi1, hy0, hy1, hy2⟩ := info_parts info_th
  obtain ⟨nl, hnl⟩ : ∃ nl, nl = ls.length := ⟨_, rfl⟩
  obtain ⟨nh, hnh⟩ : ∃ nh, nh = hs.length := ⟨_, rfl⟩
  simp only at hRD
  rw [← hnl, ← hnh] at hRD
  rw [← hnl] at hlen hb2
  rw [← hnh] at hlen2
  have HNL := Kept.mk hnl
  have HNH := Kept.mk hnh
  have hb2' : decide ((nl : Int) < 64) = b2 := by
    rw [← hb2]
    congr 1
    simp only [eq_iff_iff]
    omega
  clear hnl hnh
  obtain ⟨tx, htxx⟩ : ∃ tx, tx = svT ⟨xa, xb, xc, xd⟩ ⟨ya, yb, yc, yd⟩ := ⟨_, rfl⟩
  rw [← htxx] at htx ⊢
  have HTXT := Kept.mk htx
  have HEN0 := Kept.mk EN
  clear htx htxx hl0 hTT hT
  cases b1
  · obtain ⟨m1, hm1⟩ := EN.mx
    have HSP := Kept.mk (split_line wL [itoa xa, itoa xb, itoa xc, itoa xd, itoa ya, itoa yb, itoa yc, itoa yd] 9 w rfl (by decide) hnos hln EN.mx)
    rw [← HTXT.out] at HSP
    have HRD := Kept.mk hRD
    have HEN := Kept.mk EN
    have hgl := hRD.lt
    clear hRD EN hm1
    go_enter Tryd.func33, Tryd.ntmps33
    go_upto_region 2 with (go_at_call 38; refine HSP.out.mono ?_; rintro e w1 ⟨rfl, rfl⟩)
    obtain ⟨W2, hW2⟩ : ∃ W2, W2 = (w.alloc (.cells #[.string (BA wL), .string (BA (itoa xa)), .string (BA (itoa xb)), .string (BA (itoa xc)), .string (BA (itoa xd)), .string (BA (itoa ya)), .string (BA (itoa yb)), .string (BA (itoa yc)), .string (BA (itoa yd))] 9)).alloc (.cells #[.slice (some ⟨w.heap.size, 0, none⟩) 9 9, .bool false] 106) := ⟨_, rfl⟩
    obtain ⟨gw, hgw⟩ : ∃ gw, gw = w.heap.size + 1 := ⟨_, rfl⟩
    have hb2 : Below w.heap.size w W2 := by rw [hW2]; exact (below_box w _).alloc (by simp) _
    have hws : WS gw w.heap.size (wL :: [itoa xa, itoa xb, itoa xc, itoa xd, itoa ya, itoa yb, itoa yc, itoa yd]) 0 false W2 := by rw [hW2, hgw]; exact ws_new w (wL :: [itoa xa, itoa xb, itoa xc, itoa xd, itoa ya, itoa yb, itoa yc, itoa yd]) 9 rfl
    have s2 : W2.heap.size = w.heap.size + 2 := by rw [hW2]; simp
    rw [← hW2, ← hgw]
    have HGW := Kept.mk hgw
    have R0 : WR g gw w.heap.size (wL :: [itoa xa, itoa xb, itoa xc, itoa xd, itoa ya, itoa yb, itoa yc, itoa yd]) false W2 0 W2 := ⟨hws, gb_refl _ _, HEN.out.on (hb2.mono (by omega)), by omega, by omega, by simp⟩
    have HU := Kept.mk (fun (U : World) (o : Nat) (h : WR g gw w.heap.size (wL :: [itoa xa, itoa xb, itoa xc, itoa xd, itoa ya, itoa yb, itoa yc, itoa yd]) false W2 o U) => show w.grownBy U (some gw) from gb_trans (gb_below hb2 _) h.gb)
    have HRU := Kept.mk (fun (U : World) (o : Nat) (h : WR g gw w.heap.size (wL :: [itoa xa, itoa xb, itoa xc, itoa xd, itoa ya, itoa yb, itoa yc, itoa yd]) false W2 o U) => HRD.out.on (HU.out U o h) (by omega))
    obtain ⟨c6, -⟩ := (HRU.out _ _ R0).at (i := 6) rfl
    clear hW2 hgw hws hb2 s2
    have q0 := Kept.mk (R0.word (s := wL) rfl)
    clear R0
    go_wp2_with (go_at_call 45; refine q0.out.mono ?_; rintro e w3 ⟨rfl, R1⟩; refine Hid.out ?_)
    refine Lib.hid ?_
    clear q0 c6
    clear HSP
    have HM := Kept.mk (show Mid B g gw w.heap.size (wL :: [itoa xa, itoa xb, itoa xc, itoa xd, itoa ya, itoa yb, itoa yc, itoa yd]) w ⟨mn, mx, sw, ts, ls, hs, a⟩ vt (.slice Al nl cl) (.slice Ah nh ch) 1 w3 from
      ⟨HRU.out _ _ R1, R1.ws, FX.of_new (HU.out _ _ R1) hBw (by have := HGW.out; omega), HEN0.out, hgB, by have := HGW.out; omega, hBw, hBw, by simp⟩)
    obtain ⟨c4, -⟩ := HM.out.rd.at (i := 4) rfl
    obtain ⟨c6, -⟩ := HM.out.rd.at (i := 6) rfl
    clear R1 HU HRU
    go_upto_region 19 with fail
    have HSBp := Kept.mk (fun (V : World) (o : Nat) (h : Mid B g gw w.heap.size (wL :: [itoa xa, itoa xb, itoa xc, itoa xd, itoa ya, itoa yb, itoa yc, itoa yd]) w ⟨mn, mx, sw, ts, ls, hs, a⟩ vt (.slice Al nl cl) (.slice Ah nh ch) o V) => show (fun V : World => V.cell? ⟨g, 4, none⟩ = some (.slice Al nl cl)) V from (h.rd.at (i := 4) rfl).1)
    refine wp_region_late (fun V : World => V.cell? ⟨g, 4, none⟩ = some (.slice Al nl cl)) (fun i => i == 20) (by kernel_rfl) ?_
    obtain ⟨wdp, hwd⟩ : ∃ wd, wd = w3.drew := ⟨_, rfl⟩
    have M1p := Kept.mk (HM.out.on (show Below w3.heap.size w3 wdp from by rw [hwd]; exact (Below.refl _ _).drewN 1))
    have HS0p := Kept.mk (HSBp.out _ _ M1p.out)
    rw [← hwd]
    clear hwd
    refine wpAnyT_take (i := 0) (v := ?vpa0) [0, 20] (by simp only [List.getElem?_toArray, List.getElem?_cons_succ, List.getElem?_cons_zero]; exact rfl) (by kernel_rfl) (by kernel_rfl) (by kernel_rfl) (by kernel_rfl) (by intro _ _ _ h; exact h) (Or.inl ⟨by rfl, ?hypa0⟩) HS0p.out ?restpa0
    case hypa0 => (intro w hSw; go_simp; try with_reducible rfl)
    try simp only [Act.put, List.setIfInBounds_toArray, List.set_cons_zero, List.set_cons_succ]
    refine wpAnyT_take (i := 1) (v := ?vpa1) [1, 20] (by simp only [List.getElem?_toArray, List.getElem?_cons_succ, List.getElem?_cons_zero]; exact rfl) (by kernel_rfl) (by kernel_rfl) (by kernel_rfl) (by kernel_rfl) (by intro _ _ _ h; exact h) (Or.inl ⟨by rfl, ?hypa1⟩) HS0p.out ?restpa1
    case hypa1 => (intro w hSw; go_simp; try with_reducible rfl)
    try simp only [Act.put, List.setIfInBounds_toArray, List.set_cons_zero, List.set_cons_succ]
    refine wpAnyT_take (i := 2) (v := ?vpa2) [2, 20] (by simp only [List.getElem?_toArray, List.getElem?_cons_succ, List.getElem?_cons_zero]; exact rfl) (by kernel_rfl) (by kernel_rfl) (by kernel_rfl) (by kernel_rfl) (by intro _ _ _ h; exact h) (Or.inl ⟨by rfl, ?hypa2⟩) HS0p.out ?restpa2
    case hypa2 => (intro w hSw; go_simp; try with_reducible rfl)
    try simp only [Act.put, List.setIfInBounds_toArray, List.set_cons_zero, List.set_cons_succ]
    refine wpAnyT_take (i := 3) (v := ?vpa3) [3, 20] (by simp only [List.getElem?_toArray, List.getElem?_cons_succ, List.getElem?_cons_zero]; exact rfl) (by kernel_rfl) (by kernel_rfl) (by kernel_rfl) (by kernel_rfl) (by intro _ _ _ h; exact h) (Or.inl ⟨by rfl, ?hypa3⟩) HS0p.out ?restpa3
    case hypa3 => (intro w hSw; go_simp; try with_reducible rfl)
    try simp only [Act.put, List.setIfInBounds_toArray, List.set_cons_zero, List.set_cons_succ]
    refine wpAnyT_take (i := 4) (v := ?vpa4) [4, 20] (by simp only [List.getElem?_toArray, List.getElem?_cons_succ, List.getElem?_cons_zero]; exact rfl) (by kernel_rfl) (by kernel_rfl) (by kernel_rfl) (by kernel_rfl) (by intro _ _ _ h; exact h) (Or.inl ⟨by rfl, ?hypa4⟩) HS0p.out ?restpa4
    case hypa4 => (intro w hSw; go_simp; try with_reducible rfl)
    try simp only [Act.put, List.setIfInBounds_toArray, List.set_cons_zero, List.set_cons_succ]
    refine wpAnyT_take (i := 5) (v := ?vpa5) [5, 20] (by simp only [List.getElem?_toArray, List.getElem?_cons_succ, List.getElem?_cons_zero]; exact rfl) (by kernel_rfl) (by kernel_rfl) (by kernel_rfl) (by kernel_rfl) (by intro _ _ _ h; exact h) (Or.inl ⟨by rfl, ?hypa5⟩) HS0p.out ?restpa5
    case hypa5 => (intro w hSw; go_simp; try with_reducible rfl)
    try simp only [Act.put, List.setIfInBounds_toArray, List.set_cons_zero, List.set_cons_succ]
    refine wpAnyT_take (i := 6) (v := ?vpa6) [6, 20] (by simp only [List.getElem?_toArray, List.getElem?_cons_succ, List.getElem?_cons_zero]; exact rfl) (by kernel_rfl) (by kernel_rfl) (by kernel_rfl) (by kernel_rfl) (by intro _ _ _ h; exact h) (Or.inl ⟨by rfl, ?hypa6⟩) HS0p.out ?restpa6
    case hypa6 => (intro w hSw; go_simp; try with_reducible rfl)
    try simp only [Act.put, List.setIfInBounds_toArray, List.set_cons_zero, List.set_cons_succ]
    refine wpAnyT_take (i := 8) (v := ?vpa8) [8, 20] (by simp only [List.getElem?_toArray, List.getElem?_cons_succ, List.getElem?_cons_zero]; exact rfl) (by kernel_rfl) (by kernel_rfl) (by kernel_rfl) (by kernel_rfl) (by intro _ _ _ h; exact h) (Or.inl ⟨by rfl, ?hypa8⟩) HS0p.out ?restpa8
    case hypa8 => (intro w hSw; go_simp; try with_reducible rfl)
    try simp only [Act.put, List.setIfInBounds_toArray, List.set_cons_zero, List.set_cons_succ]
    refine wpAnyT_take (i := 10) (v := ?vpa10) [10, 20] (by simp only [List.getElem?_toArray, List.getElem?_cons_succ, List.getElem?_cons_zero]; exact rfl) (by kernel_rfl) (by kernel_rfl) (by kernel_rfl) (by kernel_rfl) (by intro _ _ _ h; exact h) (Or.inl ⟨by rfl, ?hypa10⟩) HS0p.out ?restpa10
    case hypa10 => (intro w hSw; go_simp; try with_reducible rfl)
    try simp only [Act.put, List.setIfInBounds_toArray, List.set_cons_zero, List.set_cons_succ]
    refine wpAnyT_take (i := 12) (v := ?vpa12) [12, 20] (by simp only [List.getElem?_toArray, List.getElem?_cons_succ, List.getElem?_cons_zero]; exact rfl) (by kernel_rfl) (by kernel_rfl) (by kernel_rfl) (by kernel_rfl) (by intro _ _ _ h; exact h) (Or.inl ⟨by rfl, ?hypa12⟩) HS0p.out ?restpa12
    case hypa12 => (intro w hSw; go_simp; try with_reducible rfl)
    try simp only [Act.put, List.setIfInBounds_toArray, List.set_cons_zero, List.set_cons_succ]
    refine wpAnyT_one 7 (by kernel_rfl) (by simp only [List.getElem?_toArray, List.getElem?_cons_succ, List.getElem?_cons_zero]; exact rfl) (fun K hK => ?_)
    go_simp
    go_at_call 48
    refine (M1p.out.count (n := xa) rfl HTT.out.1).mono ?_
    rintro e w10p ⟨rfl, hmM2p⟩
    have M2p := Kept.mk hmM2p
    have SM2p := Kept.mk (HSBp.out _ _ hmM2p)
    clear hmM2p
    refine hK.out _ _ (fun _ => SM2p.out) ?_
    clear hK K
    try simp only [Act.put, List.setIfInBounds_toArray, List.set_cons_zero, List.set_cons_succ]
    refine wpAnyT_one 9 (by kernel_rfl) (by simp only [List.getElem?_toArray, List.getElem?_cons_succ, List.getElem?_cons_zero]; exact rfl) (fun K hK => ?_)
    go_simp
    go_at_call 46
    refine (M2p.out.num (n := xb) rfl HTT.out.2.1).mono ?_
    rintro e w11p ⟨rfl, hmM3p⟩
    have M3p := Kept.mk hmM3p
    have SM3p := Kept.mk (HSBp.out _ _ hmM3p)
    clear hmM3p
    refine hK.out _ _ (fun _ => SM3p.out) ?_
    clear hK K
    try simp only [Act.put, List.setIfInBounds_toArray, List.set_cons_zero, List.set_cons_succ]
    refine wpAnyT_one 11 (by kernel_rfl) (by simp only [List.getElem?_toArray, List.getElem?_cons_succ, List.getElem?_cons_zero]; exact rfl) (fun K hK => ?_)
    go_simp
    go_at_call 48
    refine (M3p.out.count (n := xc) rfl HTT.out.2.2.1).mono ?_
    rintro e w12p ⟨rfl, hmM4p⟩
    have M4p := Kept.mk hmM4p
    have SM4p := Kept.mk (HSBp.out _ _ hmM4p)
    clear hmM4p
    refine hK.out _ _ (fun _ => SM4p.out) ?_
    clear hK K
    try simp only [Act.put, List.setIfInBounds_toArray, List.set_cons_zero, List.set_cons_succ]
    refine wpAnyT_one 13 (by kernel_rfl) (by simp only [List.getElem?_toArray, List.getElem?_cons_succ, List.getElem?_cons_zero]; exact rfl) (fun K hK => ?_)
    go_simp
    go_at_call 46
    refine (M4p.out.num (n := xd) rfl HTT.out.2.2.2.1).mono ?_
    rintro e w13p ⟨rfl, hmM5p⟩
    have M5p := Kept.mk hmM5p
    have SM5p := Kept.mk (HSBp.out _ _ hmM5p)
    clear hmM5p
    refine hK.out _ _ (fun _ => SM5p.out) ?_
    clear hK K
    try simp only [Act.put, List.setIfInBounds_toArray, List.set_cons_zero, List.set_cons_succ]
    refine wpAnyT_take (i := 14) (v := ?vpa14) [14, 20] (by simp only [List.getElem?_toArray, List.getElem?_cons_succ, List.getElem?_cons_zero]; exact rfl) (by kernel_rfl) (by kernel_rfl) (by kernel_rfl) (by kernel_rfl) (by intro _ _ _ h; exact h) (Or.inl ⟨by rfl, ?hypa14⟩) SM5p.out ?restpa14
    case hypa14 => (intro w hSw; go_simp; try with_reducible rfl)
    try simp only [Act.put, List.setIfInBounds_toArray, List.set_cons_zero, List.set_cons_succ]
    refine wpAnyT_one 15 (by kernel_rfl) (by simp only [List.getElem?_toArray, List.getElem?_cons_succ, List.getElem?_cons_zero]; exact rfl) (fun K hK => ?_)
    go_simp
    have M6p := Kept.mk (M5p.out.on (below_box w13p (.cells (Q4.cells ⟨xa, xb, xc, xd⟩).toArray 79)))
    have S6p := Kept.mk (HSBp.out _ _ M6p.out)
    have hnew := cells_new w13p w13p.heap.size rfl (Q4.cells ⟨xa, xb, xc, xd⟩) 79
    refine hK.out _ _ (fun _ => S6p.out) ?_
    clear hK K
    try simp only [Act.put, List.setIfInBounds_toArray, List.set_cons_zero, List.set_cons_succ]
    refine wpAnyT_one 16 (by kernel_rfl) (by simp only [List.getElem?_toArray, List.getElem?_cons_succ, List.getElem?_cons_zero]; exact rfl) (fun K hK => ?_)
    refine step_wp' rfl (wp_append_own _ (.tmp 132) (.tmp 142) 44 rfl B 79 i0 (.agg #[.int .i64 0, .int .i64 0, .int .i64 0, .int .i64 0]) 4 32 Tryd.underlying44 hi hz0 hz1 hz2 rfl (by decide) (.slice Al nl cl) nl (ls.flatMap Q4.cells) rfl (own_len M6p.out.rd.ol HNL.out.symm) ⟨w13p.heap.size, 0, none⟩ 1 1 (Q4.cells ⟨xa, xb, xc, xd⟩) rfl rfl hnew (q4_one _) (by simp only [maxLen]; omega) (by omega) (by have := M5p.out.fx.size; simp; omega) ?_)
    intro v5 w5p hown5 hg5 _
    have hme5 := (M6p.out.grown M6p.out.rd.ol (by decide) (by decide) hg5).me
    have hfl : (ls ++ [(⟨xa, xb, xc, xd⟩ : Q4)]).flatMap Q4.cells = ls.flatMap Q4.cells ++ Q4.cells ⟨xa, xb, xc, xd⟩ := by rw [List.flatMap_append]; simp
    have hlp : nl + 1 = (ls ++ [(⟨xa, xb, xc, xd⟩ : Q4)]).length := by rw [HNL.out]; simp
    rw [← hfl] at hown5
    obtain ⟨m, hm⟩ : ∃ m, m = nl + 1 := ⟨_, rfl⟩
    rw [← hm] at hown5 hlp
    obtain ⟨A5, k5, rfl⟩ := own_slice hown5
    have c45 := cell_of_row _ _ 4 _ _ _ hme5
    have f45 : w5p.frozen? ⟨g, 4, none⟩ = false := by simp [World.frozen?, hme5]
    simp only [List.getElem?_toArray, List.getElem?_cons_zero, List.getElem?_cons_succ] at c45
    have S7p := Kept.mk (show (fun V : World => V.cell? ⟨g, 4, none⟩ = some (.slice Al nl cl)) w5p from c45)
    have M7p := Kept.mk (M6p.out.line hown5 hlp hg5)
    clear hown5 hg5 hnew hme5 hfl hlp hm
    refine hK.out _ _ (fun _ => S7p.out) ?_
    clear hK K
    try simp only [Act.put, List.setIfInBounds_toArray, List.set_cons_zero, List.set_cons_succ]
    refine wpAnyT_take (i := 17) (v := ?vpa17) [17, 18, 19, 20] (by simp only [List.getElem?_toArray, List.getElem?_cons_succ, List.getElem?_cons_zero]; exact rfl) (by kernel_rfl) (by kernel_rfl) (by kernel_rfl) (by kernel_rfl) (by intro _ _ _ h; exact h) (Or.inl ⟨by rfl, ?hypa17⟩) S7p.out ?restpa17
    case hypa17 => (intro w hSw; go_simp; try with_reducible rfl)
    try simp only [Act.put, List.setIfInBounds_toArray, List.set_cons_zero, List.set_cons_succ]
    refine wpAnyT_take (i := 18) (v := ?vpa18) [18, 19, 20] (by simp only [List.getElem?_toArray, List.getElem?_cons_succ, List.getElem?_cons_zero]; exact rfl) (by kernel_rfl) (by kernel_rfl) (by kernel_rfl) (by kernel_rfl) (by intro _ _ _ h; exact h) (Or.inl ⟨by rfl, ?hypa18⟩) S7p.out ?restpa18
    case hypa18 => (intro w hSw; go_simp; try with_reducible rfl)
    try simp only [Act.put, List.setIfInBounds_toArray, List.set_cons_zero, List.set_cons_succ]
    refine wpAnyT_take (i := 19) (v := ?vpa19) [19, 20] (by simp only [List.getElem?_toArray, List.getElem?_cons_succ, List.getElem?_cons_zero]; exact rfl) (by kernel_rfl) (by kernel_rfl) (by kernel_rfl) (by kernel_rfl) (by intro _ _ _ h; exact h) (Or.inl ⟨by rfl, ?hypa19⟩) S7p.out ?restpa19
    case hypa19 => (intro w hSw; go_simp; try with_reducible rfl)
    try simp only [Act.put, List.setIfInBounds_toArray, List.set_cons_zero, List.set_cons_succ]
    refine wpAnyT_one 20 (by kernel_rfl) (by simp only [List.getElem?_toArray, List.getElem?_cons_succ, List.getElem?_cons_zero]; exact rfl) (fun K hK => ?_)
    go_simp
    refine hK.out _ _ (fun h => (by cases h)) ?_
    clear hK K
    try simp only [Act.put, List.setIfInBounds_toArray, List.set_cons_zero, List.set_cons_succ]
    refine wpAnyT_done (by kernel_rfl) ?_ _
    obtain ⟨wA, how⟩ : ∃ x, x = w5p.setCell ⟨g, 4, none⟩ (.slice A5 m k5) := ⟨_, rfl⟩
    rw [← how] at M7p ⊢
    have HMA := M7p
    clear how c45 f45 M7p S7p M6p S6p HS0p HSBp M1p
    clear HM
    go_upto_region 20 with fail
    have HSBr := Kept.mk (fun (V : World) (o : Nat) (h : Mid B g gw w.heap.size (wL :: [itoa xa, itoa xb, itoa xc, itoa xd, itoa ya, itoa yb, itoa yc, itoa yd]) w ⟨mn, mx, sw, ts, ls ++ [⟨xa, xb, xc, xd⟩], hs, a⟩ vt (.slice A5 m k5) (.slice Ah nh ch) o V) => show (fun V : World => V.cell? ⟨g, 5, none⟩ = some (.slice Ah nh ch)) V from (h.rd.at (i := 5) rfl).1)
    refine wp_region_late (fun V : World => V.cell? ⟨g, 5, none⟩ = some (.slice Ah nh ch)) (fun i => i == 20) (by kernel_rfl) ?_
    obtain ⟨wdr, hwd⟩ : ∃ wd, wd = wA.drew := ⟨_, rfl⟩
    have M1r := Kept.mk (HMA.out.on (show Below wA.heap.size wA wdr from by rw [hwd]; exact (Below.refl _ _).drewN 1))
    have HS0r := Kept.mk (HSBr.out _ _ M1r.out)
    rw [← hwd]
    clear hwd
    refine wpAnyT_take (i := 0) (v := ?vra0) [0, 20] (by simp only [List.getElem?_toArray, List.getElem?_cons_succ, List.getElem?_cons_zero]; exact rfl) (by kernel_rfl) (by kernel_rfl) (by kernel_rfl) (by kernel_rfl) (by intro _ _ _ h; exact h) (Or.inl ⟨by rfl, ?hyra0⟩) HS0r.out ?restra0
    case hyra0 => (intro w hSw; go_simp; try with_reducible rfl)
    try simp only [Act.put, List.setIfInBounds_toArray, List.set_cons_zero, List.set_cons_succ]
    refine wpAnyT_take (i := 1) (v := ?vra1) [1, 20] (by simp only [List.getElem?_toArray, List.getElem?_cons_succ, List.getElem?_cons_zero]; exact rfl) (by kernel_rfl) (by kernel_rfl) (by kernel_rfl) (by kernel_rfl) (by intro _ _ _ h; exact h) (Or.inl ⟨by rfl, ?hyra1⟩) HS0r.out ?restra1
    case hyra1 => (intro w hSw; go_simp; try with_reducible rfl)
    try simp only [Act.put, List.setIfInBounds_toArray, List.set_cons_zero, List.set_cons_succ]
    refine wpAnyT_take (i := 2) (v := ?vra2) [2, 20] (by simp only [List.getElem?_toArray, List.getElem?_cons_succ, List.getElem?_cons_zero]; exact rfl) (by kernel_rfl) (by kernel_rfl) (by kernel_rfl) (by kernel_rfl) (by intro _ _ _ h; exact h) (Or.inl ⟨by rfl, ?hyra2⟩) HS0r.out ?restra2
    case hyra2 => (intro w hSw; go_simp; try with_reducible rfl)
    try simp only [Act.put, List.setIfInBounds_toArray, List.set_cons_zero, List.set_cons_succ]
    refine wpAnyT_take (i := 3) (v := ?vra3) [3, 20] (by simp only [List.getElem?_toArray, List.getElem?_cons_succ, List.getElem?_cons_zero]; exact rfl) (by kernel_rfl) (by kernel_rfl) (by kernel_rfl) (by kernel_rfl) (by intro _ _ _ h; exact h) (Or.inl ⟨by rfl, ?hyra3⟩) HS0r.out ?restra3
    case hyra3 => (intro w hSw; go_simp; try with_reducible rfl)
    try simp only [Act.put, List.setIfInBounds_toArray, List.set_cons_zero, List.set_cons_succ]
    refine wpAnyT_take (i := 4) (v := ?vra4) [4, 20] (by simp only [List.getElem?_toArray, List.getElem?_cons_succ, List.getElem?_cons_zero]; exact rfl) (by kernel_rfl) (by kernel_rfl) (by kernel_rfl) (by kernel_rfl) (by intro _ _ _ h; exact h) (Or.inl ⟨by rfl, ?hyra4⟩) HS0r.out ?restra4
    case hyra4 => (intro w hSw; go_simp; try with_reducible rfl)
    try simp only [Act.put, List.setIfInBounds_toArray, List.set_cons_zero, List.set_cons_succ]
    refine wpAnyT_take (i := 5) (v := ?vra5) [5, 20] (by simp only [List.getElem?_toArray, List.getElem?_cons_succ, List.getElem?_cons_zero]; exact rfl) (by kernel_rfl) (by kernel_rfl) (by kernel_rfl) (by kernel_rfl) (by intro _ _ _ h; exact h) (Or.inl ⟨by rfl, ?hyra5⟩) HS0r.out ?restra5
    case hyra5 => (intro w hSw; go_simp; try with_reducible rfl)
    try simp only [Act.put, List.setIfInBounds_toArray, List.set_cons_zero, List.set_cons_succ]
    refine wpAnyT_take (i := 6) (v := ?vra6) [6, 20] (by simp only [List.getElem?_toArray, List.getElem?_cons_succ, List.getElem?_cons_zero]; exact rfl) (by kernel_rfl) (by kernel_rfl) (by kernel_rfl) (by kernel_rfl) (by intro _ _ _ h; exact h) (Or.inl ⟨by rfl, ?hyra6⟩) HS0r.out ?restra6
    case hyra6 => (intro w hSw; go_simp; try with_reducible rfl)
    try simp only [Act.put, List.setIfInBounds_toArray, List.set_cons_zero, List.set_cons_succ]
    refine wpAnyT_take (i := 8) (v := ?vra8) [8, 20] (by simp only [List.getElem?_toArray, List.getElem?_cons_succ, List.getElem?_cons_zero]; exact rfl) (by kernel_rfl) (by kernel_rfl) (by kernel_rfl) (by kernel_rfl) (by intro _ _ _ h; exact h) (Or.inl ⟨by rfl, ?hyra8⟩) HS0r.out ?restra8
    case hyra8 => (intro w hSw; go_simp; try with_reducible rfl)
    try simp only [Act.put, List.setIfInBounds_toArray, List.set_cons_zero, List.set_cons_succ]
    refine wpAnyT_take (i := 10) (v := ?vra10) [10, 20] (by simp only [List.getElem?_toArray, List.getElem?_cons_succ, List.getElem?_cons_zero]; exact rfl) (by kernel_rfl) (by kernel_rfl) (by kernel_rfl) (by kernel_rfl) (by intro _ _ _ h; exact h) (Or.inl ⟨by rfl, ?hyra10⟩) HS0r.out ?restra10
    case hyra10 => (intro w hSw; go_simp; try with_reducible rfl)
    try simp only [Act.put, List.setIfInBounds_toArray, List.set_cons_zero, List.set_cons_succ]
    refine wpAnyT_take (i := 12) (v := ?vra12) [12, 20] (by simp only [List.getElem?_toArray, List.getElem?_cons_succ, List.getElem?_cons_zero]; exact rfl) (by kernel_rfl) (by kernel_rfl) (by kernel_rfl) (by kernel_rfl) (by intro _ _ _ h; exact h) (Or.inl ⟨by rfl, ?hyra12⟩) HS0r.out ?restra12
    case hyra12 => (intro w hSw; go_simp; try with_reducible rfl)
    try simp only [Act.put, List.setIfInBounds_toArray, List.set_cons_zero, List.set_cons_succ]
    refine wpAnyT_one 7 (by kernel_rfl) (by simp only [List.getElem?_toArray, List.getElem?_cons_succ, List.getElem?_cons_zero]; exact rfl) (fun K hK => ?_)
    go_simp
    go_at_call 48
    refine (M1r.out.count (n := ya) rfl HTT.out.2.2.2.2.1).mono ?_
    rintro e w10r ⟨rfl, hmM2r⟩
    have M2r := Kept.mk hmM2r
    have SM2r := Kept.mk (HSBr.out _ _ hmM2r)
    clear hmM2r
    refine hK.out _ _ (fun _ => SM2r.out) ?_
    clear hK K
    try simp only [Act.put, List.setIfInBounds_toArray, List.set_cons_zero, List.set_cons_succ]
    refine wpAnyT_one 9 (by kernel_rfl) (by simp only [List.getElem?_toArray, List.getElem?_cons_succ, List.getElem?_cons_zero]; exact rfl) (fun K hK => ?_)
    go_simp
    go_at_call 46
    refine (M2r.out.num (n := yb) rfl HTT.out.2.2.2.2.2.1).mono ?_
    rintro e w11r ⟨rfl, hmM3r⟩
    have M3r := Kept.mk hmM3r
    have SM3r := Kept.mk (HSBr.out _ _ hmM3r)
    clear hmM3r
    refine hK.out _ _ (fun _ => SM3r.out) ?_
    clear hK K
    try simp only [Act.put, List.setIfInBounds_toArray, List.set_cons_zero, List.set_cons_succ]
    refine wpAnyT_one 11 (by kernel_rfl) (by simp only [List.getElem?_toArray, List.getElem?_cons_succ, List.getElem?_cons_zero]; exact rfl) (fun K hK => ?_)
    go_simp
    go_at_call 46
    refine (M3r.out.num (n := yc) rfl HTT.out.2.2.2.2.2.2.1).mono ?_
    rintro e w12r ⟨rfl, hmM4r⟩
    have M4r := Kept.mk hmM4r
    have SM4r := Kept.mk (HSBr.out _ _ hmM4r)
    clear hmM4r
    refine hK.out _ _ (fun _ => SM4r.out) ?_
    clear hK K
    try simp only [Act.put, List.setIfInBounds_toArray, List.set_cons_zero, List.set_cons_succ]
    refine wpAnyT_one 13 (by kernel_rfl) (by simp only [List.getElem?_toArray, List.getElem?_cons_succ, List.getElem?_cons_zero]; exact rfl) (fun K hK => ?_)
    go_simp
    go_at_call 48
    refine (M4r.out.count (n := yd) rfl HTT.out.2.2.2.2.2.2.2).mono ?_
    rintro e w13r ⟨rfl, hmM5r⟩
    have M5r := Kept.mk hmM5r
    have SM5r := Kept.mk (HSBr.out _ _ hmM5r)
    clear hmM5r
    refine hK.out _ _ (fun _ => SM5r.out) ?_
    clear hK K
    try simp only [Act.put, List.setIfInBounds_toArray, List.set_cons_zero, List.set_cons_succ]
    refine wpAnyT_take (i := 14) (v := ?vra14) [14, 20] (by simp only [List.getElem?_toArray, List.getElem?_cons_succ, List.getElem?_cons_zero]; exact rfl) (by kernel_rfl) (by kernel_rfl) (by kernel_rfl) (by kernel_rfl) (by intro _ _ _ h; exact h) (Or.inl ⟨by rfl, ?hyra14⟩) SM5r.out ?restra14
    case hyra14 => (intro w hSw; go_simp; try with_reducible rfl)
    try simp only [Act.put, List.setIfInBounds_toArray, List.set_cons_zero, List.set_cons_succ]
    refine wpAnyT_one 15 (by kernel_rfl) (by simp only [List.getElem?_toArray, List.getElem?_cons_succ, List.getElem?_cons_zero]; exact rfl) (fun K hK => ?_)
    go_simp
    have M6r := Kept.mk (M5r.out.on (below_box w13r (.cells (Q4.cells ⟨ya, yb, yc, yd⟩).toArray 82)))
    have S6r := Kept.mk (HSBr.out _ _ M6r.out)
    have hnew := cells_new w13r w13r.heap.size rfl (Q4.cells ⟨ya, yb, yc, yd⟩) 82
    refine hK.out _ _ (fun _ => S6r.out) ?_
    clear hK K
    try simp only [Act.put, List.setIfInBounds_toArray, List.set_cons_zero, List.set_cons_succ]
    refine wpAnyT_one 16 (by kernel_rfl) (by simp only [List.getElem?_toArray, List.getElem?_cons_succ, List.getElem?_cons_zero]; exact rfl) (fun K hK => ?_)
    refine step_wp' rfl (wp_append_own _ (.tmp 152) (.tmp 162) 45 rfl B 82 i1 (.agg #[.int .i64 0, .int .i64 0, .int .i64 0, .int .i64 0]) 4 32 Tryd.underlying45 hi1 hy0 hy1 hy2 rfl (by decide) (.slice Ah nh ch) nh (hs.flatMap Q4.cells) rfl (own_len M6r.out.rd.oh HNH.out.symm) ⟨w13r.heap.size, 0, none⟩ 1 1 (Q4.cells ⟨ya, yb, yc, yd⟩) rfl rfl hnew (q4_one _) (by simp only [maxLen]; omega) (by omega) (by have := M5r.out.fx.size; simp; omega) ?_)
    intro v5 w5r hown5 hg5 _
    have hme5 := (M6r.out.grown M6r.out.rd.oh (by decide) (by decide) hg5).me
    have hfl : (hs ++ [(⟨ya, yb, yc, yd⟩ : Q4)]).flatMap Q4.cells = hs.flatMap Q4.cells ++ Q4.cells ⟨ya, yb, yc, yd⟩ := by rw [List.flatMap_append]; simp
    have hlp : nh + 1 = (hs ++ [(⟨ya, yb, yc, yd⟩ : Q4)]).length := by rw [HNH.out]; simp
    rw [← hfl] at hown5
    obtain ⟨m2, hm⟩ : ∃ m, m = nh + 1 := ⟨_, rfl⟩
    rw [← hm] at hown5 hlp
    obtain ⟨B5, l5, rfl⟩ := own_slice hown5
    have c45 := cell_of_row _ _ 5 _ _ _ hme5
    have f45 : w5r.frozen? ⟨g, 5, none⟩ = false := by simp [World.frozen?, hme5]
    simp only [List.getElem?_toArray, List.getElem?_cons_zero, List.getElem?_cons_succ] at c45
    have S7r := Kept.mk (show (fun V : World => V.cell? ⟨g, 5, none⟩ = some (.slice Ah nh ch)) w5r from c45)
    have M7r := Kept.mk (M6r.out.thread hown5 hlp hg5)
    clear hown5 hg5 hnew hme5 hfl hlp hm
    refine hK.out _ _ (fun _ => S7r.out) ?_
    clear hK K
    try simp only [Act.put, List.setIfInBounds_toArray, List.set_cons_zero, List.set_cons_succ]
    refine wpAnyT_take (i := 17) (v := ?vra17) [17, 18, 19, 20] (by simp only [List.getElem?_toArray, List.getElem?_cons_succ, List.getElem?_cons_zero]; exact rfl) (by kernel_rfl) (by kernel_rfl) (by kernel_rfl) (by kernel_rfl) (by intro _ _ _ h; exact h) (Or.inl ⟨by rfl, ?hyra17⟩) S7r.out ?restra17
    case hyra17 => (intro w hSw; go_simp; try with_reducible rfl)
    try simp only [Act.put, List.setIfInBounds_toArray, List.set_cons_zero, List.set_cons_succ]
    refine wpAnyT_take (i := 18) (v := ?vra18) [18, 19, 20] (by simp only [List.getElem?_toArray, List.getElem?_cons_succ, List.getElem?_cons_zero]; exact rfl) (by kernel_rfl) (by kernel_rfl) (by kernel_rfl) (by kernel_rfl) (by intro _ _ _ h; exact h) (Or.inl ⟨by rfl, ?hyra18⟩) S7r.out ?restra18
    case hyra18 => (intro w hSw; go_simp; try with_reducible rfl)
    try simp only [Act.put, List.setIfInBounds_toArray, List.set_cons_zero, List.set_cons_succ]
    refine wpAnyT_take (i := 19) (v := ?vra19) [19, 20] (by simp only [List.getElem?_toArray, List.getElem?_cons_succ, List.getElem?_cons_zero]; exact rfl) (by kernel_rfl) (by kernel_rfl) (by kernel_rfl) (by kernel_rfl) (by intro _ _ _ h; exact h) (Or.inl ⟨by rfl, ?hyra19⟩) S7r.out ?restra19
    case hyra19 => (intro w hSw; go_simp; try with_reducible rfl)
    try simp only [Act.put, List.setIfInBounds_toArray, List.set_cons_zero, List.set_cons_succ]
    refine wpAnyT_one 20 (by kernel_rfl) (by simp only [List.getElem?_toArray, List.getElem?_cons_succ, List.getElem?_cons_zero]; exact rfl) (fun K hK => ?_)
    go_simp
    refine hK.out _ _ (fun h => (by cases h)) ?_
    clear hK K
    try simp only [Act.put, List.setIfInBounds_toArray, List.set_cons_zero, List.set_cons_succ]
    refine wpAnyT_done (by kernel_rfl) ?_ _
    obtain ⟨w6, how⟩ : ∃ x, x = w5r.setCell ⟨g, 5, none⟩ (.slice B5 m2 l5) := ⟨_, rfl⟩
    rw [← how] at M7r ⊢
    have HMF := M7r
    clear how c45 f45 M7r S7r M6r S6r HS0r HSBr M1r
    have HE := Kept.mk (show AtEnd B g gw w.heap.size (wL :: [itoa xa, itoa xb, itoa xc, itoa xd, itoa ya, itoa yb, itoa yc, itoa yd]) w w6 (.int .i64 mn) (.int .i64 mx) (.int .i64 sw) vt (.slice A5 m k5) (.slice B5 m2 l5) (.int .i64 a) from
      ⟨HMF.out.rd.me, ws_end HMF.out.ws rfl, by have := HGW.out; omega, HMF.out.fx⟩)
    have e6 := cell_of_row _ _ 6 _ _ _ HE.out.me
    have f6 : w6.frozen? ⟨g, 6, none⟩ = false := by simp [World.frozen?, HE.out.me]
    simp only [List.getElem?_toArray, List.getElem?_cons_zero, List.getElem?_cons_succ] at e6
    go_upto_region 22 with fail
    have HE7 := Kept.mk (HE.out.set (.int .i64 (a + 1)))
    obtain ⟨w7, hw7⟩ : ∃ w7, w7 = w6.setCell ⟨g, 6, none⟩ (.int .i64 (a + 1)) := ⟨_, rfl⟩
    rw [← hw7] at HE7 ⊢
    have G67 := Kept.mk (show w6.grownBy w7 (some g) from by rw [hw7]; exact gb_set _ _ _ _)
    clear hw7 e6 f6
    obtain ⟨ax, hax⟩ := HE7.out.ws
    have b0 := cell_of_row _ _ 0 _ _ _ hax
    have b1 := cell_of_row _ _ 1 _ _ _ hax
    simp only [List.getElem?_toArray, List.getElem?_cons_zero, List.getElem?_cons_succ] at b0 b1
    clear hax
    go_wp2
    go_ret
    exact ⟨rfl, ⟨_, _, _, ⟨HE7.out.me, own_gb HMF.out.rd.ot G67.out hgB, own_gb HMF.out.rd.ol G67.out hgB, own_gb HMF.out.rd.oh G67.out hgB⟩⟩, HE7.out.fx⟩
  · cases b2
    · obtain ⟨m1, hm1⟩ := EN.mx
      have HSP := Kept.mk (split_line wL [itoa xa, itoa xb, itoa xc, itoa xd, itoa ya, itoa yb, itoa yc, itoa yd] 9 w rfl (by decide) hnos hln EN.mx)
      rw [← HTXT.out] at HSP
      have HRD := Kept.mk hRD
      have HEN := Kept.mk EN
      have hgl := hRD.lt
      clear hRD EN hm1
      go_enter Tryd.func33, Tryd.ntmps33
      go_upto_region 2 with (go_at_call 38; refine HSP.out.mono ?_; rintro e w1 ⟨rfl, rfl⟩)
      obtain ⟨W2, hW2⟩ : ∃ W2, W2 = (w.alloc (.cells #[.string (BA wL), .string (BA (itoa xa)), .string (BA (itoa xb)), .string (BA (itoa xc)), .string (BA (itoa xd)), .string (BA (itoa ya)), .string (BA (itoa yb)), .string (BA (itoa yc)), .string (BA (itoa yd))] 9)).alloc (.cells #[.slice (some ⟨w.heap.size, 0, none⟩) 9 9, .bool false] 106) := ⟨_, rfl⟩
      obtain ⟨gw, hgw⟩ : ∃ gw, gw = w.heap.size + 1 := ⟨_, rfl⟩
      have hb2 : Below w.heap.size w W2 := by rw [hW2]; exact (below_box w _).alloc (by simp) _
      have hws : WS gw w.heap.size (wL :: [itoa xa, itoa xb, itoa xc, itoa xd, itoa ya, itoa yb, itoa yc, itoa yd]) 0 false W2 := by rw [hW2, hgw]; exact ws_new w (wL :: [itoa xa, itoa xb, itoa xc, itoa xd, itoa ya, itoa yb, itoa yc, itoa yd]) 9 rfl
      have s2 : W2.heap.size = w.heap.size + 2 := by rw [hW2]; simp
      rw [← hW2, ← hgw]
      have HGW := Kept.mk hgw
      have R0 : WR g gw w.heap.size (wL :: [itoa xa, itoa xb, itoa xc, itoa xd, itoa ya, itoa yb, itoa yc, itoa yd]) false W2 0 W2 := ⟨hws, gb_refl _ _, HEN.out.on (hb2.mono (by omega)), by omega, by omega, by simp⟩
      have HU := Kept.mk (fun (U : World) (o : Nat) (h : WR g gw w.heap.size (wL :: [itoa xa, itoa xb, itoa xc, itoa xd, itoa ya, itoa yb, itoa yc, itoa yd]) false W2 o U) => show w.grownBy U (some gw) from gb_trans (gb_below hb2 _) h.gb)
      have HRU := Kept.mk (fun (U : World) (o : Nat) (h : WR g gw w.heap.size (wL :: [itoa xa, itoa xb, itoa xc, itoa xd, itoa ya, itoa yb, itoa yc, itoa yd]) false W2 o U) => HRD.out.on (HU.out U o h) (by omega))
      obtain ⟨c6, -⟩ := (HRU.out _ _ R0).at (i := 6) rfl
      clear hW2 hgw hws hb2 s2
      have q0 := Kept.mk (R0.word (s := wL) rfl)
      clear R0
      go_wp2_with (go_at_call 45; refine q0.out.mono ?_; rintro e w3 ⟨rfl, R1⟩; refine Hid.out ?_)
      refine Lib.hid ?_
      clear q0 c6
      clear HSP
      have HM := Kept.mk (show Mid B g gw w.heap.size (wL :: [itoa xa, itoa xb, itoa xc, itoa xd, itoa ya, itoa yb, itoa yc, itoa yd]) w ⟨mn, mx, sw, ts, ls, hs, a⟩ vt (.slice Al nl cl) (.slice Ah nh ch) 1 w3 from
        ⟨HRU.out _ _ R1, R1.ws, FX.of_new (HU.out _ _ R1) hBw (by have := HGW.out; omega), HEN0.out, hgB, by have := HGW.out; omega, hBw, hBw, by simp⟩)
      obtain ⟨c4, -⟩ := HM.out.rd.at (i := 4) rfl
      obtain ⟨c6, -⟩ := HM.out.rd.at (i := 6) rfl
      clear R1 HU HRU
      go_upto_region 19 with fail
      have HSBp := Kept.mk (fun (V : World) (o : Nat) (h : Mid B g gw w.heap.size (wL :: [itoa xa, itoa xb, itoa xc, itoa xd, itoa ya, itoa yb, itoa yc, itoa yd]) w ⟨mn, mx, sw, ts, ls, hs, a⟩ vt (.slice Al nl cl) (.slice Ah nh ch) o V) => show (fun V : World => V.cell? ⟨g, 4, none⟩ = some (.slice Al nl cl)) V from (h.rd.at (i := 4) rfl).1)
      refine wp_region_late (fun V : World => V.cell? ⟨g, 4, none⟩ = some (.slice Al nl cl)) (fun i => i == 20) (by kernel_rfl) ?_
      obtain ⟨wdp, hwd⟩ : ∃ wd, wd = w3.drew := ⟨_, rfl⟩
      have M1p := Kept.mk (HM.out.on (show Below w3.heap.size w3 wdp from by rw [hwd]; exact (Below.refl _ _).drewN 1))
      have HS0p := Kept.mk (HSBp.out _ _ M1p.out)
      rw [← hwd]
      clear hwd
      refine wpAnyT_take (i := 0) (v := ?vpb0) [0, 20] (by simp only [List.getElem?_toArray, List.getElem?_cons_succ, List.getElem?_cons_zero]; exact rfl) (by kernel_rfl) (by kernel_rfl) (by kernel_rfl) (by kernel_rfl) (by intro _ _ _ h; exact h) (Or.inl ⟨by rfl, ?hypb0⟩) HS0p.out ?restpb0
      case hypb0 => (intro w hSw; go_simp; try with_reducible rfl)
      try simp only [Act.put, List.setIfInBounds_toArray, List.set_cons_zero, List.set_cons_succ]
      refine wpAnyT_take (i := 1) (v := ?vpb1) [1, 20] (by simp only [List.getElem?_toArray, List.getElem?_cons_succ, List.getElem?_cons_zero]; exact rfl) (by kernel_rfl) (by kernel_rfl) (by kernel_rfl) (by kernel_rfl) (by intro _ _ _ h; exact h) (Or.inl ⟨by rfl, ?hypb1⟩) HS0p.out ?restpb1
      case hypb1 => (intro w hSw; go_simp; try with_reducible rfl)
      try simp only [Act.put, List.setIfInBounds_toArray, List.set_cons_zero, List.set_cons_succ]
      refine wpAnyT_take (i := 2) (v := ?vpb2) [2, 20] (by simp only [List.getElem?_toArray, List.getElem?_cons_succ, List.getElem?_cons_zero]; exact rfl) (by kernel_rfl) (by kernel_rfl) (by kernel_rfl) (by kernel_rfl) (by intro _ _ _ h; exact h) (Or.inl ⟨by rfl, ?hypb2⟩) HS0p.out ?restpb2
      case hypb2 => (intro w hSw; go_simp; try with_reducible rfl)
      try simp only [Act.put, List.setIfInBounds_toArray, List.set_cons_zero, List.set_cons_succ]
      refine wpAnyT_take (i := 3) (v := ?vpb3) [3, 20] (by simp only [List.getElem?_toArray, List.getElem?_cons_succ, List.getElem?_cons_zero]; exact rfl) (by kernel_rfl) (by kernel_rfl) (by kernel_rfl) (by kernel_rfl) (by intro _ _ _ h; exact h) (Or.inl ⟨by rfl, ?hypb3⟩) HS0p.out ?restpb3
      case hypb3 => (intro w hSw; go_simp; try with_reducible rfl)
      try simp only [Act.put, List.setIfInBounds_toArray, List.set_cons_zero, List.set_cons_succ]
      refine wpAnyT_take (i := 4) (v := ?vpb4) [4, 20] (by simp only [List.getElem?_toArray, List.getElem?_cons_succ, List.getElem?_cons_zero]; exact rfl) (by kernel_rfl) (by kernel_rfl) (by kernel_rfl) (by kernel_rfl) (by intro _ _ _ h; exact h) (Or.inl ⟨by rfl, ?hypb4⟩) HS0p.out ?restpb4
      case hypb4 => (intro w hSw; go_simp; try with_reducible rfl)
      try simp only [Act.put, List.setIfInBounds_toArray, List.set_cons_zero, List.set_cons_succ]
      refine wpAnyT_take (i := 5) (v := ?vpb5) [5, 20] (by simp only [List.getElem?_toArray, List.getElem?_cons_succ, List.getElem?_cons_zero]; exact rfl) (by kernel_rfl) (by kernel_rfl) (by kernel_rfl) (by kernel_rfl) (by intro _ _ _ h; exact h) (Or.inl ⟨by rfl, ?hypb5⟩) HS0p.out ?restpb5
      case hypb5 => (intro w hSw; go_simp; try with_reducible rfl)
      try simp only [Act.put, List.setIfInBounds_toArray, List.set_cons_zero, List.set_cons_succ]
      refine wpAnyT_take (i := 6) (v := ?vpb6) [6, 20] (by simp only [List.getElem?_toArray, List.getElem?_cons_succ, List.getElem?_cons_zero]; exact rfl) (by kernel_rfl) (by kernel_rfl) (by kernel_rfl) (by kernel_rfl) (by intro _ _ _ h; exact h) (Or.inl ⟨by rfl, ?hypb6⟩) HS0p.out ?restpb6
      case hypb6 => (intro w hSw; go_simp; try with_reducible rfl)
      try simp only [Act.put, List.setIfInBounds_toArray, List.set_cons_zero, List.set_cons_succ]
      refine wpAnyT_take (i := 8) (v := ?vpb8) [8, 20] (by simp only [List.getElem?_toArray, List.getElem?_cons_succ, List.getElem?_cons_zero]; exact rfl) (by kernel_rfl) (by kernel_rfl) (by kernel_rfl) (by kernel_rfl) (by intro _ _ _ h; exact h) (Or.inl ⟨by rfl, ?hypb8⟩) HS0p.out ?restpb8
      case hypb8 => (intro w hSw; go_simp; try with_reducible rfl)
      try simp only [Act.put, List.setIfInBounds_toArray, List.set_cons_zero, List.set_cons_succ]
      refine wpAnyT_take (i := 10) (v := ?vpb10) [10, 20] (by simp only [List.getElem?_toArray, List.getElem?_cons_succ, List.getElem?_cons_zero]; exact rfl) (by kernel_rfl) (by kernel_rfl) (by kernel_rfl) (by kernel_rfl) (by intro _ _ _ h; exact h) (Or.inl ⟨by rfl, ?hypb10⟩) HS0p.out ?restpb10
      case hypb10 => (intro w hSw; go_simp; try with_reducible rfl)
      try simp only [Act.put, List.setIfInBounds_toArray, List.set_cons_zero, List.set_cons_succ]
      refine wpAnyT_take (i := 12) (v := ?vpb12) [12, 20] (by simp only [List.getElem?_toArray, List.getElem?_cons_succ, List.getElem?_cons_zero]; exact rfl) (by kernel_rfl) (by kernel_rfl) (by kernel_rfl) (by kernel_rfl) (by intro _ _ _ h; exact h) (Or.inl ⟨by rfl, ?hypb12⟩) HS0p.out ?restpb12
      case hypb12 => (intro w hSw; go_simp; try with_reducible rfl)
      try simp only [Act.put, List.setIfInBounds_toArray, List.set_cons_zero, List.set_cons_succ]
      refine wpAnyT_one 7 (by kernel_rfl) (by simp only [List.getElem?_toArray, List.getElem?_cons_succ, List.getElem?_cons_zero]; exact rfl) (fun K hK => ?_)
      go_simp
      go_at_call 48
      refine (M1p.out.count (n := xa) rfl HTT.out.1).mono ?_
      rintro e w10p ⟨rfl, hmM2p⟩
      have M2p := Kept.mk hmM2p
      have SM2p := Kept.mk (HSBp.out _ _ hmM2p)
      clear hmM2p
      refine hK.out _ _ (fun _ => SM2p.out) ?_
      clear hK K
      try simp only [Act.put, List.setIfInBounds_toArray, List.set_cons_zero, List.set_cons_succ]
      refine wpAnyT_one 9 (by kernel_rfl) (by simp only [List.getElem?_toArray, List.getElem?_cons_succ, List.getElem?_cons_zero]; exact rfl) (fun K hK => ?_)
      go_simp
      go_at_call 46
      refine (M2p.out.num (n := xb) rfl HTT.out.2.1).mono ?_
      rintro e w11p ⟨rfl, hmM3p⟩
      have M3p := Kept.mk hmM3p
      have SM3p := Kept.mk (HSBp.out _ _ hmM3p)
      clear hmM3p
      refine hK.out _ _ (fun _ => SM3p.out) ?_
      clear hK K
      try simp only [Act.put, List.setIfInBounds_toArray, List.set_cons_zero, List.set_cons_succ]
      refine wpAnyT_one 11 (by kernel_rfl) (by simp only [List.getElem?_toArray, List.getElem?_cons_succ, List.getElem?_cons_zero]; exact rfl) (fun K hK => ?_)
      go_simp
      go_at_call 48
      refine (M3p.out.count (n := xc) rfl HTT.out.2.2.1).mono ?_
      rintro e w12p ⟨rfl, hmM4p⟩
      have M4p := Kept.mk hmM4p
      have SM4p := Kept.mk (HSBp.out _ _ hmM4p)
      clear hmM4p
      refine hK.out _ _ (fun _ => SM4p.out) ?_
      clear hK K
      try simp only [Act.put, List.setIfInBounds_toArray, List.set_cons_zero, List.set_cons_succ]
      refine wpAnyT_one 13 (by kernel_rfl) (by simp only [List.getElem?_toArray, List.getElem?_cons_succ, List.getElem?_cons_zero]; exact rfl) (fun K hK => ?_)
      go_simp
      go_at_call 46
      refine (M4p.out.num (n := xd) rfl HTT.out.2.2.2.1).mono ?_
      rintro e w13p ⟨rfl, hmM5p⟩
      have M5p := Kept.mk hmM5p
      have SM5p := Kept.mk (HSBp.out _ _ hmM5p)
      clear hmM5p
      refine hK.out _ _ (fun _ => SM5p.out) ?_
      clear hK K
      try simp only [Act.put, List.setIfInBounds_toArray, List.set_cons_zero, List.set_cons_succ]
      refine wpAnyT_take (i := 14) (v := ?vpb14) [14, 20] (by simp only [List.getElem?_toArray, List.getElem?_cons_succ, List.getElem?_cons_zero]; exact rfl) (by kernel_rfl) (by kernel_rfl) (by kernel_rfl) (by kernel_rfl) (by intro _ _ _ h; exact h) (Or.inl ⟨by rfl, ?hypb14⟩) SM5p.out ?restpb14
      case hypb14 => (intro w hSw; go_simp; try with_reducible rfl)
      try simp only [Act.put, List.setIfInBounds_toArray, List.set_cons_zero, List.set_cons_succ]
      refine wpAnyT_one 15 (by kernel_rfl) (by simp only [List.getElem?_toArray, List.getElem?_cons_succ, List.getElem?_cons_zero]; exact rfl) (fun K hK => ?_)
      go_simp
      have M6p := Kept.mk (M5p.out.on (below_box w13p (.cells (Q4.cells ⟨xa, xb, xc, xd⟩).toArray 79)))
      have S6p := Kept.mk (HSBp.out _ _ M6p.out)
      have hnew := cells_new w13p w13p.heap.size rfl (Q4.cells ⟨xa, xb, xc, xd⟩) 79
      refine hK.out _ _ (fun _ => S6p.out) ?_
      clear hK K
      try simp only [Act.put, List.setIfInBounds_toArray, List.set_cons_zero, List.set_cons_succ]
      refine wpAnyT_one 16 (by kernel_rfl) (by simp only [List.getElem?_toArray, List.getElem?_cons_succ, List.getElem?_cons_zero]; exact rfl) (fun K hK => ?_)
      refine step_wp' rfl (wp_append_own _ (.tmp 132) (.tmp 142) 44 rfl B 79 i0 (.agg #[.int .i64 0, .int .i64 0, .int .i64 0, .int .i64 0]) 4 32 Tryd.underlying44 hi hz0 hz1 hz2 rfl (by decide) (.slice Al nl cl) nl (ls.flatMap Q4.cells) rfl (own_len M6p.out.rd.ol HNL.out.symm) ⟨w13p.heap.size, 0, none⟩ 1 1 (Q4.cells ⟨xa, xb, xc, xd⟩) rfl rfl hnew (q4_one _) (by simp only [maxLen]; omega) (by omega) (by have := M5p.out.fx.size; simp; omega) ?_)
      intro v5 w5p hown5 hg5 _
      have hme5 := (M6p.out.grown M6p.out.rd.ol (by decide) (by decide) hg5).me
      have hfl : (ls ++ [(⟨xa, xb, xc, xd⟩ : Q4)]).flatMap Q4.cells = ls.flatMap Q4.cells ++ Q4.cells ⟨xa, xb, xc, xd⟩ := by rw [List.flatMap_append]; simp
      have hlp : nl + 1 = (ls ++ [(⟨xa, xb, xc, xd⟩ : Q4)]).length := by rw [HNL.out]; simp
      rw [← hfl] at hown5
      obtain ⟨m, hm⟩ : ∃ m, m = nl + 1 := ⟨_, rfl⟩
      rw [← hm] at hown5 hlp
      obtain ⟨A5, k5, rfl⟩ := own_slice hown5
      have c45 := cell_of_row _ _ 4 _ _ _ hme5
      have f45 : w5p.frozen? ⟨g, 4, none⟩ = false := by simp [World.frozen?, hme5]
      simp only [List.getElem?_toArray, List.getElem?_cons_zero, List.getElem?_cons_succ] at c45
      have S7p := Kept.mk (show (fun V : World => V.cell? ⟨g, 4, none⟩ = some (.slice Al nl cl)) w5p from c45)
      have M7p := Kept.mk (M6p.out.line hown5 hlp hg5)
      clear hown5 hg5 hnew hme5 hfl hlp hm
      refine hK.out _ _ (fun _ => S7p.out) ?_
      clear hK K
      try simp only [Act.put, List.setIfInBounds_toArray, List.set_cons_zero, List.set_cons_succ]
      refine wpAnyT_take (i := 17) (v := ?vpb17) [17, 18, 19, 20] (by simp only [List.getElem?_toArray, List.getElem?_cons_succ, List.getElem?_cons_zero]; exact rfl) (by kernel_rfl) (by kernel_rfl) (by kernel_rfl) (by kernel_rfl) (by intro _ _ _ h; exact h) (Or.inl ⟨by rfl, ?hypb17⟩) S7p.out ?restpb17
      case hypb17 => (intro w hSw; go_simp; try with_reducible rfl)
      try simp only [Act.put, List.setIfInBounds_toArray, List.set_cons_zero, List.set_cons_succ]
      refine wpAnyT_take (i := 18) (v := ?vpb18) [18, 19, 20] (by simp only [List.getElem?_toArray, List.getElem?_cons_succ, List.getElem?_cons_zero]; exact rfl) (by kernel_rfl) (by kernel_rfl) (by kernel_rfl) (by kernel_rfl) (by intro _ _ _ h; exact h) (Or.inl ⟨by rfl, ?hypb18⟩) S7p.out ?restpb18
      case hypb18 => (intro w hSw; go_simp; try with_reducible rfl)
      try simp only [Act.put, List.setIfInBounds_toArray, List.set_cons_zero, List.set_cons_succ]
      refine wpAnyT_take (i := 19) (v := ?vpb19) [19, 20] (by simp only [List.getElem?_toArray, List.getElem?_cons_succ, List.getElem?_cons_zero]; exact rfl) (by kernel_rfl) (by kernel_rfl) (by kernel_rfl) (by kernel_rfl) (by intro _ _ _ h; exact h) (Or.inl ⟨by rfl, ?hypb19⟩) S7p.out ?restpb19
      case hypb19 => (intro w hSw; go_simp; try with_reducible rfl)
      try simp only [Act.put, List.setIfInBounds_toArray, List.set_cons_zero, List.set_cons_succ]
      refine wpAnyT_one 20 (by kernel_rfl) (by simp only [List.getElem?_toArray, List.getElem?_cons_succ, List.getElem?_cons_zero]; exact rfl) (fun K hK => ?_)
      go_simp
      refine hK.out _ _ (fun h => (by cases h)) ?_
      clear hK K
      try simp only [Act.put, List.setIfInBounds_toArray, List.set_cons_zero, List.set_cons_succ]
      refine wpAnyT_done (by kernel_rfl) ?_ _
      obtain ⟨wA, how⟩ : ∃ x, x = w5p.setCell ⟨g, 4, none⟩ (.slice A5 m k5) := ⟨_, rfl⟩
      rw [← how] at M7p ⊢
      have HMA := M7p
      clear how c45 f45 M7p S7p M6p S6p HS0p HSBp M1p
      clear HM
      go_upto_region 20 with fail
      have HSBr := Kept.mk (fun (V : World) (o : Nat) (h : Mid B g gw w.heap.size (wL :: [itoa xa, itoa xb, itoa xc, itoa xd, itoa ya, itoa yb, itoa yc, itoa yd]) w ⟨mn, mx, sw, ts, ls ++ [⟨xa, xb, xc, xd⟩], hs, a⟩ vt (.slice A5 m k5) (.slice Ah nh ch) o V) => show (fun V : World => V.cell? ⟨g, 5, none⟩ = some (.slice Ah nh ch)) V from (h.rd.at (i := 5) rfl).1)
      refine wp_region_late (fun V : World => V.cell? ⟨g, 5, none⟩ = some (.slice Ah nh ch)) (fun i => i == 20) (by kernel_rfl) ?_
      obtain ⟨wdr, hwd⟩ : ∃ wd, wd = wA.drew := ⟨_, rfl⟩
      have M1r := Kept.mk (HMA.out.on (show Below wA.heap.size wA wdr from by rw [hwd]; exact (Below.refl _ _).drewN 1))
      have HS0r := Kept.mk (HSBr.out _ _ M1r.out)
      rw [← hwd]
      clear hwd
      refine wpAnyT_take (i := 0) (v := ?vrb0) [0, 20] (by simp only [List.getElem?_toArray, List.getElem?_cons_succ, List.getElem?_cons_zero]; exact rfl) (by kernel_rfl) (by kernel_rfl) (by kernel_rfl) (by kernel_rfl) (by intro _ _ _ h; exact h) (Or.inl ⟨by rfl, ?hyrb0⟩) HS0r.out ?restrb0
      case hyrb0 => (intro w hSw; go_simp; try with_reducible rfl)
      try simp only [Act.put, List.setIfInBounds_toArray, List.set_cons_zero, List.set_cons_succ]
      refine wpAnyT_take (i := 1) (v := ?vrb1) [1, 20] (by simp only [List.getElem?_toArray, List.getElem?_cons_succ, List.getElem?_cons_zero]; exact rfl) (by kernel_rfl) (by kernel_rfl) (by kernel_rfl) (by kernel_rfl) (by intro _ _ _ h; exact h) (Or.inl ⟨by rfl, ?hyrb1⟩) HS0r.out ?restrb1
      case hyrb1 => (intro w hSw; go_simp; try with_reducible rfl)
      try simp only [Act.put, List.setIfInBounds_toArray, List.set_cons_zero, List.set_cons_succ]
      refine wpAnyT_take (i := 2) (v := ?vrb2) [2, 20] (by simp only [List.getElem?_toArray, List.getElem?_cons_succ, List.getElem?_cons_zero]; exact rfl) (by kernel_rfl) (by kernel_rfl) (by kernel_rfl) (by kernel_rfl) (by intro _ _ _ h; exact h) (Or.inl ⟨by rfl, ?hyrb2⟩) HS0r.out ?restrb2
      case hyrb2 => (intro w hSw; go_simp; try with_reducible rfl)
      try simp only [Act.put, List.setIfInBounds_toArray, List.set_cons_zero, List.set_cons_succ]
      refine wpAnyT_take (i := 3) (v := ?vrb3) [3, 20] (by simp only [List.getElem?_toArray, List.getElem?_cons_succ, List.getElem?_cons_zero]; exact rfl) (by kernel_rfl) (by kernel_rfl) (by kernel_rfl) (by kernel_rfl) (by intro _ _ _ h; exact h) (Or.inl ⟨by rfl, ?hyrb3⟩) HS0r.out ?restrb3
      case hyrb3 => (intro w hSw; go_simp; try with_reducible rfl)
      try simp only [Act.put, List.setIfInBounds_toArray, List.set_cons_zero, List.set_cons_succ]
      refine wpAnyT_take (i := 4) (v := ?vrb4) [4, 20] (by simp only [List.getElem?_toArray, List.getElem?_cons_succ, List.getElem?_cons_zero]; exact rfl) (by kernel_rfl) (by kernel_rfl) (by kernel_rfl) (by kernel_rfl) (by intro _ _ _ h; exact h) (Or.inl ⟨by rfl, ?hyrb4⟩) HS0r.out ?restrb4
      case hyrb4 => (intro w hSw; go_simp; try with_reducible rfl)
      try simp only [Act.put, List.setIfInBounds_toArray, List.set_cons_zero, List.set_cons_succ]
      refine wpAnyT_take (i := 5) (v := ?vrb5) [5, 20] (by simp only [List.getElem?_toArray, List.getElem?_cons_succ, List.getElem?_cons_zero]; exact rfl) (by kernel_rfl) (by kernel_rfl) (by kernel_rfl) (by kernel_rfl) (by intro _ _ _ h; exact h) (Or.inl ⟨by rfl, ?hyrb5⟩) HS0r.out ?restrb5
      case hyrb5 => (intro w hSw; go_simp; try with_reducible rfl)
      try simp only [Act.put, List.setIfInBounds_toArray, List.set_cons_zero, List.set_cons_succ]
      refine wpAnyT_take (i := 6) (v := ?vrb6) [6, 20] (by simp only [List.getElem?_toArray, List.getElem?_cons_succ, List.getElem?_cons_zero]; exact rfl) (by kernel_rfl) (by kernel_rfl) (by kernel_rfl) (by kernel_rfl) (by intro _ _ _ h; exact h) (Or.inl ⟨by rfl, ?hyrb6⟩) HS0r.out ?restrb6
      case hyrb6 => (intro w hSw; go_simp; try with_reducible rfl)
      try simp only [Act.put, List.setIfInBounds_toArray, List.set_cons_zero, List.set_cons_succ]
      refine wpAnyT_take (i := 8) (v := ?vrb8) [8, 20] (by simp only [List.getElem?_toArray, List.getElem?_cons_succ, List.getElem?_cons_zero]; exact rfl) (by kernel_rfl) (by kernel_rfl) (by kernel_rfl) (by kernel_rfl) (by intro _ _ _ h; exact h) (Or.inl ⟨by rfl, ?hyrb8⟩) HS0r.out ?restrb8
      case hyrb8 => (intro w hSw; go_simp; try with_reducible rfl)
      try simp only [Act.put, List.setIfInBounds_toArray, List.set_cons_zero, List.set_cons_succ]
      refine wpAnyT_take (i := 10) (v := ?vrb10) [10, 20] (by simp only [List.getElem?_toArray, List.getElem?_cons_succ, List.getElem?_cons_zero]; exact rfl) (by kernel_rfl) (by kernel_rfl) (by kernel_rfl) (by kernel_rfl) (by intro _ _ _ h; exact h) (Or.inl ⟨by rfl, ?hyrb10⟩) HS0r.out ?restrb10
      case hyrb10 => (intro w hSw; go_simp; try with_reducible rfl)
      try simp only [Act.put, List.setIfInBounds_toArray, List.set_cons_zero, List.set_cons_succ]
      refine wpAnyT_take (i := 12) (v := ?vrb12) [12, 20] (by simp only [List.getElem?_toArray, List.getElem?_cons_succ, List.getElem?_cons_zero]; exact rfl) (by kernel_rfl) (by kernel_rfl) (by kernel_rfl) (by kernel_rfl) (by intro _ _ _ h; exact h) (Or.inl ⟨by rfl, ?hyrb12⟩) HS0r.out ?restrb12
      case hyrb12 => (intro w hSw; go_simp; try with_reducible rfl)
      try simp only [Act.put, List.setIfInBounds_toArray, List.set_cons_zero, List.set_cons_succ]
      refine wpAnyT_one 7 (by kernel_rfl) (by simp only [List.getElem?_toArray, List.getElem?_cons_succ, List.getElem?_cons_zero]; exact rfl) (fun K hK => ?_)
      go_simp
      go_at_call 48
      refine (M1r.out.count (n := ya) rfl HTT.out.2.2.2.2.1).mono ?_
      rintro e w10r ⟨rfl, hmM2r⟩
      have M2r := Kept.mk hmM2r
      have SM2r := Kept.mk (HSBr.out _ _ hmM2r)
      clear hmM2r
      refine hK.out _ _ (fun _ => SM2r.out) ?_
      clear hK K
      try simp only [Act.put, List.setIfInBounds_toArray, List.set_cons_zero, List.set_cons_succ]
      refine wpAnyT_one 9 (by kernel_rfl) (by simp only [List.getElem?_toArray, List.getElem?_cons_succ, List.getElem?_cons_zero]; exact rfl) (fun K hK => ?_)
      go_simp
      go_at_call 46
      refine (M2r.out.num (n := yb) rfl HTT.out.2.2.2.2.2.1).mono ?_
      rintro e w11r ⟨rfl, hmM3r⟩
      have M3r := Kept.mk hmM3r
      have SM3r := Kept.mk (HSBr.out _ _ hmM3r)
      clear hmM3r
      refine hK.out _ _ (fun _ => SM3r.out) ?_
      clear hK K
      try simp only [Act.put, List.setIfInBounds_toArray, List.set_cons_zero, List.set_cons_succ]
      refine wpAnyT_one 11 (by kernel_rfl) (by simp only [List.getElem?_toArray, List.getElem?_cons_succ, List.getElem?_cons_zero]; exact rfl) (fun K hK => ?_)
      go_simp
      go_at_call 46
      refine (M3r.out.num (n := yc) rfl HTT.out.2.2.2.2.2.2.1).mono ?_
      rintro e w12r ⟨rfl, hmM4r⟩
      have M4r := Kept.mk hmM4r
      have SM4r := Kept.mk (HSBr.out _ _ hmM4r)
      clear hmM4r
      refine hK.out _ _ (fun _ => SM4r.out) ?_
      clear hK K
      try simp only [Act.put, List.setIfInBounds_toArray, List.set_cons_zero, List.set_cons_succ]
      refine wpAnyT_one 13 (by kernel_rfl) (by simp only [List.getElem?_toArray, List.getElem?_cons_succ, List.getElem?_cons_zero]; exact rfl) (fun K hK => ?_)
      go_simp
      go_at_call 48
      refine (M4r.out.count (n := yd) rfl HTT.out.2.2.2.2.2.2.2).mono ?_
      rintro e w13r ⟨rfl, hmM5r⟩
      have M5r := Kept.mk hmM5r
      have SM5r := Kept.mk (HSBr.out _ _ hmM5r)
      clear hmM5r
      refine hK.out _ _ (fun _ => SM5r.out) ?_
      clear hK K
      try simp only [Act.put, List.setIfInBounds_toArray, List.set_cons_zero, List.set_cons_succ]
      refine wpAnyT_take (i := 14) (v := ?vrb14) [14, 20] (by simp only [List.getElem?_toArray, List.getElem?_cons_succ, List.getElem?_cons_zero]; exact rfl) (by kernel_rfl) (by kernel_rfl) (by kernel_rfl) (by kernel_rfl) (by intro _ _ _ h; exact h) (Or.inl ⟨by rfl, ?hyrb14⟩) SM5r.out ?restrb14
      case hyrb14 => (intro w hSw; go_simp; try with_reducible rfl)
      try simp only [Act.put, List.setIfInBounds_toArray, List.set_cons_zero, List.set_cons_succ]
      refine wpAnyT_one 15 (by kernel_rfl) (by simp only [List.getElem?_toArray, List.getElem?_cons_succ, List.getElem?_cons_zero]; exact rfl) (fun K hK => ?_)
      go_simp
      have M6r := Kept.mk (M5r.out.on (below_box w13r (.cells (Q4.cells ⟨ya, yb, yc, yd⟩).toArray 82)))
      have S6r := Kept.mk (HSBr.out _ _ M6r.out)
      have hnew := cells_new w13r w13r.heap.size rfl (Q4.cells ⟨ya, yb, yc, yd⟩) 82
      refine hK.out _ _ (fun _ => S6r.out) ?_
      clear hK K
      try simp only [Act.put, List.setIfInBounds_toArray, List.set_cons_zero, List.set_cons_succ]
      refine wpAnyT_one 16 (by kernel_rfl) (by simp only [List.getElem?_toArray, List.getElem?_cons_succ, List.getElem?_cons_zero]; exact rfl) (fun K hK => ?_)
      refine step_wp' rfl (wp_append_own _ (.tmp 152) (.tmp 162) 45 rfl B 82 i1 (.agg #[.int .i64 0, .int .i64 0, .int .i64 0, .int .i64 0]) 4 32 Tryd.underlying45 hi1 hy0 hy1 hy2 rfl (by decide) (.slice Ah nh ch) nh (hs.flatMap Q4.cells) rfl (own_len M6r.out.rd.oh HNH.out.symm) ⟨w13r.heap.size, 0, none⟩ 1 1 (Q4.cells ⟨ya, yb, yc, yd⟩) rfl rfl hnew (q4_one _) (by simp only [maxLen]; omega) (by omega) (by have := M5r.out.fx.size; simp; omega) ?_)
      intro v5 w5r hown5 hg5 _
      have hme5 := (M6r.out.grown M6r.out.rd.oh (by decide) (by decide) hg5).me
      have hfl : (hs ++ [(⟨ya, yb, yc, yd⟩ : Q4)]).flatMap Q4.cells = hs.flatMap Q4.cells ++ Q4.cells ⟨ya, yb, yc, yd⟩ := by rw [List.flatMap_append]; simp
      have hlp : nh + 1 = (hs ++ [(⟨ya, yb, yc, yd⟩ : Q4)]).length := by rw [HNH.out]; simp
      rw [← hfl] at hown5
      obtain ⟨m2, hm⟩ : ∃ m, m = nh + 1 := ⟨_, rfl⟩
      rw [← hm] at hown5 hlp
      obtain ⟨B5, l5, rfl⟩ := own_slice hown5
      have c45 := cell_of_row _ _ 5 _ _ _ hme5
      have f45 : w5r.frozen? ⟨g, 5, none⟩ = false := by simp [World.frozen?, hme5]
      simp only [List.getElem?_toArray, List.getElem?_cons_zero, List.getElem?_cons_succ] at c45
      have S7r := Kept.mk (show (fun V : World => V.cell? ⟨g, 5, none⟩ = some (.slice Ah nh ch)) w5r from c45)
      have M7r := Kept.mk (M6r.out.thread hown5 hlp hg5)
      clear hown5 hg5 hnew hme5 hfl hlp hm
      refine hK.out _ _ (fun _ => S7r.out) ?_
      clear hK K
      try simp only [Act.put, List.setIfInBounds_toArray, List.set_cons_zero, List.set_cons_succ]
      refine wpAnyT_take (i := 17) (v := ?vrb17) [17, 18, 19, 20] (by simp only [List.getElem?_toArray, List.getElem?_cons_succ, List.getElem?_cons_zero]; exact rfl) (by kernel_rfl) (by kernel_rfl) (by kernel_rfl) (by kernel_rfl) (by intro _ _ _ h; exact h) (Or.inl ⟨by rfl, ?hyrb17⟩) S7r.out ?restrb17
      case hyrb17 => (intro w hSw; go_simp; try with_reducible rfl)
      try simp only [Act.put, List.setIfInBounds_toArray, List.set_cons_zero, List.set_cons_succ]
      refine wpAnyT_take (i := 18) (v := ?vrb18) [18, 19, 20] (by simp only [List.getElem?_toArray, List.getElem?_cons_succ, List.getElem?_cons_zero]; exact rfl) (by kernel_rfl) (by kernel_rfl) (by kernel_rfl) (by kernel_rfl) (by intro _ _ _ h; exact h) (Or.inl ⟨by rfl, ?hyrb18⟩) S7r.out ?restrb18
      case hyrb18 => (intro w hSw; go_simp; try with_reducible rfl)
      try simp only [Act.put, List.setIfInBounds_toArray, List.set_cons_zero, List.set_cons_succ]
      refine wpAnyT_take (i := 19) (v := ?vrb19) [19, 20] (by simp only [List.getElem?_toArray, List.getElem?_cons_succ, List.getElem?_cons_zero]; exact rfl) (by kernel_rfl) (by kernel_rfl) (by kernel_rfl) (by kernel_rfl) (by intro _ _ _ h; exact h) (Or.inl ⟨by rfl, ?hyrb19⟩) S7r.out ?restrb19
      case hyrb19 => (intro w hSw; go_simp; try with_reducible rfl)
      try simp only [Act.put, List.setIfInBounds_toArray, List.set_cons_zero, List.set_cons_succ]
      refine wpAnyT_one 20 (by kernel_rfl) (by simp only [List.getElem?_toArray, List.getElem?_cons_succ, List.getElem?_cons_zero]; exact rfl) (fun K hK => ?_)
      go_simp
      refine hK.out _ _ (fun h => (by cases h)) ?_
      clear hK K
      try simp only [Act.put, List.setIfInBounds_toArray, List.set_cons_zero, List.set_cons_succ]
      refine wpAnyT_done (by kernel_rfl) ?_ _
      obtain ⟨w6, how⟩ : ∃ x, x = w5r.setCell ⟨g, 5, none⟩ (.slice B5 m2 l5) := ⟨_, rfl⟩
      rw [← how] at M7r ⊢
      have HMF := M7r
      clear how c45 f45 M7r S7r M6r S6r HS0r HSBr M1r
      have HE := Kept.mk (show AtEnd B g gw w.heap.size (wL :: [itoa xa, itoa xb, itoa xc, itoa xd, itoa ya, itoa yb, itoa yc, itoa yd]) w w6 (.int .i64 mn) (.int .i64 mx) (.int .i64 sw) vt (.slice A5 m k5) (.slice B5 m2 l5) (.int .i64 a) from
        ⟨HMF.out.rd.me, ws_end HMF.out.ws rfl, by have := HGW.out; omega, HMF.out.fx⟩)
      have e6 := cell_of_row _ _ 6 _ _ _ HE.out.me
      have f6 : w6.frozen? ⟨g, 6, none⟩ = false := by simp [World.frozen?, HE.out.me]
      simp only [List.getElem?_toArray, List.getElem?_cons_zero, List.getElem?_cons_succ] at e6
      go_upto_region 22 with fail
      have HE7 := Kept.mk (HE.out.set (.int .i64 (a + 1)))
      obtain ⟨w7, hw7⟩ : ∃ w7, w7 = w6.setCell ⟨g, 6, none⟩ (.int .i64 (a + 1)) := ⟨_, rfl⟩
      rw [← hw7] at HE7 ⊢
      have G67 := Kept.mk (show w6.grownBy w7 (some g) from by rw [hw7]; exact gb_set _ _ _ _)
      clear hw7 e6 f6
      obtain ⟨ax, hax⟩ := HE7.out.ws
      have b0 := cell_of_row _ _ 0 _ _ _ hax
      have b1 := cell_of_row _ _ 1 _ _ _ hax
      simp only [List.getElem?_toArray, List.getElem?_cons_zero, List.getElem?_cons_succ] at b0 b1
      clear hax
      go_wp2
      go_ret
      exact ⟨rfl, ⟨_, _, _, ⟨HE7.out.me, own_gb HMF.out.rd.ot G67.out hgB, own_gb HMF.out.rd.ol G67.out hgB, own_gb HMF.out.rd.oh G67.out hgB⟩⟩, HE7.out.fx⟩
    · obtain ⟨m1, hm1⟩ := EN.mx
      have HSP := Kept.mk (split_line wL [itoa xa, itoa xb, itoa xc, itoa xd, itoa ya, itoa yb, itoa yc, itoa yd] 9 w rfl (by decide) hnos hln EN.mx)
      rw [← HTXT.out] at HSP
      have HRD := Kept.mk hRD
      have HEN := Kept.mk EN
      have hgl := hRD.lt
      clear hRD EN hm1
      go_enter Tryd.func33, Tryd.ntmps33
      go_upto_region 2 with (go_at_call 38; refine HSP.out.mono ?_; rintro e w1 ⟨rfl, rfl⟩)
      obtain ⟨W2, hW2⟩ : ∃ W2, W2 = (w.alloc (.cells #[.string (BA wL), .string (BA (itoa xa)), .string (BA (itoa xb)), .string (BA (itoa xc)), .string (BA (itoa xd)), .string (BA (itoa ya)), .string (BA (itoa yb)), .string (BA (itoa yc)), .string (BA (itoa yd))] 9)).alloc (.cells #[.slice (some ⟨w.heap.size, 0, none⟩) 9 9, .bool false] 106) := ⟨_, rfl⟩
      obtain ⟨gw, hgw⟩ : ∃ gw, gw = w.heap.size + 1 := ⟨_, rfl⟩
      have hb2 : Below w.heap.size w W2 := by rw [hW2]; exact (below_box w _).alloc (by simp) _
      have hws : WS gw w.heap.size (wL :: [itoa xa, itoa xb, itoa xc, itoa xd, itoa ya, itoa yb, itoa yc, itoa yd]) 0 false W2 := by rw [hW2, hgw]; exact ws_new w (wL :: [itoa xa, itoa xb, itoa xc, itoa xd, itoa ya, itoa yb, itoa yc, itoa yd]) 9 rfl
      have s2 : W2.heap.size = w.heap.size + 2 := by rw [hW2]; simp
      rw [← hW2, ← hgw]
      have HGW := Kept.mk hgw
      have R0 : WR g gw w.heap.size (wL :: [itoa xa, itoa xb, itoa xc, itoa xd, itoa ya, itoa yb, itoa yc, itoa yd]) false W2 0 W2 := ⟨hws, gb_refl _ _, HEN.out.on (hb2.mono (by omega)), by omega, by omega, by simp⟩
      have HU := Kept.mk (fun (U : World) (o : Nat) (h : WR g gw w.heap.size (wL :: [itoa xa, itoa xb, itoa xc, itoa xd, itoa ya, itoa yb, itoa yc, itoa yd]) false W2 o U) => show w.grownBy U (some gw) from gb_trans (gb_below hb2 _) h.gb)
      have HRU := Kept.mk (fun (U : World) (o : Nat) (h : WR g gw w.heap.size (wL :: [itoa xa, itoa xb, itoa xc, itoa xd, itoa ya, itoa yb, itoa yc, itoa yd]) false W2 o U) => HRD.out.on (HU.out U o h) (by omega))
      obtain ⟨c6, -⟩ := (HRU.out _ _ R0).at (i := 6) rfl
      clear hW2 hgw hws hb2 s2
      have q0 := Kept.mk (R0.word (s := wL) rfl)
      clear R0
      go_wp2_with (go_at_call 45; refine q0.out.mono ?_; rintro e w3 ⟨rfl, R1⟩; refine Hid.out ?_)
      refine Lib.hid ?_
      clear q0 c6
      clear HSP
      have HM := Kept.mk (show Mid B g gw w.heap.size (wL :: [itoa xa, itoa xb, itoa xc, itoa xd, itoa ya, itoa yb, itoa yc, itoa yd]) w ⟨mn, mx, sw, ts, ls, hs, a⟩ vt (.slice Al nl cl) (.slice Ah nh ch) 1 w3 from
        ⟨HRU.out _ _ R1, R1.ws, FX.of_new (HU.out _ _ R1) hBw (by have := HGW.out; omega), HEN0.out, hgB, by have := HGW.out; omega, hBw, hBw, by simp⟩)
      obtain ⟨c4, -⟩ := HM.out.rd.at (i := 4) rfl
      obtain ⟨c6, -⟩ := HM.out.rd.at (i := 6) rfl
      clear R1 HU HRU
      go_upto_region 19 with fail
      have HSBp := Kept.mk (fun (V : World) (o : Nat) (h : Mid B g gw w.heap.size (wL :: [itoa xa, itoa xb, itoa xc, itoa xd, itoa ya, itoa yb, itoa yc, itoa yd]) w ⟨mn, mx, sw, ts, ls, hs, a⟩ vt (.slice Al nl cl) (.slice Ah nh ch) o V) => show (fun V : World => V.cell? ⟨g, 4, none⟩ = some (.slice Al nl cl)) V from (h.rd.at (i := 4) rfl).1)
      refine wp_region_late (fun V : World => V.cell? ⟨g, 4, none⟩ = some (.slice Al nl cl)) (fun i => i == 20) (by kernel_rfl) ?_
      obtain ⟨wdp, hwd⟩ : ∃ wd, wd = w3.drew := ⟨_, rfl⟩
      have M1p := Kept.mk (HM.out.on (show Below w3.heap.size w3 wdp from by rw [hwd]; exact (Below.refl _ _).drewN 1))
      have HS0p := Kept.mk (HSBp.out _ _ M1p.out)
      rw [← hwd]
      clear hwd
      refine wpAnyT_take (i := 0) (v := ?vpc0) [0, 20] (by simp only [List.getElem?_toArray, List.getElem?_cons_succ, List.getElem?_cons_zero]; exact rfl) (by kernel_rfl) (by kernel_rfl) (by kernel_rfl) (by kernel_rfl) (by intro _ _ _ h; exact h) (Or.inl ⟨by rfl, ?hypc0⟩) HS0p.out ?restpc0
      case hypc0 => (intro w hSw; go_simp; try with_reducible rfl)
      try simp only [Act.put, List.setIfInBounds_toArray, List.set_cons_zero, List.set_cons_succ]
      refine wpAnyT_take (i := 1) (v := ?vpc1) [1, 20] (by simp only [List.getElem?_toArray, List.getElem?_cons_succ, List.getElem?_cons_zero]; exact rfl) (by kernel_rfl) (by kernel_rfl) (by kernel_rfl) (by kernel_rfl) (by intro _ _ _ h; exact h) (Or.inl ⟨by rfl, ?hypc1⟩) HS0p.out ?restpc1
      case hypc1 => (intro w hSw; go_simp; try with_reducible rfl)
      try simp only [Act.put, List.setIfInBounds_toArray, List.set_cons_zero, List.set_cons_succ]
      refine wpAnyT_take (i := 2) (v := ?vpc2) [2, 20] (by simp only [List.getElem?_toArray, List.getElem?_cons_succ, List.getElem?_cons_zero]; exact rfl) (by kernel_rfl) (by kernel_rfl) (by kernel_rfl) (by kernel_rfl) (by intro _ _ _ h; exact h) (Or.inl ⟨by rfl, ?hypc2⟩) HS0p.out ?restpc2
      case hypc2 => (intro w hSw; go_simp; try with_reducible rfl)
      try simp only [Act.put, List.setIfInBounds_toArray, List.set_cons_zero, List.set_cons_succ]
      refine wpAnyT_take (i := 3) (v := ?vpc3) [3, 20] (by simp only [List.getElem?_toArray, List.getElem?_cons_succ, List.getElem?_cons_zero]; exact rfl) (by kernel_rfl) (by kernel_rfl) (by kernel_rfl) (by kernel_rfl) (by intro _ _ _ h; exact h) (Or.inl ⟨by rfl, ?hypc3⟩) HS0p.out ?restpc3
      case hypc3 => (intro w hSw; go_simp; try with_reducible rfl)
      try simp only [Act.put, List.setIfInBounds_toArray, List.set_cons_zero, List.set_cons_succ]
      refine wpAnyT_take (i := 4) (v := ?vpc4) [4, 20] (by simp only [List.getElem?_toArray, List.getElem?_cons_succ, List.getElem?_cons_zero]; exact rfl) (by kernel_rfl) (by kernel_rfl) (by kernel_rfl) (by kernel_rfl) (by intro _ _ _ h; exact h) (Or.inl ⟨by rfl, ?hypc4⟩) HS0p.out ?restpc4
      case hypc4 => (intro w hSw; go_simp; try with_reducible rfl)
      try simp only [Act.put, List.setIfInBounds_toArray, List.set_cons_zero, List.set_cons_succ]
      refine wpAnyT_take (i := 5) (v := ?vpc5) [5, 20] (by simp only [List.getElem?_toArray, List.getElem?_cons_succ, List.getElem?_cons_zero]; exact rfl) (by kernel_rfl) (by kernel_rfl) (by kernel_rfl) (by kernel_rfl) (by intro _ _ _ h; exact h) (Or.inl ⟨by rfl, ?hypc5⟩) HS0p.out ?restpc5
      case hypc5 => (intro w hSw; go_simp; try with_reducible rfl)
      try simp only [Act.put, List.setIfInBounds_toArray, List.set_cons_zero, List.set_cons_succ]
      refine wpAnyT_take (i := 6) (v := ?vpc6) [6, 20] (by simp only [List.getElem?_toArray, List.getElem?_cons_succ, List.getElem?_cons_zero]; exact rfl) (by kernel_rfl) (by kernel_rfl) (by kernel_rfl) (by kernel_rfl) (by intro _ _ _ h; exact h) (Or.inl ⟨by rfl, ?hypc6⟩) HS0p.out ?restpc6
      case hypc6 => (intro w hSw; go_simp; try with_reducible rfl)
      try simp only [Act.put, List.setIfInBounds_toArray, List.set_cons_zero, List.set_cons_succ]
      refine wpAnyT_take (i := 8) (v := ?vpc8) [8, 20] (by simp only [List.getElem?_toArray, List.getElem?_cons_succ, List.getElem?_cons_zero]; exact rfl) (by kernel_rfl) (by kernel_rfl) (by kernel_rfl) (by kernel_rfl) (by intro _ _ _ h; exact h) (Or.inl ⟨by rfl, ?hypc8⟩) HS0p.out ?restpc8
      case hypc8 => (intro w hSw; go_simp; try with_reducible rfl)
      try simp only [Act.put, List.setIfInBounds_toArray, List.set_cons_zero, List.set_cons_succ]
      refine wpAnyT_take (i := 10) (v := ?vpc10) [10, 20] (by simp only [List.getElem?_toArray, List.getElem?_cons_succ, List.getElem?_cons_zero]; exact rfl) (by kernel_rfl) (by kernel_rfl) (by kernel_rfl) (by kernel_rfl) (by intro _ _ _ h; exact h) (Or.inl ⟨by rfl, ?hypc10⟩) HS0p.out ?restpc10
      case hypc10 => (intro w hSw; go_simp; try with_reducible rfl)
      try simp only [Act.put, List.setIfInBounds_toArray, List.set_cons_zero, List.set_cons_succ]
      refine wpAnyT_take (i := 12) (v := ?vpc12) [12, 20] (by simp only [List.getElem?_toArray, List.getElem?_cons_succ, List.getElem?_cons_zero]; exact rfl) (by kernel_rfl) (by kernel_rfl) (by kernel_rfl) (by kernel_rfl) (by intro _ _ _ h; exact h) (Or.inl ⟨by rfl, ?hypc12⟩) HS0p.out ?restpc12
      case hypc12 => (intro w hSw; go_simp; try with_reducible rfl)
      try simp only [Act.put, List.setIfInBounds_toArray, List.set_cons_zero, List.set_cons_succ]
      refine wpAnyT_one 7 (by kernel_rfl) (by simp only [List.getElem?_toArray, List.getElem?_cons_succ, List.getElem?_cons_zero]; exact rfl) (fun K hK => ?_)
      go_simp
      go_at_call 48
      refine (M1p.out.count (n := xa) rfl HTT.out.1).mono ?_
      rintro e w10p ⟨rfl, hmM2p⟩
      have M2p := Kept.mk hmM2p
      have SM2p := Kept.mk (HSBp.out _ _ hmM2p)
      clear hmM2p
      refine hK.out _ _ (fun _ => SM2p.out) ?_
      clear hK K
      try simp only [Act.put, List.setIfInBounds_toArray, List.set_cons_zero, List.set_cons_succ]
      refine wpAnyT_one 9 (by kernel_rfl) (by simp only [List.getElem?_toArray, List.getElem?_cons_succ, List.getElem?_cons_zero]; exact rfl) (fun K hK => ?_)
      go_simp
      go_at_call 46
      refine (M2p.out.num (n := xb) rfl HTT.out.2.1).mono ?_
      rintro e w11p ⟨rfl, hmM3p⟩
      have M3p := Kept.mk hmM3p
      have SM3p := Kept.mk (HSBp.out _ _ hmM3p)
      clear hmM3p
      refine hK.out _ _ (fun _ => SM3p.out) ?_
      clear hK K
      try simp only [Act.put, List.setIfInBounds_toArray, List.set_cons_zero, List.set_cons_succ]
      refine wpAnyT_one 11 (by kernel_rfl) (by simp only [List.getElem?_toArray, List.getElem?_cons_succ, List.getElem?_cons_zero]; exact rfl) (fun K hK => ?_)
      go_simp
      go_at_call 48
      refine (M3p.out.count (n := xc) rfl HTT.out.2.2.1).mono ?_
      rintro e w12p ⟨rfl, hmM4p⟩
      have M4p := Kept.mk hmM4p
      have SM4p := Kept.mk (HSBp.out _ _ hmM4p)
      clear hmM4p
      refine hK.out _ _ (fun _ => SM4p.out) ?_
      clear hK K
      try simp only [Act.put, List.setIfInBounds_toArray, List.set_cons_zero, List.set_cons_succ]
      refine wpAnyT_one 13 (by kernel_rfl) (by simp only [List.getElem?_toArray, List.getElem?_cons_succ, List.getElem?_cons_zero]; exact rfl) (fun K hK => ?_)
      go_simp
      go_at_call 46
      refine (M4p.out.num (n := xd) rfl HTT.out.2.2.2.1).mono ?_
      rintro e w13p ⟨rfl, hmM5p⟩
      have M5p := Kept.mk hmM5p
      have SM5p := Kept.mk (HSBp.out _ _ hmM5p)
      clear hmM5p
      refine hK.out _ _ (fun _ => SM5p.out) ?_
      clear hK K
      try simp only [Act.put, List.setIfInBounds_toArray, List.set_cons_zero, List.set_cons_succ]
      refine wpAnyT_take (i := 14) (v := ?vpc14) [14, 20] (by simp only [List.getElem?_toArray, List.getElem?_cons_succ, List.getElem?_cons_zero]; exact rfl) (by kernel_rfl) (by kernel_rfl) (by kernel_rfl) (by kernel_rfl) (by intro _ _ _ h; exact h) (Or.inl ⟨by rfl, ?hypc14⟩) SM5p.out ?restpc14
      case hypc14 => (intro w hSw; go_simp; try with_reducible rfl)
      try simp only [Act.put, List.setIfInBounds_toArray, List.set_cons_zero, List.set_cons_succ]
      refine wpAnyT_one 15 (by kernel_rfl) (by simp only [List.getElem?_toArray, List.getElem?_cons_succ, List.getElem?_cons_zero]; exact rfl) (fun K hK => ?_)
      go_simp
      have M6p := Kept.mk (M5p.out.on (below_box w13p (.cells (Q4.cells ⟨xa, xb, xc, xd⟩).toArray 79)))
      have S6p := Kept.mk (HSBp.out _ _ M6p.out)
      have hnew := cells_new w13p w13p.heap.size rfl (Q4.cells ⟨xa, xb, xc, xd⟩) 79
      refine hK.out _ _ (fun _ => S6p.out) ?_
      clear hK K
      try simp only [Act.put, List.setIfInBounds_toArray, List.set_cons_zero, List.set_cons_succ]
      refine wpAnyT_one 16 (by kernel_rfl) (by simp only [List.getElem?_toArray, List.getElem?_cons_succ, List.getElem?_cons_zero]; exact rfl) (fun K hK => ?_)
      refine step_wp' rfl (wp_append_own _ (.tmp 132) (.tmp 142) 44 rfl B 79 i0 (.agg #[.int .i64 0, .int .i64 0, .int .i64 0, .int .i64 0]) 4 32 Tryd.underlying44 hi hz0 hz1 hz2 rfl (by decide) (.slice Al nl cl) nl (ls.flatMap Q4.cells) rfl (own_len M6p.out.rd.ol HNL.out.symm) ⟨w13p.heap.size, 0, none⟩ 1 1 (Q4.cells ⟨xa, xb, xc, xd⟩) rfl rfl hnew (q4_one _) (by simp only [maxLen]; omega) (by omega) (by have := M5p.out.fx.size; simp; omega) ?_)
      intro v5 w5p hown5 hg5 _
      have hme5 := (M6p.out.grown M6p.out.rd.ol (by decide) (by decide) hg5).me
      have hfl : (ls ++ [(⟨xa, xb, xc, xd⟩ : Q4)]).flatMap Q4.cells = ls.flatMap Q4.cells ++ Q4.cells ⟨xa, xb, xc, xd⟩ := by rw [List.flatMap_append]; simp
      have hlp : nl + 1 = (ls ++ [(⟨xa, xb, xc, xd⟩ : Q4)]).length := by rw [HNL.out]; simp
      rw [← hfl] at hown5
      obtain ⟨m, hm⟩ : ∃ m, m = nl + 1 := ⟨_, rfl⟩
      rw [← hm] at hown5 hlp
      obtain ⟨A5, k5, rfl⟩ := own_slice hown5
      have c45 := cell_of_row _ _ 4 _ _ _ hme5
      have f45 : w5p.frozen? ⟨g, 4, none⟩ = false := by simp [World.frozen?, hme5]
      simp only [List.getElem?_toArray, List.getElem?_cons_zero, List.getElem?_cons_succ] at c45
      have S7p := Kept.mk (show (fun V : World => V.cell? ⟨g, 4, none⟩ = some (.slice Al nl cl)) w5p from c45)
      have M7p := Kept.mk (M6p.out.line hown5 hlp hg5)
      clear hown5 hg5 hnew hme5 hfl hlp hm
      refine hK.out _ _ (fun _ => S7p.out) ?_
      clear hK K
      try simp only [Act.put, List.setIfInBounds_toArray, List.set_cons_zero, List.set_cons_succ]
      refine wpAnyT_take (i := 17) (v := ?vpc17) [17, 18, 19, 20] (by simp only [List.getElem?_toArray, List.getElem?_cons_succ, List.getElem?_cons_zero]; exact rfl) (by kernel_rfl) (by kernel_rfl) (by kernel_rfl) (by kernel_rfl) (by intro _ _ _ h; exact h) (Or.inl ⟨by rfl, ?hypc17⟩) S7p.out ?restpc17
      case hypc17 => (intro w hSw; go_simp; try with_reducible rfl)
      try simp only [Act.put, List.setIfInBounds_toArray, List.set_cons_zero, List.set_cons_succ]
      refine wpAnyT_take (i := 18) (v := ?vpc18) [18, 19, 20] (by simp only [List.getElem?_toArray, List.getElem?_cons_succ, List.getElem?_cons_zero]; exact rfl) (by kernel_rfl) (by kernel_rfl) (by kernel_rfl) (by kernel_rfl) (by intro _ _ _ h; exact h) (Or.inl ⟨by rfl, ?hypc18⟩) S7p.out ?restpc18
      case hypc18 => (intro w hSw; go_simp; try with_reducible rfl)
      try simp only [Act.put, List.setIfInBounds_toArray, List.set_cons_zero, List.set_cons_succ]
      refine wpAnyT_take (i := 19) (v := ?vpc19) [19, 20] (by simp only [List.getElem?_toArray, List.getElem?_cons_succ, List.getElem?_cons_zero]; exact rfl) (by kernel_rfl) (by kernel_rfl) (by kernel_rfl) (by kernel_rfl) (by intro _ _ _ h; exact h) (Or.inl ⟨by rfl, ?hypc19⟩) S7p.out ?restpc19
      case hypc19 => (intro w hSw; go_simp; try with_reducible rfl)
      try simp only [Act.put, List.setIfInBounds_toArray, List.set_cons_zero, List.set_cons_succ]
      refine wpAnyT_one 20 (by kernel_rfl) (by simp only [List.getElem?_toArray, List.getElem?_cons_succ, List.getElem?_cons_zero]; exact rfl) (fun K hK => ?_)
      go_simp
      refine hK.out _ _ (fun h => (by cases h)) ?_
      clear hK K
      try simp only [Act.put, List.setIfInBounds_toArray, List.set_cons_zero, List.set_cons_succ]
      refine wpAnyT_done (by kernel_rfl) ?_ _
      obtain ⟨wA, how⟩ : ∃ x, x = w5p.setCell ⟨g, 4, none⟩ (.slice A5 m k5) := ⟨_, rfl⟩
      rw [← how] at M7p ⊢
      have HMA := M7p
      clear how c45 f45 M7p S7p M6p S6p HS0p HSBp M1p
      clear HM
      go_upto_region 20 with fail
      have HSBr := Kept.mk (fun (V : World) (o : Nat) (h : Mid B g gw w.heap.size (wL :: [itoa xa, itoa xb, itoa xc, itoa xd, itoa ya, itoa yb, itoa yc, itoa yd]) w ⟨mn, mx, sw, ts, ls ++ [⟨xa, xb, xc, xd⟩], hs, a⟩ vt (.slice A5 m k5) (.slice Ah nh ch) o V) => show (fun V : World => V.cell? ⟨g, 5, none⟩ = some (.slice Ah nh ch)) V from (h.rd.at (i := 5) rfl).1)
      refine wp_region_late (fun V : World => V.cell? ⟨g, 5, none⟩ = some (.slice Ah nh ch)) (fun i => i == 20) (by kernel_rfl) ?_
      obtain ⟨wdr, hwd⟩ : ∃ wd, wd = wA.drew := ⟨_, rfl⟩
      have M1r := Kept.mk (HMA.out.on (show Below wA.heap.size wA wdr from by rw [hwd]; exact (Below.refl _ _).drewN 1))
      have HS0r := Kept.mk (HSBr.out _ _ M1r.out)
      rw [← hwd]
      clear hwd
      refine wpAnyT_take (i := 0) (v := ?vrc0) [0, 20] (by simp only [List.getElem?_toArray, List.getElem?_cons_succ, List.getElem?_cons_zero]; exact rfl) (by kernel_rfl) (by kernel_rfl) (by kernel_rfl) (by kernel_rfl) (by intro _ _ _ h; exact h) (Or.inl ⟨by rfl, ?hyrc0⟩) HS0r.out ?restrc0
      case hyrc0 => (intro w hSw; go_simp; try with_reducible rfl)
      try simp only [Act.put, List.setIfInBounds_toArray, List.set_cons_zero, List.set_cons_succ]
      refine wpAnyT_take (i := 1) (v := ?vrc1) [1, 20] (by simp only [List.getElem?_toArray, List.getElem?_cons_succ, List.getElem?_cons_zero]; exact rfl) (by kernel_rfl) (by kernel_rfl) (by kernel_rfl) (by kernel_rfl) (by intro _ _ _ h; exact h) (Or.inl ⟨by rfl, ?hyrc1⟩) HS0r.out ?restrc1
      case hyrc1 => (intro w hSw; go_simp; try with_reducible rfl)
      try simp only [Act.put, List.setIfInBounds_toArray, List.set_cons_zero, List.set_cons_succ]
      refine wpAnyT_take (i := 2) (v := ?vrc2) [2, 20] (by simp only [List.getElem?_toArray, List.getElem?_cons_succ, List.getElem?_cons_zero]; exact rfl) (by kernel_rfl) (by kernel_rfl) (by kernel_rfl) (by kernel_rfl) (by intro _ _ _ h; exact h) (Or.inl ⟨by rfl, ?hyrc2⟩) HS0r.out ?restrc2
      case hyrc2 => (intro w hSw; go_simp; try with_reducible rfl)
      try simp only [Act.put, List.setIfInBounds_toArray, List.set_cons_zero, List.set_cons_succ]
      refine wpAnyT_take (i := 3) (v := ?vrc3) [3, 20] (by simp only [List.getElem?_toArray, List.getElem?_cons_succ, List.getElem?_cons_zero]; exact rfl) (by kernel_rfl) (by kernel_rfl) (by kernel_rfl) (by kernel_rfl) (by intro _ _ _ h; exact h) (Or.inl ⟨by rfl, ?hyrc3⟩) HS0r.out ?restrc3
      case hyrc3 => (intro w hSw; go_simp; try with_reducible rfl)
      try simp only [Act.put, List.setIfInBounds_toArray, List.set_cons_zero, List.set_cons_succ]
      refine wpAnyT_take (i := 4) (v := ?vrc4) [4, 20] (by simp only [List.getElem?_toArray, List.getElem?_cons_succ, List.getElem?_cons_zero]; exact rfl) (by kernel_rfl) (by kernel_rfl) (by kernel_rfl) (by kernel_rfl) (by intro _ _ _ h; exact h) (Or.inl ⟨by rfl, ?hyrc4⟩) HS0r.out ?restrc4
      case hyrc4 => (intro w hSw; go_simp; try with_reducible rfl)
      try simp only [Act.put, List.setIfInBounds_toArray, List.set_cons_zero, List.set_cons_succ]
      refine wpAnyT_take (i := 5) (v := ?vrc5) [5, 20] (by simp only [List.getElem?_toArray, List.getElem?_cons_succ, List.getElem?_cons_zero]; exact rfl) (by kernel_rfl) (by kernel_rfl) (by kernel_rfl) (by kernel_rfl) (by intro _ _ _ h; exact h) (Or.inl ⟨by rfl, ?hyrc5⟩) HS0r.out ?restrc5
      case hyrc5 => (intro w hSw; go_simp; try with_reducible rfl)
      try simp only [Act.put, List.setIfInBounds_toArray, List.set_cons_zero, List.set_cons_succ]
      refine wpAnyT_take (i := 6) (v := ?vrc6) [6, 20] (by simp only [List.getElem?_toArray, List.getElem?_cons_succ, List.getElem?_cons_zero]; exact rfl) (by kernel_rfl) (by kernel_rfl) (by kernel_rfl) (by kernel_rfl) (by intro _ _ _ h; exact h) (Or.inl ⟨by rfl, ?hyrc6⟩) HS0r.out ?restrc6
      case hyrc6 => (intro w hSw; go_simp; try with_reducible rfl)
      try simp only [Act.put, List.setIfInBounds_toArray, List.set_cons_zero, List.set_cons_succ]
      refine wpAnyT_take (i := 8) (v := ?vrc8) [8, 20] (by simp only [List.getElem?_toArray, List.getElem?_cons_succ, List.getElem?_cons_zero]; exact rfl) (by kernel_rfl) (by kernel_rfl) (by kernel_rfl) (by kernel_rfl) (by intro _ _ _ h; exact h) (Or.inl ⟨by rfl, ?hyrc8⟩) HS0r.out ?restrc8
      case hyrc8 => (intro w hSw; go_simp; try with_reducible rfl)
      try simp only [Act.put, List.setIfInBounds_toArray, List.set_cons_zero, List.set_cons_succ]
      refine wpAnyT_take (i := 10) (v := ?vrc10) [10, 20] (by simp only [List.getElem?_toArray, List.getElem?_cons_succ, List.getElem?_cons_zero]; exact rfl) (by kernel_rfl) (by kernel_rfl) (by kernel_rfl) (by kernel_rfl) (by intro _ _ _ h; exact h) (Or.inl ⟨by rfl, ?hyrc10⟩) HS0r.out ?restrc10
      case hyrc10 => (intro w hSw; go_simp; try with_reducible rfl)
      try simp only [Act.put, List.setIfInBounds_toArray, List.set_cons_zero, List.set_cons_succ]
      refine wpAnyT_take (i := 12) (v := ?vrc12) [12, 20] (by simp only [List.getElem?_toArray, List.getElem?_cons_succ, List.getElem?_cons_zero]; exact rfl) (by kernel_rfl) (by kernel_rfl) (by kernel_rfl) (by kernel_rfl) (by intro _ _ _ h; exact h) (Or.inl ⟨by rfl, ?hyrc12⟩) HS0r.out ?restrc12
      case hyrc12 => (intro w hSw; go_simp; try with_reducible rfl)
      try simp only [Act.put, List.setIfInBounds_toArray, List.set_cons_zero, List.set_cons_succ]
      refine wpAnyT_one 7 (by kernel_rfl) (by simp only [List.getElem?_toArray, List.getElem?_cons_succ, List.getElem?_cons_zero]; exact rfl) (fun K hK => ?_)
      go_simp
      go_at_call 48
      refine (M1r.out.count (n := ya) rfl HTT.out.2.2.2.2.1).mono ?_
      rintro e w10r ⟨rfl, hmM2r⟩
      have M2r := Kept.mk hmM2r
      have SM2r := Kept.mk (HSBr.out _ _ hmM2r)
      clear hmM2r
      refine hK.out _ _ (fun _ => SM2r.out) ?_
      clear hK K
      try simp only [Act.put, List.setIfInBounds_toArray, List.set_cons_zero, List.set_cons_succ]
      refine wpAnyT_one 9 (by kernel_rfl) (by simp only [List.getElem?_toArray, List.getElem?_cons_succ, List.getElem?_cons_zero]; exact rfl) (fun K hK => ?_)
      go_simp
      go_at_call 46
      refine (M2r.out.num (n := yb) rfl HTT.out.2.2.2.2.2.1).mono ?_
      rintro e w11r ⟨rfl, hmM3r⟩
      have M3r := Kept.mk hmM3r
      have SM3r := Kept.mk (HSBr.out _ _ hmM3r)
      clear hmM3r
      refine hK.out _ _ (fun _ => SM3r.out) ?_
      clear hK K
      try simp only [Act.put, List.setIfInBounds_toArray, List.set_cons_zero, List.set_cons_succ]
      refine wpAnyT_one 11 (by kernel_rfl) (by simp only [List.getElem?_toArray, List.getElem?_cons_succ, List.getElem?_cons_zero]; exact rfl) (fun K hK => ?_)
      go_simp
      go_at_call 46
      refine (M3r.out.num (n := yc) rfl HTT.out.2.2.2.2.2.2.1).mono ?_
      rintro e w12r ⟨rfl, hmM4r⟩
      have M4r := Kept.mk hmM4r
      have SM4r := Kept.mk (HSBr.out _ _ hmM4r)
      clear hmM4r
      refine hK.out _ _ (fun _ => SM4r.out) ?_
      clear hK K
      try simp only [Act.put, List.setIfInBounds_toArray, List.set_cons_zero, List.set_cons_succ]
      refine wpAnyT_one 13 (by kernel_rfl) (by simp only [List.getElem?_toArray, List.getElem?_cons_succ, List.getElem?_cons_zero]; exact rfl) (fun K hK => ?_)
      go_simp
      go_at_call 48
      refine (M4r.out.count (n := yd) rfl HTT.out.2.2.2.2.2.2.2).mono ?_
      rintro e w13r ⟨rfl, hmM5r⟩
      have M5r := Kept.mk hmM5r
      have SM5r := Kept.mk (HSBr.out _ _ hmM5r)
      clear hmM5r
      refine hK.out _ _ (fun _ => SM5r.out) ?_
      clear hK K
      try simp only [Act.put, List.setIfInBounds_toArray, List.set_cons_zero, List.set_cons_succ]
      refine wpAnyT_take (i := 14) (v := ?vrc14) [14, 20] (by simp only [List.getElem?_toArray, List.getElem?_cons_succ, List.getElem?_cons_zero]; exact rfl) (by kernel_rfl) (by kernel_rfl) (by kernel_rfl) (by kernel_rfl) (by intro _ _ _ h; exact h) (Or.inl ⟨by rfl, ?hyrc14⟩) SM5r.out ?restrc14
      case hyrc14 => (intro w hSw; go_simp; try with_reducible rfl)
      try simp only [Act.put, List.setIfInBounds_toArray, List.set_cons_zero, List.set_cons_succ]
      refine wpAnyT_one 15 (by kernel_rfl) (by simp only [List.getElem?_toArray, List.getElem?_cons_succ, List.getElem?_cons_zero]; exact rfl) (fun K hK => ?_)
      go_simp
      have M6r := Kept.mk (M5r.out.on (below_box w13r (.cells (Q4.cells ⟨ya, yb, yc, yd⟩).toArray 82)))
      have S6r := Kept.mk (HSBr.out _ _ M6r.out)
      have hnew := cells_new w13r w13r.heap.size rfl (Q4.cells ⟨ya, yb, yc, yd⟩) 82
      refine hK.out _ _ (fun _ => S6r.out) ?_
      clear hK K
      try simp only [Act.put, List.setIfInBounds_toArray, List.set_cons_zero, List.set_cons_succ]
      refine wpAnyT_one 16 (by kernel_rfl) (by simp only [List.getElem?_toArray, List.getElem?_cons_succ, List.getElem?_cons_zero]; exact rfl) (fun K hK => ?_)
      refine step_wp' rfl (wp_append_own _ (.tmp 152) (.tmp 162) 45 rfl B 82 i1 (.agg #[.int .i64 0, .int .i64 0, .int .i64 0, .int .i64 0]) 4 32 Tryd.underlying45 hi1 hy0 hy1 hy2 rfl (by decide) (.slice Ah nh ch) nh (hs.flatMap Q4.cells) rfl (own_len M6r.out.rd.oh HNH.out.symm) ⟨w13r.heap.size, 0, none⟩ 1 1 (Q4.cells ⟨ya, yb, yc, yd⟩) rfl rfl hnew (q4_one _) (by simp only [maxLen]; omega) (by omega) (by have := M5r.out.fx.size; simp; omega) ?_)
      intro v5 w5r hown5 hg5 _
      have hme5 := (M6r.out.grown M6r.out.rd.oh (by decide) (by decide) hg5).me
      have hfl : (hs ++ [(⟨ya, yb, yc, yd⟩ : Q4)]).flatMap Q4.cells = hs.flatMap Q4.cells ++ Q4.cells ⟨ya, yb, yc, yd⟩ := by rw [List.flatMap_append]; simp
      have hlp : nh + 1 = (hs ++ [(⟨ya, yb, yc, yd⟩ : Q4)]).length := by rw [HNH.out]; simp
      rw [← hfl] at hown5
      obtain ⟨m2, hm⟩ : ∃ m, m = nh + 1 := ⟨_, rfl⟩
      rw [← hm] at hown5 hlp
      obtain ⟨B5, l5, rfl⟩ := own_slice hown5
      have c45 := cell_of_row _ _ 5 _ _ _ hme5
      have f45 : w5r.frozen? ⟨g, 5, none⟩ = false := by simp [World.frozen?, hme5]
      simp only [List.getElem?_toArray, List.getElem?_cons_zero, List.getElem?_cons_succ] at c45
      have S7r := Kept.mk (show (fun V : World => V.cell? ⟨g, 5, none⟩ = some (.slice Ah nh ch)) w5r from c45)
      have M7r := Kept.mk (M6r.out.thread hown5 hlp hg5)
      clear hown5 hg5 hnew hme5 hfl hlp hm
      refine hK.out _ _ (fun _ => S7r.out) ?_
      clear hK K
      try simp only [Act.put, List.setIfInBounds_toArray, List.set_cons_zero, List.set_cons_succ]
      refine wpAnyT_take (i := 17) (v := ?vrc17) [17, 18, 19, 20] (by simp only [List.getElem?_toArray, List.getElem?_cons_succ, List.getElem?_cons_zero]; exact rfl) (by kernel_rfl) (by kernel_rfl) (by kernel_rfl) (by kernel_rfl) (by intro _ _ _ h; exact h) (Or.inl ⟨by rfl, ?hyrc17⟩) S7r.out ?restrc17
      case hyrc17 => (intro w hSw; go_simp; try with_reducible rfl)
      try simp only [Act.put, List.setIfInBounds_toArray, List.set_cons_zero, List.set_cons_succ]
      refine wpAnyT_take (i := 18) (v := ?vrc18) [18, 19, 20] (by simp only [List.getElem?_toArray, List.getElem?_cons_succ, List.getElem?_cons_zero]; exact rfl) (by kernel_rfl) (by kernel_rfl) (by kernel_rfl) (by kernel_rfl) (by intro _ _ _ h; exact h) (Or.inl ⟨by rfl, ?hyrc18⟩) S7r.out ?restrc18
      case hyrc18 => (intro w hSw; go_simp; try with_reducible rfl)
      try simp only [Act.put, List.setIfInBounds_toArray, List.set_cons_zero, List.set_cons_succ]
      refine wpAnyT_take (i := 19) (v := ?vrc19) [19, 20] (by simp only [List.getElem?_toArray, List.getElem?_cons_succ, List.getElem?_cons_zero]; exact rfl) (by kernel_rfl) (by kernel_rfl) (by kernel_rfl) (by kernel_rfl) (by intro _ _ _ h; exact h) (Or.inl ⟨by rfl, ?hyrc19⟩) S7r.out ?restrc19
      case hyrc19 => (intro w hSw; go_simp; try with_reducible rfl)
      try simp only [Act.put, List.setIfInBounds_toArray, List.set_cons_zero, List.set_cons_succ]
      refine wpAnyT_one 20 (by kernel_rfl) (by simp only [List.getElem?_toArray, List.getElem?_cons_succ, List.getElem?_cons_zero]; exact rfl) (fun K hK => ?_)
      go_simp
      refine hK.out _ _ (fun h => (by cases h)) ?_
      clear hK K
      try simp only [Act.put, List.setIfInBounds_toArray, List.set_cons_zero, List.set_cons_succ]
      refine wpAnyT_done (by kernel_rfl) ?_ _
      obtain ⟨w6, how⟩ : ∃ x, x = w5r.setCell ⟨g, 5, none⟩ (.slice B5 m2 l5) := ⟨_, rfl⟩
      rw [← how] at M7r ⊢
      have HMF := M7r
      clear how c45 f45 M7r S7r M6r S6r HS0r HSBr M1r
      have HE := Kept.mk (show AtEnd B g gw w.heap.size (wL :: [itoa xa, itoa xb, itoa xc, itoa xd, itoa ya, itoa yb, itoa yc, itoa yd]) w w6 (.int .i64 mn) (.int .i64 mx) (.int .i64 sw) vt (.slice A5 m k5) (.slice B5 m2 l5) (.int .i64 a) from
        ⟨HMF.out.rd.me, ws_end HMF.out.ws rfl, by have := HGW.out; omega, HMF.out.fx⟩)
      have e6 := cell_of_row _ _ 6 _ _ _ HE.out.me
      have f6 : w6.frozen? ⟨g, 6, none⟩ = false := by simp [World.frozen?, HE.out.me]
      simp only [List.getElem?_toArray, List.getElem?_cons_zero, List.getElem?_cons_succ] at e6
      go_upto_region 22 with fail
      have HE7 := Kept.mk (HE.out.set (.int .i64 (a + 1)))
      obtain ⟨w7, hw7⟩ : ∃ w7, w7 = w6.setCell ⟨g, 6, none⟩ (.int .i64 (a + 1)) := ⟨_, rfl⟩
      rw [← hw7] at HE7 ⊢
      have G67 := Kept.mk (show w6.grownBy w7 (some g) from by rw [hw7]; exact gb_set _ _ _ _)
      clear hw7 e6 f6
      obtain ⟨ax, hax⟩ := HE7.out.ws
      have b0 := cell_of_row _ _ 0 _ _ _ hax
      have b1 := cell_of_row _ _ 1 _ _ _ hax
      simp only [List.getElem?_toArray, List.getElem?_cons_zero, List.getElem?_cons_succ] at b0 b1
      clear hax
      go_wp2
      go_ret
      exact ⟨rfl, ⟨_, _, _, ⟨HE7.out.me, own_gb HMF.out.rd.ot G67.out hgB, own_gb HMF.out.rd.ol G67.out hgB, own_gb HMF.out.rd.oh G67.out hgB⟩⟩, HE7.out.fx⟩
end Go.Proofs.YtfneloplbkjbhaaDoor
