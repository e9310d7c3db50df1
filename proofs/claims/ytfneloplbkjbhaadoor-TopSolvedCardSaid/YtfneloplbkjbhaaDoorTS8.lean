/-
  A configuration as text: Put.
-/
import Derived.Test.YtfneloplbkjbhaaDoorTP
namespace Go.Proofs.YtfneloplbkjbhaaDoor
open Go.RowKit Go.Shelf
open Go.Lib (byteCells itoa)
set_option linter.unusedVariables false
set_option linter.unusedSimpArgs false
def PutRes (w : World) (c : Cf) (e : Ending) (w' : World) : Prop := Below w.heap.size w w' ∧ ((okC c ∧ e = .returned (.tuple #[.string (BA (cfgT c)), .int .i64 0])) ∨ (¬ okC c ∧ e = .returned (.tuple #[.string ⟨#[]⟩, .int .i64 2])))
theorem PG.from {B : Nat} {a w0 w : World} {v : Value} {l : List UInt8} (h : PG B w0 w v l) (hb : Below B a w0) (hk : KO a w0) : PG B a w v l := ⟨h.own, hb.trans h.bel, hk.trans h.ko, h.hd⟩
theorem PG.on {B : Nat} {w0 w w' : World} {v : Value} {l : List UInt8} (h : PG B w0 w v l) (hB : B ≤ w0.heap.size) (hb : Below w.heap.size w w') : PG B w0 w' v l := ⟨own_below h.own hb, h.bel.trans (hb.mono (by have := h.bel.size; omega)), h.ko.trans (KO.of_below hb), h.hd⟩
theorem PG.txt {B : Nat} {w0 w : World} {v : Value} {l m : List UInt8} (h : PG B w0 w v l) (e : l = m) : PG B w0 w v m := e ▸ h
theorem step_wp {P : Program} {w : World} {ops : Array Oper} {o : Oper} {a : Act} {K : Act → World → Prop} {Q : Exit → Act → World → Prop} {E : Prop} (hg : o.guard = none) (h : o.wp P a w K Q) :
    if Region.wanted o (yielded ops a.tmps) = true then Oper.wp P o a w K Q else E := by
  rw [if_pos (by simp [Region.wanted, hg])]
  exact h
theorem one_cell (w : World) (q : Nat) (x : Int) (h : w.heap[q]? = some (.cells #[.int .u8 x] 5 (0, 0))) : ∀ j u', [Value.int .u8 x][j]? = some u' → w.cell? ((⟨q, 0, none⟩ : Addr).add j) = some u' := by
  intro j u' hj
  match j, hj with
  | 0, hj =>
    simp at hj
    subst hj
    have e0 : (⟨q, 0, none⟩ : Addr).add 0 = ⟨q, 0, none⟩ := rfl
    rw [e0, cell_of_row _ _ 0 _ _ _ h]
    rfl
theorem PG.put {B : Nat} {w0 w w1 : World} {v v1 : Value} {l : List UInt8} (h : PG B w0 w v l) (hB : B ≤ w0.heap.size) {x : UInt8} (h1 : w1.ownsRow B 5 1 v1 (l.length + 1) (byteCells l ++ [.int .u8 x.toNat])) (hg : w.grownBy w1 v.ownBlock) (hd : l.head? = some 116) : PG B w0 w1 v1 (l ++ [x]) :=
  h.grow hB h1 (by rw [List.length_append]; rfl) (by rw [Lib.byteCells_append]; rfl) hg (head_app hd)
theorem one_one (x : Int) : ∀ u ∈ [Value.int .u8 x], u.oneCell' = true := by intro u hu; simp at hu; subst hu; rfl
theorem PowB.mk' {B : Nat} {w w' : World} (h : PowB B w) (hb : Below B w w') : PowB B w' := h.on hb
theorem cfg_one (c : Cf) : cfgK c 1 = l1T c.mn c.mx ++ [10] := by unfold cfgK cfgL linesT; simp
theorem cfg_two (c : Cf) : cfgK c 2 = (l1T c.mn c.mx ++ [10]) ++ (l2T c.sw ++ [10]) := by unfold cfgK cfgL linesT; simp
set_option maxRecDepth 100000 in
set_option maxHeartbeats 6400000 in
theorem putc_any (c : Cf) (At : Option Addr) (ct : Nat) (Al : Option Addr) (cl : Nat) (Ah : Option Addr) (ch : Nat) (w : World) (hT : RT w w.heap.size At c.ts) (hL : R4 w w.heap.size Al c.ls) (hH : R4 w w.heap.size Ah c.hs) (hP : PowB w.heap.size w) :
    Calls Tryd.prog 11 #[.agg #[.int .i64 c.mn, .int .i64 c.mx, .int .i64 c.sw, .slice At c.ts.length ct, .slice Al c.ls.length cl, .slice Ah c.hs.length ch]] w (PutRes w c) := by
  obtain ⟨W1, hW1⟩ : ∃ W1, W1 = w.alloc (.cells #[.int .i64 c.mn, .int .i64 c.mx, .int .i64 c.sw, .slice At c.ts.length ct, .slice Al c.ls.length cl, .slice Ah c.hs.length ch] 47) := ⟨_, rfl⟩
  have s1 : W1.heap.size = w.heap.size + 1 := by rw [hW1]; simp
  have hb1 : Below w.heap.size w W1 := by rw [hW1]; exact below_box w _
  have hT1 := (hT.below hb1).mono hb1.size
  have hL1 := (hL.below hb1).mono hb1.size
  have hH1 := (hH.below hb1).mono hb1.size
  have hP1 : PowB W1.heap.size W1 := fun U hU => hP U (hb1.trans (hU.mono hb1.size))
  have hbx : ∀ (U : World), Below W1.heap.size W1 U → U.cell? ⟨w.heap.size, 0, none⟩ = some (.int .i64 c.mn) ∧ U.cell? ⟨w.heap.size, 1, none⟩ = some (.int .i64 c.mx) ∧ U.cell? ⟨w.heap.size, 2, none⟩ = some (.int .i64 c.sw) ∧ U.cell? ⟨w.heap.size, 3, none⟩ = some (.slice At c.ts.length ct) ∧ U.cell? ⟨w.heap.size, 4, none⟩ = some (.slice Al c.ls.length cl) ∧ U.cell? ⟨w.heap.size, 5, none⟩ = some (.slice Ah c.hs.length ch) := by
    intro U hU
    rw [hW1] at hU
    exact ⟨box_cell hU 0 _ rfl, box_cell hU 1 _ rfl, box_cell hU 2 _ rfl, box_cell hU 3 _ rfl, box_cell hU 4 _ rfl, box_cell hU 5 _ rfl⟩
  have HCK := cfgcheck_any c At ct Al cl Ah ch W1 hT1 hL1 hH1
  have HBX := Kept.mk hbx
  have HB1 := Kept.mk hb1
  clear hT hL hH hP hbx hb1
  by_cases hok : okC c
  · have HC := Kept.mk (HCK.mono (R' := fun e w' => e = .returned (.int .i64 0) ∧ Below W1.heap.size W1 w') (fun e w' h => by
      rcases h with ⟨h1, ⟨_, h2⟩ | ⟨h2, _⟩⟩
      · exact ⟨h2, h1⟩
      · exact absurd hok h2))
    have HOK := Kept.mk hok
    have HT1 := Kept.mk hT1
    have HL1 := Kept.mk hL1
    have HH1 := Kept.mk hH1
    have HP1 := Kept.mk hP1
    have HW1 := Kept.mk s1
    rw [hW1] at HC
    obtain ⟨i0, hi, hz0, hz1, hz2⟩ := info_parts byteInfo
    clear HCK hok hT1 hL1 hH1 hP1 s1
    go_enter Tryd.func11, Tryd.ntmps11
    go_wp2_with (go_at_call 27; refine HC.out.mono ?_; rintro e w1 ⟨rfl, hb1⟩; refine Hid.out ?_)
    refine Lib.hid ?_
    rw [← hW1] at hb1
    clear HC hW1
    obtain ⟨B, hB⟩ : ∃ B, B = W1.heap.size := ⟨_, rfl⟩
    rw [← hB] at hb1
    have hB1 : B ≤ w1.heap.size := by have := hb1.size; omega
    have hB0 : 0 < B := by have := HW1.out; omega
    have HBF := Kept.mk (fun (U : World) (hU : Below B w1 U) => show Below w.heap.size w U from HB1.out.trans ((hb1.trans hU).mono (by have := HW1.out; omega)))
    have HBX1 := Kept.mk (fun (U : World) (hU : Below B w1 U) => HBX.out U (by rw [← hB]; exact hb1.trans hU))
    have HT := Kept.mk (show RT w1 B At c.ts from by rw [hB]; exact HT1.out.below (by rw [← hB]; exact hb1))
    have HL := Kept.mk (show R4 w1 B Al c.ls from by rw [hB]; exact HL1.out.below (by rw [← hB]; exact hb1))
    have HH := Kept.mk (show R4 w1 B Ah c.hs from by rw [hB]; exact HH1.out.below (by rw [← hB]; exact hb1))
    have HP := Kept.mk (show PowB B w1 from by rw [hB]; exact PowB.mk' HP1.out (by rw [← hB]; exact hb1))
    have HWB := Kept.mk (show w.heap.size < B from by have := HW1.out; omega)
    clear hB hb1 HT1 HL1 HH1 HP1 HW1 HBX HB1
    obtain ⟨c0, c1, c2, c3, c4, c5⟩ := HBX1.out w1 (Below.refl _ _)
    have htm := told_tn HOK.out.tm
    have HS1 := Kept.mk (say_any B (.slice none 0 0) [] wT w1.heap.size [c.mn, c.mx] (w1.alloc (.cells #[.int .i64 c.mn, .int .i64 c.mx] 2)) (fun n hn => htm n (by simp at hn ⊢; omega)) (by simp) (by decide) (OB.nil _ _) hB0 (by simp; omega) (by simp) (HP.out.on ((Below.refl _ _).alloc hB1 _)) (heap_alloc_new w1 _) (.inl rfl) rfl)
    have HTM := Kept.mk htm
    clear htm
    go_wp2_with (go_at_call 28; refine HS1.out.mono ?_; rintro e w2 ⟨v2, rfl, h2⟩; refine Hid.out ?_)
    refine Lib.hid ?_
    have S2 := h2.from ((Below.refl B w1).alloc hB1 _) (KO.of_below (below_box w1 _))
    rw [List.nil_append] at S2
    have HHD := Kept.mk (show (wT ++ numsL [c.mn, c.mx]).head? = some 116 from rfl)
    have n2 : (wT ++ numsL [c.mn, c.mx]).length ≤ 50 := by
      have := nums_le (ns := [c.mn, c.mx]) (k := 2) (fun n hn => HTM.out n (by simp at hn ⊢; omega)) (by simp)
      simp only [List.length_append, List.length_cons, List.length_nil]
      omega
    clear h2 HS1 c0 c1 c2 c3 c4 c5
    go_wp2_with (at_builtin; refine wpList_append_own _ rfl _ _ 62 rfl B 5 i0 (.int .u8 0) 1 1 Tryd.underlying62 hi hz0 hz1 hz2 rfl (by decide) _ _ _ rfl (World.ownsRow.alloc S2.own _) ⟨_, 0, none⟩ 1 1 [Value.int .u8 10] rfl rfl (by intro j u' hj; match j, hj with | 0, hj => simp at hj; subst hj; simp [Addr.add]) (by intro u' hu'; simp at hu'; subst hu'; rfl) (by simp only [maxLen]; omega) (by omega) (by have := S2.bel.size; simp; omega) ?_)
    intro v3 w3 hown3 hg3 _
    have S3 := (S2.snoc hB1 (x := 10) hown3 (by simp <;> omega) (by first | rfl | simp) hg3 HHD.out).txt (cfg_one c).symm
    clear hown3 hg3 S2 HHD n2
    obtain ⟨c0, c1, c2, c3, c4, c5⟩ := HBX1.out w3 S3.bel
    have S4 := S3.on hB1 (below_box w3 (.cells #[.int .i64 c.sw] 2))
    have s3 : B ≤ (w3.alloc (.cells #[.int .i64 c.sw] 2)).heap.size := by have := S4.bel.size; omega
    have HS2 := Kept.mk (say_any B v3 (cfgK c 1) wS w3.heap.size [c.sw] (w3.alloc (.cells #[.int .i64 c.sw] 2)) (fun n hn => HTM.out n (by simp at hn ⊢; omega)) (by simp) (by decide) S4.own hB0 s3 (by have := cfgK_len HOK.out 1; omega) (HP.out.on S4.bel) (heap_alloc_new w3 _) S4.hd rfl)
    go_wp2_with (go_at_call 28; refine HS2.out.mono ?_; rintro e w5 ⟨v5, rfl, h5⟩; refine Hid.out ?_)
    refine Lib.hid ?_
    have S5 := h5.from S4.bel S4.ko
    have HHD := Kept.mk (show (cfgK c 1 ++ (wS ++ numsL [c.sw])).head? = some 116 from rfl)
    have n5 : (cfgK c 1 ++ (wS ++ numsL [c.sw])).length ≤ 40000 := by
      have := nums_le (ns := [c.sw]) (k := 1) (fun n hn => HTM.out n (by simp at hn ⊢; omega)) (by simp)
      have := cfgK_len HOK.out 1
      simp only [List.length_append, List.length_cons, List.length_nil]
      omega
    clear h5 HS2 c0 c1 c2 c3 c4 c5 S3 S4 s3
    go_wp2_with (at_builtin; refine wpList_append_own _ rfl _ _ 62 rfl B 5 i0 (.int .u8 0) 1 1 Tryd.underlying62 hi hz0 hz1 hz2 rfl (by decide) _ _ _ rfl (World.ownsRow.alloc S5.own _) ⟨_, 0, none⟩ 1 1 [Value.int .u8 10] rfl rfl (by intro j u' hj; match j, hj with | 0, hj => simp at hj; subst hj; simp [Addr.add]) (by intro u' hu'; simp at hu'; subst hu'; rfl) (by simp only [maxLen]; omega) (by omega) (by have := S5.bel.size; simp; omega) ?_)
    intro v6 w6 hown6 hg6 _
    have S6 := (S5.snoc hB1 (x := 10) hown6 (by simp <;> omega) (by first | rfl | simp) hg6 HHD.out).txt (show cfgK c 1 ++ (wS ++ numsL [c.sw]) ++ [10] = cfgK c 2 from by rw [cfg_two, cfg_one]; unfold l2T; simp)
    clear hown6 hg6 S5 HHD n5
    obtain ⟨c0, c1, c2, c3, c4, c5⟩ := HBX1.out w6 S6.bel
    have n32 : c.ts.length ≤ 32 := HOK.out.nt
    have n64 : c.ls.length ≤ 64 := HOK.out.nl
    have nlh : c.hs.length = c.ls.length := HOK.out.nh
    have HNH := Kept.mk nlh
    clear nlh
    go_wp2
    go_loopw [5, 36] (fun s t wr => ∃ (k : Nat) (v : Value), k ≤ c.ts.length ∧ t = .int .i64 k ∧ s = v ∧ PG B w1 wr v (cfgK c (k + 2))) (fun _ t _ => c.ts.length - (intOf t).toNat)
    case atStart => exact ⟨0, v6, by omega, rfl, rfl, S6⟩
    case round =>
      clear c0 c1 c2 c3 c4 c5 S6
      obtain ⟨k, v, hk, rfl, hve, hS⟩ := hrel
      obtain rfl := hve.symm
      have hsz := hS.bel.size
      by_cases hlt : k < c.ts.length
      · have ik : (k : Int) < (c.ts.length : Int) := by omega
        obtain ⟨y, hy⟩ : ∃ y, c.ts[k]? = some y := ⟨c.ts[k], List.getElem?_eq_getElem _⟩
        obtain ⟨b, off, rfl, hbB, hc⟩ := (HT.out.below hS.bel) (by omega)
        have HOD := Kept.mk (odd_parts (HOK.out.ts y (List.mem_of_getElem? hy)))
        have HX := Kept.mk (cfgK_succ (cfgL_task hy))
        have hln := cfgK_len HOK.out (k + 2)
        have HK1 := Kept.mk (cfgK_head c (k + 1))
        obtain ⟨tk, tp, t2, t3, t4, t5, t6, t7, t8, t9⟩ := y
        have e0 := hc k _ 0 _ hy rfl
        have e1 := hc k _ 1 _ hy rfl
        have e2 := hc k _ 2 _ hy rfl
        have e3 := hc k _ 3 _ hy rfl
        have e4 := hc k _ 4 _ hy rfl
        have e5 := hc k _ 5 _ hy rfl
        have e6 := hc k _ 6 _ hy rfl
        have e7 := hc k _ 7 _ hy rfl
        have e8 := hc k _ 8 _ hy rfl
        have e9 := hc k _ 9 _ hy rfl
        rw [Nat.add_zero] at e0
        have hwb : b < wr.heap.size := by omega
        have HTK := Kept.mk (ctask_any ⟨tk, tp, t2, t3, t4, t5, t6, t7, t8, t9⟩ (wr.alloc (.cells #[.int .u8 tk, .int .i64 tp, .int .i64 t2, .int .i64 t3, .int .i64 t4, .int .i64 t5, .int .i64 t6, .int .i64 t7, .int .i64 t8, .int .i64 t9] 54)))
        have HSQ := Kept.mk (hS.on hB1 (below_box wr (.cells #[.int .u8 tk, .int .i64 tp, .int .i64 t2, .int .i64 t3, .int .i64 t4, .int .i64 t5, .int .i64 t6, .int .i64 t7, .int .i64 t8, .int .i64 t9] 54)))
        have HQX := Kept.mk (heap_alloc_new wr (.cells #[.int .u8 tk, .int .i64 tp, .int .i64 t2, .int .i64 t3, .int .i64 t4, .int .i64 t5, .int .i64 t6, .int .i64 t7, .int .i64 t8, .int .i64 t9] 54))
        have HWD := Kept.mk (show tkWord ⟨tk, tp, t2, t3, t4, t5, t6, t7, t8, t9⟩ = if tk = 2 then wQ else wP from rfl)
        obtain ⟨X, hX⟩ : ∃ X, X = cfgK c (k + 2) := ⟨_, rfl⟩
        rw [← hX] at HSQ HX hln
        have HXH := Kept.mk (show X.head? = some 116 from by rw [hX]; exact cfgK_head c (k + 1))
        clear hc hy hX hS HK1
        obtain ⟨bq, hbq⟩ : ∃ bq, (tk == 2) = bq := ⟨_, rfl⟩
        obtain ⟨bg, hbg⟩ : ∃ bg, decide (0 ≤ t7) = bg := ⟨_, rfl⟩
        have HBQ := Kept.mk hbq
        have HBG := Kept.mk hbg
        cases bq
        · have HWE := Kept.mk (show tkWord ⟨tk, tp, t2, t3, t4, t5, t6, t7, t8, t9⟩ = wP from by rw [HWD.out, if_neg (by simpa using HBQ.out)])
          cases bg
          · go_wp2_with (go_at_call 29; refine HTK.out.mono ?_; rintro e w5 ⟨nb, rfl, hnb, hb5⟩; refine Hid.out ?_)
            refine Lib.hid ?_
            have S5 := HSQ.out.on hB1 hb5
            have s5 : B ≤ w5.heap.size := by have := S5.bel.size; omega
            have HQ5 := Kept.mk ((hb5.block wr.heap.size (by simp)).trans HQX.out)
            have HSY := Kept.mk (say_any B v X wP nb (tkNums ⟨tk, tp, t2, t3, t4, t5, t6, t7, t8, t9⟩) w5 HOD.out.2.2.1 (by simp [tkNums]) (by decide) S5.own hB0 s5 (by omega) (HP.out.on S5.bel) hnb S5.hd (head_app HXH.out))
            clear hb5 hnb HTK
            go_wp2_with (go_at_call 28; refine HSY.out.mono ?_; rintro e w6 ⟨v6, rfl, h6⟩; refine Hid.out ?_)
            refine Lib.hid ?_
            have S6 := h6.from S5.bel S5.ko
            have HQ6 := Kept.mk (h6.ko _ _ _ (.inl (by decide)) HQ5.out)
            have x7 := cell_of_row _ _ 7 _ _ _ HQ6.out
            simp only [List.getElem?_toArray, List.getElem?_cons_zero, List.getElem?_cons_succ] at x7
            have HHD := Kept.mk (show (X ++ (wP ++ numsL (tkNums ⟨tk, tp, t2, t3, t4, t5, t6, t7, t8, t9⟩))).head? = some 116 from head_app HXH.out)
            have n6 : (X ++ (wP ++ numsL (tkNums ⟨tk, tp, t2, t3, t4, t5, t6, t7, t8, t9⟩))).length ≤ 40000 := by
              have := nums_le HOD.out.2.2.1 (k := 6) (by simp [tkNums])
              simp only [List.length_append, List.length_cons, List.length_nil]
              omega
            have s6 := S6.bel.size
            obtain ⟨Y, hY⟩ : ∃ Y, Y = X ++ (wP ++ numsL (tkNums ⟨tk, tp, t2, t3, t4, t5, t6, t7, t8, t9⟩)) := ⟨_, rfl⟩
            rw [← hY] at S6 HHD n6
            have HYE := Kept.mk hY
            clear hY h6 HSY S5 s5 HQ5 e0 e1 e2 e3 e4 e5 e6 e7 e8 e9
            have HTX := Kept.mk (show cfgK c (k + 1 + 2) = Y ++ [10] from by
              rw [show k + 1 + 2 = k + 2 + 1 from by omega, HX.out, HYE.out]
              unfold tkT
              rw [HWE.out, if_pos (show t7 < 0 from by have := HBG.out; simp at this; omega)]
              simp)
            go_wp2_with (at_builtin; refine wpList_append_own _ rfl _ _ 62 rfl B 5 i0 (.int .u8 0) 1 1 Tryd.underlying62 hi hz0 hz1 hz2 rfl (by decide) _ _ _ rfl (World.ownsRow.alloc S6.own _) ⟨_, 0, none⟩ 1 1 [Value.int .u8 10] rfl rfl (by intro j u' hj; match j, hj with | 0, hj => simp at hj; subst hj; simp [Addr.add]) (by intro u' hu'; simp at hu'; subst hu'; rfl) (by simp only [maxLen]; omega) (by omega) (by have := S6.bel.size; simp; omega) ?_)
            intro v8 w8 hown8 hg8 _
            have S8 := (S6.snoc hB1 (x := 10) hown8 (by simp <;> omega) (by first | rfl | simp) hg8 HHD.out).txt HTX.out.symm
            clear hown8 hg8
            go_wp2
            go_roundw
            case rel => exact ⟨k + 1, v8, by omega, by go_num, rfl, S8⟩
            case measure => simp [intOf]; omega
          · go_wp2_with (go_at_call 29; refine HTK.out.mono ?_; rintro e w5 ⟨nb, rfl, hnb, hb5⟩; refine Hid.out ?_)
            refine Lib.hid ?_
            have S5 := HSQ.out.on hB1 hb5
            have s5 : B ≤ w5.heap.size := by have := S5.bel.size; omega
            have HQ5 := Kept.mk ((hb5.block wr.heap.size (by simp)).trans HQX.out)
            have HSY := Kept.mk (say_any B v X wP nb (tkNums ⟨tk, tp, t2, t3, t4, t5, t6, t7, t8, t9⟩) w5 HOD.out.2.2.1 (by simp [tkNums]) (by decide) S5.own hB0 s5 (by omega) (HP.out.on S5.bel) hnb S5.hd (head_app HXH.out))
            clear hb5 hnb HTK
            go_wp2_with (go_at_call 28; refine HSY.out.mono ?_; rintro e w6 ⟨v6, rfl, h6⟩; refine Hid.out ?_)
            refine Lib.hid ?_
            have S6 := h6.from S5.bel S5.ko
            have HQ6 := Kept.mk (h6.ko _ _ _ (.inl (by decide)) HQ5.out)
            have x7 := cell_of_row _ _ 7 _ _ _ HQ6.out
            simp only [List.getElem?_toArray, List.getElem?_cons_zero, List.getElem?_cons_succ] at x7
            have HHD := Kept.mk (show (X ++ (wP ++ numsL (tkNums ⟨tk, tp, t2, t3, t4, t5, t6, t7, t8, t9⟩))).head? = some 116 from head_app HXH.out)
            have n6 : (X ++ (wP ++ numsL (tkNums ⟨tk, tp, t2, t3, t4, t5, t6, t7, t8, t9⟩))).length ≤ 40000 := by
              have := nums_le HOD.out.2.2.1 (k := 6) (by simp [tkNums])
              simp only [List.length_append, List.length_cons, List.length_nil]
              omega
            have s6 := S6.bel.size
            obtain ⟨Y, hY⟩ : ∃ Y, Y = X ++ (wP ++ numsL (tkNums ⟨tk, tp, t2, t3, t4, t5, t6, t7, t8, t9⟩)) := ⟨_, rfl⟩
            rw [← hY] at S6 HHD n6
            have HYE := Kept.mk hY
            clear hY h6 HSY S5 s5 HQ5 e0 e1 e2 e3 e4 e5 e6 e7 e8 e9
            go_upto_region 14 with fail
            obtain ⟨xb, hxb⟩ : ∃ xb, xb = wr.heap.size := ⟨_, rfl⟩
            rw [← hxb] at HQ6 ⊢
            clear hxb x7
            have HSB := Kept.mk (fun (V : World) (HH : V.heap[xb]? = some (.cells #[.int .u8 tk, .int .i64 tp, .int .i64 t2, .int .i64 t3, .int .i64 t4, .int .i64 t5, .int .i64 t6, .int .i64 t7, .int .i64 t8, .int .i64 t9] 54 (0, 0))) => show (fun V : World => V.cell? ⟨xb, 0, none⟩ = some (.int .u8 tk) ∧ V.cell? ⟨xb, 1, none⟩ = some (.int .i64 tp) ∧ V.cell? ⟨xb, 2, none⟩ = some (.int .i64 t2) ∧ V.cell? ⟨xb, 3, none⟩ = some (.int .i64 t3) ∧ V.cell? ⟨xb, 4, none⟩ = some (.int .i64 t4) ∧ V.cell? ⟨xb, 5, none⟩ = some (.int .i64 t5) ∧ V.cell? ⟨xb, 6, none⟩ = some (.int .i64 t6) ∧ V.cell? ⟨xb, 7, none⟩ = some (.int .i64 t7) ∧ V.cell? ⟨xb, 8, none⟩ = some (.int .i64 t8) ∧ V.cell? ⟨xb, 9, none⟩ = some (.int .i64 t9)) V from ⟨cell_of_row _ _ 0 _ _ _ HH, cell_of_row _ _ 1 _ _ _ HH, cell_of_row _ _ 2 _ _ _ HH, cell_of_row _ _ 3 _ _ _ HH, cell_of_row _ _ 4 _ _ _ HH, cell_of_row _ _ 5 _ _ _ HH, cell_of_row _ _ 6 _ _ _ HH, cell_of_row _ _ 7 _ _ _ HH, cell_of_row _ _ 8 _ _ _ HH, cell_of_row _ _ 9 _ _ _ HH⟩)
            obtain ⟨wd, hwd⟩ : ∃ wd, wd = w6.drew := ⟨_, rfl⟩
            have S6d := S6.on hB1 (show Below w6.heap.size w6 wd from by rw [hwd]; exact (Below.refl _ _).drewN 1)
            have HQd : wd.heap[xb]? = some (.cells #[.int .u8 tk, .int .i64 tp, .int .i64 t2, .int .i64 t3, .int .i64 t4, .int .i64 t5, .int .i64 t6, .int .i64 t7, .int .i64 t8, .int .i64 t9] 54 (0, 0)) := by rw [hwd]; exact HQ6.out
            have HS0 := Kept.mk (HSB.out wd HQd)
            refine wp_region_late (fun V : World => V.cell? ⟨xb, 0, none⟩ = some (.int .u8 tk) ∧ V.cell? ⟨xb, 1, none⟩ = some (.int .i64 tp) ∧ V.cell? ⟨xb, 2, none⟩ = some (.int .i64 t2) ∧ V.cell? ⟨xb, 3, none⟩ = some (.int .i64 t3) ∧ V.cell? ⟨xb, 4, none⟩ = some (.int .i64 t4) ∧ V.cell? ⟨xb, 5, none⟩ = some (.int .i64 t5) ∧ V.cell? ⟨xb, 6, none⟩ = some (.int .i64 t6) ∧ V.cell? ⟨xb, 7, none⟩ = some (.int .i64 t7) ∧ V.cell? ⟨xb, 8, none⟩ = some (.int .i64 t8) ∧ V.cell? ⟨xb, 9, none⟩ = some (.int .i64 t9)) (fun _ => false) (by kernel_rfl) ?_
            rw [← hwd]
            clear hwd S6 HQ6
            refine wpAnyT_take (i := 0) (v := ?vwP0) [0] (by simp only [List.getElem?_toArray, List.getElem?_cons_succ, List.getElem?_cons_zero]; exact rfl) (by kernel_rfl) (by kernel_rfl) (by kernel_rfl) (by kernel_rfl) (by intro _ _ _ h; exact h) (Or.inl ⟨by rfl, ?hywP0⟩) HS0.out ?restwP0
            case hywP0 => (intro w hSw; go_simp; try with_reducible rfl)
            try simp only [Act.put, List.setIfInBounds_toArray, List.set_cons_zero, List.set_cons_succ]
            refine wpAnyT_take (i := 3) (v := ?vwP3) [3] (by simp only [List.getElem?_toArray, List.getElem?_cons_succ, List.getElem?_cons_zero]; exact rfl) (by kernel_rfl) (by kernel_rfl) (by kernel_rfl) (by kernel_rfl) (by intro _ _ _ h; exact h) (Or.inl ⟨by rfl, ?hywP3⟩) HS0.out ?restwP3
            case hywP3 => (intro w hSw; go_simp; try with_reducible rfl)
            try simp only [Act.put, List.setIfInBounds_toArray, List.set_cons_zero, List.set_cons_succ]
            refine wpAnyT_one 1 (by kernel_rfl) (by simp only [List.getElem?_toArray, List.getElem?_cons_succ, List.getElem?_cons_zero]; exact rfl) (fun K hK => ?_)
            go_simp
            have HQ1 := (heap_alloc_old wd (.cells #[.int .u8 32] 5) (Array.getElem?_eq_some_iff.1 HQd).1).trans HQd
            have HS1 := Kept.mk (HSB.out _ HQ1)
            have hlit := heap_alloc_new wd (.cells #[.int .u8 32] 5)
            refine hK.out _ _ (fun _ => HS1.out) ?_
            clear hK K
            try simp only [Act.put, List.setIfInBounds_toArray, List.set_cons_zero, List.set_cons_succ]
            refine wpAnyT_one 2 (by kernel_rfl) (by simp only [List.getElem?_toArray, List.getElem?_cons_succ, List.getElem?_cons_zero]; exact rfl) (fun K hK => ?_)
            refine step_wp rfl (wp_append_own _ (.tmp 51) (.tmp 52) 62 rfl B 5 i0 (.int .u8 0) 1 1 Tryd.underlying62 hi hz0 hz1 hz2 rfl (by decide) v6 _ _ rfl (World.ownsRow.alloc S6d.own _) ⟨wd.heap.size, 0, none⟩ 1 1 [Value.int .u8 32] rfl rfl (one_cell _ _ _ hlit) (one_one _) (by simp only [maxLen]; omega) (by omega) (by have := S6d.bel.size; simp; omega) ?_)
            intro v7 w7 hown7 hg7 _
            have S7 := S6d.snoc hB1 (x := 32) hown7 (by simp <;> omega) (by first | rfl | simp) hg7 HHD.out
            have HQ7 := (hg7.block xb (Array.getElem?_eq_some_iff.1 HQ1).1 (own_ne2 (World.ownsRow.alloc S6d.own _) S6d.hd (.inl (by decide)) HQ1)).trans HQ1
            have HS7 := Kept.mk (HSB.out w7 HQ7)
            clear hown7 hg7 S6d HQ1 HQd hlit
            refine hK.out _ _ (fun _ => HS7.out) ?_
            clear hK K
            try simp only [Act.put, List.setIfInBounds_toArray, List.set_cons_zero, List.set_cons_succ]
            refine wpAnyT_one 4 (by kernel_rfl) (by simp only [List.getElem?_toArray, List.getElem?_cons_succ, List.getElem?_cons_zero]; exact rfl) (fun K hK => ?_)
            go_simp
            go_at_call 30
            refine (clocks_any ⟨tk, tp, t2, t3, t4, t5, t6, t7, t8, t9⟩ w7).mono ?_
            rintro e w8 ⟨nb2, rfl, hnb2, hb8⟩
            have S8 := S7.on hB1 hb8
            have HQ8 := (hb8.block xb (Array.getElem?_eq_some_iff.1 HQ7).1).trans HQ7
            have HS8 := Kept.mk (HSB.out w8 HQ8)
            have s8 : B ≤ w8.heap.size := by have := S8.bel.size; omega
            have n8 : (Y ++ [32]).length ≤ 40001 := by rw [List.length_append]; simp only [List.length_singleton]; omega
            clear hb8 S7 HQ7
            refine hK.out _ _ (fun _ => HS8.out) ?_
            clear hK K
            try simp only [Act.put, List.setIfInBounds_toArray, List.set_cons_zero, List.set_cons_succ]
            refine wpAnyT_one 5 (by kernel_rfl) (by simp only [List.getElem?_toArray, List.getElem?_cons_succ, List.getElem?_cons_zero]; exact rfl) (fun K hK => ?_)
            go_simp
            go_at_call 28
            refine (say_any B v7 (Y ++ [32]) wK nb2 (lkNums ⟨tk, tp, t2, t3, t4, t5, t6, t7, t8, t9⟩) w8 (HOD.out.2.2.2.2 (by simpa using HBG.out)) (by simp [lkNums]) (by decide) S8.own hB0 s8 (by omega) (HP.out.on S8.bel) hnb2 S8.hd (head_app (head_app HHD.out))).mono ?_
            rintro e w9 ⟨v9, rfl, h9⟩
            have S9 := h9.from S8.bel S8.ko
            have HS9 := Kept.mk (HSB.out w9 (h9.ko _ _ _ (.inl (by decide)) HQ8))
            clear h9 S8 HQ8 hnb2
            refine hK.out _ _ (fun _ => HS9.out) ?_
            clear hK K
            try simp only [Act.put, List.setIfInBounds_toArray, List.set_cons_zero, List.set_cons_succ]
            refine wpAnyT_take (i := 6) (v := ?vwP6) [6] (by simp only [List.getElem?_toArray, List.getElem?_cons_succ, List.getElem?_cons_zero]; exact rfl) (by kernel_rfl) (by kernel_rfl) (by kernel_rfl) (by kernel_rfl) (by intro _ _ _ h; exact h) (Or.inl ⟨by rfl, ?hywP6⟩) HS9.out ?restwP6
            case hywP6 => (intro w hSw; go_simp; try with_reducible rfl)
            try simp only [Act.put, List.setIfInBounds_toArray, List.set_cons_zero, List.set_cons_succ]
            refine wpAnyT_done (by kernel_rfl) ?_ _
            have HTX := Kept.mk (show cfgK c (k + 1 + 2) = Y ++ [32] ++ (wK ++ numsL (lkNums ⟨tk, tp, t2, t3, t4, t5, t6, t7, t8, t9⟩)) ++ [10] from by
              rw [show k + 1 + 2 = k + 2 + 1 from by omega, HX.out, HYE.out]
              unfold tkT
              rw [HWE.out, if_neg (show ¬ t7 < 0 from by have := HBG.out; simp at this; omega)]
              simp)
            have n9 : (Y ++ [32] ++ (wK ++ numsL (lkNums ⟨tk, tp, t2, t3, t4, t5, t6, t7, t8, t9⟩))).length ≤ 40100 := by
              have := nums_le (HOD.out.2.2.2.2 (by simpa using HBG.out)) (k := 3) (by simp [lkNums])
              rw [List.length_append]
              simp only [List.length_append, List.length_cons, List.length_nil] at *
              omega
            have HHD2 := Kept.mk (show (Y ++ [32] ++ (wK ++ numsL (lkNums ⟨tk, tp, t2, t3, t4, t5, t6, t7, t8, t9⟩))).head? = some (116 : UInt8) from head_app (head_app HHD.out))
            obtain ⟨Z, hZ⟩ : ∃ Z, Z = Y ++ [32] ++ (wK ++ numsL (lkNums ⟨tk, tp, t2, t3, t4, t5, t6, t7, t8, t9⟩)) := ⟨_, rfl⟩
            rw [← hZ] at S9 HTX n9 HHD2
            clear hZ HHD HS0 HS1 HS7 HS8 HS9 HSB n8
            have HHD := HHD2
            go_wp2_with (at_builtin; refine wpList_append_own _ rfl _ _ 62 rfl B 5 i0 (.int .u8 0) 1 1 Tryd.underlying62 hi hz0 hz1 hz2 rfl (by decide) _ _ _ rfl (World.ownsRow.alloc S9.own _) ⟨_, 0, none⟩ 1 1 [Value.int .u8 10] rfl rfl (by intro j u' hj; match j, hj with | 0, hj => simp at hj; subst hj; simp [Addr.add]) (by intro u' hu'; simp at hu'; subst hu'; rfl) (by simp only [maxLen]; omega) (by omega) (by have := S9.bel.size; simp; omega) ?_)
            intro v8 w8 hown8 hg8 _
            have S8 := (S9.snoc hB1 (x := 10) hown8 (by simp <;> omega) (by first | rfl | simp) hg8 HHD.out).txt HTX.out.symm
            clear hown8 hg8
            go_wp2
            go_roundw
            case rel => exact ⟨k + 1, v8, by omega, by go_num, rfl, S8⟩
            case measure => simp [intOf]; omega
        · have HWE := Kept.mk (show tkWord ⟨tk, tp, t2, t3, t4, t5, t6, t7, t8, t9⟩ = wQ from by rw [HWD.out, if_pos (by simpa using HBQ.out)])
          cases bg
          · go_wp2_with (go_at_call 29; refine HTK.out.mono ?_; rintro e w5 ⟨nb, rfl, hnb, hb5⟩; refine Hid.out ?_)
            refine Lib.hid ?_
            have S5 := HSQ.out.on hB1 hb5
            have s5 : B ≤ w5.heap.size := by have := S5.bel.size; omega
            have HQ5 := Kept.mk ((hb5.block wr.heap.size (by simp)).trans HQX.out)
            have HSY := Kept.mk (say_any B v X wQ nb (tkNums ⟨tk, tp, t2, t3, t4, t5, t6, t7, t8, t9⟩) w5 HOD.out.2.2.1 (by simp [tkNums]) (by decide) S5.own hB0 s5 (by omega) (HP.out.on S5.bel) hnb S5.hd (head_app HXH.out))
            clear hb5 hnb HTK
            go_wp2_with (go_at_call 28; refine HSY.out.mono ?_; rintro e w6 ⟨v6, rfl, h6⟩; refine Hid.out ?_)
            refine Lib.hid ?_
            have S6 := h6.from S5.bel S5.ko
            have HQ6 := Kept.mk (h6.ko _ _ _ (.inl (by decide)) HQ5.out)
            have x7 := cell_of_row _ _ 7 _ _ _ HQ6.out
            simp only [List.getElem?_toArray, List.getElem?_cons_zero, List.getElem?_cons_succ] at x7
            have HHD := Kept.mk (show (X ++ (wQ ++ numsL (tkNums ⟨tk, tp, t2, t3, t4, t5, t6, t7, t8, t9⟩))).head? = some 116 from head_app HXH.out)
            have n6 : (X ++ (wQ ++ numsL (tkNums ⟨tk, tp, t2, t3, t4, t5, t6, t7, t8, t9⟩))).length ≤ 40000 := by
              have := nums_le HOD.out.2.2.1 (k := 6) (by simp [tkNums])
              simp only [List.length_append, List.length_cons, List.length_nil]
              omega
            have s6 := S6.bel.size
            obtain ⟨Y, hY⟩ : ∃ Y, Y = X ++ (wQ ++ numsL (tkNums ⟨tk, tp, t2, t3, t4, t5, t6, t7, t8, t9⟩)) := ⟨_, rfl⟩
            rw [← hY] at S6 HHD n6
            have HYE := Kept.mk hY
            clear hY h6 HSY S5 s5 HQ5 e0 e1 e2 e3 e4 e5 e6 e7 e8 e9
            have HTX := Kept.mk (show cfgK c (k + 1 + 2) = Y ++ [10] from by
              rw [show k + 1 + 2 = k + 2 + 1 from by omega, HX.out, HYE.out]
              unfold tkT
              rw [HWE.out, if_pos (show t7 < 0 from by have := HBG.out; simp at this; omega)]
              simp)
            go_wp2_with (at_builtin; refine wpList_append_own _ rfl _ _ 62 rfl B 5 i0 (.int .u8 0) 1 1 Tryd.underlying62 hi hz0 hz1 hz2 rfl (by decide) _ _ _ rfl (World.ownsRow.alloc S6.own _) ⟨_, 0, none⟩ 1 1 [Value.int .u8 10] rfl rfl (by intro j u' hj; match j, hj with | 0, hj => simp at hj; subst hj; simp [Addr.add]) (by intro u' hu'; simp at hu'; subst hu'; rfl) (by simp only [maxLen]; omega) (by omega) (by have := S6.bel.size; simp; omega) ?_)
            intro v8 w8 hown8 hg8 _
            have S8 := (S6.snoc hB1 (x := 10) hown8 (by simp <;> omega) (by first | rfl | simp) hg8 HHD.out).txt HTX.out.symm
            clear hown8 hg8
            go_wp2
            go_roundw
            case rel => exact ⟨k + 1, v8, by omega, by go_num, rfl, S8⟩
            case measure => simp [intOf]; omega
          · go_wp2_with (go_at_call 29; refine HTK.out.mono ?_; rintro e w5 ⟨nb, rfl, hnb, hb5⟩; refine Hid.out ?_)
            refine Lib.hid ?_
            have S5 := HSQ.out.on hB1 hb5
            have s5 : B ≤ w5.heap.size := by have := S5.bel.size; omega
            have HQ5 := Kept.mk ((hb5.block wr.heap.size (by simp)).trans HQX.out)
            have HSY := Kept.mk (say_any B v X wQ nb (tkNums ⟨tk, tp, t2, t3, t4, t5, t6, t7, t8, t9⟩) w5 HOD.out.2.2.1 (by simp [tkNums]) (by decide) S5.own hB0 s5 (by omega) (HP.out.on S5.bel) hnb S5.hd (head_app HXH.out))
            clear hb5 hnb HTK
            go_wp2_with (go_at_call 28; refine HSY.out.mono ?_; rintro e w6 ⟨v6, rfl, h6⟩; refine Hid.out ?_)
            refine Lib.hid ?_
            have S6 := h6.from S5.bel S5.ko
            have HQ6 := Kept.mk (h6.ko _ _ _ (.inl (by decide)) HQ5.out)
            have x7 := cell_of_row _ _ 7 _ _ _ HQ6.out
            simp only [List.getElem?_toArray, List.getElem?_cons_zero, List.getElem?_cons_succ] at x7
            have HHD := Kept.mk (show (X ++ (wQ ++ numsL (tkNums ⟨tk, tp, t2, t3, t4, t5, t6, t7, t8, t9⟩))).head? = some 116 from head_app HXH.out)
            have n6 : (X ++ (wQ ++ numsL (tkNums ⟨tk, tp, t2, t3, t4, t5, t6, t7, t8, t9⟩))).length ≤ 40000 := by
              have := nums_le HOD.out.2.2.1 (k := 6) (by simp [tkNums])
              simp only [List.length_append, List.length_cons, List.length_nil]
              omega
            have s6 := S6.bel.size
            obtain ⟨Y, hY⟩ : ∃ Y, Y = X ++ (wQ ++ numsL (tkNums ⟨tk, tp, t2, t3, t4, t5, t6, t7, t8, t9⟩)) := ⟨_, rfl⟩
            rw [← hY] at S6 HHD n6
            have HYE := Kept.mk hY
            clear hY h6 HSY S5 s5 HQ5 e0 e1 e2 e3 e4 e5 e6 e7 e8 e9
            go_upto_region 14 with fail
            obtain ⟨xb, hxb⟩ : ∃ xb, xb = wr.heap.size := ⟨_, rfl⟩
            rw [← hxb] at HQ6 ⊢
            clear hxb x7
            have HSB := Kept.mk (fun (V : World) (HH : V.heap[xb]? = some (.cells #[.int .u8 tk, .int .i64 tp, .int .i64 t2, .int .i64 t3, .int .i64 t4, .int .i64 t5, .int .i64 t6, .int .i64 t7, .int .i64 t8, .int .i64 t9] 54 (0, 0))) => show (fun V : World => V.cell? ⟨xb, 0, none⟩ = some (.int .u8 tk) ∧ V.cell? ⟨xb, 1, none⟩ = some (.int .i64 tp) ∧ V.cell? ⟨xb, 2, none⟩ = some (.int .i64 t2) ∧ V.cell? ⟨xb, 3, none⟩ = some (.int .i64 t3) ∧ V.cell? ⟨xb, 4, none⟩ = some (.int .i64 t4) ∧ V.cell? ⟨xb, 5, none⟩ = some (.int .i64 t5) ∧ V.cell? ⟨xb, 6, none⟩ = some (.int .i64 t6) ∧ V.cell? ⟨xb, 7, none⟩ = some (.int .i64 t7) ∧ V.cell? ⟨xb, 8, none⟩ = some (.int .i64 t8) ∧ V.cell? ⟨xb, 9, none⟩ = some (.int .i64 t9)) V from ⟨cell_of_row _ _ 0 _ _ _ HH, cell_of_row _ _ 1 _ _ _ HH, cell_of_row _ _ 2 _ _ _ HH, cell_of_row _ _ 3 _ _ _ HH, cell_of_row _ _ 4 _ _ _ HH, cell_of_row _ _ 5 _ _ _ HH, cell_of_row _ _ 6 _ _ _ HH, cell_of_row _ _ 7 _ _ _ HH, cell_of_row _ _ 8 _ _ _ HH, cell_of_row _ _ 9 _ _ _ HH⟩)
            obtain ⟨wd, hwd⟩ : ∃ wd, wd = w6.drew := ⟨_, rfl⟩
            have S6d := S6.on hB1 (show Below w6.heap.size w6 wd from by rw [hwd]; exact (Below.refl _ _).drewN 1)
            have HQd : wd.heap[xb]? = some (.cells #[.int .u8 tk, .int .i64 tp, .int .i64 t2, .int .i64 t3, .int .i64 t4, .int .i64 t5, .int .i64 t6, .int .i64 t7, .int .i64 t8, .int .i64 t9] 54 (0, 0)) := by rw [hwd]; exact HQ6.out
            have HS0 := Kept.mk (HSB.out wd HQd)
            refine wp_region_late (fun V : World => V.cell? ⟨xb, 0, none⟩ = some (.int .u8 tk) ∧ V.cell? ⟨xb, 1, none⟩ = some (.int .i64 tp) ∧ V.cell? ⟨xb, 2, none⟩ = some (.int .i64 t2) ∧ V.cell? ⟨xb, 3, none⟩ = some (.int .i64 t3) ∧ V.cell? ⟨xb, 4, none⟩ = some (.int .i64 t4) ∧ V.cell? ⟨xb, 5, none⟩ = some (.int .i64 t5) ∧ V.cell? ⟨xb, 6, none⟩ = some (.int .i64 t6) ∧ V.cell? ⟨xb, 7, none⟩ = some (.int .i64 t7) ∧ V.cell? ⟨xb, 8, none⟩ = some (.int .i64 t8) ∧ V.cell? ⟨xb, 9, none⟩ = some (.int .i64 t9)) (fun _ => false) (by kernel_rfl) ?_
            rw [← hwd]
            clear hwd S6 HQ6
            refine wpAnyT_take (i := 0) (v := ?vwQ0) [0] (by simp only [List.getElem?_toArray, List.getElem?_cons_succ, List.getElem?_cons_zero]; exact rfl) (by kernel_rfl) (by kernel_rfl) (by kernel_rfl) (by kernel_rfl) (by intro _ _ _ h; exact h) (Or.inl ⟨by rfl, ?hywQ0⟩) HS0.out ?restwQ0
            case hywQ0 => (intro w hSw; go_simp; try with_reducible rfl)
            try simp only [Act.put, List.setIfInBounds_toArray, List.set_cons_zero, List.set_cons_succ]
            refine wpAnyT_take (i := 3) (v := ?vwQ3) [3] (by simp only [List.getElem?_toArray, List.getElem?_cons_succ, List.getElem?_cons_zero]; exact rfl) (by kernel_rfl) (by kernel_rfl) (by kernel_rfl) (by kernel_rfl) (by intro _ _ _ h; exact h) (Or.inl ⟨by rfl, ?hywQ3⟩) HS0.out ?restwQ3
            case hywQ3 => (intro w hSw; go_simp; try with_reducible rfl)
            try simp only [Act.put, List.setIfInBounds_toArray, List.set_cons_zero, List.set_cons_succ]
            refine wpAnyT_one 1 (by kernel_rfl) (by simp only [List.getElem?_toArray, List.getElem?_cons_succ, List.getElem?_cons_zero]; exact rfl) (fun K hK => ?_)
            go_simp
            have HQ1 := (heap_alloc_old wd (.cells #[.int .u8 32] 5) (Array.getElem?_eq_some_iff.1 HQd).1).trans HQd
            have HS1 := Kept.mk (HSB.out _ HQ1)
            have hlit := heap_alloc_new wd (.cells #[.int .u8 32] 5)
            refine hK.out _ _ (fun _ => HS1.out) ?_
            clear hK K
            try simp only [Act.put, List.setIfInBounds_toArray, List.set_cons_zero, List.set_cons_succ]
            refine wpAnyT_one 2 (by kernel_rfl) (by simp only [List.getElem?_toArray, List.getElem?_cons_succ, List.getElem?_cons_zero]; exact rfl) (fun K hK => ?_)
            refine step_wp rfl (wp_append_own _ (.tmp 51) (.tmp 52) 62 rfl B 5 i0 (.int .u8 0) 1 1 Tryd.underlying62 hi hz0 hz1 hz2 rfl (by decide) v6 _ _ rfl (World.ownsRow.alloc S6d.own _) ⟨wd.heap.size, 0, none⟩ 1 1 [Value.int .u8 32] rfl rfl (one_cell _ _ _ hlit) (one_one _) (by simp only [maxLen]; omega) (by omega) (by have := S6d.bel.size; simp; omega) ?_)
            intro v7 w7 hown7 hg7 _
            have S7 := S6d.snoc hB1 (x := 32) hown7 (by simp <;> omega) (by first | rfl | simp) hg7 HHD.out
            have HQ7 := (hg7.block xb (Array.getElem?_eq_some_iff.1 HQ1).1 (own_ne2 (World.ownsRow.alloc S6d.own _) S6d.hd (.inl (by decide)) HQ1)).trans HQ1
            have HS7 := Kept.mk (HSB.out w7 HQ7)
            clear hown7 hg7 S6d HQ1 HQd hlit
            refine hK.out _ _ (fun _ => HS7.out) ?_
            clear hK K
            try simp only [Act.put, List.setIfInBounds_toArray, List.set_cons_zero, List.set_cons_succ]
            refine wpAnyT_one 4 (by kernel_rfl) (by simp only [List.getElem?_toArray, List.getElem?_cons_succ, List.getElem?_cons_zero]; exact rfl) (fun K hK => ?_)
            go_simp
            go_at_call 30
            refine (clocks_any ⟨tk, tp, t2, t3, t4, t5, t6, t7, t8, t9⟩ w7).mono ?_
            rintro e w8 ⟨nb2, rfl, hnb2, hb8⟩
            have S8 := S7.on hB1 hb8
            have HQ8 := (hb8.block xb (Array.getElem?_eq_some_iff.1 HQ7).1).trans HQ7
            have HS8 := Kept.mk (HSB.out w8 HQ8)
            have s8 : B ≤ w8.heap.size := by have := S8.bel.size; omega
            have n8 : (Y ++ [32]).length ≤ 40001 := by rw [List.length_append]; simp only [List.length_singleton]; omega
            clear hb8 S7 HQ7
            refine hK.out _ _ (fun _ => HS8.out) ?_
            clear hK K
            try simp only [Act.put, List.setIfInBounds_toArray, List.set_cons_zero, List.set_cons_succ]
            refine wpAnyT_one 5 (by kernel_rfl) (by simp only [List.getElem?_toArray, List.getElem?_cons_succ, List.getElem?_cons_zero]; exact rfl) (fun K hK => ?_)
            go_simp
            go_at_call 28
            refine (say_any B v7 (Y ++ [32]) wK nb2 (lkNums ⟨tk, tp, t2, t3, t4, t5, t6, t7, t8, t9⟩) w8 (HOD.out.2.2.2.2 (by simpa using HBG.out)) (by simp [lkNums]) (by decide) S8.own hB0 s8 (by omega) (HP.out.on S8.bel) hnb2 S8.hd (head_app (head_app HHD.out))).mono ?_
            rintro e w9 ⟨v9, rfl, h9⟩
            have S9 := h9.from S8.bel S8.ko
            have HS9 := Kept.mk (HSB.out w9 (h9.ko _ _ _ (.inl (by decide)) HQ8))
            clear h9 S8 HQ8 hnb2
            refine hK.out _ _ (fun _ => HS9.out) ?_
            clear hK K
            try simp only [Act.put, List.setIfInBounds_toArray, List.set_cons_zero, List.set_cons_succ]
            refine wpAnyT_take (i := 6) (v := ?vwQ6) [6] (by simp only [List.getElem?_toArray, List.getElem?_cons_succ, List.getElem?_cons_zero]; exact rfl) (by kernel_rfl) (by kernel_rfl) (by kernel_rfl) (by kernel_rfl) (by intro _ _ _ h; exact h) (Or.inl ⟨by rfl, ?hywQ6⟩) HS9.out ?restwQ6
            case hywQ6 => (intro w hSw; go_simp; try with_reducible rfl)
            try simp only [Act.put, List.setIfInBounds_toArray, List.set_cons_zero, List.set_cons_succ]
            refine wpAnyT_done (by kernel_rfl) ?_ _
            have HTX := Kept.mk (show cfgK c (k + 1 + 2) = Y ++ [32] ++ (wK ++ numsL (lkNums ⟨tk, tp, t2, t3, t4, t5, t6, t7, t8, t9⟩)) ++ [10] from by
              rw [show k + 1 + 2 = k + 2 + 1 from by omega, HX.out, HYE.out]
              unfold tkT
              rw [HWE.out, if_neg (show ¬ t7 < 0 from by have := HBG.out; simp at this; omega)]
              simp)
            have n9 : (Y ++ [32] ++ (wK ++ numsL (lkNums ⟨tk, tp, t2, t3, t4, t5, t6, t7, t8, t9⟩))).length ≤ 40100 := by
              have := nums_le (HOD.out.2.2.2.2 (by simpa using HBG.out)) (k := 3) (by simp [lkNums])
              rw [List.length_append]
              simp only [List.length_append, List.length_cons, List.length_nil] at *
              omega
            have HHD2 := Kept.mk (show (Y ++ [32] ++ (wK ++ numsL (lkNums ⟨tk, tp, t2, t3, t4, t5, t6, t7, t8, t9⟩))).head? = some (116 : UInt8) from head_app (head_app HHD.out))
            obtain ⟨Z, hZ⟩ : ∃ Z, Z = Y ++ [32] ++ (wK ++ numsL (lkNums ⟨tk, tp, t2, t3, t4, t5, t6, t7, t8, t9⟩)) := ⟨_, rfl⟩
            rw [← hZ] at S9 HTX n9 HHD2
            clear hZ HHD HS0 HS1 HS7 HS8 HS9 HSB n8
            have HHD := HHD2
            go_wp2_with (at_builtin; refine wpList_append_own _ rfl _ _ 62 rfl B 5 i0 (.int .u8 0) 1 1 Tryd.underlying62 hi hz0 hz1 hz2 rfl (by decide) _ _ _ rfl (World.ownsRow.alloc S9.own _) ⟨_, 0, none⟩ 1 1 [Value.int .u8 10] rfl rfl (by intro j u' hj; match j, hj with | 0, hj => simp at hj; subst hj; simp [Addr.add]) (by intro u' hu'; simp at hu'; subst hu'; rfl) (by simp only [maxLen]; omega) (by omega) (by have := S9.bel.size; simp; omega) ?_)
            intro v8 w8 hown8 hg8 _
            have S8 := (S9.snoc hB1 (x := 10) hown8 (by simp <;> omega) (by first | rfl | simp) hg8 HHD.out).txt HTX.out.symm
            clear hown8 hg8
            go_wp2
            go_roundw
            case rel => exact ⟨k + 1, v8, by omega, by go_num, rfl, S8⟩
            case measure => simp [intOf]; omega
      · obtain ⟨c0, c1, c2, c3, c4, c5⟩ := HBX1.out wr hS.bel
        have hkk : k = c.ts.length := by omega
        have HSE := Kept.mk (hS.txt (show cfgK c (k + 2) = cfgK c (c.ts.length + 0 + 2) from by rw [hkk]))
        clear hkk hS
        go_wp2
        go_loopw [5, 64] (fun s t wx => ∃ (k2 : Nat) (v : Value), k2 ≤ c.ls.length ∧ t = .int .i64 k2 ∧ s = v ∧ PG B w1 wx v (cfgK c (c.ts.length + k2 + 2))) (fun _ t _ => c.ls.length - (intOf t).toNat)
        case atStart => exact ⟨0, _, by omega, rfl, rfl, HSE.out⟩
        case round =>
          clear c0 c1 c2 c3 c4 c5 HSE
          obtain ⟨k2, v, hk2, rfl, hve, hS⟩ := hrel
          obtain rfl := hve.symm
          have hsz := hS.bel.size
          by_cases hlt2 : k2 < c.ls.length
          · have ik : (k2 : Int) < (c.ls.length : Int) := by omega
            have ih : (k2 : Int) < (c.hs.length : Int) := by have := HNH.out; omega
            have ihn : k2 < c.hs.length := by have := HNH.out; omega
            obtain ⟨x, hx⟩ := some_at hlt2
            obtain ⟨y, hy⟩ := some_at ihn
            obtain ⟨b1, o1, rfl, hl1, hc1⟩ := (HL.out.below hS.bel) (by omega)
            obtain ⟨b3, o3, rfl, hl3, hc3⟩ := (HH.out.below hS.bel) (by omega)
            obtain ⟨e0, e1, e2, e3⟩ := hc1 k2 x hx
            obtain ⟨d0, d1, d2, d3⟩ := hc3 k2 y hy
            have q5 := Kept.mk (HBX1.out wr hS.bel).2.2.2.2.2
            have HTN := Kept.mk (told_tn (HOK.out.ls k2 x y hx hy))
            have HX := Kept.mk (cfgK_succ (cfgL_line hx hy))
            have hln := cfgK_len HOK.out (c.ts.length + k2 + 2)
            have HXH0 := Kept.mk (cfgK_head c (c.ts.length + k2 + 1))
            obtain ⟨xa, xc, xd, xe⟩ := x
            obtain ⟨ya, yb, yc, yd⟩ := y
            simp only at e0 e1 e2 e3 d0 d1 d2 d3
            have HSV := Kept.mk (fun W => served_any ⟨xa, xc, xd, xe⟩ ⟨ya, yb, yc, yd⟩ W)
            have kb1 : b1 < wr.heap.size := by omega
            have kb3 : b3 < wr.heap.size := by omega
            have hsw : w.heap.size < wr.heap.size := by have := HWB.out; omega
            have k64 : k2 < 64 := by omega
            obtain ⟨X, hX⟩ : ∃ X, X = cfgK c (c.ts.length + k2 + 2) := ⟨_, rfl⟩
            rw [← hX] at hS HX hln
            have HXH := Kept.mk (show X.head? = some 116 from by rw [hX]; exact HXH0.out)
            have HSS := Kept.mk hS
            clear hx hy hc1 hc3 hX HXH0 hS
            go_upto_region 20 with fail
            obtain ⟨xb, hxb⟩ : ∃ xb, xb = wr.heap.size := ⟨_, rfl⟩
            obtain ⟨wq, hwq⟩ : ∃ wq, wq = wr.alloc (.cells #[.int .i64 xa, .int .i64 xc, .int .i64 xd, .int .i64 xe] 79) := ⟨_, rfl⟩
            have hq : wq.heap[xb]? = some (.cells #[.int .i64 xa, .int .i64 xc, .int .i64 xd, .int .i64 xe] 79 (0, 0)) := by rw [hwq, hxb]; exact heap_alloc_new _ _
            have hbq : Below wr.heap.size wr wq := by rw [hwq]; exact below_box _ _
            rw [← hwq, ← hxb]
            clear hwq
            obtain ⟨wd, hwd⟩ : ∃ wd, wd = wq.drew := ⟨_, rfl⟩
            have hbd : Below wr.heap.size wr wd := by rw [hwd]; exact hbq.drewN 1
            have hqd : wd.heap[xb]? = some (.cells #[.int .i64 xa, .int .i64 xc, .int .i64 xd, .int .i64 xe] 79 (0, 0)) := by rw [hwd]; exact hq
            have HSB := Kept.mk (fun (V : World) (hV : Below B w1 V) (hx : V.heap[xb]? = some (.cells #[.int .i64 xa, .int .i64 xc, .int .i64 xd, .int .i64 xe] 79 (0, 0))) => show (fun V : World => V.cell? ⟨xb, 0, none⟩ = some (.int .i64 xa) ∧ V.cell? ⟨xb, 1, none⟩ = some (.int .i64 xc) ∧ V.cell? ⟨xb, 2, none⟩ = some (.int .i64 xd) ∧ V.cell? ⟨xb, 3, none⟩ = some (.int .i64 xe) ∧ V.cell? ⟨w.heap.size, 5, none⟩ = some (.slice (some ⟨b3, o3, none⟩) c.hs.length ch) ∧ V.cell? ⟨b3, o3 + k2 * 4, none⟩ = some (.int .i64 ya) ∧ V.cell? ⟨b3, o3 + k2 * 4 + 1, none⟩ = some (.int .i64 yb) ∧ V.cell? ⟨b3, o3 + k2 * 4 + 2, none⟩ = some (.int .i64 yc) ∧ V.cell? ⟨b3, o3 + k2 * 4 + 3, none⟩ = some (.int .i64 yd)) V from by
              have g : ∀ b i, b < B → V.cell? ⟨b, i, none⟩ = wr.cell? ⟨b, i, none⟩ := fun b i hb => (hV.cell (p := ⟨b, i, none⟩) hb).trans (HSS.out.bel.cell (p := ⟨b, i, none⟩) hb).symm
              exact ⟨cell_of_row _ _ 0 _ _ _ hx, cell_of_row _ _ 1 _ _ _ hx, cell_of_row _ _ 2 _ _ _ hx, cell_of_row _ _ 3 _ _ _ hx, (g _ _ HWB.out).trans q5.out, (g _ _ hl3).trans d0, (g _ _ hl3).trans d1, (g _ _ hl3).trans d2, (g _ _ hl3).trans d3⟩)
            have Sd := HSS.out.on hB1 hbd
            have HS0 := Kept.mk (HSB.out wd Sd.bel hqd)
            refine wp_region_late (fun V : World => V.cell? ⟨xb, 0, none⟩ = some (.int .i64 xa) ∧ V.cell? ⟨xb, 1, none⟩ = some (.int .i64 xc) ∧ V.cell? ⟨xb, 2, none⟩ = some (.int .i64 xd) ∧ V.cell? ⟨xb, 3, none⟩ = some (.int .i64 xe) ∧ V.cell? ⟨w.heap.size, 5, none⟩ = some (.slice (some ⟨b3, o3, none⟩) c.hs.length ch) ∧ V.cell? ⟨b3, o3 + k2 * 4, none⟩ = some (.int .i64 ya) ∧ V.cell? ⟨b3, o3 + k2 * 4 + 1, none⟩ = some (.int .i64 yb) ∧ V.cell? ⟨b3, o3 + k2 * 4 + 2, none⟩ = some (.int .i64 yc) ∧ V.cell? ⟨b3, o3 + k2 * 4 + 3, none⟩ = some (.int .i64 yd)) (fun _ => false) (by kernel_rfl) ?_
            rw [← hwd]
            have HTX := Kept.mk (show cfgK c (c.ts.length + (k2 + 1) + 2) = X ++ (wL ++ numsL (svNums ⟨xa, xc, xd, xe⟩ ⟨ya, yb, yc, yd⟩)) ++ [10] from by
              rw [show c.ts.length + (k2 + 1) + 2 = c.ts.length + k2 + 2 + 1 from by omega, HX.out]
              unfold svT
              simp)
            have n9 : (X ++ (wL ++ numsL (svNums ⟨xa, xc, xd, xe⟩ ⟨ya, yb, yc, yd⟩))).length ≤ 40000 := by
              have := nums_le HTN.out (k := 8) (by simp [svNums])
              simp only [List.length_append, List.length_cons, List.length_nil]
              omega
            have HHD := Kept.mk (show (X ++ (wL ++ numsL (svNums ⟨xa, xc, xd, xe⟩ ⟨ya, yb, yc, yd⟩))).head? = some (116 : UInt8) from head_app HXH.out)
            clear hwd hq hbq hxb e0 e1 e2 e3 d0 d1 d2 d3 hbd HSS
            refine wpAnyT_take (i := 0) (v := ?v0) [0] (by simp only [List.getElem?_toArray, List.getElem?_cons_succ, List.getElem?_cons_zero]; exact rfl) (by kernel_rfl) (by kernel_rfl) (by kernel_rfl) (by kernel_rfl) (by intro _ _ _ h; exact h) (Or.inl ⟨by rfl, ?hy0⟩) HS0.out ?rest0
            case hy0 => (intro w hSw; go_simp; try with_reducible rfl)
            try simp only [Act.put, List.setIfInBounds_toArray, List.set_cons_zero, List.set_cons_succ]
            refine wpAnyT_take (i := 1) (v := ?v1) [1] (by simp only [List.getElem?_toArray, List.getElem?_cons_succ, List.getElem?_cons_zero]; exact rfl) (by kernel_rfl) (by kernel_rfl) (by kernel_rfl) (by kernel_rfl) (by intro _ _ _ h; exact h) (Or.inl ⟨by rfl, ?hy1⟩) HS0.out ?rest1
            case hy1 => (intro w hSw; go_simp; try with_reducible rfl)
            try simp only [Act.put, List.setIfInBounds_toArray, List.set_cons_zero, List.set_cons_succ]
            refine wpAnyT_take (i := 2) (v := ?v2) [2] (by simp only [List.getElem?_toArray, List.getElem?_cons_succ, List.getElem?_cons_zero]; exact rfl) (by kernel_rfl) (by kernel_rfl) (by kernel_rfl) (by kernel_rfl) (by intro _ _ _ h; exact h) (Or.inl ⟨by rfl, ?hy2⟩) HS0.out ?rest2
            case hy2 => (intro w hSw; go_simp; try with_reducible rfl)
            try simp only [Act.put, List.setIfInBounds_toArray, List.set_cons_zero, List.set_cons_succ]
            refine wpAnyT_take (i := 3) (v := ?v3) [3] (by simp only [List.getElem?_toArray, List.getElem?_cons_succ, List.getElem?_cons_zero]; exact rfl) (by kernel_rfl) (by kernel_rfl) (by kernel_rfl) (by kernel_rfl) (by intro _ _ _ h; exact h) (Or.inl ⟨by rfl, ?hy3⟩) HS0.out ?rest3
            case hy3 => (intro w hSw; go_simp; try with_reducible rfl)
            try simp only [Act.put, List.setIfInBounds_toArray, List.set_cons_zero, List.set_cons_succ]
            refine wpAnyT_take (i := 4) (v := ?v4) [4] (by simp only [List.getElem?_toArray, List.getElem?_cons_succ, List.getElem?_cons_zero]; exact rfl) (by kernel_rfl) (by kernel_rfl) (by kernel_rfl) (by kernel_rfl) (by intro _ _ _ h; exact h) (Or.inl ⟨by rfl, ?hy4⟩) HS0.out ?rest4
            case hy4 => (intro w hSw; go_simp; try with_reducible rfl)
            try simp only [Act.put, List.setIfInBounds_toArray, List.set_cons_zero, List.set_cons_succ]
            refine wpAnyT_take (i := 5) (v := ?v5) [5] (by simp only [List.getElem?_toArray, List.getElem?_cons_succ, List.getElem?_cons_zero]; exact rfl) (by kernel_rfl) (by kernel_rfl) (by kernel_rfl) (by kernel_rfl) (by intro _ _ _ h; exact h) (Or.inl ⟨by rfl, ?hy5⟩) HS0.out ?rest5
            case hy5 => (intro w hSw; go_simp; try with_reducible rfl)
            try simp only [Act.put, List.setIfInBounds_toArray, List.set_cons_zero, List.set_cons_succ]
            refine wpAnyT_take (i := 6) (v := ?v6) [6] (by simp only [List.getElem?_toArray, List.getElem?_cons_succ, List.getElem?_cons_zero]; exact rfl) (by kernel_rfl) (by kernel_rfl) (by kernel_rfl) (by kernel_rfl) (by intro _ _ _ h; exact h) (Or.inl ⟨by rfl, ?hy6⟩) HS0.out ?rest6
            case hy6 => (intro w hSw; go_simp; try with_reducible rfl)
            try simp only [Act.put, List.setIfInBounds_toArray, List.set_cons_zero, List.set_cons_succ]
            refine wpAnyT_two 7 9 (by kernel_rfl) (by simp only [List.getElem?_toArray, List.getElem?_cons_succ, List.getElem?_cons_zero]; exact rfl) (by simp only [List.getElem?_toArray, List.getElem?_cons_succ, List.getElem?_cons_zero]; exact rfl) (fun K hK => ?_) (fun K hK => ?_)
            · go_simp
              go_at_call 31
              refine (HSV.out _).mono ?_
              rintro e w5 ⟨nb, rfl, hnb, hb5⟩
              have S5 := Sd.on hB1 hb5
              have s5 : B ≤ w5.heap.size := by have := S5.bel.size; omega
              have HQ5 := (hb5.block xb (Array.getElem?_eq_some_iff.1 hqd).1).trans hqd
              have HS5 := Kept.mk (HSB.out w5 S5.bel HQ5)
              clear hb5
              refine hK.out _ _ (fun _ => HS5.out) ?_
              clear hK K
              try simp only [Act.put, List.setIfInBounds_toArray, List.set_cons_zero, List.set_cons_succ]
              refine wpAnyT_two 8 9 (by kernel_rfl) (by simp only [List.getElem?_toArray, List.getElem?_cons_succ, List.getElem?_cons_zero]; exact rfl) (by simp only [List.getElem?_toArray, List.getElem?_cons_succ, List.getElem?_cons_zero]; exact rfl) (fun K hK => ?_) (fun K hK => ?_)
              · go_simp
                go_at_call 28
                refine (say_any B v X wL nb (svNums ⟨xa, xc, xd, xe⟩ ⟨ya, yb, yc, yd⟩) _ HTN.out (by simp [svNums]) (by decide) S5.own hB0 (by have := S5.bel.size; omega) (by omega) (HP.out.on S5.bel) hnb S5.hd (head_app HXH.out)).mono ?_
                rintro e w9 ⟨v9, rfl, h9⟩
                have S9 := h9.from S5.bel S5.ko
                have HQ9 := h9.ko _ _ _ (.inl (by decide)) HQ5
                have HS9 := Kept.mk (HSB.out w9 S9.bel HQ9)
                refine hK.out _ _ (fun _ => HS9.out) ?_
                clear hK K
                try simp only [Act.put, List.setIfInBounds_toArray, List.set_cons_zero, List.set_cons_succ]
                refine wpAnyT_one 9 (by kernel_rfl) (by simp only [List.getElem?_toArray, List.getElem?_cons_succ, List.getElem?_cons_zero]; exact rfl) (fun K hK => ?_)
                go_simp
                have S10 := S9.on hB1 (below_box w9 (.cells #[.int .u8 10] 5))
                have HQ10 := (heap_alloc_old w9 (.cells #[.int .u8 10] 5) (Array.getElem?_eq_some_iff.1 HQ9).1).trans HQ9
                have HS10 := Kept.mk (HSB.out _ S10.bel HQ10)
                have hlit := heap_alloc_new w9 (.cells #[.int .u8 10] 5)
                refine hK.out _ _ (fun _ => HS10.out) ?_
                clear hK K
                try simp only [Act.put, List.setIfInBounds_toArray, List.set_cons_zero, List.set_cons_succ]
                refine wpAnyT_one 10 (by kernel_rfl) (by simp only [List.getElem?_toArray, List.getElem?_cons_succ, List.getElem?_cons_zero]; exact rfl) (fun K hK => ?_)
                refine step_wp rfl (wp_append_own _ (.tmp 77) (.tmp 78) 62 rfl B 5 i0 (.int .u8 0) 1 1 Tryd.underlying62 hi hz0 hz1 hz2 rfl (by decide) v9 _ _ rfl S10.own ⟨w9.heap.size, 0, none⟩ 1 1 [Value.int .u8 10] rfl rfl (one_cell _ _ _ hlit) (one_one _) (by simp only [maxLen]; omega) (by omega) (by have := S10.bel.size; omega) ?_)
                intro v11 w11 hown11 hg11 _
                have SF := (S10.put hB1 (x := 10) hown11 hg11 HHD.out).txt HTX.out.symm
                have HQF := (hg11.block xb (Array.getElem?_eq_some_iff.1 HQ10).1 (own_ne2 S10.own S10.hd (.inl (by decide)) HQ10)).trans HQ10
                have HSF := Kept.mk (HSB.out w11 SF.bel HQF)
                refine hK.out _ _ (fun _ => HSF.out) ?_
                clear hK K
                try simp only [Act.put, List.setIfInBounds_toArray, List.set_cons_zero, List.set_cons_succ]
                refine wpAnyT_take (i := 11) (v := ?va11) [11] (by simp only [List.getElem?_toArray, List.getElem?_cons_succ, List.getElem?_cons_zero]; exact rfl) (by kernel_rfl) (by kernel_rfl) (by kernel_rfl) (by kernel_rfl) (by intro _ _ _ h; exact h) (Or.inl ⟨by rfl, ?hya11⟩) HSF.out ?resta11
                case hya11 => (intro w hSw; go_simp; try with_reducible rfl)
                try simp only [Act.put, List.setIfInBounds_toArray, List.set_cons_zero, List.set_cons_succ]
                refine wpAnyT_done (by kernel_rfl) ?_ _
                have SFK := Kept.mk SF
                clear SF HQF HSF hown11 hg11
                go_wp2
                go_roundw
                case rel => exact ⟨k2 + 1, v11, by omega, by go_num, rfl, SFK.out⟩
                case measure => simp [intOf]; omega
              · go_simp
                have S7 := S5.on hB1 (below_box w5 (.cells #[.int .u8 10] 5))
                have HQ7 := (heap_alloc_old w5 (.cells #[.int .u8 10] 5) (Array.getElem?_eq_some_iff.1 HQ5).1).trans HQ5
                have HS7 := Kept.mk (HSB.out _ S7.bel HQ7)
                have hlit := heap_alloc_new w5 (.cells #[.int .u8 10] 5)
                have hnb7 := (heap_alloc_old w5 (.cells #[.int .u8 10] 5) (Array.getElem?_eq_some_iff.1 hnb).1).trans hnb
                refine hK.out _ _ (fun _ => HS7.out) ?_
                clear hK K
                try simp only [Act.put, List.setIfInBounds_toArray, List.set_cons_zero, List.set_cons_succ]
                refine wpAnyT_one 8 (by kernel_rfl) (by simp only [List.getElem?_toArray, List.getElem?_cons_succ, List.getElem?_cons_zero]; exact rfl) (fun K hK => ?_)
                go_simp
                go_at_call 28
                refine (say_any B v X wL nb (svNums ⟨xa, xc, xd, xe⟩ ⟨ya, yb, yc, yd⟩) _ HTN.out (by simp [svNums]) (by decide) S7.own hB0 (by have := S7.bel.size; omega) (by omega) (HP.out.on S7.bel) hnb7 S7.hd (head_app HXH.out)).mono ?_
                rintro e w9 ⟨v9, rfl, h9⟩
                have S9 := h9.from S7.bel S7.ko
                have HQ9 := h9.ko _ _ _ (.inl (by decide)) HQ7
                have hlit9 := h9.ko _ _ _ (.inr (by simp)) hlit
                have HS9 := Kept.mk (HSB.out w9 S9.bel HQ9)
                refine hK.out _ _ (fun _ => HS9.out) ?_
                clear hK K
                try simp only [Act.put, List.setIfInBounds_toArray, List.set_cons_zero, List.set_cons_succ]
                refine wpAnyT_one 10 (by kernel_rfl) (by simp only [List.getElem?_toArray, List.getElem?_cons_succ, List.getElem?_cons_zero]; exact rfl) (fun K hK => ?_)
                refine step_wp rfl (wp_append_own _ (.tmp 77) (.tmp 78) 62 rfl B 5 i0 (.int .u8 0) 1 1 Tryd.underlying62 hi hz0 hz1 hz2 rfl (by decide) v9 _ _ rfl S9.own ⟨w5.heap.size, 0, none⟩ 1 1 [Value.int .u8 10] rfl rfl (one_cell _ _ _ hlit9) (one_one _) (by simp only [maxLen]; omega) (by omega) (by have := S9.bel.size; omega) ?_)
                intro v11 w11 hown11 hg11 _
                have SF := (S9.put hB1 (x := 10) hown11 hg11 HHD.out).txt HTX.out.symm
                have HQF := (hg11.block xb (Array.getElem?_eq_some_iff.1 HQ9).1 (own_ne2 S9.own S9.hd (.inl (by decide)) HQ9)).trans HQ9
                have HSF := Kept.mk (HSB.out w11 SF.bel HQF)
                refine hK.out _ _ (fun _ => HSF.out) ?_
                clear hK K
                try simp only [Act.put, List.setIfInBounds_toArray, List.set_cons_zero, List.set_cons_succ]
                refine wpAnyT_take (i := 11) (v := ?vb11) [11] (by simp only [List.getElem?_toArray, List.getElem?_cons_succ, List.getElem?_cons_zero]; exact rfl) (by kernel_rfl) (by kernel_rfl) (by kernel_rfl) (by kernel_rfl) (by intro _ _ _ h; exact h) (Or.inl ⟨by rfl, ?hyb11⟩) HSF.out ?restb11
                case hyb11 => (intro w hSw; go_simp; try with_reducible rfl)
                try simp only [Act.put, List.setIfInBounds_toArray, List.set_cons_zero, List.set_cons_succ]
                refine wpAnyT_done (by kernel_rfl) ?_ _
                have SFK := Kept.mk SF
                clear SF HQF HSF hown11 hg11
                go_wp2
                go_roundw
                case rel => exact ⟨k2 + 1, v11, by omega, by go_num, rfl, SFK.out⟩
                case measure => simp [intOf]; omega
            · go_simp
              have S1 := Sd.on hB1 (below_box wd (.cells #[.int .u8 10] 5))
              have HQ1 := (heap_alloc_old wd (.cells #[.int .u8 10] 5) (Array.getElem?_eq_some_iff.1 hqd).1).trans hqd
              have HS1 := Kept.mk (HSB.out _ S1.bel HQ1)
              have hlit := heap_alloc_new wd (.cells #[.int .u8 10] 5)
              refine hK.out _ _ (fun _ => HS1.out) ?_
              clear hK K
              try simp only [Act.put, List.setIfInBounds_toArray, List.set_cons_zero, List.set_cons_succ]
              refine wpAnyT_one 7 (by kernel_rfl) (by simp only [List.getElem?_toArray, List.getElem?_cons_succ, List.getElem?_cons_zero]; exact rfl) (fun K hK => ?_)
              go_simp
              go_at_call 31
              refine (HSV.out _).mono ?_
              rintro e w5 ⟨nb, rfl, hnb, hb5⟩
              have S5 := S1.on hB1 hb5
              have s5 : B ≤ w5.heap.size := by have := S5.bel.size; omega
              have HQ5 := (hb5.block xb (Array.getElem?_eq_some_iff.1 HQ1).1).trans HQ1
              have hlit5 := (hb5.block _ (Array.getElem?_eq_some_iff.1 hlit).1).trans hlit
              have HS5 := Kept.mk (HSB.out w5 S5.bel HQ5)
              clear hb5
              refine hK.out _ _ (fun _ => HS5.out) ?_
              clear hK K
              try simp only [Act.put, List.setIfInBounds_toArray, List.set_cons_zero, List.set_cons_succ]
              refine wpAnyT_one 8 (by kernel_rfl) (by simp only [List.getElem?_toArray, List.getElem?_cons_succ, List.getElem?_cons_zero]; exact rfl) (fun K hK => ?_)
              go_simp
              go_at_call 28
              refine (say_any B v X wL nb (svNums ⟨xa, xc, xd, xe⟩ ⟨ya, yb, yc, yd⟩) _ HTN.out (by simp [svNums]) (by decide) S5.own hB0 (by have := S5.bel.size; omega) (by omega) (HP.out.on S5.bel) hnb S5.hd (head_app HXH.out)).mono ?_
              rintro e w9 ⟨v9, rfl, h9⟩
              have S9 := h9.from S5.bel S5.ko
              have HQ9 := h9.ko _ _ _ (.inl (by decide)) HQ5
              have hlit9 := h9.ko _ _ _ (.inr (by simp)) hlit5
              have HS9 := Kept.mk (HSB.out w9 S9.bel HQ9)
              refine hK.out _ _ (fun _ => HS9.out) ?_
              clear hK K
              try simp only [Act.put, List.setIfInBounds_toArray, List.set_cons_zero, List.set_cons_succ]
              refine wpAnyT_one 10 (by kernel_rfl) (by simp only [List.getElem?_toArray, List.getElem?_cons_succ, List.getElem?_cons_zero]; exact rfl) (fun K hK => ?_)
              refine step_wp rfl (wp_append_own _ (.tmp 77) (.tmp 78) 62 rfl B 5 i0 (.int .u8 0) 1 1 Tryd.underlying62 hi hz0 hz1 hz2 rfl (by decide) v9 _ _ rfl S9.own ⟨wd.heap.size, 0, none⟩ 1 1 [Value.int .u8 10] rfl rfl (one_cell _ _ _ hlit9) (one_one _) (by simp only [maxLen]; omega) (by omega) (by have := S9.bel.size; omega) ?_)
              intro v11 w11 hown11 hg11 _
              have SF := (S9.put hB1 (x := 10) hown11 hg11 HHD.out).txt HTX.out.symm
              have HQF := (hg11.block xb (Array.getElem?_eq_some_iff.1 HQ9).1 (own_ne2 S9.own S9.hd (.inl (by decide)) HQ9)).trans HQ9
              have HSF := Kept.mk (HSB.out w11 SF.bel HQF)
              refine hK.out _ _ (fun _ => HSF.out) ?_
              clear hK K
              try simp only [Act.put, List.setIfInBounds_toArray, List.set_cons_zero, List.set_cons_succ]
              refine wpAnyT_take (i := 11) (v := ?vc11) [11] (by simp only [List.getElem?_toArray, List.getElem?_cons_succ, List.getElem?_cons_zero]; exact rfl) (by kernel_rfl) (by kernel_rfl) (by kernel_rfl) (by kernel_rfl) (by intro _ _ _ h; exact h) (Or.inl ⟨by rfl, ?hyc11⟩) HSF.out ?restc11
              case hyc11 => (intro w hSw; go_simp; try with_reducible rfl)
              try simp only [Act.put, List.setIfInBounds_toArray, List.set_cons_zero, List.set_cons_succ]
              refine wpAnyT_done (by kernel_rfl) ?_ _
              have SFK := Kept.mk SF
              clear SF HQF HSF hown11 hg11
              go_wp2
              go_roundw
              case rel => exact ⟨k2 + 1, v11, by omega, by go_num, rfl, SFK.out⟩
              case measure => simp [intOf]; omega
          · have hkk : k2 = c.ls.length := by omega
            have HSE := Kept.mk (hS.txt (show cfgK c (c.ts.length + k2 + 2) = cfgT c from by rw [hkk]; exact cfgK_all HNH.out))
            have HBE := Kept.mk (HBF.out wr hS.bel)
            clear hkk hS
            obtain ⟨TX, hTX⟩ : ∃ TX, TX = cfgT c := ⟨_, rfl⟩
            rw [← hTX] at HSE
            have HTXE := Kept.mk hTX
            clear hTX
            rcases OB.cases HSE.out.own with ⟨rfl, h2⟩ | ⟨g, cp, rfl, hcell⟩
            · have H2 := Kept.mk h2
              clear h2
              have hcv : (convert 62 9 (.slice none 0 0)).run Tryd.prog wr = .ok (.string ⟨#[]⟩) wr := by
                rw [run_convert_bytes_string wr 62 9 5 none 0 0 Tryd.underlying62 Tryd.underlying5 Tryd.underlying9]
                rfl
              go_wp2
              go_ret2
              refine ⟨HBE.out, .inl ⟨HOK.out, ?_⟩⟩
              rw [← HTXE.out, H2.out]
              rfl
            · have hcv := run_convert_bytes_back (P := Tryd.prog) wr 62 9 5 ⟨g, 0, none⟩ cp TX Tryd.underlying62 Tryd.underlying5 Tryd.underlying9 hcell
              go_wp2
              clear hcv hcell
              go_ret2
              refine ⟨HBE.out, .inl ⟨HOK.out, ?_⟩⟩
              rw [← HTXE.out]
              rfl
  · have HC := Kept.mk (HCK.mono (R' := fun e w' => e = .returned (.int .i64 2) ∧ Below W1.heap.size W1 w') (fun e w' h => by
      rcases h with ⟨h1, ⟨h2, _⟩ | ⟨_, h2⟩⟩
      · exact absurd h2 hok
      · exact ⟨h2, h1⟩))
    have HNO := Kept.mk hok
    have HS1 := Kept.mk s1
    rw [hW1] at HC
    clear HCK hT1 hL1 hH1 hP1 s1 hok
    go_enter Tryd.func11, Tryd.ntmps11
    go_wp2_with (go_at_call 27; refine HC.out.mono ?_; rintro e w1 ⟨rfl, hb1⟩; refine Hid.out ?_)
    refine Lib.hid ?_
    rw [← hW1] at hb1
    go_wp2
    go_ret2
    exact ⟨HB1.out.trans (hb1.mono HB1.out.size), .inr ⟨HNO.out, rfl⟩⟩
end Go.Proofs.YtfneloplbkjbhaaDoor
