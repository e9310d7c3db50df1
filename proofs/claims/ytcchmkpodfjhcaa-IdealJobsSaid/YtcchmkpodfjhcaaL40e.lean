/-
  The law IdealJobs of vergelaw40: whatever a configuration and marks are, there are the jobs that the document says, or none; every argument reads afterwards as before. No condition.
-/
import Derived.Test.YtcchmkpodfjhcaaK6
namespace Go.Proofs.Ytcchmkpodfjhcaa.idealJobs
open Go.ChangeShapes Go.WideShapes Go.ChangeAt Go.RowKit
set_option linter.unusedVariables false
theorem leaves_tk : leaves Try.prog 3 152 = some [some .u8, some .i64, some .i64, some .i64, some .i64, some .i64, some .i64, some .i64, some .i64, some .i64] := by kernel_rfl
theorem leaves_mk : leaves Try.prog 3 155 = some [some .i64, some .u8, some .i64, some .i64] := by kernel_rfl
theorem leaves_tm : leaves Try.prog 3 96 = some [some .i64, some .i64] := by kernel_rfl
theorem cells_tm : Try.prog.cellsOf 96 = 2 := by kernel_rfl
theorem cells_i64 : Try.prog.cellsOf 2 = 1 := by kernel_rfl
theorem cells_ts : Try.prog.cellsOf 97 = 1 := by kernel_rfl
theorem cells_tk : Try.prog.cellsOf 152 = 10 := by kernel_rfl
theorem cells_cfg : Try.prog.cellsOf 101 = 6 := by kernel_rfl
section
variable {H : Type} {enc : TypeId × Value → H} {w : World} {base : Nat} {spare : Nat → Bool} {held : Bool}
/-- Tasks. -/
theorem rT_of_trod {fuel : Nat} {c : Value} {x : DataW H × List MemPlace} (h : DataW.trod enc Try.prog w base spare held fuel 97 [c] = some x) : ∃ (A : Option Addr) (ts : List Tk) (cap : Nat), c = .slice A ts.length cap ∧ RT w w.heap.size A ts ∧ ts.length ≤ 9223372036854775807 := by
  rcases Go.Deep.open_slice Try.underlying97 h with ⟨h1, _⟩ | ⟨a, len, cap, m, n', D, Pl, h1, hb, hle, hmax, hm, _, hx⟩
  · simp only [List.cons.injEq, and_true] at h1
    rw [h1]
    exact ⟨none, [], 0, rfl, fun h => by simp at h, by simp⟩
  · simp only [List.cons.injEq, and_true] at h1
    rw [h1]
    have hlm : len ≤ m := by rw [hm]; split <;> omega
    have each : ∀ i, i < len → ∃ q : Tk, ∀ o u, q.arr[o]? = some u → w.cell? (a.add (i * 10 + o)) = some u := by
      intro i hi
      obtain ⟨cs, hcs, ht'⟩ := hx i (by omega)
      rw [cells_tk] at hcs
      obtain ⟨q1, _, rfl, w1, q2, _, rfl, w2, q3, _, rfl, w3, q4, _, rfl, w4, q5, _, rfl, w5, q6, _, rfl, w6, q7, _, rfl, w7, q8, _, rfl, w8, q9, _, rfl, w9, q10, _, rfl, w10, rfl⟩ := leafy_of_trod 3 152 _ n' cs _ leaves_tk ht'
      obtain ⟨_, _, hcell⟩ := World.cells?_some hcs
      refine ⟨⟨q1, q2, q3, q4, q5, q6, q7, q8, q9, q10⟩, fun o u hu => ?_⟩
      have ho : o < 10 := (Array.getElem?_eq_some_iff.1 hu).1
      have := hcell o ho
      rw [Go.Deep.add_add] at this
      rw [this, ← hu]
      simp [Tk.arr]
    obtain ⟨f, hfq⟩ := Go.Deep.choose_lt (α := Tk) (p := fun i q => ∀ o u, q.arr[o]? = some u → w.cell? (a.add (i * 10 + o)) = some u) each
    refine ⟨some a, (List.range len).map f, cap, by simp, fun h0 => ?_, by simp; unfold maxLen at hmax; omega⟩
    simp only [List.length_map, List.length_range] at h0
    obtain ⟨hlt, ha⟩ := cell_some_lt (hfq 0 h0 0 _ rfl)
    have e0 : a.add (0 * 10 + 0) = a := by simp [Addr.add]
    rw [e0] at hlt ha
    refine ⟨a.block, a.off, by rw [← ha], hlt, fun j x o u hj ho => ?_⟩
    obtain ⟨hj', e⟩ := List.getElem?_eq_some_iff.1 hj
    simp only [List.length_map, List.length_range] at hj'
    simp only [List.getElem_map, List.getElem_range] at e
    subst e
    have := hfq j hj' o u ho
    have h2 := add_at a.block a.off (j * 10 + o)
    rw [← ha] at h2
    rw [h2] at this
    rw [Nat.add_assoc]
    exact this
theorem array6 {α : Type} {cs : Array α} (h : cs.size = 6) : ∃ c0 c1 c2 c3 c4 c5, cs = #[c0, c1, c2, c3, c4, c5] := by
  obtain ⟨l⟩ := cs
  match l, h with
  | [c0, c1, c2, c3, c4, c5], _ => exact ⟨c0, c1, c2, c3, c4, c5, rfl⟩
set_option maxRecDepth 100000 in
/-- A configuration, by value. -/
theorem open_cfg {r : Reach} {b0 : Nat} {v : Value} {d : DataW H} {p : List MemPlace} (hv : Value.okWide Try.prog w r b0 101 v) (h : DataW.Trod enc Try.prog w base spare held 101 v d p) :
    ∃ (a1 a2 a3 : Int) (At : Option Addr) (ts : List Tk) (ct : Nat) (v4 v5 : Value), v = .agg #[.int .i64 a1, .int .i64 a2, .int .i64 a3, .slice At ts.length ct, v4, v5] ∧ RT w w.heap.size At ts ∧ ts.length ≤ 9223372036854775807 := by
  obtain ⟨cs, rfl, hsz⟩ := okWide_struct Try.underlying101 hv
  obtain ⟨c0, c1, c2, c3, c4, c5, rfl⟩ := array6 (hsz.trans cells_cfg)
  obtain ⟨fuel, hf⟩ := h
  obtain ⟨xs, n, _, hx, _, hlen, hfld⟩ := DataW.trod_struct Try.underlying101 hf
  have hlen5 : xs.length = 5 := hlen
  have f0 : DataW.trod enc Try.prog w base spare held n 96 [c0, c1] = some xs[0] := by
    have h := hfld 0 _ rfl
    rw [List.getElem?_eq_getElem (by omega)] at h
    simpa [Value.cells, cells_tm] using h
  have f1 : DataW.trod enc Try.prog w base spare held n 2 [c2] = some xs[1] := by
    have h := hfld 1 _ rfl
    rw [List.getElem?_eq_getElem (by omega)] at h
    simpa [Value.cells, cells_i64] using h
  have f2' : DataW.trod enc Try.prog w base spare held n 97 [c3] = some xs[2] := by
    have h := hfld 2 _ rfl
    rw [List.getElem?_eq_getElem (by omega)] at h
    simpa [Value.cells, cells_ts] using h
  obtain ⟨a1, _, e1, _, a2, _, e2, _, e3⟩ := leafy_of_trod 3 96 _ n _ _ leaves_tm f0
  simp only [List.cons.injEq] at e1
  obtain ⟨rfl, rfl⟩ := e1
  simp only [List.cons.injEq] at e2
  obtain ⟨rfl, rfl⟩ := e2
  obtain ⟨a3, e4, _⟩ := DataW.trod_int Try.underlying2 f1
  simp only [List.cons.injEq, and_true] at e4
  subst e4
  obtain ⟨At, ts, ct, rfl, hR, hl⟩ := rT_of_trod f2'
  exact ⟨a1, a2, a3, At, ts, ct, c4, c5, rfl, hR, hl⟩
end
set_option maxRecDepth 100000 in
set_option maxHeartbeats 16000000 in
theorem walk (a1 a2 a3 : Int) (v4 v5 : Value) (At Am : Option Addr) (ts : List Tk) (ms : List QM) (ct cm : Nat) (now : Int) (w : World) (hts : RT w w.heap.size At ts) (hms : RM w w.heap.size Am ms) (hnc : Am = none → cm = 0) (hl1 : ts.length ≤ 9223372036854775807) (hl2 : ms.length ≤ 9223372036854775807) :
    Calls Try.prog 10 #[.agg #[.int .i64 a1, .int .i64 a2, .int .i64 a3, .slice At ts.length ct, v4, v5], .slice Am ms.length cm, .int .i64 now] w fun e w' => e = .returned (.bool true) ∧ Below w.heap.size w w' := by
  have HT := Kept.mk hts
  have HM := Kept.mk hms
  have HNC := Kept.mk hnc
  clear hts hms hnc
  obtain ⟨bb, hbb⟩ : ∃ bb : Bool, bb = (decide ((40 : Int) < (ts.length : Int)) || decide ((400 : Int) < (ms.length : Int))) := ⟨_, rfl⟩
  have HBB := Kept.mk hbb
  clear hbb
  go_enter Try.func10, Try.ntmps10
  go_upto_region 1 with fail
  obtain ⟨wb, hwb⟩ : ∃ wb, wb = w.alloc (.cells #[.int .i64 a1, .int .i64 a2, .int .i64 a3, .slice At ts.length ct, v4, v5] 101) := ⟨_, rfl⟩
  obtain ⟨bc, hbc⟩ : ∃ bc, bc = w.heap.size := ⟨_, rfl⟩
  have hrow : wb.heap[bc]? = some (.cells #[.int .i64 a1, .int .i64 a2, .int .i64 a3, .slice At ts.length ct, v4, v5] 101) := by rw [hwb, hbc]; exact heap_alloc_new _ _
  have HROW := Kept.mk hrow
  have B0 := Kept.mk (show Below w.heap.size w wb by rw [hwb]; exact below_box w _)
  have hbl : bc < wb.heap.size := by rw [hwb, hbc]; simp
  rw [← hwb, ← hbc]
  have k3 : wb.cell? ⟨bc, 3, none⟩ = some (.slice At ts.length ct) := cell_of_row _ _ 3 _ _ _ hrow
  clear hwb hbc hrow
  go_cut [21] from 13 to 21 (fun s wx => s = .bool bb ∧ wx = wb)
  case first =>
    by_cases h1 : 40 < ts.length
    · have t1 : decide ((40 : Int) < (ts.length : Int)) = true := decide_eq_true (by omega)
      have HF := Kept.mk (show bb = true by rw [HBB.out, t1]; rfl)
      go_wp2
      go_meet
      exact ⟨by rw [HF.out], rfl⟩
    · have t1 : decide ((40 : Int) < (ts.length : Int)) = false := decide_eq_false (by omega)
      by_cases h2 : 400 < ms.length
      · have t2 : decide ((400 : Int) < (ms.length : Int)) = true := decide_eq_true (by omega)
        have HF := Kept.mk (show bb = true by rw [HBB.out, t1, t2]; rfl)
        go_wp2
        go_meet
        exact ⟨by rw [HF.out], rfl⟩
      · have t2 : decide ((400 : Int) < (ms.length : Int)) = false := decide_eq_false (by omega)
        have HF := Kept.mk (show bb = false by rw [HBB.out, t1, t2]; rfl)
        go_wp2
        go_meet
        exact ⟨by rw [HF.out], rfl⟩
  case rest =>
    obtain ⟨rfl, rfl⟩ := hcut
    cases bb with
    | true =>
      go_wp2_with fail
      refine (lives_any wc).mono ?_
      rintro e w1 ⟨rfl, b1⟩
      go_wp2
      go_ret
      exact ⟨rfl, B0.out.trans (b1.mono B0.out.size)⟩
    | false =>
      have HLN := Kept.mk (show ts.length ≤ 40 ∧ ms.length ≤ 400 by
        have h := HBB.out.symm
        rw [Bool.or_eq_false_iff, decide_eq_false_iff_not, decide_eq_false_iff_not] at h
        omega)
      have HJ := Kept.mk (fun (W : World) (hb : Below w.heap.size w W) => And.intro (jobsall_any (w := W) a1 a2 a3 v4 v5 At Am ts ms ct cm now ((show RT W w.heap.size At ts from HT.out.below hb) |> fun h => fun h0 => (by obtain ⟨b, off, e, h1, h2⟩ := h h0; exact ⟨b, off, e, Nat.lt_of_lt_of_le h1 hb.size, h2⟩)) ((HM.out.below hb).mono hb.size) HLN.out.2 HLN.out.1) (rjobs_any (w := W) a1 a2 a3 v4 v5 At Am ts ms ct cm now ((show RT W w.heap.size At ts from HT.out.below hb) |> fun h => fun h0 => (by obtain ⟨b, off, e, h1, h2⟩ := h h0; exact ⟨b, off, e, Nat.lt_of_lt_of_le h1 hb.size, h2⟩)) ((HM.out.below hb).mono hb.size) HNC.out HLN.out.2 HLN.out.1))
      have HG := Kept.mk (show (jallL ts ms now).length ≤ 9223372036854775807 by
        unfold jallL
        split
        · have h1 := jallK_len ts ms now ts.length
          have h2 : ts.length * ms.length ≤ 40 * 400 := Nat.mul_le_mul HLN.out.1 HLN.out.2
          omega
        · simp)
      obtain ⟨L, hL⟩ : ∃ L, L = jallL ts ms now := ⟨_, rfl⟩
      obtain ⟨y, hy⟩ : ∃ y, y = jallW ms now := ⟨_, rfl⟩
      rw [← hL] at HG HJ
      rw [← hy] at HJ
      have HS := Kept.mk (fun (W : World) (A B : Option Addr) (c d : Nat) (h1 : R3 W W.heap.size A (L.map fun x => ⟨x.a, x.b, x.c⟩)) (h2 : R3 W W.heap.size B (L.map fun x => ⟨x.a, x.b, x.c⟩)) => show Calls Try.prog 68 #[.slice A L.length c, .slice B L.length d] W (fun e w' => e = .returned (.bool true) ∧ ∃ n, w' = W.drewN n) from by
        have h := sameP_any A B (L.map fun x => ⟨x.a, x.b, x.c⟩) (L.map fun x => ⟨x.a, x.b, x.c⟩) c d W h1 h2 (by rw [List.length_map]; exact HG.out) (by rw [List.length_map]; exact HG.out)
        rw [List.length_map] at h
        exact h.mono fun e w' h => ⟨h.1.trans (by rw [decide_eq_true rfl]), h.2⟩)
      have HS2 := Kept.mk (fun (W : World) (A B : Option Addr) (c d : Nat) (h1 : Ints W W.heap.size A (L.map fun x => x.d)) (h2 : Ints W W.heap.size B (L.map fun x => x.d)) => show Calls Try.prog 64 #[.slice A L.length c, .slice B L.length d] W (fun e w' => e = .returned (.bool true) ∧ ∃ n, w' = W.drewN n) from by
        have h := same13_any A B (L.map fun x => x.d) (L.map fun x => x.d) c d W h1 h2 (by rw [List.length_map]; exact HG.out) (by rw [List.length_map]; exact HG.out)
        rw [List.length_map] at h
        exact h.mono fun e w' h => ⟨h.1.trans (by rw [decide_eq_true rfl]), h.2⟩)
      have hyy : (y == y) = true := by simp
      have k0 : wc.cell? ⟨bc, 0, none⟩ = some (.int .i64 a1) := cell_of_row _ _ 0 _ _ _ HROW.out
      have k1 : wc.cell? ⟨bc, 1, none⟩ = some (.int .i64 a2) := cell_of_row _ _ 1 _ _ _ HROW.out
      have k2 : wc.cell? ⟨bc, 2, none⟩ = some (.int .i64 a3) := cell_of_row _ _ 2 _ _ _ HROW.out
      have k4 : wc.cell? ⟨bc, 4, none⟩ = some v4 := cell_of_row _ _ 4 _ _ _ HROW.out
      have k5 : wc.cell? ⟨bc, 5, none⟩ = some v5 := cell_of_row _ _ 5 _ _ _ HROW.out
      clear hL hy
      go_wp2_with fail
      refine (HJ.out _ B0.out).1.mono ?_
      rintro e w1 ⟨A1, n1, A2, n2, rfl, i1, i2, b1⟩
      have B1 := Kept.mk (B0.out.trans (b1.mono B0.out.size))
      have I1 := Kept.mk i1
      have I2 := Kept.mk i2
      have m0 : w1.cell? ⟨bc, 0, none⟩ = some (.int .i64 a1) := (b1.cell (p := ⟨bc, 0, none⟩) hbl).trans k0
      have m1 : w1.cell? ⟨bc, 1, none⟩ = some (.int .i64 a2) := (b1.cell (p := ⟨bc, 1, none⟩) hbl).trans k1
      have m2 : w1.cell? ⟨bc, 2, none⟩ = some (.int .i64 a3) := (b1.cell (p := ⟨bc, 2, none⟩) hbl).trans k2
      have m3 : w1.cell? ⟨bc, 3, none⟩ = some (.slice At ts.length ct) := (b1.cell (p := ⟨bc, 3, none⟩) hbl).trans k3
      have m4 : w1.cell? ⟨bc, 4, none⟩ = some v4 := (b1.cell (p := ⟨bc, 4, none⟩) hbl).trans k4
      have m5 : w1.cell? ⟨bc, 5, none⟩ = some v5 := (b1.cell (p := ⟨bc, 5, none⟩) hbl).trans k5
      clear b1 i1 i2 k0 k1 k2 k3 k4 k5
      go_wp2_with fail
      refine (HJ.out _ B1.out).2.mono ?_
      rintro e w2 ⟨A3, n3, A4, n4, rfl, i3, i4, b2⟩
      have B2 := Kept.mk (B1.out.trans (b2.mono B1.out.size))
      have I12 := Kept.mk ((I1.out.below b2).mono b2.size)
      have I22 := Kept.mk ((I2.out.below b2).mono b2.size)
      have I3 := Kept.mk i3
      have I4 := Kept.mk i4
      clear b2 i3 i4 B1 I1 I2 m0 m1 m2 m3 m4 m5
      obtain ⟨nL, hnL⟩ : ∃ nL, nL = L.length := ⟨_, rfl⟩
      rw [← hnL] at HS HS2
      rw [← hnL]
      clear hnL HJ
      go_wp2_with fail
      refine (lives_any w2).mono ?_
      rintro e w3 ⟨rfl, b3⟩
      have B3 := Kept.mk (B2.out.trans (b3.mono B2.out.size))
      have J1 := Kept.mk ((I12.out.below b3).mono b3.size)
      have J2 := Kept.mk ((I22.out.below b3).mono b3.size)
      have J3 := Kept.mk ((I3.out.below b3).mono b3.size)
      have J4' := Kept.mk ((I4.out.below b3).mono b3.size)
      clear b3 B2 I12 I22 I3 I4
      go_wp2_with fail
      refine (HS.out _ _ _ n1 n3 J1.out J3.out).mono ?_
      rintro e w4 ⟨rfl, m1, hm1⟩
      have b4 : Below w3.heap.size w3 w4 := by rw [hm1]; exact (Below.refl _ _).drewN _
      have B4 := Kept.mk (B3.out.trans (b4.mono B3.out.size))
      have K2 := Kept.mk ((J2.out.below b4).mono b4.size)
      have K4 := Kept.mk ((J4'.out.below b4).mono b4.size)
      clear hm1 b4 B3 J1 J2 J3 J4'
      go_wp2_with fail
      refine (HS2.out _ _ _ n2 n4 K2.out K4.out).mono ?_
      rintro e w5 ⟨rfl, m2, hm2⟩
      have b5 : Below w4.heap.size w4 w5 := by rw [hm2]; exact (Below.refl _ _).drewN _
      have B5 := Kept.mk (B4.out.trans (b5.mono B4.out.size))
      clear hm2 b5 B4 K2 K4
      go_wp2_with fail
      go_ret
      exact ⟨rfl, B5.out⟩
abbrev spec := Rows.idealJobsSpec
set_option maxRecDepth 100000 in
theorem contract (H : Type) (enc : TypeId × Value → H) (W : World) (base : Nat) (args : Array Value) (ds gs : List (DataW H)) (before : List MemPlace)
    (hval0 : ∀ (j : Nat) t v, Try.f10.params[j]? = some t → args[j]? = some v → Value.okWide Try.prog W .any base t v)
    (hW : DataW.Whole enc Try.prog Try.f10.params.toList spec.vars false W args.toList ds gs before) :
    Calls Try.prog 10 args W fun e W' => ∃ v, e = .returned v ∧ spec.post enc Try.prog Try.f10 false true false false W args v W' := by
  have hval : ∀ (j : Nat) t v, Try.f10.params[j]? = some t → args[j]? = some v → Value.okWide Try.prog W .any base t v := hval0
  have hW' := hW
  obtain ⟨p, q, hA0, hV, rfl, hfz, hnd⟩ := hW
  have hA : DataW.TrodAll enc Try.prog W 0 (fun _ => true) true Try.f10.params.toList args.toList ds p := hA0
  rw [Try.params10] at hA hval
  obtain ⟨v0, vs0, d0, ds0, p0, q0, hargs, rfl, rfl, h0, r0⟩ := trodAll_cons hA
  obtain ⟨v1, vs1, d1, ds1, p1, q1, rfl, rfl, rfl, h1, r1⟩ := trodAll_cons r0
  obtain ⟨v2, vs2, d2, ds2, p2, q2, rfl, rfl, rfl, h2, r2⟩ := trodAll_cons r1
  obtain ⟨rfl, rfl, rfl⟩ := trodAll_nil r2
  obtain rfl : args = #[v0, v1, v2] := by cases args; simp_all
  obtain ⟨rfl, rfl⟩ := trodVars_none hV
  obtain ⟨a1, a2, a3, At, ts, ct, v4, v5, rfl, hT, hlt⟩ := open_cfg (hval 0 _ v0 rfl rfl) h0
  obtain ⟨Am, ms, cm, rfl, hM, hlm, _⟩ := open_rM 3 Try.underlying102 leaves_mk (by kernel_rfl) (hval 1 _ v1 rfl rfl) h1
  have hnc := open_nilcap Try.underlying102 h1
  obtain ⟨now, rfl, rfl, rfl, wn⟩ := open_int Try.underlying2 (hval 2 _ v2 rfl rfl) h2
  refine (walk a1 a2 a3 v4 v5 At Am ts ms ct cm now W hT hM hnc hlt hlm).mono fun e W' ⟨he, hb⟩ => ?_
  subst he
  exact ⟨_, rfl, law_post try_laidOut (by kernel_rfl) rfl rfl Try.underlying4 hW' rfl rfl rfl hb⟩

set_option maxRecDepth 100000 in
theorem lifted (os : Os) (started : os.Started) (H : Type) (enc : TypeId × Value → H) :
    ReturnsInHanded {} Try.checked os 10 .any (Rows.idealJobsSpec.pre6 enc Try.prog Try.f10 Rows.idealJobsRow.domain false) (Rows.idealJobsSpec.post enc Try.prog Try.f10 false true false false) := by
  refine returnsInHanded_of_change (C := Try.checked) own started (by kernel_rfl) Try.func10
    (ChangeSpec.witness6 (enc := enc) (C := Try.checked) false ⟨#[], #[.agg #[.int .i64 0, .int .i64 0, .int .i64 0, .slice none 0 0, .slice none 0 0, .slice none 0 0], .slice none 0 0, .int .i64 0], []⟩ 8 (by kernel_rfl) (by kernel_rfl) (by kernel_rfl) (by kernel_rfl)) ?_
  intro W base args ds gs before hval hW hcnd _
  exact contract H enc W base args ds gs before hval hW

theorem over : Rows.idealJobsRow.holds Try.pinned (OpenSpec.ofChange Rows.idealJobsSpec) :=
  OpenClaim.holds_of_wide 10 Try.f10 rfl rfl rfl rfl rfl rfl rfl ⟨rfl, rfl, rfl, rfl, rfl⟩ rfl rfl rfl rfl rfl (by kernel_rfl) Try.func10 (by kernel_rfl)
    (of_decide_eq_true (by kernel_rfl)) (by unfold Func.isWrapper; first | (rw [if_pos (by decide +kernel)]; kernel_rfl) | (rw [if_neg (by decide +kernel)]; exact ⟨rfl, rfl⟩))
    (fun os started H enc _ => lifted os started H enc)

/-- The statement. -/
theorem proved : Rows.IdealJobsSaid :=
  over
#print axioms proved
end Go.Proofs.Ytcchmkpodfjhcaa.idealJobs
