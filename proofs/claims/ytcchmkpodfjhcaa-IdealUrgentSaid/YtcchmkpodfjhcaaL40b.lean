/-
  The law IdealUrgent of vergelaw40: what is less urgent than a piece, and what comes behind it of its own priority, changes nothing for it; every argument reads afterwards as before. No condition.
-/
import Derived.Test.YtcchmkpodfjhcaaL40
namespace Go.Proofs.Ytcchmkpodfjhcaa.idealUrgent
open Go.ChangeShapes Go.WideShapes Go.ChangeAt Go.RowKit
set_option linter.unusedVariables false
theorem leaves_pc : leaves Try.prog 3 108 = some [some .i64, some .i64, some .i64] := by kernel_rfl
theorem info_pc2 : (Try.prog.info? 108).map (fun i => (i.zero, i.size, i.bytes)) = some (some (.agg #[.int .i64 0, .int .i64 0, .int .i64 0]), 3, 24) := by kernel_rfl
/-- The places of those that matter to a piece, among the first k. -/
def ks (xs : List Q3) (i k : Nat) : List Nat := (List.range k).filter fun j => Hof (pcs xs) i j
def someL (xs : List Q3) (i k : Nat) : List Q3 := (ks xs i k).map fun j => xs[j]?.getD default
theorem ks_succ (xs : List Q3) (i k : Nat) : ks xs i (k + 1) = ks xs i k ++ (if Hof (pcs xs) i k = true then [k] else []) := by
  unfold ks
  rw [List.range_succ, List.filter_append]
  congr 1
  by_cases h : Hof (pcs xs) i k = true <;> simp [h]
theorem someL_len (xs : List Q3) (i k : Nat) : (someL xs i k).length = (ks xs i k).length := by simp [someL]
theorem ks_len (xs : List Q3) (i k : Nat) : (ks xs i k).length ≤ k := by
  have := List.length_filter_le (fun j => Hof (pcs xs) i j) (List.range k)
  simpa [ks] using this
theorem someL_yes {xs : List Q3} {i k : Nat} {q : Q3} (hq : xs[k]? = some q) (h : Hof (pcs xs) i k = true) : someL xs i (k + 1) = someL xs i k ++ [q] := by
  unfold someL
  rw [ks_succ, if_pos h, List.map_append]
  simp [hq]
theorem someL_no {xs : List Q3} {i k : Nat} (h : Hof (pcs xs) i k = false) : someL xs i (k + 1) = someL xs i k := by
  unfold someL
  rw [ks_succ, if_neg (by rw [h]; decide), List.append_nil]
theorem ks_pre (xs : List Q3) (i : Nat) : ∀ (k d : Nat), ∃ r, ks xs i (k + d) = ks xs i k ++ r
  | k, 0 => ⟨[], by simp⟩
  | k, d + 1 => by
    obtain ⟨r, h⟩ := ks_pre xs i k d
    exact ⟨r ++ (if Hof (pcs xs) i (k + d) = true then [k + d] else []), by rw [← Nat.add_assoc, ks_succ, h, List.append_assoc]⟩
theorem ks_mem {xs : List Q3} {i k j : Nat} : j ∈ ks xs i k ↔ j < k ∧ Hof (pcs xs) i j = true := by
  unfold ks
  rw [List.mem_filter, List.mem_range]
theorem ks_lt (xs : List Q3) (i k : Nat) : (ks xs i k).Pairwise (· < ·) := List.Pairwise.filter _ List.pairwise_lt_range
/-- The plain law. -/
theorem urgent {xs : List Q3} {i : Nat} (hw : whyE xs = 0) (hi : i < xs.length) :
    whyE (someL xs i xs.length) = 0 ∧ (ks xs i i).length < (someL xs i xs.length).length ∧ (dE (someL xs i xs.length))[(ks xs i i).length]? = some ((sE xs).done i : Int) := by
  have hR : Rt xs := Rt.of (whyE_ok.1 hw).1
  have htm := (whyE_ok.1 hw).2
  obtain ⟨l, hl⟩ : ∃ l, l = ks xs i xs.length := ⟨_, rfl⟩
  obtain ⟨ys, hys⟩ : ∃ ys, ys = someL xs i xs.length := ⟨_, rfl⟩
  have hlen : ys.length = l.length := by rw [hys, hl]; exact someL_len _ _ _
  have hll : l.length ≤ xs.length := by rw [hl]; exact ks_len _ _ _
  have hmem : ∀ {j}, j ∈ l ↔ j < xs.length ∧ Hof (pcs xs) i j = true := by rw [hl]; exact ks_mem
  have hat : ∀ a (ha : a < l.length), l[a] < xs.length := fun a ha => (hmem.1 (List.getElem_mem ha)).1
  have hya : ∀ a (ha : a < l.length), ys[a]? = xs[l[a]]? := fun a ha => by
    have h1 := hat a ha
    rw [hys]
    unfold someL
    rw [← hl, List.getElem?_map, List.getElem?_eq_getElem ha, Option.map_some, List.getElem?_eq_getElem h1]
    rfl
  have hRy : chk ys = 0 := chk_ok.2 ⟨by have := hR.len; omega, fun q hq => by
    obtain ⟨a, ha, e⟩ := List.mem_iff_getElem.1 hq
    have h1 := hya a (by omega)
    rw [List.getElem?_eq_getElem ha, e] at h1
    exact hR.ok q (List.mem_of_getElem? h1.symm)⟩
  have hRy' := Rt.of hRy
  have hpl : l.Pairwise (· < ·) := by rw [hl]; exact ks_lt _ _ _
  have hgd : ∀ a, a < l.length → ∀ b, a < b → b < l.length → l.getD a 0 < l.getD b 0 := fun a ha b hab hb => by
    have := List.pairwise_iff_getElem.1 hpl a b ha hb hab
    simpa [List.getD_eq_getElem?_getD, ha, hb] using this
  have hgv : ∀ a, a < l.length → l.getD a 0 < xs.length ∧ ys[a]? = xs[l.getD a 0]? := fun a ha => by
    have e : l.getD a 0 = l[a] := by simp [List.getD_eq_getElem?_getD, ha]
    rw [e]
    exact ⟨hat a ha, hya a ha⟩
  have hn : (pcs ys).n = l.length := hlen
  have hS : Sub (pcs ys) (pcs xs) (fun a => l.getD a 0) := by
    refine ⟨fun a b ha hb hab => hgd a (hn ▸ ha) b hab (hn ▸ hb), fun a ha => (hgv a (hn ▸ ha)).1, fun a ha => ?_, fun a ha => ?_, fun a ha => ?_⟩
    all_goals
      have h1 := (hgv a (hn ▸ ha)).2
      unfold pcs
      dsimp only
      rw [h1]
    exact Nat.le_refl _
  have hCe : ∀ a, a < (pcs ys).n → (pcs ys).C a = (pcs xs).C (l.getD a 0) := fun a ha => by
    have h1 := (hgv a (hn ▸ ha)).2
    unfold pcs
    dsimp only
    rw [h1]
  have hE := hR.ended
  have hEy := hRy'.ended
  have htime : (dE ys).all timeP = true := by
    rw [List.all_eq_true]
    intro t ht
    obtain ⟨a, ha, e⟩ := List.mem_iff_getElem.1 ht
    rw [dE_len] at ha
    have h1 := dE_at ys ha
    rw [List.getElem?_eq_getElem (by rw [dE_len]; exact ha), e] at h1
    have h2 := (hgv a (by omega)).1
    have h3 := hS.fin (i := a) (by rw [hn]; omega) (hEy.fin a ha) (hE.fin _ h2)
    have h4 : timeP ((sE xs).done (l.getD a 0) : Int) = true := (List.all_eq_true.1 htm) _ (List.mem_of_getElem? (dE_at xs h2))
    cases h1
    unfold timeP at h4 ⊢
    simp only [Bool.and_eq_true, decide_eq_true_eq] at h4 ⊢
    omega
  have hpre : ∃ r, l = ks xs i i ++ i :: r := by
    obtain ⟨r, h⟩ := ks_pre xs i (i + 1) (xs.length - (i + 1))
    rw [show i + 1 + (xs.length - (i + 1)) = xs.length by omega, ks_succ, if_pos (by unfold Hof; simp)] at h
    exact ⟨r, by rw [hl, h, List.append_assoc]; rfl⟩
  obtain ⟨r, hr⟩ := hpre
  obtain ⟨a0, ha0⟩ : ∃ a0, a0 = (ks xs i i).length := ⟨_, rfl⟩
  have hl0 : a0 < l.length := by rw [hr, ha0]; simp
  have hla : l.getD a0 0 = i := by rw [hr, ha0]; simp [List.getD_eq_getElem?_getD]
  have hT := hS.fin_eq hCe (i := a0) (by rw [hn]; exact hl0) (hEy.fin a0 (by rw [hn]; exact hl0)) (by rw [hla]; exact hE.fin i hi) (fun j hj hH => by
    rw [hla] at hH
    have hm := hmem.2 ⟨hj, hH⟩
    obtain ⟨a, ha, e⟩ := List.mem_iff_getElem.1 hm
    exact ⟨a, by rw [hn]; exact ha, by simp [List.getD_eq_getElem?_getD, ha, e]⟩)
  rw [← hys, ← ha0]
  refine ⟨whyE_fine hRy htime, by omega, ?_⟩
  rw [dE_at ys (by omega), hT]
/-- Where the piece itself is to be, so far. -/
def atv (xs : List Q3) (i k : Nat) : Int := if i < k then ((ks xs i i).length : Int) else 0
set_option maxRecDepth 100000 in
set_option maxHeartbeats 16000000 in
theorem walk (A : Option Addr) (xs : List Q3) (cap : Nat) (z : Int) (w : World) (hx : R3 w w.heap.size A xs) (hlm : xs.length ≤ 9223372036854775807) :
    Calls Try.prog 12 #[.slice A xs.length cap, .int .i64 z] w fun e w' => e = .returned (.bool true) ∧ Below w.heap.size w w' := by
  have HX := Kept.mk hx
  obtain ⟨i0, hi0, hz0, hz1, hz2⟩ := info_parts info_pc2
  clear hx
  go_enter Try.func12, Try.ntmps12
  go_wp2_with fail
  refine (lives_any w).mono ?_
  rintro e w1 ⟨rfl, b1⟩
  have B1 := Kept.mk b1
  have X1 := Kept.mk ((HX.out.below b1).mono b1.size)
  clear b1 HX
  by_cases hy : whyE xs = 0
  · have HF := Kept.mk (fin_of (w := w1) (A := A) (cap := cap) (finE_ok hy) hy rfl (dE_len xs) X1.out)
    have HY := Kept.mk hy
    clear hy
    go_wp2_with fail
    refine HF.out.mono ?_
    rintro e w2 ⟨A2, n2, rfl, hI2, b2⟩
    have B2 := Kept.mk (B1.out.trans (b2.mono B1.out.size))
    have X2 := Kept.mk ((X1.out.below b2).mono b2.size)
    have I2 := Kept.mk hI2
    clear B1 X1 HF hI2 b2
    by_cases h0 : z < 0
    · go_wp2
      go_ret
      exact ⟨rfl, B2.out⟩
    · obtain ⟨i, rfl⟩ : ∃ i : Nat, z = i := ⟨z.toNat, by omega⟩
      by_cases hi : i < xs.length
      · have hge : decide ((xs.length : Int) ≤ (i : Int)) = false := decide_eq_false (by omega)
        have hge2 : decide (xs.length ≤ i) = false := decide_eq_false (by omega)
        by_cases hl : xs.length ≤ 200
        · have hl2 : decide ((200 : Int) < (xs.length : Int)) = false := decide_eq_false (by omega)
          have ii : (i : Int) < (xs.length : Int) := by omega
          have hU := urgent HY.out hi
          have HU := Kept.mk hU
          have HR := Kept.mk (Rt.of (whyE_ok.1 HY.out).1)
          clear hU h0
          go_wp2_with fail
          go_loopw [7, 8, 47] (fun u v t wr => ∃ (k : Nat) (As : Option Addr) (cs : Nat), k ≤ xs.length ∧ t = .int .i64 k ∧ u = .slice As (someL xs i k).length cs ∧ v = .int .i64 (atv xs i k) ∧ wr.ownsRow w2.heap.size 108 3 (.slice As (someL xs i k).length cs) (someL xs i k).length ((someL xs i k).flatMap Q3.cells) ∧ Below w2.heap.size w2 wr) (fun _ _ t _ => xs.length - (intOf t).toNat)
          case atStart => exact ⟨0, none, 0, by omega, rfl, rfl, by simp [atv], ⟨rfl, .inl ⟨rfl, rfl⟩⟩, Below.refl _ _⟩
          case round =>
            obtain ⟨k, As, cs, hk, rfl, rfl, rfl, hO, hb⟩ := hrel
            by_cases hlt : k < xs.length
            · have ik : (k : Int) < (xs.length : Int) := by omega
              obtain ⟨b, off, rfl, hbB, hc⟩ := (X2.out.below hb) (by omega)
              obtain ⟨q, hq, hqo, hqa, hqb, hqc⟩ := HR.out.at hlt
              obtain ⟨r, hr, hro, hra, hrb, hrc⟩ := HR.out.at hi
              obtain ⟨e1, e2, e3⟩ := hc k q hq
              obtain ⟨f1, f2, f3⟩ := hc i r hr
              have HYES := Kept.mk (someL_yes (i := i) hq)
              have HNO := Kept.mk (someL_no (xs := xs) (i := i) (k := k))
              have hml : (someL xs i k).length ≤ 200 := by rw [someL_len]; have := ks_len xs i k; omega
              have HAT := Kept.mk (show atv xs i (k + 1) = if k = i then ((someL xs i k).length : Int) else atv xs i k from by
                unfold atv
                rw [someL_len]
                by_cases h : k = i
                · subst h; simp
                · rw [if_neg h]
                  by_cases h2 : i < k
                  · rw [if_pos h2, if_pos (by omega)]
                  · rw [if_neg h2, if_neg (by omega)])
              have hhof := (show Hof (pcs xs) i k = decide (k = i ∨ r.a < q.a ∨ (q.a = r.a ∧ (q.b < r.b ∨ (q.b = r.b ∧ k < i)))) from by
                unfold Hof bef
                congr 1
                apply propext
                rw [hqa, hqb, hra, hrb]
                omega)
              have hsame : k = i → q.a = r.a ∧ q.b = r.b := fun h => by subst h; rw [hq] at hr; cases hr; exact ⟨rfl, rfl⟩
              obtain ⟨qa, qb, qc⟩ := q
              obtain ⟨ra, rb, rc⟩ := r
              simp only at e1 e2 e3 f1 f2 f3 hsame hhof
              have HSAME := Kept.mk hsame
              have HHOF := Kept.mk hhof
              clear hsame hhof
              obtain ⟨L, hL⟩ : ∃ L, L = someL xs i k := ⟨_, rfl⟩
              rw [← hL] at hO HYES HNO hml HAT
              obtain ⟨at0, hat0⟩ : ∃ at0, at0 = atv xs i k := ⟨_, rfl⟩
              obtain ⟨at1, hat1⟩ : ∃ at1, at1 = atv xs i (k + 1) := ⟨_, rfl⟩
              rw [← hat0, ← hat1] at HAT
              rw [← hat0, ← hL]
              obtain ⟨mL, hmL⟩ : ∃ mL, mL = L.length := ⟨_, rfl⟩
              rw [← hmL] at hO hml HAT ⊢
              have HML := Kept.mk hmL
              have HA1 := Kept.mk hat1
              have HB2 := Kept.mk hb
              have HO2 := Kept.mk hO
              have hblt : b < wr.heap.size := by have := hb.size; omega
              clear hc hq hqo hqa hqb hqc hr hro hra hrb hrc hL hat0 hat1 hmL hb hO
              go_upto_region 11 with fail
              obtain ⟨wa, hwa⟩ : ∃ wa, wa = wr.alloc (.cells #[.int .i64 qa, .int .i64 qb, .int .i64 qc] 108) := ⟨_, rfl⟩
              obtain ⟨xb, hxb⟩ : ∃ xb, xb = wr.heap.size := ⟨_, rfl⟩
              rw [← hwa, ← hxb]
              have hXB : wa.heap[xb]? = some (.cells #[.int .i64 qa, .int .i64 qb, .int .i64 qc] 108) := by rw [hwa, hxb]; exact heap_alloc_new _ _
              have x0 : wa.cell? ⟨xb, 0, none⟩ = some (.int .i64 qa) := cell_of_row _ _ 0 _ _ _ hXB
              have x1 : wa.cell? ⟨xb, 1, none⟩ = some (.int .i64 qb) := cell_of_row _ _ 1 _ _ _ hXB
              have x2 : wa.cell? ⟨xb, 2, none⟩ = some (.int .i64 qc) := cell_of_row _ _ 2 _ _ _ hXB
              have y0 : wa.cell? ⟨b, off + i * 3, none⟩ = some (.int .i64 ra) := by rw [hwa]; exact ((below_box wr _).cell (p := ⟨b, off + i * 3, none⟩) hblt).trans f1
              have y1 : wa.cell? ⟨b, off + i * 3 + 1, none⟩ = some (.int .i64 rb) := by rw [hwa]; exact ((below_box wr _).cell (p := ⟨b, off + i * 3 + 1, none⟩) hblt).trans f2
              have HBA := Kept.mk (show Below w2.heap.size w2 wa by rw [hwa]; exact HB2.out.trans ((below_box wr _).mono HB2.out.size))
              have HOA := Kept.mk (show wa.ownsRow w2.heap.size 108 3 (.slice As mL cs) mL (L.flatMap Q3.cells) by rw [hwa]; exact HO2.out.alloc _)
              clear hwa hxb hXB e1 e2 e3 f1 f2 f3 HB2 HO2 hblt
              go_upto_if 54 with fail
              go_cut [8] from 54 to 56 (fun v wx => v = .int .i64 at1 ∧ wx = wa)
              case first =>
                by_cases hki : k = i
                · have t1 : ((k : Int) == (i : Int)) = true := by rw [beq_iff_eq]; omega
                  have t2 : (k == i) = true := by simp [hki]
                  have HV := Kept.mk (show at1 = (mL : Int) by rw [HAT.out, if_pos hki])
                  clear hki
                  go_wp2
                  go_meet
                  exact ⟨by rw [HV.out], rfl⟩
                · have t1 : ((k : Int) == (i : Int)) = false := by rw [beq_eq_false_iff_ne]; omega
                  have t2 : (k == i) = false := by simp [hki]
                  have HV := Kept.mk (show at1 = at0 by rw [HAT.out, if_neg hki])
                  clear hki
                  go_wp2
                  go_meet
                  exact ⟨by rw [HV.out], rfl⟩
              case rest =>
                obtain ⟨rfl, rfl⟩ := hcut
                obtain ⟨bh, hbh⟩ : ∃ bh, bh = (decide (rb < qb) || (decide (qb = rb) && decide ((i : Int) < (k : Int)))) := ⟨_, rfl⟩
                have HBH := Kept.mk hbh
                clear hbh
                go_upto_region 13 with fail
                have HFACT := Kept.mk (fun (V : World) (hV : ∃ m, V = wc.drewN m) => show V.cell? ⟨xb, 0, none⟩ = some (.int .i64 qa) ∧ V.cell? ⟨xb, 1, none⟩ = some (.int .i64 qb) ∧ V.cell? ⟨xb, 2, none⟩ = some (.int .i64 qc) ∧ V.cell? ⟨b, off + i * 3, none⟩ = some (.int .i64 ra) ∧ V.cell? ⟨b, off + i * 3 + 1, none⟩ = some (.int .i64 rb) ∧ Below w2.heap.size w2 V ∧ V.ownsRow w2.heap.size 108 3 (.slice As mL cs) mL (L.flatMap Q3.cells) from by
                  obtain ⟨m, rfl⟩ := hV
                  exact ⟨x0, x1, x2, y0, y1, HBA.out.drewN _, own_below HOA.out ((Below.refl _ _).drewN _)⟩)
                go_cut [11] from 57 to 79 (fun v wx => v = .bool bh ∧ ∃ m, wx = wc.drewN m)
                case first =>
                  by_cases g1 : rb < qb
                  · have t1 : decide (rb < qb) = true := decide_eq_true g1
                    have HV := Kept.mk (show bh = true by rw [HBH.out, t1]; rfl)
                    go_wp2_with fail
                    go_quiet (fail)
                    go_wp2
                    go_meet
                    exact ⟨by rw [HV.out], _, rfl⟩
                  · have t1 : decide (rb < qb) = false := decide_eq_false g1
                    by_cases g2 : qb = rb
                    · have t2 : (qb == rb) = true := by rw [beq_iff_eq]; exact g2
                      by_cases g3 : i < k
                      · have t3 : decide ((i : Int) < (k : Int)) = true := decide_eq_true (by omega)
                        have t4 : decide (i < k) = true := decide_eq_true g3
                        have HV := Kept.mk (show bh = true by rw [HBH.out, t1, t3, decide_eq_true g2]; rfl)
                        clear g2
                        go_wp2_with fail
                        go_quiet (fail)
                        go_wp2
                        go_meet
                        exact ⟨by rw [HV.out], _, rfl⟩
                      · have t3 : decide ((i : Int) < (k : Int)) = false := decide_eq_false (by omega)
                        have t4 : decide (i < k) = false := decide_eq_false g3
                        have HV := Kept.mk (show bh = false by rw [HBH.out, t1, t3, decide_eq_true g2]; rfl)
                        clear g2
                        go_wp2_with fail
                        go_quiet (fail)
                        go_wp2
                        go_meet
                        exact ⟨by rw [HV.out], _, rfl⟩
                    · have t2 : (qb == rb) = false := by rw [beq_eq_false_iff_ne]; exact g2
                      have HV := Kept.mk (show bh = false by rw [HBH.out, t1, decide_eq_false g2]; rfl)
                      go_wp2_with fail
                      go_quiet (fail)
                      go_wp2
                      go_meet
                      exact ⟨by rw [HV.out], _, rfl⟩
                case rest =>
                  obtain ⟨rfl, hwx⟩ := hcut
                  obtain ⟨x0', x1', x2', y0', y1', hBA', hOA'⟩ := HFACT.out _ hwx
                  clear x0 x1 x2 y0 y1 HBA HOA HFACT hwx
                  have HBA := Kept.mk hBA'
                  have HOA := Kept.mk hOA'
                  clear hBA' hOA'
                  by_cases g1 : ra < qa
                  · have t1 : decide (ra < qa) = true := decide_eq_true g1
                    have hH : Hof (pcs xs) i k = true := by
                      rw [HHOF.out, decide_eq_true_eq]
                      exact .inr (.inl g1)
                    have hS := HYES.out hH
                    have HS := Kept.mk hS
                    clear hH hS
                    go_wp2_with fail
                    go_quiet (fail)
                    obtain ⟨wq, hwq⟩ : ∃ wq, wq = wc.drewN nq := ⟨_, rfl⟩
                    rw [← hwq]
                    have xq0 : wq.cell? ⟨xb, 0, none⟩ = some (.int .i64 qa) := by rw [hwq]; exact x0'
                    have xq1 : wq.cell? ⟨xb, 1, none⟩ = some (.int .i64 qb) := by rw [hwq]; exact x1'
                    have xq2 : wq.cell? ⟨xb, 2, none⟩ = some (.int .i64 qc) := by rw [hwq]; exact x2'
                    have HBQ := Kept.mk (show Below w2.heap.size w2 wq by rw [hwq]; exact HBA.out.drewN _)
                    have HOQ := Kept.mk (show wq.ownsRow w2.heap.size 108 3 (.slice As mL cs) mL (L.flatMap Q3.cells) by rw [hwq]; exact own_below HOA.out ((Below.refl _ _).drewN _))
                    have HNQ := Kept.mk (show ∀ j u, [Value.int .i64 qa, .int .i64 qb, .int .i64 qc][j]? = some u → (wq.alloc (.cells #[.int .i64 qa, .int .i64 qb, .int .i64 qc] 108)).cell? ((⟨wq.heap.size, 0, none⟩ : Addr).add j) = some u from World.news_of_block (cs := #[.int .i64 qa, .int .i64 qb, .int .i64 qc]) (heap_alloc_new wq _))
                    have hszq : w2.heap.size ≤ (wq.alloc (.cells #[.int .i64 qa, .int .i64 qb, .int .i64 qc] 108)).heap.size := by have := HBQ.out.size; simp; omega
                    clear hwq
                    go_wp2_with (at_builtin; refine wpList_append_lies _ rfl _ _ 84 rfl w2.heap.size 108 i0 (.agg #[.int .i64 0, .int .i64 0, .int .i64 0]) 3 24 Try.underlying84 hi0 hz0 hz1 hz2 rfl (by decide) (.slice As mL cs) mL (L.flatMap Q3.cells) rfl (HOQ.out.alloc _) ⟨wq.heap.size, 0, none⟩ 1 1 [.int .i64 qa, .int .i64 qb, .int .i64 qc] rfl rfl HNQ.out (by simp [Value.oneCell']) (by decide) (by simp only [maxLen]; omega) (by omega) hszq _ rfl ?_; intro g4 cap4 w4 own4 grow4 lies4 hlt4; have HB4 := Kept.mk ((HBQ.out.trans ((below_box wq _).mono HBQ.out.size)).grown grow4 hszq (fun j hj => (HOQ.out.lt j hj).1)); have HO4 := Kept.mk own4; clear own4 grow4 lies4 hlt4)
                    go_roundw
                    case rel => exact ⟨k + 1, some ⟨g4, 0, none⟩, cap4, by omega, by go_num, by rw [HS.out, List.length_append, ← HML.out]; rfl, by rw [HA1.out], by rw [HS.out, List.length_append, ← HML.out, List.flatMap_append]; exact HO4.out, HB4.out⟩
                    case measure => simp [intOf]; omega
                  · have t1 : decide (ra < qa) = false := decide_eq_false g1
                    by_cases g2 : qa = ra
                    · have t2 : (qa == ra) = true := by rw [beq_iff_eq]; exact g2
                      have G2 := Kept.mk g2
                      clear g2
                      cases hbv : bh with
                      | true =>
                        subst hbv
                        have G3 := Kept.mk (show (decide (rb < qb) || (decide (qb = rb) && decide ((i : Int) < (k : Int)))) = true from HBH.out.symm)
                        have hH : Hof (pcs xs) i k = false := by
                          rw [HHOF.out, decide_eq_false_iff_not]
                          have h3 := G3.out
                          have h4 := HSAME.out
                          simp only [Bool.or_eq_true, Bool.and_eq_true, decide_eq_true_eq] at h3
                          intro h
                          rcases h with h | h | h
                          · have := h4 h; omega
                          · omega
                          · omega
                        have hS := HNO.out hH
                        have HS := Kept.mk hS
                        clear hH hS
                        go_wp2_with fail
                        go_quiet (fail)
                        go_wp2
                        go_roundw
                        case rel => exact ⟨k + 1, As, cs, by omega, by go_num, by rw [HS.out, ← HML.out], by rw [HA1.out], by rw [HS.out, ← HML.out]; exact own_below HOA.out ((Below.refl _ _).drewN _), HBA.out.drewN _⟩
                        case measure => simp [intOf]; omega
                      | false =>
                        subst hbv
                        have G3 := Kept.mk (show (decide (rb < qb) || (decide (qb = rb) && decide ((i : Int) < (k : Int)))) = false from HBH.out.symm)
                        have hH : Hof (pcs xs) i k = true := by
                          rw [HHOF.out, decide_eq_true_eq]
                          have h3 := G3.out
                          have h2 := G2.out
                          simp only [Bool.or_eq_false_iff, Bool.and_eq_false_iff, decide_eq_false_iff_not] at h3
                          omega
                        have hS := HYES.out hH
                        have HS := Kept.mk hS
                        clear hH hS
                        go_wp2_with fail
                        go_quiet (fail)
                        obtain ⟨wq, hwq⟩ : ∃ wq, wq = wc.drewN nq := ⟨_, rfl⟩
                        rw [← hwq]
                        have xq0 : wq.cell? ⟨xb, 0, none⟩ = some (.int .i64 qa) := by rw [hwq]; exact x0'
                        have xq1 : wq.cell? ⟨xb, 1, none⟩ = some (.int .i64 qb) := by rw [hwq]; exact x1'
                        have xq2 : wq.cell? ⟨xb, 2, none⟩ = some (.int .i64 qc) := by rw [hwq]; exact x2'
                        have HBQ := Kept.mk (show Below w2.heap.size w2 wq by rw [hwq]; exact HBA.out.drewN _)
                        have HOQ := Kept.mk (show wq.ownsRow w2.heap.size 108 3 (.slice As mL cs) mL (L.flatMap Q3.cells) by rw [hwq]; exact own_below HOA.out ((Below.refl _ _).drewN _))
                        have HNQ := Kept.mk (show ∀ j u, [Value.int .i64 qa, .int .i64 qb, .int .i64 qc][j]? = some u → (wq.alloc (.cells #[.int .i64 qa, .int .i64 qb, .int .i64 qc] 108)).cell? ((⟨wq.heap.size, 0, none⟩ : Addr).add j) = some u from World.news_of_block (cs := #[.int .i64 qa, .int .i64 qb, .int .i64 qc]) (heap_alloc_new wq _))
                        have hszq : w2.heap.size ≤ (wq.alloc (.cells #[.int .i64 qa, .int .i64 qb, .int .i64 qc] 108)).heap.size := by have := HBQ.out.size; simp; omega
                        clear hwq
                        go_wp2_with (at_builtin; refine wpList_append_lies _ rfl _ _ 84 rfl w2.heap.size 108 i0 (.agg #[.int .i64 0, .int .i64 0, .int .i64 0]) 3 24 Try.underlying84 hi0 hz0 hz1 hz2 rfl (by decide) (.slice As mL cs) mL (L.flatMap Q3.cells) rfl (HOQ.out.alloc _) ⟨wq.heap.size, 0, none⟩ 1 1 [.int .i64 qa, .int .i64 qb, .int .i64 qc] rfl rfl HNQ.out (by simp [Value.oneCell']) (by decide) (by simp only [maxLen]; omega) (by omega) hszq _ rfl ?_; intro g4 cap4 w4 own4 grow4 lies4 hlt4; have HB4 := Kept.mk ((HBQ.out.trans ((below_box wq _).mono HBQ.out.size)).grown grow4 hszq (fun j hj => (HOQ.out.lt j hj).1)); have HO4 := Kept.mk own4; clear own4 grow4 lies4 hlt4)
                        go_roundw
                        case rel => exact ⟨k + 1, some ⟨g4, 0, none⟩, cap4, by omega, by go_num, by rw [HS.out, List.length_append, ← HML.out]; rfl, by rw [HA1.out], by rw [HS.out, List.length_append, ← HML.out, List.flatMap_append]; exact HO4.out, HB4.out⟩
                        case measure => simp [intOf]; omega
                    · have t2 : (qa == ra) = false := by rw [beq_eq_false_iff_ne]; exact g2
                      have G2 := Kept.mk g2
                      have hH : Hof (pcs xs) i k = false := by
                        rw [HHOF.out, decide_eq_false_iff_not]
                        have h4 := HSAME.out
                        intro h
                        rcases h with h | h | h
                        · exact G2.out (h4 h).1
                        · exact g1 h
                        · exact G2.out h.1
                      have hS := HNO.out hH
                      have HS := Kept.mk hS
                      clear hH hS
                      go_wp2_with fail
                      go_quiet (fail)
                      go_wp2
                      go_roundw
                      case rel => exact ⟨k + 1, As, cs, by omega, by go_num, by rw [HS.out, ← HML.out], by rw [HA1.out], by rw [HS.out, ← HML.out]; exact own_below HOA.out ((Below.refl _ _).drewN _), HBA.out.drewN _⟩
                      case measure => simp [intOf]; omega
            · have hke : k = xs.length := by omega
              have ik : decide ((k : Int) < (xs.length : Int)) = false := decide_eq_false (by omega)
              obtain ⟨u1, u2, u3⟩ := HU.out
              rw [hke] at hO ⊢
              have hatv : atv xs i xs.length = ((ks xs i i).length : Int) := by unfold atv; rw [if_pos hi]
              rw [hatv]
              have hR3 := (R3.of_own hO).2
              have HF2 := Kept.mk (fin_of (w := wr) (A := As) (cap := cs) (finE_ok u1) u1 rfl (dE_len _) hR3)
              obtain ⟨a0, ha0⟩ : ∃ a0, a0 = (ks xs i i).length := ⟨_, rfl⟩
              obtain ⟨ys, hys⟩ : ∃ ys, ys = someL xs i xs.length := ⟨_, rfl⟩
              rw [← ha0, ← hys] at u2 u3
              rw [← hys] at HF2
              rw [← ha0, ← hys]
              have HB2 := Kept.mk hb
              have U3 := Kept.mk u3
              have ia : (a0 : Int) < (ys.length : Int) := by omega
              have hkk : (xs.length : Int) = (k : Int) := by omega
              clear hke hO hatv hR3 ha0 hys hb u1 u3 hkk
              go_wp2_with fail
              refine HF2.out.mono ?_
              rintro e w4 ⟨A4, n4, rfl, hI4, b4⟩
              obtain ⟨bg, og, rfl, hgB, hcg⟩ := hI4 (by rw [dE_len]; omega)
              obtain ⟨bf, of, rfl, hfB, hcf⟩ := ((I2.out.below HB2.out).mono HB2.out.size |>.below b4) (by rw [dE_len]; omega)
              have cg := hcg a0 (by rw [dE_len]; exact u2)
              have cf := hcf i (by rw [dE_len]; exact hi)
              rw [U3.out, Option.getD_some] at cg
              rw [dE_at xs hi, Option.getD_some] at cf
              obtain ⟨t, ht⟩ : ∃ t : Int, t = ((sE xs).done i : Int) := ⟨_, rfl⟩
              rw [← ht] at cg cf
              have tt : (t == t) = true := by simp
              have HBF := Kept.mk (B2.out.trans ((HB2.out.trans (b4.mono HB2.out.size)).mono B2.out.size))
              have d1 : decide ((a0 : Int) < (ys.length : Int)) = true := decide_eq_true ia
              have d2 : decide ((i : Int) < (xs.length : Int)) = true := decide_eq_true ii
              have d3 : decide (a0 < ys.length) = true := decide_eq_true u2
              have d4 : decide (i < xs.length) = true := decide_eq_true hi
              clear hI4 hcg hcf ht b4 HF2 HB2
              go_wp2_with fail
              go_quiet (fail)
              go_wp2
              go_ret
              exact ⟨rfl, HBF.out.drewN _⟩
        · have hl2 : decide ((200 : Int) < (xs.length : Int)) = true := decide_eq_true (by omega)
          go_wp2
          go_ret
          exact ⟨rfl, B2.out⟩
      · have hge : decide ((xs.length : Int) ≤ (i : Int)) = true := decide_eq_true (by omega)
        have hge2 : decide (xs.length ≤ i) = true := decide_eq_true (by omega)
        go_wp2
        go_ret
        exact ⟨rfl, B2.out⟩
  · have HF := Kept.mk (fin_of (w := w1) (A := A) (cap := cap) (finE_bad hy) rfl rfl rfl X1.out)
    have hne : (whyE xs != 0) = true := by simp [hy]
    have hne2 : (whyE xs == 0) = false := by simp [hy]
    obtain ⟨y, hyy⟩ : ∃ y, y = whyE xs := ⟨_, rfl⟩
    rw [← hyy] at HF hne hne2
    clear hy hyy
    go_wp2_with fail
    refine HF.out.mono ?_
    rintro e w2 ⟨A2, n2, rfl, hI2, b2⟩
    have B2 := Kept.mk (B1.out.trans (b2.mono B1.out.size))
    clear B1 X1 HF hI2 b2
    go_wp2
    go_ret
    exact ⟨rfl, B2.out⟩
abbrev spec := Rows.idealUrgentSpec
set_option maxRecDepth 100000 in
theorem contract (H : Type) (enc : TypeId × Value → H) (W : World) (base : Nat) (args : Array Value) (ds gs : List (DataW H)) (before : List MemPlace)
    (hval0 : ∀ (j : Nat) t v, Try.f12.params[j]? = some t → args[j]? = some v → Value.okWide Try.prog W .any base t v)
    (hW : DataW.Whole enc Try.prog Try.f12.params.toList spec.vars false W args.toList ds gs before) :
    Calls Try.prog 12 args W fun e W' => ∃ v, e = .returned v ∧ spec.post enc Try.prog Try.f12 false true false false W args v W' := by
  have hval : ∀ (j : Nat) t v, Try.f12.params[j]? = some t → args[j]? = some v → Value.okWide Try.prog W .any base t v := hval0
  have hW' := hW
  obtain ⟨p, q, hA0, hV, rfl, hfz, hnd⟩ := hW
  have hA : DataW.TrodAll enc Try.prog W 0 (fun _ => true) true Try.f12.params.toList args.toList ds p := hA0
  rw [Try.params12] at hA hval
  obtain ⟨v0, vs0, d0, ds0, p0, q0, hargs, rfl, rfl, h0, r0⟩ := trodAll_cons hA
  obtain ⟨v1, vs1, d1, ds1, p1, q1, rfl, rfl, rfl, h1, r1⟩ := trodAll_cons r0
  obtain ⟨rfl, rfl, rfl⟩ := trodAll_nil r1
  obtain rfl : args = #[v0, v1] := by cases args; simp_all
  obtain ⟨rfl, rfl⟩ := trodVars_none hV
  obtain ⟨A, xs, cap, rfl, hI, hl, hwf⟩ := open_r3 3 Try.underlying84 leaves_pc (by kernel_rfl) (hval 0 _ v0 rfl rfl) h0
  obtain ⟨a, rfl, rfl, rfl, wa⟩ := open_int Try.underlying3 (hval 1 _ v1 rfl rfl) h1
  refine (walk A xs cap a W hI hl).mono fun e W' ⟨he, hb⟩ => ?_
  subst he
  exact ⟨_, rfl, law_post try_laidOut (by kernel_rfl) rfl rfl Try.underlying4 hW' rfl rfl rfl hb⟩

set_option maxRecDepth 100000 in
theorem lifted (os : Os) (started : os.Started) (H : Type) (enc : TypeId × Value → H) :
    ReturnsInHanded {} Try.checked os 12 .any (Rows.idealUrgentSpec.pre6 enc Try.prog Try.f12 Rows.idealUrgentRow.domain false) (Rows.idealUrgentSpec.post enc Try.prog Try.f12 false true false false) := by
  refine returnsInHanded_of_change (C := Try.checked) own started (by kernel_rfl) Try.func12
    (ChangeSpec.witness6 (enc := enc) (C := Try.checked) false ⟨#[], #[.slice none 0 0, .int .i64 0], []⟩ 8 (by kernel_rfl) (by kernel_rfl) (by kernel_rfl) (by kernel_rfl)) ?_
  intro W base args ds gs before hval hW hcnd _
  exact contract H enc W base args ds gs before hval hW

theorem over : Rows.idealUrgentRow.holds Try.pinned (OpenSpec.ofChange Rows.idealUrgentSpec) :=
  OpenClaim.holds_of_wide 12 Try.f12 rfl rfl rfl rfl rfl rfl rfl ⟨rfl, rfl, rfl, rfl, rfl⟩ rfl rfl rfl rfl rfl (by kernel_rfl) Try.func12 (by kernel_rfl)
    (of_decide_eq_true (by kernel_rfl)) (by unfold Func.isWrapper; first | (rw [if_pos (by decide +kernel)]; kernel_rfl) | (rw [if_neg (by decide +kernel)]; exact ⟨rfl, rfl⟩))
    (fun os started H enc _ => lifted os started H enc)

/-- The statement. -/
theorem proved : Rows.IdealUrgentSaid :=
  over
#print axioms proved
end Go.Proofs.Ytcchmkpodfjhcaa.idealUrgent
