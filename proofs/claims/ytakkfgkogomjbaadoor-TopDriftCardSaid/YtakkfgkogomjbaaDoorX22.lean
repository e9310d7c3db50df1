/-
  The law TopDrift: the service's time goes on.
-/
import Derived.Test.YtakkfgkogomjbaaDoorX21
import Derived.Test.YtakkfgkogomjbaaDoorCalmP
import Derived.Deep.CutBlock
namespace Go.Proofs.YtakkfgkogomjbaaDoor
open Go.RowKit Go.Shelf
set_option linter.unusedVariables false
set_option linter.unusedSimpArgs false
/-- What fired, one behind the other, less than mn late, up to the time T. -/
def FL (d : Int) (per : Nat) (mn T : Int) (xs : List Q3) : Prop := ∀ (i : Nat) (x : Q3), xs[i]? = some x → x.a = 1 ∧ x.b = d + (i : Int) * (per : Int) ∧ 0 ≤ x.c ∧ x.c < mn ∧ x.b + x.c ≤ T
/-- The time went on by n cycles, or less. -/
def SAdv (w : World) (G : TG) (sb : Nat) (mn mx t tu d n : Int) (per : Nat) (e : Ending) (w' : World) : Prop :=
  ∃ (xs : List Q3) (A : Option Addr) (cap : Nat) (t' tu' W' : Int), e = .returned (.tuple #[.slice A xs.length cap, .int .i64 (t' - t), .int .i64 0]) ∧ Kept (t ≤ t' ∧ t' ≤ t + n ∧ FL d per mn t' xs ∧ tu ≤ tu' ∧ tu' ≤ tu + xs.length ∧ xs.length ≤ 2048) ∧
    R3 w' w'.heap.size A xs ∧ (∀ a, A = some a → w.heap.size ≤ a.block) ∧ SState w' G sb mn mx t' t' tu' (d + (xs.length : Int) * (per : Int)) per W' ∧ Kp G.lo (sb + 1) w w'
theorem sadv_bad {w : World} {G : TG} {sb : Nat} {mn mx t wn tu d W n : Int} {per : Nat} (h : SState w G sb mn mx t wn tu d per W) (n0 : 0 ≤ t) (n1 : t ≤ 4503599627370496) (hn : n < 0 ∨ 4503599627370496 - t < n) :
    Calls Tryd.prog 11 #[.pointer (some ⟨sb, 0, none⟩), .int .i64 n] w fun e w' => (∃ er : Int, er ≠ 0 ∧ e = .returned (.tuple #[.slice none 0 0, .int .i64 0, .int .i64 er])) ∧ w = w' := by
  obtain ⟨m, a, l, ar, g, nf, h1, h2, h3⟩ := h
  have HN := snow_any h1
  by_cases hneg : n < 0
  · have d0 : decide (n < 0) = true := decide_eq_true hneg
    clear hn hneg h1 h2 h3
    go_enter Tryd.func11, Tryd.ntmps11
    go_wp2_with fail
    go_step3
    go_wp2_with fail
    refine HN.mono ?_
    rintro e w1 ⟨rfl, rfl⟩
    go_wp2_with fail
    try rw [Exit.noGoto_ret]
    refine bodyPost_ret (results_tmp3 rfl _ _ _) rfl ?_
    exact ⟨⟨1, by decide, rfl⟩, rfl⟩
  · have d0 : decide (n < 0) = false := decide_eq_false hneg
    have d1 : decide (4503599627370496 - t < n) = true := decide_eq_true (by omega)
    clear hn hneg h1 h2 h3
    go_enter Tryd.func11, Tryd.ntmps11
    go_wp2_with fail
    go_step3
    go_wp2_with fail
    refine HN.mono ?_
    rintro e w1 ⟨rfl, rfl⟩
    go_wp2_with fail
    try rw [Exit.noGoto_ret]
    refine bodyPost_ret (results_tmp3 rfl _ _ _) rfl ?_
    exact ⟨⟨6, by decide, rfl⟩, rfl⟩
/-- What is known while wakes go on. -/
def AdvR (w : World) (G : TG) (sb : Nat) (mn mx t tu d E : Int) (per : Nat) (v : Value) (wr : World) : Prop :=
  ∃ (xs : List Q3) (tc wnc tuc Wc : Int), Kept (t ≤ tc ∧ tc ≤ E ∧ wnc ≤ tc ∧ FL d per mn tc xs ∧ tu ≤ tuc ∧ tuc ≤ tu + xs.length ∧ xs.length ≤ 2048) ∧ Kept (wr.ownsRow w.heap.size 39 3 v xs.length (xs.flatMap Q3.cells)) ∧ Kept (SState wr G sb mn mx tc wnc tuc (d + (xs.length : Int) * (per : Int)) per Wc) ∧ Kept (Kp G.lo (sb + 1) w wr)
set_option maxRecDepth 100000 in
set_option maxHeartbeats 4000000 in
theorem sadv_any {w : World} {G : TG} {sb : Nat} {mn mx t wn tu d W n : Int} {per : Nat}
    (h : SState w G sb mn mx t wn tu d per W) (hT : Tab w) (hlo : 0 < G.lo) (hn : 1 ≤ G.n) (hsb : G.tb < sb)
    (hmx : -9223372036854775808 ≤ mx ∧ mx ≤ 9223372036854775807) (hti : TimOk mn mx) (p0 : 1 ≤ per) (p1 : per ≤ 4503599627370496) (ht : 0 ≤ t ∧ wn ≤ t) (nn : 0 ≤ n ∧ t + n ≤ 4503599627370496) (htu : tu + 4096 < 1000000000000) :
    Calls Tryd.prog 11 #[.pointer (some ⟨sb, 0, none⟩), .int .i64 n] w (SAdv w G sb mn mx t tu d n per) := by
  have H := Kept.mk h
  have HQ := Kept.mk (And.intro hT (And.intro hlo (And.intro hn (And.intro hsb (And.intro hmx (And.intro hti (And.intro p0 p1)))))))
  have HN := Kept.mk (And.intro ht (And.intro nn htu))
  have HSL := Kept.mk h.lt
  obtain ⟨m, a, l, ar, g, nf, h1, h2, h3⟩ := h
  have HNO := snow_any h1
  have d0 : decide (n < 0) = false := decide_eq_false (by omega)
  have d1 : decide (4503599627370496 - t < n) = false := decide_eq_false (by omega)
  obtain ⟨E, hE⟩ : ∃ E, E = t + n := ⟨_, rfl⟩
  have HE := Kept.mk hE
  have hE1 : t + n ≤ 4503599627370496 := nn.2
  have hE0 : 0 ≤ t := ht.1
  have hn0 : 0 ≤ n := nn.1
  clear h1 h2 h3 hT hlo hn hsb hmx hti p0 p1 ht nn htu
  go_enter Tryd.func11, Tryd.ntmps11
  go_wp2_with fail
  go_step3
  go_wp2_with fail
  refine HNO.mono ?_
  rintro e w1 ⟨rfl, rfl⟩
  go_wp2_with fail
  go_step3
  go_upto_block 1 with fail
  rw [← hE]
  have hE1' : E ≤ 4503599627370496 := by omega
  have HE1 := Kept.mk (And.intro hE0 hE1')
  clear hE hE1
  go_cut [9] from 27 to 66 (fun v wx => AdvR w G sb mn mx t tu d E per v wx)
  case first =>
    obtain ⟨i0, hi0, hz0, hz1, hz2⟩ := info_parts info_fired
    clear hE0 hn0 hE1' d0 d1 HNO
    go_wp2_with fail
    go_loopw [9, 27] (fun v i wr => ∃ k : Nat, k ≤ 4096 ∧ i = .int .i64 k ∧ Kept (AdvR w G sb mn mx t tu d E per v wr)) (fun _ i _ => 4096 - (intOf i).toNat)
    case atStart =>
      refine ⟨0, by omega, rfl, ⟨[], t, wn, tu, W, ⟨Int.le_refl _, by have := HN.out; have := HE.out; omega, HN.out.1.2, fun i x h => by simp at h, Int.le_refl _, by simp, by simp⟩, ⟨World.ownsRow_nil _ _ _ _⟩, ⟨by simpa using H.out⟩, ⟨Kp.refl _ _ _⟩⟩⟩
    case round =>
      obtain ⟨k, hk, rfl, hadv⟩ := hrel
      obtain ⟨xs, tc, wnc, tuc, Wc, hnum, hO, hS, hK⟩ := hadv.out
      obtain ⟨Av, cv, hv⟩ := own_slice hO.out
      subst hv
      obtain ⟨dd, hdd⟩ : ∃ dd, dd = d + (xs.length : Int) * (per : Int) := ⟨_, rfl⟩
      have HDD := Kept.mk hdd
      rw [← hdd] at hS
      clear hdd
      have t0c : 0 ≤ tc := by have := hnum.out; have := HE1.out; omega
      have t1c : tc ≤ 4503599627370496 := by have := hnum.out; have := HE1.out; omega
      by_cases hk4 : k < 4096
      · have HWK := swk_any hS.out t0c t1c
        clear hk
        go_wp2_with fail
        refine HWK.mono ?_
        rintro e w2 ⟨rfl, hb2⟩
        have hsl := HSL.out
        have hwz := hK.out.size
        have S2 := Kept.mk (hS.out.below HQ.out.2.2.2.1 (hb2.mono (by omega)))
        have K12 := Kept.mk (Kp.of_below (lo := G.lo) (hi := sb + 1) hb2)
        have O2 := Kept.mk (own_kp hO.out K12.out hsl)
        have K2 := Kept.mk (hK.out.trans K12.out)
        have MEET := Kept.mk (show AdvR w G sb mn mx t tu d E per (.slice Av xs.length cv) w2 from ⟨xs, tc, wnc, tuc, Wc, hnum, O2, ⟨by rw [← HDD.out]; exact S2.out⟩, K2⟩)
        clear HWK hb2 hsl hwz
        have hE52 : E ≤ 4503599627370496 := HE1.out.2
        by_cases hal : dd ≤ 4503599627370496
        · rw [show wkV dd Wc = .tuple #[.int .i64 Wc, .bool true] from if_pos hal]
          by_cases hWE : E < Wc
          · have g1 : decide (E < Wc) = true := decide_eq_true hWE
            clear hWE hal
            go_wp2_with fail
            go_meet
            case rel => exact MEET.out
          · have g1 : decide (E < Wc) = false := decide_eq_false hWE
            by_cases hlen : xs.length < 1024
            · obtain ⟨m, a, l, ar, g, nf, hc, hts, hsn⟩ := S2.out
              have hsq := hsn.out.resolve_left (by omega)
              have htw : tc ≤ Wc := hsq.2.2.1
              have hwe : Wc ≤ E := by omega
              obtain ⟨a2, ha2⟩ : ∃ a2, a2 = (a && !decide (ahd (tc % 4294967296) m < Wc - tc)) := ⟨_, rfl⟩
              have HST := Kept.mk (fun V : World => show Calls Tryd.prog 25 #[.agg #[.int .u32 (tc % 4294967296), .int .u32 m, .bool a, .bool l, .int .i64 tc], .int .i64 (IntKind.i64.wrap (Wc - tc))] V (fun e w' => ∃ l', e = .returned (.tuple #[.agg #[.int .u32 (Wc % 4294967296), .int .u32 m, .bool a2, .bool l', .int .i64 Wc], .int .i64 0]) ∧ Below V.heap.size V w') from by
                have := cstep_any tc (Wc - tc) m a l t0c (by omega) (by omega) V
                unfold CStep at this
                rw [show tc + (Wc - tc) = Wc by omega, ← ha2] at this
                rw [IntWalk.i64_in (Wc - tc) (by omega)]
                exact this)
              have Hc := Kept.mk hc
              have HTS := Kept.mk hts
              have HSQ := Kept.mk hsq
              have HLN := Kept.mk hlen
              clear hc hts hsn hsq ha2 hal hWE
              go_upto_region 11 with fail
              obtain ⟨wd, hwd⟩ : ∃ wd, wd = w2.drew := ⟨_, rfl⟩
              have Hd := Kept.mk (show wd.heap[sb]? = some (.cells (svC mn mx (tc % 4294967296) m a l tc G.tb ar g nf) 68) by rw [hwd]; exact Hc.out)
              have Bd := Kept.mk (show Below w2.heap.size w2 wd by rw [hwd]; exact (Below.refl _ _).drewN 1)
              have HSF := Kept.mk (fun (V : World) (hV : V.heap[sb]? = some (.cells (svC mn mx (tc % 4294967296) m a l tc G.tb ar g nf) 68)) => show (fun V : World => V.cell? ⟨sb, 2, none⟩ = some (.int .u32 (tc % 4294967296)) ∧ V.cell? ⟨sb, 3, none⟩ = some (.int .u32 m) ∧ V.cell? ⟨sb, 4, none⟩ = some (.bool a) ∧ V.cell? ⟨sb, 5, none⟩ = some (.bool l) ∧ V.cell? ⟨sb, 6, none⟩ = some (.int .i64 tc)) V from ⟨cell_of_row _ _ 2 _ _ _ hV, cell_of_row _ _ 3 _ _ _ hV, cell_of_row _ _ 4 _ _ _ hV, cell_of_row _ _ 5 _ _ _ hV, cell_of_row _ _ 6 _ _ _ hV⟩)
              have HS0 := Kept.mk (HSF.out wd Hd.out)
              refine wp_region_late (fun V : World => V.cell? ⟨sb, 2, none⟩ = some (.int .u32 (tc % 4294967296)) ∧ V.cell? ⟨sb, 3, none⟩ = some (.int .u32 m) ∧ V.cell? ⟨sb, 4, none⟩ = some (.bool a) ∧ V.cell? ⟨sb, 5, none⟩ = some (.bool l) ∧ V.cell? ⟨sb, 6, none⟩ = some (.int .i64 tc)) (fun i => i == 12 || i == 15) (by kernel_rfl) ?_
              rw [← hwd]
              clear hwd
              refine wpAnyP_take (i := 0) (v := ?vu0) [0, 13, 14, 15] (by simp only [List.getElem?_toArray, List.getElem?_cons_succ, List.getElem?_cons_zero]; exact rfl) (by kernel_rfl) (by kernel_rfl) (by kernel_rfl) (by kernel_rfl) (by intro _ _ _ h; exact h) (Or.inl ⟨by rfl, ?hyu0⟩) HS0.out ?restu0
              case hyu0 => (intro w hSw; go_simp; try with_reducible rfl)
              try simp only [Act.put, List.setIfInBounds_toArray, List.set_cons_zero, List.set_cons_succ]
              refine wpAnyP_take (i := 1) (v := ?vu1) [1, 13, 14, 15] (by simp only [List.getElem?_toArray, List.getElem?_cons_succ, List.getElem?_cons_zero]; exact rfl) (by kernel_rfl) (by kernel_rfl) (by kernel_rfl) (by kernel_rfl) (by intro _ _ _ h; exact h) (Or.inl ⟨by rfl, ?hyu1⟩) HS0.out ?restu1
              case hyu1 => (intro w hSw; go_simp; try with_reducible rfl)
              try simp only [Act.put, List.setIfInBounds_toArray, List.set_cons_zero, List.set_cons_succ]
              refine wpAnyP_take (i := 2) (v := ?vu2) [2, 13, 14, 15] (by simp only [List.getElem?_toArray, List.getElem?_cons_succ, List.getElem?_cons_zero]; exact rfl) (by kernel_rfl) (by kernel_rfl) (by kernel_rfl) (by kernel_rfl) (by intro _ _ _ h; exact h) (Or.inl ⟨by rfl, ?hyu2⟩) HS0.out ?restu2
              case hyu2 => (intro w hSw; go_simp; try with_reducible rfl)
              try simp only [Act.put, List.setIfInBounds_toArray, List.set_cons_zero, List.set_cons_succ]
              refine wpAnyP_take (i := 3) (v := ?vu3) [3, 13, 14, 15] (by simp only [List.getElem?_toArray, List.getElem?_cons_succ, List.getElem?_cons_zero]; exact rfl) (by kernel_rfl) (by kernel_rfl) (by kernel_rfl) (by kernel_rfl) (by intro _ _ _ h; exact h) (Or.inl ⟨by rfl, ?hyu3⟩) HS0.out ?restu3
              case hyu3 => (intro w hSw; go_simp; try with_reducible rfl)
              try simp only [Act.put, List.setIfInBounds_toArray, List.set_cons_zero, List.set_cons_succ]
              refine wpAnyP_take (i := 4) (v := ?vu4) [4, 13, 14, 15] (by simp only [List.getElem?_toArray, List.getElem?_cons_succ, List.getElem?_cons_zero]; exact rfl) (by kernel_rfl) (by kernel_rfl) (by kernel_rfl) (by kernel_rfl) (by intro _ _ _ h; exact h) (Or.inl ⟨by rfl, ?hyu4⟩) HS0.out ?restu4
              case hyu4 => (intro w hSw; go_simp; try with_reducible rfl)
              try simp only [Act.put, List.setIfInBounds_toArray, List.set_cons_zero, List.set_cons_succ]
              refine wpAnyP_take (i := 5) (v := ?vu5) [5, 13, 14, 15] (by simp only [List.getElem?_toArray, List.getElem?_cons_succ, List.getElem?_cons_zero]; exact rfl) (by kernel_rfl) (by kernel_rfl) (by kernel_rfl) (by kernel_rfl) (by intro _ _ _ h; exact h) (Or.inl ⟨by rfl, ?hyu5⟩) HS0.out ?restu5
              case hyu5 => (intro w hSw; go_simp; try with_reducible rfl)
              try simp only [Act.put, List.setIfInBounds_toArray, List.set_cons_zero, List.set_cons_succ]
              refine wpAnyP_take (i := 6) (v := ?vu6) [6, 13, 14, 15] (by simp only [List.getElem?_toArray, List.getElem?_cons_succ, List.getElem?_cons_zero]; exact rfl) (by kernel_rfl) (by kernel_rfl) (by kernel_rfl) (by kernel_rfl) (by intro _ _ _ h; exact h) (Or.inl ⟨by rfl, ?hyu6⟩) HS0.out ?restu6
              case hyu6 => (intro w hSw; go_simp; try with_reducible rfl)
              try simp only [Act.put, List.setIfInBounds_toArray, List.set_cons_zero, List.set_cons_succ]
              refine wpAnyT_one 7 (by kernel_rfl) (by simp only [List.getElem?_toArray, List.getElem?_cons_succ, List.getElem?_cons_zero]; exact rfl) (fun K hK => ?_)
              go_simp
              go_at_call 8
              refine (snow_any Hd.out).mono ?_
              rintro e wl ⟨rfl, rfl⟩
              refine hK.out _ _ (fun _ => HS0.out) ?_
              clear hK K
              try simp only [Act.put, List.setIfInBounds_toArray, List.set_cons_zero, List.set_cons_succ]
              refine wpAnyP_take (i := 8) (v := ?vu8) [8, 13, 14, 15] (by simp only [List.getElem?_toArray, List.getElem?_cons_succ, List.getElem?_cons_zero]; exact rfl) (by kernel_rfl) (by kernel_rfl) (by kernel_rfl) (by kernel_rfl) (by intro _ _ _ h; exact h) (Or.inl ⟨by rfl, ?hyu8⟩) HS0.out ?restu8
              case hyu8 => (intro w hSw; go_simp; try with_reducible rfl)
              try simp only [Act.put, List.setIfInBounds_toArray, List.set_cons_zero, List.set_cons_succ]
              refine wpAnyT_one 9 (by kernel_rfl) (by simp only [List.getElem?_toArray, List.getElem?_cons_succ, List.getElem?_cons_zero]; exact rfl) (fun K hK => ?_)
              go_simp
              go_at_call 25
              refine (HST.out _).mono ?_
              rintro e wt ⟨lt, rfl, hbt⟩
              have Ht := Kept.mk ((hbt.block sb (Array.getElem?_eq_some_iff.1 Hd.out).1).trans Hd.out)
              have Bt := Kept.mk hbt
              have HS9 := Kept.mk (HSF.out wt Ht.out)
              refine hK.out _ _ (fun _ => HS9.out) ?_
              clear hK K
              try simp only [Act.put, List.setIfInBounds_toArray, List.set_cons_zero, List.set_cons_succ]
              clear hbt
              refine wpAnyP_take (i := 10) (v := ?vu10) [10, 13, 14, 15] (by simp only [List.getElem?_toArray, List.getElem?_cons_succ, List.getElem?_cons_zero]; exact rfl) (by kernel_rfl) (by kernel_rfl) (by kernel_rfl) (by kernel_rfl) (by intro _ _ _ h; exact h) (Or.inl ⟨by rfl, ?hyu10⟩) HS9.out ?restu10
              case hyu10 => (intro w hSw; go_simp; try with_reducible rfl)
              try simp only [Act.put, List.setIfInBounds_toArray, List.set_cons_zero, List.set_cons_succ]
              refine wpAnyP_free (i := 12) (v := ?vu12) (by rfl) (by simp only [List.getElem?_toArray, List.getElem?_cons_succ, List.getElem?_cons_zero]; exact rfl) (by kernel_rfl) (by kernel_rfl) (by kernel_rfl) (by intro _ _ _ h; exact h) (Or.inl ⟨by rfl, ?hyu12⟩) ?restu12
              case hyu12 => (intro w hSw; go_simp; try with_reducible rfl)
              try simp only [Act.put, List.setIfInBounds_toArray, List.set_cons_zero, List.set_cons_succ]
              refine wpAnyP_take (i := 11) (v := ?vu11) [11, 13, 14, 15] (by simp only [List.getElem?_toArray, List.getElem?_cons_succ, List.getElem?_cons_zero]; exact rfl) (by kernel_rfl) (by kernel_rfl) (by kernel_rfl) (by kernel_rfl) (by intro _ _ _ h; exact h) (Or.inl ⟨by rfl, ?hyu11⟩) HS9.out ?restu11
              case hyu11 => (intro w hSw; go_simp; try with_reducible rfl)
              try simp only [Act.put, List.setIfInBounds_toArray, List.set_cons_zero, List.set_cons_succ]
              refine wpAnyP_take (i := 13) (v := ?vu13) [13, 14, 15] (by simp only [List.getElem?_toArray, List.getElem?_cons_succ, List.getElem?_cons_zero]; exact rfl) (by kernel_rfl) (by kernel_rfl) (by kernel_rfl) (by kernel_rfl) (by intro _ _ _ h; exact h) (Or.inl ⟨by rfl, ?hyu13⟩) HS9.out ?restu13
              case hyu13 => (intro w hSw; go_simp; try with_reducible rfl)
              try simp only [Act.put, List.setIfInBounds_toArray, List.set_cons_zero, List.set_cons_succ]
              refine wpAnyP_take (i := 14) (v := ?vu14) [14, 15] (by simp only [List.getElem?_toArray, List.getElem?_cons_succ, List.getElem?_cons_zero]; exact rfl) (by kernel_rfl) (by kernel_rfl) (by kernel_rfl) (by kernel_rfl) (by intro _ _ _ h; exact h) (Or.inl ⟨by rfl, ?hyu14⟩) HS9.out ?restu14
              case hyu14 => (intro w hSw; go_simp; try with_reducible rfl)
              try simp only [Act.put, List.setIfInBounds_toArray, List.set_cons_zero, List.set_cons_succ]
              refine wpAnyT_one 15 (by kernel_rfl) (by simp only [List.getElem?_toArray, List.getElem?_cons_succ, List.getElem?_cons_zero]; exact rfl) (fun K hK => ?_)
              refine step_wp rfl (wp_store_at 64 _ _ rfl sb 2 rfl #[.int .u32 (Wc % 4294967296), .int .u32 m, .bool a2, .bool lt, .int .i64 Wc] rfl 68 (svC mn mx (tc % 4294967296) m a l tc G.tb ar g nf) (svC mn mx (Wc % 4294967296) m a2 lt Wc G.tb ar g nf) Ht.out size_ck (by simp [svC]) ck_one rfl ?_)
              intro wp hp
              have Hp := Kept.mk hp.here
              have Pp := Kept.mk hp
              refine hK.out _ _ (fun h => (by cases h)) ?_
              clear hK K
              try simp only [Act.put, List.setIfInBounds_toArray, List.set_cons_zero, List.set_cons_succ]
              clear hp
              refine wpAnyT_done (by kernel_rfl) ?_ _
              have hsl2 := HSL.out
              have hk2z := K2.out.size
              have KP := Kept.mk (((Kp.of_below (lo := sb) (hi := sb + 1) Bd.out).trans (Kp.of_below (lo := sb) (hi := sb + 1) Bt.out)).putIn Pp.out (Nat.le_refl _) (Nat.lt_succ_self _))
              have hord := HTS.out.ord
              have hsb := HQ.out.2.2.2.1
              have TSP := HTS.out.below (KP.out.toBelow hsb (by omega))
              have KPW := Kept.mk (K2.out.trans (KP.out.wide2 (lo' := G.lo) (by omega)))
              have HTab := HQ.out.1.kp KPW.out HQ.out.2.1 (by omega)
              have hnn := hnum.out
              have HRING := sring_any Hp.out TSP HTab HQ.out.2.1 HQ.out.2.2.1 hsb HQ.out.2.2.2.2.1 HQ.out.2.2.2.2.2.1 HQ.out.2.2.2.2.2.2.1 HQ.out.2.2.2.2.2.2.2 (by constructor <;> omega) (by have := HN.out.2.2; omega) (fun _ => HSQ.out.2.2.2.1)
              have OP := Kept.mk (own_kp O2.out (KP.out.wide2 (lo' := G.lo) (by omega)) HSL.out)
              clear hsl2 hk2z hord hsb TSP HTab hnn
              go_wp2_with fail
              refine HRING.mono ?_
              rintro e w5 ⟨c5, A2, cap2, tu5, W5, rfl, hn5, hR5, hcap5, hfr5, hs5, hk5⟩
              obtain ⟨L5, hL5, hlen5⟩ : ∃ L5, L5 = firedL dd per Wc c5 ∧ L5.length = c5 := ⟨_, rfl, firedL_len _ _ _ _⟩
              rw [← hL5] at hR5
              have HL5 := Kept.mk hL5
              subst hlen5
              have O5 := Kept.mk (own_kp OP.out hk5 HSL.out)
              have K5 := Kept.mk (KPW.out.trans hk5)
              have HS5 := Kept.mk hs5
              have HCAP := Kept.mk hcap5
              have HR5 := Kept.mk hR5
              have hl5 : L5.length ≤ 1024 := hn5.out.1
              have hbase : w.heap.size ≤ w5.heap.size := K5.out.size
              have HF := Kept.mk (fun (v6 : Value) (w6 : World) (ho : w6.ownsRow w.heap.size 39 3 v6 (xs.length + L5.length) (xs.flatMap Q3.cells ++ L5.flatMap Q3.cells)) (hg : w5.grownBy w6 (Value.slice Av xs.length cv).ownBlock) => show Kept (AdvR w G sb mn mx t tu d E per v6 w6) from by
                have hb6 : Below w.heap.size w5 w6 := (Below.refl _ _).grown hg hbase fun j hj => (O5.out.lt j hj).1
                have hnn := hnum.out
                have h5 := hn5.out
                have hsq := HSQ.out
                have hti := HQ.out.2.2.2.2.2.1
                have hper := HQ.out.2.2.2.2.2.2.1
                refine ⟨xs ++ L5, Wc, Wc, tu5, W5, ⟨?_⟩, ⟨?_⟩, ⟨?_⟩, ⟨?_⟩⟩
                · refine ⟨by omega, by omega, Int.le_refl _, fun i x hx => ?_, by omega, by rw [List.length_append]; omega, by rw [List.length_append]; have := HLN.out; omega⟩
                  rcases Nat.lt_or_ge i xs.length with hi | hi
                  · rw [List.getElem?_append_left hi] at hx
                    obtain ⟨g1, g2, g3, g4, g5⟩ := hnn.2.2.2.1 i x hx
                    exact ⟨g1, g2, g3, g4, by omega⟩
                  · rw [List.getElem?_append_right hi, HL5.out] at hx
                    have hlt : i - xs.length < L5.length := by
                      have := (List.getElem?_eq_some_iff.1 hx).1
                      rwa [firedL_len] at this
                    rw [firedL_at hlt] at hx
                    injection hx with hx
                    subst hx
                    have hb := h5.2.1 _ hlt
                    have e1 : dd + ((i - xs.length : Nat) : Int) * (per : Int) = d + (i : Int) * (per : Int) := by
                      rw [HDD.out, Int.add_assoc, ← Int.add_mul]
                      congr 2
                      omega
                    have hp0 : 0 ≤ ((i - xs.length : Nat) : Int) * (per : Int) := Int.mul_nonneg (by omega) (by omega)
                    refine ⟨rfl, e1, ?_, ?_, ?_⟩
                    · show 0 ≤ Wc - _; omega
                    · show Wc - _ < mn; omega
                    · show dd + ((i - xs.length : Nat) : Int) * (per : Int) + (Wc - (dd + ((i - xs.length : Nat) : Int) * (per : Int))) ≤ Wc; omega
                · rw [List.length_append, List.flatMap_append]; exact ho
                · have e2 : d + ((xs ++ L5).length : Int) * (per : Int) = dd + (L5.length : Int) * (per : Int) := by
                    rw [HDD.out, List.length_append, Int.natCast_add, Int.add_mul, Int.add_assoc]
                  rw [e2]
                  exact HS5.out.below HQ.out.2.2.2.1 (hb6.mono HSL.out)
                · exact kp_bel K5.out hb6 (Nat.le_refl _))
              clear HRING hs5 hk5 hR5 hcap5 hfr5 hL5
              go_wp2_with (at_builtin; refine wpList_app3 rfl (.tmp 49) (.tmp 51) 35 rfl w.heap.size 39 i0 (.agg #[.int .i64 0, .int .i64 0, .int .i64 0]) 24 Tryd.underlying35 hi0 hz0 hz1 hz2 rfl _ _ _ rfl O5.out A2 L5 cap2 w5.heap.size rfl HR5.out HCAP.out (by simp only [maxLen]; omega) (by omega) hbase ?_; intro v6 w6 own6 grow6; have HADV := HF.out v6 w6 own6 grow6; clear own6 grow6)
              go_roundw
              case rel => exact ⟨k + 1, by omega, by go_num, HADV⟩
              case measure => simp [intOf]; omega
            · go_wp2_with fail
              go_meet
              case rel => exact MEET.out
        · rw [show wkV dd Wc = .tuple #[.int .i64 0, .bool false] from if_neg hal]
          clear hal
          go_wp2_with fail
          go_meet
          case rel => exact MEET.out
      · clear hk
        go_wp2_with fail
        go_meet
        case rel => exact ⟨xs, tc, wnc, tuc, Wc, hnum, hO, ⟨by rw [← HDD.out]; exact hS.out⟩, hK⟩
  case rest =>
    obtain ⟨xs, tc, wnc, tuc, Wc, hnum, hO, hS, hK⟩ := hcut
    obtain ⟨Av, cv, hv⟩ := own_slice hO.out
    subst hv
    obtain ⟨dd, hdd⟩ : ∃ dd, dd = d + (xs.length : Int) * (per : Int) := ⟨_, rfl⟩
    have HDD := Kept.mk hdd
    rw [← hdd] at hS
    clear hdd hE0 hn0 hE1' d0 d1 HNO
    have t0c : 0 ≤ tc := by have := hnum.out; have := HE1.out; omega
    have t1c : tc ≤ 4503599627370496 := by have := hnum.out; have := HE1.out; omega
    have HNUM := Kept.mk (fun (T : Int) (hT : tc ≤ T ∧ T ≤ E) => show Kept (t ≤ T ∧ T ≤ t + n ∧ FL d per mn T xs ∧ tu ≤ tuc ∧ tuc ≤ tu + xs.length ∧ xs.length ≤ 2048) from by
      obtain ⟨q1, q2, q3, q4, q5, q6, q7⟩ := hnum.out
      have he := HE.out
      exact ⟨by omega, by omega, fun i x hx => by
        obtain ⟨g1, g2, g3, g4, g5⟩ := q4 i x hx
        exact ⟨g1, g2, g3, g4, by omega⟩, q5, q6, q7⟩)
    have HWK := swk_any hS.out t0c t1c
    go_wp2_with fail
    refine HWK.mono ?_
    rintro e w2 ⟨rfl, hb2⟩
    have hsl := HSL.out
    have hwz := hK.out.size
    have S2 := Kept.mk (hS.out.below HQ.out.2.2.2.1 (hb2.mono (by omega)))
    have K12 := Kept.mk (Kp.of_below (lo := G.lo) (hi := sb + 1) hb2)
    have O2 := Kept.mk (own_kp hO.out K12.out hsl)
    have K2 := Kept.mk (hK.out.trans K12.out)
    clear HWK hb2 hsl hwz
    have hE52 : E ≤ 4503599627370496 := HE1.out.2
    have tcE : tc ≤ E := hnum.out.2.1
    obtain ⟨m, a, l, ar, g, nf, hc, hts, hsn⟩ := S2.out
    obtain ⟨a2, ha2⟩ : ∃ a2, a2 = (a && !decide (ahd (tc % 4294967296) m < E - tc)) := ⟨_, rfl⟩
    have HST := Kept.mk (fun V : World => show Calls Tryd.prog 25 #[.agg #[.int .u32 (tc % 4294967296), .int .u32 m, .bool a, .bool l, .int .i64 tc], .int .i64 (IntKind.i64.wrap (E - tc))] V (fun e w' => ∃ l', e = .returned (.tuple #[.agg #[.int .u32 (E % 4294967296), .int .u32 m, .bool a2, .bool l', .int .i64 E], .int .i64 0]) ∧ Below V.heap.size V w') from by
      have := cstep_any tc (E - tc) m a l t0c (by omega) (by omega) V
      unfold CStep at this
      rw [show tc + (E - tc) = E by omega, ← ha2] at this
      rw [IntWalk.i64_in (E - tc) (by omega)]
      exact this)
    have Hc := Kept.mk hc
    have HTS := Kept.mk hts
    have HA2 := Kept.mk ha2
    clear hc hts ha2
    by_cases hal : dd ≤ 4503599627370496
    · rw [show wkV dd Wc = .tuple #[.int .i64 Wc, .bool true] from if_pos hal]
      have hsq := hsn.out.resolve_left (by omega)
      by_cases hWE : E < Wc
      · have g1 : decide (E < Wc) = true := decide_eq_true hWE
        have HSN := Kept.mk (show Kept (SNum mn E m a2 ar nf dd Wc) from ⟨by
          obtain ⟨s1, s2, s3, s4, s5, s6⟩ := hsq
          refine .inr ⟨s1, s2, by omega, s4, s5, .inr ?_⟩
          rcases s6 with ⟨_, h⟩ | ⟨h1, h2, h3, h4, h5⟩
          · omega
          · refine ⟨h1, ?_, hWE, by omega, h5⟩
            have hno : ¬ ahd (tc % 4294967296) m < E - tc := by rw [h5]; unfold ahd; omega
            rw [HA2.out, h2]; simp [hno]⟩)
        clear hsn hsq hWE hal
        go_upto_region 17 with fail
        obtain ⟨wd, hwd⟩ : ∃ wd, wd = w2.drew := ⟨_, rfl⟩
        have Hd := Kept.mk (show wd.heap[sb]? = some (.cells (svC mn mx (tc % 4294967296) m a l tc G.tb ar g nf) 68) by rw [hwd]; exact Hc.out)
        have Bd := Kept.mk (show Below w2.heap.size w2 wd by rw [hwd]; exact (Below.refl _ _).drewN 1)
        have HSF := Kept.mk (fun (V : World) (hV : V.heap[sb]? = some (.cells (svC mn mx (tc % 4294967296) m a l tc G.tb ar g nf) 68)) => show (fun V : World => V.cell? ⟨sb, 2, none⟩ = some (.int .u32 (tc % 4294967296)) ∧ V.cell? ⟨sb, 3, none⟩ = some (.int .u32 m) ∧ V.cell? ⟨sb, 4, none⟩ = some (.bool a) ∧ V.cell? ⟨sb, 5, none⟩ = some (.bool l) ∧ V.cell? ⟨sb, 6, none⟩ = some (.int .i64 tc)) V from ⟨cell_of_row _ _ 2 _ _ _ hV, cell_of_row _ _ 3 _ _ _ hV, cell_of_row _ _ 4 _ _ _ hV, cell_of_row _ _ 5 _ _ _ hV, cell_of_row _ _ 6 _ _ _ hV⟩)
        have HS0 := Kept.mk (HSF.out wd Hd.out)
        refine wp_region_late (fun V : World => V.cell? ⟨sb, 2, none⟩ = some (.int .u32 (tc % 4294967296)) ∧ V.cell? ⟨sb, 3, none⟩ = some (.int .u32 m) ∧ V.cell? ⟨sb, 4, none⟩ = some (.bool a) ∧ V.cell? ⟨sb, 5, none⟩ = some (.bool l) ∧ V.cell? ⟨sb, 6, none⟩ = some (.int .i64 tc)) (fun i => i == 12 || i == 15) (by kernel_rfl) ?_
        rw [← hwd]
        clear hwd
        refine wpAnyP_take (i := 0) (v := ?vv0) [0, 13, 14, 15] (by simp only [List.getElem?_toArray, List.getElem?_cons_succ, List.getElem?_cons_zero]; exact rfl) (by kernel_rfl) (by kernel_rfl) (by kernel_rfl) (by kernel_rfl) (by intro _ _ _ h; exact h) (Or.inl ⟨by rfl, ?hyv0⟩) HS0.out ?restv0
        case hyv0 => (intro w hSw; go_simp; try with_reducible rfl)
        try simp only [Act.put, List.setIfInBounds_toArray, List.set_cons_zero, List.set_cons_succ]
        refine wpAnyP_take (i := 1) (v := ?vv1) [1, 13, 14, 15] (by simp only [List.getElem?_toArray, List.getElem?_cons_succ, List.getElem?_cons_zero]; exact rfl) (by kernel_rfl) (by kernel_rfl) (by kernel_rfl) (by kernel_rfl) (by intro _ _ _ h; exact h) (Or.inl ⟨by rfl, ?hyv1⟩) HS0.out ?restv1
        case hyv1 => (intro w hSw; go_simp; try with_reducible rfl)
        try simp only [Act.put, List.setIfInBounds_toArray, List.set_cons_zero, List.set_cons_succ]
        refine wpAnyP_take (i := 2) (v := ?vv2) [2, 13, 14, 15] (by simp only [List.getElem?_toArray, List.getElem?_cons_succ, List.getElem?_cons_zero]; exact rfl) (by kernel_rfl) (by kernel_rfl) (by kernel_rfl) (by kernel_rfl) (by intro _ _ _ h; exact h) (Or.inl ⟨by rfl, ?hyv2⟩) HS0.out ?restv2
        case hyv2 => (intro w hSw; go_simp; try with_reducible rfl)
        try simp only [Act.put, List.setIfInBounds_toArray, List.set_cons_zero, List.set_cons_succ]
        refine wpAnyP_take (i := 3) (v := ?vv3) [3, 13, 14, 15] (by simp only [List.getElem?_toArray, List.getElem?_cons_succ, List.getElem?_cons_zero]; exact rfl) (by kernel_rfl) (by kernel_rfl) (by kernel_rfl) (by kernel_rfl) (by intro _ _ _ h; exact h) (Or.inl ⟨by rfl, ?hyv3⟩) HS0.out ?restv3
        case hyv3 => (intro w hSw; go_simp; try with_reducible rfl)
        try simp only [Act.put, List.setIfInBounds_toArray, List.set_cons_zero, List.set_cons_succ]
        refine wpAnyP_take (i := 4) (v := ?vv4) [4, 13, 14, 15] (by simp only [List.getElem?_toArray, List.getElem?_cons_succ, List.getElem?_cons_zero]; exact rfl) (by kernel_rfl) (by kernel_rfl) (by kernel_rfl) (by kernel_rfl) (by intro _ _ _ h; exact h) (Or.inl ⟨by rfl, ?hyv4⟩) HS0.out ?restv4
        case hyv4 => (intro w hSw; go_simp; try with_reducible rfl)
        try simp only [Act.put, List.setIfInBounds_toArray, List.set_cons_zero, List.set_cons_succ]
        refine wpAnyP_take (i := 5) (v := ?vv5) [5, 13, 14, 15] (by simp only [List.getElem?_toArray, List.getElem?_cons_succ, List.getElem?_cons_zero]; exact rfl) (by kernel_rfl) (by kernel_rfl) (by kernel_rfl) (by kernel_rfl) (by intro _ _ _ h; exact h) (Or.inl ⟨by rfl, ?hyv5⟩) HS0.out ?restv5
        case hyv5 => (intro w hSw; go_simp; try with_reducible rfl)
        try simp only [Act.put, List.setIfInBounds_toArray, List.set_cons_zero, List.set_cons_succ]
        refine wpAnyP_take (i := 6) (v := ?vv6) [6, 13, 14, 15] (by simp only [List.getElem?_toArray, List.getElem?_cons_succ, List.getElem?_cons_zero]; exact rfl) (by kernel_rfl) (by kernel_rfl) (by kernel_rfl) (by kernel_rfl) (by intro _ _ _ h; exact h) (Or.inl ⟨by rfl, ?hyv6⟩) HS0.out ?restv6
        case hyv6 => (intro w hSw; go_simp; try with_reducible rfl)
        try simp only [Act.put, List.setIfInBounds_toArray, List.set_cons_zero, List.set_cons_succ]
        refine wpAnyT_one 7 (by kernel_rfl) (by simp only [List.getElem?_toArray, List.getElem?_cons_succ, List.getElem?_cons_zero]; exact rfl) (fun K hK => ?_)
        go_simp
        go_at_call 8
        refine (snow_any Hd.out).mono ?_
        rintro e wl ⟨rfl, rfl⟩
        refine hK.out _ _ (fun _ => HS0.out) ?_
        clear hK K
        try simp only [Act.put, List.setIfInBounds_toArray, List.set_cons_zero, List.set_cons_succ]
        refine wpAnyP_take (i := 8) (v := ?vv8) [8, 13, 14, 15] (by simp only [List.getElem?_toArray, List.getElem?_cons_succ, List.getElem?_cons_zero]; exact rfl) (by kernel_rfl) (by kernel_rfl) (by kernel_rfl) (by kernel_rfl) (by intro _ _ _ h; exact h) (Or.inl ⟨by rfl, ?hyv8⟩) HS0.out ?restv8
        case hyv8 => (intro w hSw; go_simp; try with_reducible rfl)
        try simp only [Act.put, List.setIfInBounds_toArray, List.set_cons_zero, List.set_cons_succ]
        refine wpAnyT_one 9 (by kernel_rfl) (by simp only [List.getElem?_toArray, List.getElem?_cons_succ, List.getElem?_cons_zero]; exact rfl) (fun K hK => ?_)
        go_simp
        go_at_call 25
        refine (HST.out _).mono ?_
        rintro e wt ⟨lt, rfl, hbt⟩
        have Ht := Kept.mk ((hbt.block sb (Array.getElem?_eq_some_iff.1 Hd.out).1).trans Hd.out)
        have Bt := Kept.mk hbt
        have HS9 := Kept.mk (HSF.out wt Ht.out)
        refine hK.out _ _ (fun _ => HS9.out) ?_
        clear hK K
        try simp only [Act.put, List.setIfInBounds_toArray, List.set_cons_zero, List.set_cons_succ]
        clear hbt
        refine wpAnyP_take (i := 10) (v := ?vv10) [10, 13, 14, 15] (by simp only [List.getElem?_toArray, List.getElem?_cons_succ, List.getElem?_cons_zero]; exact rfl) (by kernel_rfl) (by kernel_rfl) (by kernel_rfl) (by kernel_rfl) (by intro _ _ _ h; exact h) (Or.inl ⟨by rfl, ?hyv10⟩) HS9.out ?restv10
        case hyv10 => (intro w hSw; go_simp; try with_reducible rfl)
        try simp only [Act.put, List.setIfInBounds_toArray, List.set_cons_zero, List.set_cons_succ]
        refine wpAnyP_free (i := 12) (v := ?vv12) (by rfl) (by simp only [List.getElem?_toArray, List.getElem?_cons_succ, List.getElem?_cons_zero]; exact rfl) (by kernel_rfl) (by kernel_rfl) (by kernel_rfl) (by intro _ _ _ h; exact h) (Or.inl ⟨by rfl, ?hyv12⟩) ?restv12
        case hyv12 => (intro w hSw; go_simp; try with_reducible rfl)
        try simp only [Act.put, List.setIfInBounds_toArray, List.set_cons_zero, List.set_cons_succ]
        refine wpAnyP_take (i := 11) (v := ?vv11) [11, 13, 14, 15] (by simp only [List.getElem?_toArray, List.getElem?_cons_succ, List.getElem?_cons_zero]; exact rfl) (by kernel_rfl) (by kernel_rfl) (by kernel_rfl) (by kernel_rfl) (by intro _ _ _ h; exact h) (Or.inl ⟨by rfl, ?hyv11⟩) HS9.out ?restv11
        case hyv11 => (intro w hSw; go_simp; try with_reducible rfl)
        try simp only [Act.put, List.setIfInBounds_toArray, List.set_cons_zero, List.set_cons_succ]
        refine wpAnyP_take (i := 13) (v := ?vv13) [13, 14, 15] (by simp only [List.getElem?_toArray, List.getElem?_cons_succ, List.getElem?_cons_zero]; exact rfl) (by kernel_rfl) (by kernel_rfl) (by kernel_rfl) (by kernel_rfl) (by intro _ _ _ h; exact h) (Or.inl ⟨by rfl, ?hyv13⟩) HS9.out ?restv13
        case hyv13 => (intro w hSw; go_simp; try with_reducible rfl)
        try simp only [Act.put, List.setIfInBounds_toArray, List.set_cons_zero, List.set_cons_succ]
        refine wpAnyP_take (i := 14) (v := ?vv14) [14, 15] (by simp only [List.getElem?_toArray, List.getElem?_cons_succ, List.getElem?_cons_zero]; exact rfl) (by kernel_rfl) (by kernel_rfl) (by kernel_rfl) (by kernel_rfl) (by intro _ _ _ h; exact h) (Or.inl ⟨by rfl, ?hyv14⟩) HS9.out ?restv14
        case hyv14 => (intro w hSw; go_simp; try with_reducible rfl)
        try simp only [Act.put, List.setIfInBounds_toArray, List.set_cons_zero, List.set_cons_succ]
        refine wpAnyT_one 15 (by kernel_rfl) (by simp only [List.getElem?_toArray, List.getElem?_cons_succ, List.getElem?_cons_zero]; exact rfl) (fun K hK => ?_)
        refine step_wp rfl (wp_store_at 64 _ _ rfl sb 2 rfl #[.int .u32 (E % 4294967296), .int .u32 m, .bool a2, .bool lt, .int .i64 E] rfl 68 (svC mn mx (tc % 4294967296) m a l tc G.tb ar g nf) (svC mn mx (E % 4294967296) m a2 lt E G.tb ar g nf) Ht.out size_ck (by simp [svC]) ck_one rfl ?_)
        intro wp hp
        have Hp := Kept.mk hp.here
        have Pp := Kept.mk hp
        refine hK.out _ _ (fun h => (by cases h)) ?_
        clear hK K
        try simp only [Act.put, List.setIfInBounds_toArray, List.set_cons_zero, List.set_cons_succ]
        clear hp
        refine wpAnyT_done (by kernel_rfl) ?_ _
        have KP := Kept.mk (((Kp.of_below (lo := sb) (hi := sb + 1) Bd.out).trans (Kp.of_below (lo := sb) (hi := sb + 1) Bt.out)).putIn Pp.out (Nat.le_refl _) (Nat.lt_succ_self _))
        have hord := HTS.out.ord
        have hsb := HQ.out.2.2.2.1
        have HTSP := Kept.mk (HTS.out.below (KP.out.toBelow hsb (by have := K2.out.size; have := HSL.out; omega)))
        have KPW := Kept.mk (K2.out.trans (KP.out.wide2 (lo' := G.lo) (by omega)))
        have OP := Kept.mk (own_kp O2.out (KP.out.wide2 (lo' := G.lo) (by omega)) HSL.out)
        have HTO := Kept.mk (show wnc ≤ E ∧ E ≤ 4503599627370496 from ⟨by have := hnum.out; omega, hE52⟩)
        have HTO0 := Kept.mk (show 0 ≤ E by omega)
        have HTO2 := Kept.mk (show tc ≤ E ∧ E ≤ E from ⟨tcE, Int.le_refl _⟩)
        clear hord hsb Bd Bt Hd HS0
        go_upto_region 18 with fail
        obtain ⟨wd, hwd⟩ : ∃ wd, wd = wp.drew := ⟨_, rfl⟩
        have Bd := Kept.mk (show Below wp.heap.size wp wd by rw [hwd]; exact (Below.refl _ _).drewN 1)
        have HCl := Kept.mk (Array.getElem?_eq_some_iff.1 Hp.out).1
        have Hd := Kept.mk ((Bd.out.block sb HCl.out).trans Hp.out)
        have HTd := Kept.mk (HTSP.out.below (Bd.out.mono HTSP.out.lt))
        have KD := Kept.mk (KPW.out.trans (Kp.of_below (lo := G.lo) (hi := sb + 1) Bd.out))
        have HTab := Kept.mk (HQ.out.1.kp KD.out HQ.out.2.1 (by have := HSL.out; omega))
        have HS0 := Kept.mk (show (fun V : World => V.cell? ⟨sb, 7, none⟩ = some (.pointer (some ⟨G.tb, 0, none⟩)) ∧ V.cell? ⟨G.tb, 0, none⟩ = some (.pointer (some ⟨G.wb, 0, none⟩))) wd from ⟨cell_of_row _ _ 7 _ _ _ Hd.out, cell_of_row _ _ 0 _ _ _ HTd.out.cells⟩)
        refine wp_region_late (fun V : World => V.cell? ⟨sb, 7, none⟩ = some (.pointer (some ⟨G.tb, 0, none⟩)) ∧ V.cell? ⟨G.tb, 0, none⟩ = some (.pointer (some ⟨G.wb, 0, none⟩))) (fun i => i == 9) (by kernel_rfl) ?_
        rw [← hwd]
        clear hwd
        refine wpAnyP_take (i := 0) (v := ?vrv0) [0, 1, 2, 3, 4, 5, 6, 9] (by simp only [List.getElem?_toArray, List.getElem?_cons_succ, List.getElem?_cons_zero]; exact rfl) (by kernel_rfl) (by kernel_rfl) (by kernel_rfl) (by kernel_rfl) (by intro _ _ _ h; exact h) (Or.inl ⟨by rfl, ?hyrv0⟩) HS0.out ?restrv0
        case hyrv0 => (intro w hSw; go_simp; try with_reducible rfl)
        try simp only [Act.put, List.setIfInBounds_toArray, List.set_cons_zero, List.set_cons_succ]
        refine wpAnyP_take (i := 1) (v := ?vrv1) [1, 2, 3, 4, 5, 6, 9] (by simp only [List.getElem?_toArray, List.getElem?_cons_succ, List.getElem?_cons_zero]; exact rfl) (by kernel_rfl) (by kernel_rfl) (by kernel_rfl) (by kernel_rfl) (by intro _ _ _ h; exact h) (Or.inl ⟨by rfl, ?hyrv1⟩) HS0.out ?restrv1
        case hyrv1 => (intro w hSw; go_simp; try with_reducible rfl)
        try simp only [Act.put, List.setIfInBounds_toArray, List.set_cons_zero, List.set_cons_succ]
        refine wpAnyP_take (i := 2) (v := ?vrv2) [2, 3, 4, 5, 6, 9] (by simp only [List.getElem?_toArray, List.getElem?_cons_succ, List.getElem?_cons_zero]; exact rfl) (by kernel_rfl) (by kernel_rfl) (by kernel_rfl) (by kernel_rfl) (by intro _ _ _ h; exact h) (Or.inl ⟨by rfl, ?hyrv2⟩) HS0.out ?restrv2
        case hyrv2 => (intro w hSw; go_simp; try with_reducible rfl)
        try simp only [Act.put, List.setIfInBounds_toArray, List.set_cons_zero, List.set_cons_succ]
        refine wpAnyP_take (i := 3) (v := ?vrv3) [3, 4, 5, 6, 9] (by simp only [List.getElem?_toArray, List.getElem?_cons_succ, List.getElem?_cons_zero]; exact rfl) (by kernel_rfl) (by kernel_rfl) (by kernel_rfl) (by kernel_rfl) (by intro _ _ _ h; exact h) (Or.inl ⟨by rfl, ?hyrv3⟩) HS0.out ?restrv3
        case hyrv3 => (intro w hSw; go_simp; try with_reducible rfl)
        try simp only [Act.put, List.setIfInBounds_toArray, List.set_cons_zero, List.set_cons_succ]
        refine wpAnyP_take (i := 4) (v := ?vrv4) [4, 5, 6, 9] (by simp only [List.getElem?_toArray, List.getElem?_cons_succ, List.getElem?_cons_zero]; exact rfl) (by kernel_rfl) (by kernel_rfl) (by kernel_rfl) (by kernel_rfl) (by intro _ _ _ h; exact h) (Or.inl ⟨by rfl, ?hyrv4⟩) HS0.out ?restrv4
        case hyrv4 => (intro w hSw; go_simp; try with_reducible rfl)
        try simp only [Act.put, List.setIfInBounds_toArray, List.set_cons_zero, List.set_cons_succ]
        refine wpAnyP_take (i := 5) (v := ?vrv5) [5, 6, 9] (by simp only [List.getElem?_toArray, List.getElem?_cons_succ, List.getElem?_cons_zero]; exact rfl) (by kernel_rfl) (by kernel_rfl) (by kernel_rfl) (by kernel_rfl) (by intro _ _ _ h; exact h) (Or.inl ⟨by rfl, ?hyrv5⟩) HS0.out ?restrv5
        case hyrv5 => (intro w hSw; go_simp; try with_reducible rfl)
        try simp only [Act.put, List.setIfInBounds_toArray, List.set_cons_zero, List.set_cons_succ]
        refine wpAnyP_take (i := 6) (v := ?vrv6) [6, 9] (by simp only [List.getElem?_toArray, List.getElem?_cons_succ, List.getElem?_cons_zero]; exact rfl) (by kernel_rfl) (by kernel_rfl) (by kernel_rfl) (by kernel_rfl) (by intro _ _ _ h; exact h) (Or.inl ⟨by rfl, ?hyrv6⟩) HS0.out ?restrv6
        case hyrv6 => (intro w hSw; go_simp; try with_reducible rfl)
        try simp only [Act.put, List.setIfInBounds_toArray, List.set_cons_zero, List.set_cons_succ]
        refine wpAnyP_take (i := 7) (v := ?vrv7) [7, 8, 9] (by simp only [List.getElem?_toArray, List.getElem?_cons_succ, List.getElem?_cons_zero]; exact rfl) (by kernel_rfl) (by kernel_rfl) (by kernel_rfl) (by kernel_rfl) (by intro _ _ _ h; exact h) (Or.inl ⟨by rfl, ?hyrv7⟩) HS0.out ?restrv7
        case hyrv7 => (intro w hSw; go_simp; try with_reducible rfl)
        try simp only [Act.put, List.setIfInBounds_toArray, List.set_cons_zero, List.set_cons_succ]
        refine wpAnyT_one 8 (by kernel_rfl) (by simp only [List.getElem?_toArray, List.getElem?_cons_succ, List.getElem?_cons_zero]; exact rfl) (fun K hK => ?_)
        go_simp
        go_at_call 8
        refine (snow_any Hd.out).mono ?_
        rintro e wl ⟨rfl, rfl⟩
        refine hK.out _ _ (fun _ => HS0.out) ?_
        clear hK K
        try simp only [Act.put, List.setIfInBounds_toArray, List.set_cons_zero, List.set_cons_succ]
        refine wpAnyT_one 9 (by kernel_rfl) (by simp only [List.getElem?_toArray, List.getElem?_cons_succ, List.getElem?_cons_zero]; exact rfl) (fun K hK => ?_)
        go_simp
        go_at_call 27
        refine (tset_any HTd.out HTab.out HQ.out.2.1 E HTO.out).mono ?_
        rintro e w9 ⟨rfl, hs9, hk9⟩
        have hord := HTd.out.ord
        have hsb := HQ.out.2.2.2.1
        have H9 := Kept.mk ((hk9.block sb (by have := Bd.out.size; have := HCl.out; omega) (.inr (by omega))).trans Hd.out)
        have K9 := Kept.mk (KD.out.trans (hk9.wide (hi' := sb + 1) (by omega)))
        have O9 := Kept.mk (own_kp (own_kp OP.out (Kp.of_below (lo := G.lo) (hi := sb + 1) Bd.out) HSL.out) (hk9.wide (hi' := sb + 1) (by omega)) HSL.out)
        have S9 := Kept.mk (show SState w9 G sb mn mx E E tuc dd per Wc from ⟨m, a2, lt, ar, g, nf, H9.out, hs9, HSN.out⟩)
        refine hK.out _ _ (fun h => (by cases h)) ?_
        clear hK K
        try simp only [Act.put, List.setIfInBounds_toArray, List.set_cons_zero, List.set_cons_succ]
        clear hs9 hk9 hord hsb
        refine wpAnyT_done (by kernel_rfl) ?_ _
        have HNO9 := snow_any H9.out
        have HTO0 := HTO0.out
        have HTO1 := HTO.out.2
        have ht00 := HE1.out.1
        have htto := (HNUM.out E HTO2.out).out.1
        go_wp2_with fail
        refine HNO9.mono ?_
        rintro e w10 ⟨rfl, rfl⟩
        go_wp2_with fail
        try rw [Exit.noGoto_ret]
        go_ret3
        exact ⟨xs, Av, cv, E, tuc, Wc, rfl, HNUM.out E HTO2.out, (R3.of_own O9.out).2, fun a e => (O9.out.lt a.block (by rw [e]; rfl)).1, by rw [← HDD.out]; exact S9.out, K9.out⟩
      · have g1 : decide (E < Wc) = false := decide_eq_false hWE
        have HTO := Kept.mk (show wnc ≤ tc ∧ tc ≤ 4503599627370496 from ⟨hnum.out.2.2.1, t1c⟩)
        have HTO0 := Kept.mk t0c
        have HTO2 := Kept.mk (show tc ≤ tc ∧ tc ≤ E from ⟨Int.le_refl _, tcE⟩)
        have HSN := Kept.mk hsn
        clear hsq hWE hal hsn
        go_upto_region 18 with fail
        obtain ⟨wd, hwd⟩ : ∃ wd, wd = w2.drew := ⟨_, rfl⟩
        have Bd := Kept.mk (show Below w2.heap.size w2 wd by rw [hwd]; exact (Below.refl _ _).drewN 1)
        have HCl := Kept.mk (Array.getElem?_eq_some_iff.1 Hc.out).1
        have Hd := Kept.mk ((Bd.out.block sb HCl.out).trans Hc.out)
        have HTd := Kept.mk (HTS.out.below (Bd.out.mono HTS.out.lt))
        have KD := Kept.mk (K2.out.trans (Kp.of_below (lo := G.lo) (hi := sb + 1) Bd.out))
        have HTab := Kept.mk (HQ.out.1.kp KD.out HQ.out.2.1 (by have := HSL.out; omega))
        have HS0 := Kept.mk (show (fun V : World => V.cell? ⟨sb, 7, none⟩ = some (.pointer (some ⟨G.tb, 0, none⟩)) ∧ V.cell? ⟨G.tb, 0, none⟩ = some (.pointer (some ⟨G.wb, 0, none⟩))) wd from ⟨cell_of_row _ _ 7 _ _ _ Hd.out, cell_of_row _ _ 0 _ _ _ HTd.out.cells⟩)
        refine wp_region_late (fun V : World => V.cell? ⟨sb, 7, none⟩ = some (.pointer (some ⟨G.tb, 0, none⟩)) ∧ V.cell? ⟨G.tb, 0, none⟩ = some (.pointer (some ⟨G.wb, 0, none⟩))) (fun i => i == 9) (by kernel_rfl) ?_
        rw [← hwd]
        clear hwd
        refine wpAnyP_take (i := 0) (v := ?vy0) [0, 1, 2, 3, 4, 5, 6, 9] (by simp only [List.getElem?_toArray, List.getElem?_cons_succ, List.getElem?_cons_zero]; exact rfl) (by kernel_rfl) (by kernel_rfl) (by kernel_rfl) (by kernel_rfl) (by intro _ _ _ h; exact h) (Or.inl ⟨by rfl, ?hyy0⟩) HS0.out ?resty0
        case hyy0 => (intro w hSw; go_simp; try with_reducible rfl)
        try simp only [Act.put, List.setIfInBounds_toArray, List.set_cons_zero, List.set_cons_succ]
        refine wpAnyP_take (i := 1) (v := ?vy1) [1, 2, 3, 4, 5, 6, 9] (by simp only [List.getElem?_toArray, List.getElem?_cons_succ, List.getElem?_cons_zero]; exact rfl) (by kernel_rfl) (by kernel_rfl) (by kernel_rfl) (by kernel_rfl) (by intro _ _ _ h; exact h) (Or.inl ⟨by rfl, ?hyy1⟩) HS0.out ?resty1
        case hyy1 => (intro w hSw; go_simp; try with_reducible rfl)
        try simp only [Act.put, List.setIfInBounds_toArray, List.set_cons_zero, List.set_cons_succ]
        refine wpAnyP_take (i := 2) (v := ?vy2) [2, 3, 4, 5, 6, 9] (by simp only [List.getElem?_toArray, List.getElem?_cons_succ, List.getElem?_cons_zero]; exact rfl) (by kernel_rfl) (by kernel_rfl) (by kernel_rfl) (by kernel_rfl) (by intro _ _ _ h; exact h) (Or.inl ⟨by rfl, ?hyy2⟩) HS0.out ?resty2
        case hyy2 => (intro w hSw; go_simp; try with_reducible rfl)
        try simp only [Act.put, List.setIfInBounds_toArray, List.set_cons_zero, List.set_cons_succ]
        refine wpAnyP_take (i := 3) (v := ?vy3) [3, 4, 5, 6, 9] (by simp only [List.getElem?_toArray, List.getElem?_cons_succ, List.getElem?_cons_zero]; exact rfl) (by kernel_rfl) (by kernel_rfl) (by kernel_rfl) (by kernel_rfl) (by intro _ _ _ h; exact h) (Or.inl ⟨by rfl, ?hyy3⟩) HS0.out ?resty3
        case hyy3 => (intro w hSw; go_simp; try with_reducible rfl)
        try simp only [Act.put, List.setIfInBounds_toArray, List.set_cons_zero, List.set_cons_succ]
        refine wpAnyP_take (i := 4) (v := ?vy4) [4, 5, 6, 9] (by simp only [List.getElem?_toArray, List.getElem?_cons_succ, List.getElem?_cons_zero]; exact rfl) (by kernel_rfl) (by kernel_rfl) (by kernel_rfl) (by kernel_rfl) (by intro _ _ _ h; exact h) (Or.inl ⟨by rfl, ?hyy4⟩) HS0.out ?resty4
        case hyy4 => (intro w hSw; go_simp; try with_reducible rfl)
        try simp only [Act.put, List.setIfInBounds_toArray, List.set_cons_zero, List.set_cons_succ]
        refine wpAnyP_take (i := 5) (v := ?vy5) [5, 6, 9] (by simp only [List.getElem?_toArray, List.getElem?_cons_succ, List.getElem?_cons_zero]; exact rfl) (by kernel_rfl) (by kernel_rfl) (by kernel_rfl) (by kernel_rfl) (by intro _ _ _ h; exact h) (Or.inl ⟨by rfl, ?hyy5⟩) HS0.out ?resty5
        case hyy5 => (intro w hSw; go_simp; try with_reducible rfl)
        try simp only [Act.put, List.setIfInBounds_toArray, List.set_cons_zero, List.set_cons_succ]
        refine wpAnyP_take (i := 6) (v := ?vy6) [6, 9] (by simp only [List.getElem?_toArray, List.getElem?_cons_succ, List.getElem?_cons_zero]; exact rfl) (by kernel_rfl) (by kernel_rfl) (by kernel_rfl) (by kernel_rfl) (by intro _ _ _ h; exact h) (Or.inl ⟨by rfl, ?hyy6⟩) HS0.out ?resty6
        case hyy6 => (intro w hSw; go_simp; try with_reducible rfl)
        try simp only [Act.put, List.setIfInBounds_toArray, List.set_cons_zero, List.set_cons_succ]
        refine wpAnyP_take (i := 7) (v := ?vy7) [7, 8, 9] (by simp only [List.getElem?_toArray, List.getElem?_cons_succ, List.getElem?_cons_zero]; exact rfl) (by kernel_rfl) (by kernel_rfl) (by kernel_rfl) (by kernel_rfl) (by intro _ _ _ h; exact h) (Or.inl ⟨by rfl, ?hyy7⟩) HS0.out ?resty7
        case hyy7 => (intro w hSw; go_simp; try with_reducible rfl)
        try simp only [Act.put, List.setIfInBounds_toArray, List.set_cons_zero, List.set_cons_succ]
        refine wpAnyT_one 8 (by kernel_rfl) (by simp only [List.getElem?_toArray, List.getElem?_cons_succ, List.getElem?_cons_zero]; exact rfl) (fun K hK => ?_)
        go_simp
        go_at_call 8
        refine (snow_any Hd.out).mono ?_
        rintro e wl ⟨rfl, rfl⟩
        refine hK.out _ _ (fun _ => HS0.out) ?_
        clear hK K
        try simp only [Act.put, List.setIfInBounds_toArray, List.set_cons_zero, List.set_cons_succ]
        refine wpAnyT_one 9 (by kernel_rfl) (by simp only [List.getElem?_toArray, List.getElem?_cons_succ, List.getElem?_cons_zero]; exact rfl) (fun K hK => ?_)
        go_simp
        go_at_call 27
        refine (tset_any HTd.out HTab.out HQ.out.2.1 tc HTO.out).mono ?_
        rintro e w9 ⟨rfl, hs9, hk9⟩
        have hord := HTd.out.ord
        have hsb := HQ.out.2.2.2.1
        have H9 := Kept.mk ((hk9.block sb (by have := Bd.out.size; have := HCl.out; omega) (.inr (by omega))).trans Hd.out)
        have K9 := Kept.mk (KD.out.trans (hk9.wide (hi' := sb + 1) (by omega)))
        have O9 := Kept.mk (own_kp (own_kp O2.out (Kp.of_below (lo := G.lo) (hi := sb + 1) Bd.out) HSL.out) (hk9.wide (hi' := sb + 1) (by omega)) HSL.out)
        have S9 := Kept.mk (show SState w9 G sb mn mx tc tc tuc dd per Wc from ⟨m, a, l, ar, g, nf, H9.out, hs9, HSN.out⟩)
        refine hK.out _ _ (fun h => (by cases h)) ?_
        clear hK K
        try simp only [Act.put, List.setIfInBounds_toArray, List.set_cons_zero, List.set_cons_succ]
        clear hs9 hk9 hord hsb
        refine wpAnyT_done (by kernel_rfl) ?_ _
        have HNO9 := snow_any H9.out
        have HTO0 := HTO0.out
        have HTO1 := HTO.out.2
        have ht00 := HE1.out.1
        have htto := (HNUM.out tc HTO2.out).out.1
        go_wp2_with fail
        refine HNO9.mono ?_
        rintro e w10 ⟨rfl, rfl⟩
        go_wp2_with fail
        try rw [Exit.noGoto_ret]
        go_ret3
        exact ⟨xs, Av, cv, tc, tuc, Wc, rfl, HNUM.out tc HTO2.out, (R3.of_own O9.out).2, fun a e => (O9.out.lt a.block (by rw [e]; rfl)).1, by rw [← HDD.out]; exact S9.out, K9.out⟩
    · rw [show wkV dd Wc = .tuple #[.int .i64 0, .bool false] from if_neg hal]
      have HSN := Kept.mk (show Kept (SNum mn E m a2 ar nf dd Wc) from ⟨by
        rcases hsn.out with h | h
        · exact .inl h
        · exact absurd h.1 hal⟩)
      clear hsn hal
      go_upto_region 17 with fail
      obtain ⟨wd, hwd⟩ : ∃ wd, wd = w2.drew := ⟨_, rfl⟩
      have Hd := Kept.mk (show wd.heap[sb]? = some (.cells (svC mn mx (tc % 4294967296) m a l tc G.tb ar g nf) 68) by rw [hwd]; exact Hc.out)
      have Bd := Kept.mk (show Below w2.heap.size w2 wd by rw [hwd]; exact (Below.refl _ _).drewN 1)
      have HSF := Kept.mk (fun (V : World) (hV : V.heap[sb]? = some (.cells (svC mn mx (tc % 4294967296) m a l tc G.tb ar g nf) 68)) => show (fun V : World => V.cell? ⟨sb, 2, none⟩ = some (.int .u32 (tc % 4294967296)) ∧ V.cell? ⟨sb, 3, none⟩ = some (.int .u32 m) ∧ V.cell? ⟨sb, 4, none⟩ = some (.bool a) ∧ V.cell? ⟨sb, 5, none⟩ = some (.bool l) ∧ V.cell? ⟨sb, 6, none⟩ = some (.int .i64 tc)) V from ⟨cell_of_row _ _ 2 _ _ _ hV, cell_of_row _ _ 3 _ _ _ hV, cell_of_row _ _ 4 _ _ _ hV, cell_of_row _ _ 5 _ _ _ hV, cell_of_row _ _ 6 _ _ _ hV⟩)
      have HS0 := Kept.mk (HSF.out wd Hd.out)
      refine wp_region_late (fun V : World => V.cell? ⟨sb, 2, none⟩ = some (.int .u32 (tc % 4294967296)) ∧ V.cell? ⟨sb, 3, none⟩ = some (.int .u32 m) ∧ V.cell? ⟨sb, 4, none⟩ = some (.bool a) ∧ V.cell? ⟨sb, 5, none⟩ = some (.bool l) ∧ V.cell? ⟨sb, 6, none⟩ = some (.int .i64 tc)) (fun i => i == 12 || i == 15) (by kernel_rfl) ?_
      rw [← hwd]
      clear hwd
      refine wpAnyP_take (i := 0) (v := ?vx0) [0, 13, 14, 15] (by simp only [List.getElem?_toArray, List.getElem?_cons_succ, List.getElem?_cons_zero]; exact rfl) (by kernel_rfl) (by kernel_rfl) (by kernel_rfl) (by kernel_rfl) (by intro _ _ _ h; exact h) (Or.inl ⟨by rfl, ?hyx0⟩) HS0.out ?restx0
      case hyx0 => (intro w hSw; go_simp; try with_reducible rfl)
      try simp only [Act.put, List.setIfInBounds_toArray, List.set_cons_zero, List.set_cons_succ]
      refine wpAnyP_take (i := 1) (v := ?vx1) [1, 13, 14, 15] (by simp only [List.getElem?_toArray, List.getElem?_cons_succ, List.getElem?_cons_zero]; exact rfl) (by kernel_rfl) (by kernel_rfl) (by kernel_rfl) (by kernel_rfl) (by intro _ _ _ h; exact h) (Or.inl ⟨by rfl, ?hyx1⟩) HS0.out ?restx1
      case hyx1 => (intro w hSw; go_simp; try with_reducible rfl)
      try simp only [Act.put, List.setIfInBounds_toArray, List.set_cons_zero, List.set_cons_succ]
      refine wpAnyP_take (i := 2) (v := ?vx2) [2, 13, 14, 15] (by simp only [List.getElem?_toArray, List.getElem?_cons_succ, List.getElem?_cons_zero]; exact rfl) (by kernel_rfl) (by kernel_rfl) (by kernel_rfl) (by kernel_rfl) (by intro _ _ _ h; exact h) (Or.inl ⟨by rfl, ?hyx2⟩) HS0.out ?restx2
      case hyx2 => (intro w hSw; go_simp; try with_reducible rfl)
      try simp only [Act.put, List.setIfInBounds_toArray, List.set_cons_zero, List.set_cons_succ]
      refine wpAnyP_take (i := 3) (v := ?vx3) [3, 13, 14, 15] (by simp only [List.getElem?_toArray, List.getElem?_cons_succ, List.getElem?_cons_zero]; exact rfl) (by kernel_rfl) (by kernel_rfl) (by kernel_rfl) (by kernel_rfl) (by intro _ _ _ h; exact h) (Or.inl ⟨by rfl, ?hyx3⟩) HS0.out ?restx3
      case hyx3 => (intro w hSw; go_simp; try with_reducible rfl)
      try simp only [Act.put, List.setIfInBounds_toArray, List.set_cons_zero, List.set_cons_succ]
      refine wpAnyP_take (i := 4) (v := ?vx4) [4, 13, 14, 15] (by simp only [List.getElem?_toArray, List.getElem?_cons_succ, List.getElem?_cons_zero]; exact rfl) (by kernel_rfl) (by kernel_rfl) (by kernel_rfl) (by kernel_rfl) (by intro _ _ _ h; exact h) (Or.inl ⟨by rfl, ?hyx4⟩) HS0.out ?restx4
      case hyx4 => (intro w hSw; go_simp; try with_reducible rfl)
      try simp only [Act.put, List.setIfInBounds_toArray, List.set_cons_zero, List.set_cons_succ]
      refine wpAnyP_take (i := 5) (v := ?vx5) [5, 13, 14, 15] (by simp only [List.getElem?_toArray, List.getElem?_cons_succ, List.getElem?_cons_zero]; exact rfl) (by kernel_rfl) (by kernel_rfl) (by kernel_rfl) (by kernel_rfl) (by intro _ _ _ h; exact h) (Or.inl ⟨by rfl, ?hyx5⟩) HS0.out ?restx5
      case hyx5 => (intro w hSw; go_simp; try with_reducible rfl)
      try simp only [Act.put, List.setIfInBounds_toArray, List.set_cons_zero, List.set_cons_succ]
      refine wpAnyP_take (i := 6) (v := ?vx6) [6, 13, 14, 15] (by simp only [List.getElem?_toArray, List.getElem?_cons_succ, List.getElem?_cons_zero]; exact rfl) (by kernel_rfl) (by kernel_rfl) (by kernel_rfl) (by kernel_rfl) (by intro _ _ _ h; exact h) (Or.inl ⟨by rfl, ?hyx6⟩) HS0.out ?restx6
      case hyx6 => (intro w hSw; go_simp; try with_reducible rfl)
      try simp only [Act.put, List.setIfInBounds_toArray, List.set_cons_zero, List.set_cons_succ]
      refine wpAnyT_one 7 (by kernel_rfl) (by simp only [List.getElem?_toArray, List.getElem?_cons_succ, List.getElem?_cons_zero]; exact rfl) (fun K hK => ?_)
      go_simp
      go_at_call 8
      refine (snow_any Hd.out).mono ?_
      rintro e wl ⟨rfl, rfl⟩
      refine hK.out _ _ (fun _ => HS0.out) ?_
      clear hK K
      try simp only [Act.put, List.setIfInBounds_toArray, List.set_cons_zero, List.set_cons_succ]
      refine wpAnyP_take (i := 8) (v := ?vx8) [8, 13, 14, 15] (by simp only [List.getElem?_toArray, List.getElem?_cons_succ, List.getElem?_cons_zero]; exact rfl) (by kernel_rfl) (by kernel_rfl) (by kernel_rfl) (by kernel_rfl) (by intro _ _ _ h; exact h) (Or.inl ⟨by rfl, ?hyx8⟩) HS0.out ?restx8
      case hyx8 => (intro w hSw; go_simp; try with_reducible rfl)
      try simp only [Act.put, List.setIfInBounds_toArray, List.set_cons_zero, List.set_cons_succ]
      refine wpAnyT_one 9 (by kernel_rfl) (by simp only [List.getElem?_toArray, List.getElem?_cons_succ, List.getElem?_cons_zero]; exact rfl) (fun K hK => ?_)
      go_simp
      go_at_call 25
      refine (HST.out _).mono ?_
      rintro e wt ⟨lt, rfl, hbt⟩
      have Ht := Kept.mk ((hbt.block sb (Array.getElem?_eq_some_iff.1 Hd.out).1).trans Hd.out)
      have Bt := Kept.mk hbt
      have HS9 := Kept.mk (HSF.out wt Ht.out)
      refine hK.out _ _ (fun _ => HS9.out) ?_
      clear hK K
      try simp only [Act.put, List.setIfInBounds_toArray, List.set_cons_zero, List.set_cons_succ]
      clear hbt
      refine wpAnyP_take (i := 10) (v := ?vx10) [10, 13, 14, 15] (by simp only [List.getElem?_toArray, List.getElem?_cons_succ, List.getElem?_cons_zero]; exact rfl) (by kernel_rfl) (by kernel_rfl) (by kernel_rfl) (by kernel_rfl) (by intro _ _ _ h; exact h) (Or.inl ⟨by rfl, ?hyx10⟩) HS9.out ?restx10
      case hyx10 => (intro w hSw; go_simp; try with_reducible rfl)
      try simp only [Act.put, List.setIfInBounds_toArray, List.set_cons_zero, List.set_cons_succ]
      refine wpAnyP_free (i := 12) (v := ?vx12) (by rfl) (by simp only [List.getElem?_toArray, List.getElem?_cons_succ, List.getElem?_cons_zero]; exact rfl) (by kernel_rfl) (by kernel_rfl) (by kernel_rfl) (by intro _ _ _ h; exact h) (Or.inl ⟨by rfl, ?hyx12⟩) ?restx12
      case hyx12 => (intro w hSw; go_simp; try with_reducible rfl)
      try simp only [Act.put, List.setIfInBounds_toArray, List.set_cons_zero, List.set_cons_succ]
      refine wpAnyP_take (i := 11) (v := ?vx11) [11, 13, 14, 15] (by simp only [List.getElem?_toArray, List.getElem?_cons_succ, List.getElem?_cons_zero]; exact rfl) (by kernel_rfl) (by kernel_rfl) (by kernel_rfl) (by kernel_rfl) (by intro _ _ _ h; exact h) (Or.inl ⟨by rfl, ?hyx11⟩) HS9.out ?restx11
      case hyx11 => (intro w hSw; go_simp; try with_reducible rfl)
      try simp only [Act.put, List.setIfInBounds_toArray, List.set_cons_zero, List.set_cons_succ]
      refine wpAnyP_take (i := 13) (v := ?vx13) [13, 14, 15] (by simp only [List.getElem?_toArray, List.getElem?_cons_succ, List.getElem?_cons_zero]; exact rfl) (by kernel_rfl) (by kernel_rfl) (by kernel_rfl) (by kernel_rfl) (by intro _ _ _ h; exact h) (Or.inl ⟨by rfl, ?hyx13⟩) HS9.out ?restx13
      case hyx13 => (intro w hSw; go_simp; try with_reducible rfl)
      try simp only [Act.put, List.setIfInBounds_toArray, List.set_cons_zero, List.set_cons_succ]
      refine wpAnyP_take (i := 14) (v := ?vx14) [14, 15] (by simp only [List.getElem?_toArray, List.getElem?_cons_succ, List.getElem?_cons_zero]; exact rfl) (by kernel_rfl) (by kernel_rfl) (by kernel_rfl) (by kernel_rfl) (by intro _ _ _ h; exact h) (Or.inl ⟨by rfl, ?hyx14⟩) HS9.out ?restx14
      case hyx14 => (intro w hSw; go_simp; try with_reducible rfl)
      try simp only [Act.put, List.setIfInBounds_toArray, List.set_cons_zero, List.set_cons_succ]
      refine wpAnyT_one 15 (by kernel_rfl) (by simp only [List.getElem?_toArray, List.getElem?_cons_succ, List.getElem?_cons_zero]; exact rfl) (fun K hK => ?_)
      refine step_wp rfl (wp_store_at 64 _ _ rfl sb 2 rfl #[.int .u32 (E % 4294967296), .int .u32 m, .bool a2, .bool lt, .int .i64 E] rfl 68 (svC mn mx (tc % 4294967296) m a l tc G.tb ar g nf) (svC mn mx (E % 4294967296) m a2 lt E G.tb ar g nf) Ht.out size_ck (by simp [svC]) ck_one rfl ?_)
      intro wp hp
      have Hp := Kept.mk hp.here
      have Pp := Kept.mk hp
      refine hK.out _ _ (fun h => (by cases h)) ?_
      clear hK K
      try simp only [Act.put, List.setIfInBounds_toArray, List.set_cons_zero, List.set_cons_succ]
      clear hp
      refine wpAnyT_done (by kernel_rfl) ?_ _
      have KP := Kept.mk (((Kp.of_below (lo := sb) (hi := sb + 1) Bd.out).trans (Kp.of_below (lo := sb) (hi := sb + 1) Bt.out)).putIn Pp.out (Nat.le_refl _) (Nat.lt_succ_self _))
      have hord := HTS.out.ord
      have hsb := HQ.out.2.2.2.1
      have HTSP := Kept.mk (HTS.out.below (KP.out.toBelow hsb (by have := K2.out.size; have := HSL.out; omega)))
      have KPW := Kept.mk (K2.out.trans (KP.out.wide2 (lo' := G.lo) (by omega)))
      have OP := Kept.mk (own_kp O2.out (KP.out.wide2 (lo' := G.lo) (by omega)) HSL.out)
      have HTO := Kept.mk (show wnc ≤ E ∧ E ≤ 4503599627370496 from ⟨by have := hnum.out; omega, hE52⟩)
      have HTO0 := Kept.mk (show 0 ≤ E by omega)
      have HTO2 := Kept.mk (show tc ≤ E ∧ E ≤ E from ⟨tcE, Int.le_refl _⟩)
      clear hord hsb Bd Bt Hd HS0
      go_upto_region 18 with fail
      obtain ⟨wd, hwd⟩ : ∃ wd, wd = wp.drew := ⟨_, rfl⟩
      have Bd := Kept.mk (show Below wp.heap.size wp wd by rw [hwd]; exact (Below.refl _ _).drewN 1)
      have HCl := Kept.mk (Array.getElem?_eq_some_iff.1 Hp.out).1
      have Hd := Kept.mk ((Bd.out.block sb HCl.out).trans Hp.out)
      have HTd := Kept.mk (HTSP.out.below (Bd.out.mono HTSP.out.lt))
      have KD := Kept.mk (KPW.out.trans (Kp.of_below (lo := G.lo) (hi := sb + 1) Bd.out))
      have HTab := Kept.mk (HQ.out.1.kp KD.out HQ.out.2.1 (by have := HSL.out; omega))
      have HS0 := Kept.mk (show (fun V : World => V.cell? ⟨sb, 7, none⟩ = some (.pointer (some ⟨G.tb, 0, none⟩)) ∧ V.cell? ⟨G.tb, 0, none⟩ = some (.pointer (some ⟨G.wb, 0, none⟩))) wd from ⟨cell_of_row _ _ 7 _ _ _ Hd.out, cell_of_row _ _ 0 _ _ _ HTd.out.cells⟩)
      refine wp_region_late (fun V : World => V.cell? ⟨sb, 7, none⟩ = some (.pointer (some ⟨G.tb, 0, none⟩)) ∧ V.cell? ⟨G.tb, 0, none⟩ = some (.pointer (some ⟨G.wb, 0, none⟩))) (fun i => i == 9) (by kernel_rfl) ?_
      rw [← hwd]
      clear hwd
      refine wpAnyP_take (i := 0) (v := ?vrx0) [0, 1, 2, 3, 4, 5, 6, 9] (by simp only [List.getElem?_toArray, List.getElem?_cons_succ, List.getElem?_cons_zero]; exact rfl) (by kernel_rfl) (by kernel_rfl) (by kernel_rfl) (by kernel_rfl) (by intro _ _ _ h; exact h) (Or.inl ⟨by rfl, ?hyrx0⟩) HS0.out ?restrx0
      case hyrx0 => (intro w hSw; go_simp; try with_reducible rfl)
      try simp only [Act.put, List.setIfInBounds_toArray, List.set_cons_zero, List.set_cons_succ]
      refine wpAnyP_take (i := 1) (v := ?vrx1) [1, 2, 3, 4, 5, 6, 9] (by simp only [List.getElem?_toArray, List.getElem?_cons_succ, List.getElem?_cons_zero]; exact rfl) (by kernel_rfl) (by kernel_rfl) (by kernel_rfl) (by kernel_rfl) (by intro _ _ _ h; exact h) (Or.inl ⟨by rfl, ?hyrx1⟩) HS0.out ?restrx1
      case hyrx1 => (intro w hSw; go_simp; try with_reducible rfl)
      try simp only [Act.put, List.setIfInBounds_toArray, List.set_cons_zero, List.set_cons_succ]
      refine wpAnyP_take (i := 2) (v := ?vrx2) [2, 3, 4, 5, 6, 9] (by simp only [List.getElem?_toArray, List.getElem?_cons_succ, List.getElem?_cons_zero]; exact rfl) (by kernel_rfl) (by kernel_rfl) (by kernel_rfl) (by kernel_rfl) (by intro _ _ _ h; exact h) (Or.inl ⟨by rfl, ?hyrx2⟩) HS0.out ?restrx2
      case hyrx2 => (intro w hSw; go_simp; try with_reducible rfl)
      try simp only [Act.put, List.setIfInBounds_toArray, List.set_cons_zero, List.set_cons_succ]
      refine wpAnyP_take (i := 3) (v := ?vrx3) [3, 4, 5, 6, 9] (by simp only [List.getElem?_toArray, List.getElem?_cons_succ, List.getElem?_cons_zero]; exact rfl) (by kernel_rfl) (by kernel_rfl) (by kernel_rfl) (by kernel_rfl) (by intro _ _ _ h; exact h) (Or.inl ⟨by rfl, ?hyrx3⟩) HS0.out ?restrx3
      case hyrx3 => (intro w hSw; go_simp; try with_reducible rfl)
      try simp only [Act.put, List.setIfInBounds_toArray, List.set_cons_zero, List.set_cons_succ]
      refine wpAnyP_take (i := 4) (v := ?vrx4) [4, 5, 6, 9] (by simp only [List.getElem?_toArray, List.getElem?_cons_succ, List.getElem?_cons_zero]; exact rfl) (by kernel_rfl) (by kernel_rfl) (by kernel_rfl) (by kernel_rfl) (by intro _ _ _ h; exact h) (Or.inl ⟨by rfl, ?hyrx4⟩) HS0.out ?restrx4
      case hyrx4 => (intro w hSw; go_simp; try with_reducible rfl)
      try simp only [Act.put, List.setIfInBounds_toArray, List.set_cons_zero, List.set_cons_succ]
      refine wpAnyP_take (i := 5) (v := ?vrx5) [5, 6, 9] (by simp only [List.getElem?_toArray, List.getElem?_cons_succ, List.getElem?_cons_zero]; exact rfl) (by kernel_rfl) (by kernel_rfl) (by kernel_rfl) (by kernel_rfl) (by intro _ _ _ h; exact h) (Or.inl ⟨by rfl, ?hyrx5⟩) HS0.out ?restrx5
      case hyrx5 => (intro w hSw; go_simp; try with_reducible rfl)
      try simp only [Act.put, List.setIfInBounds_toArray, List.set_cons_zero, List.set_cons_succ]
      refine wpAnyP_take (i := 6) (v := ?vrx6) [6, 9] (by simp only [List.getElem?_toArray, List.getElem?_cons_succ, List.getElem?_cons_zero]; exact rfl) (by kernel_rfl) (by kernel_rfl) (by kernel_rfl) (by kernel_rfl) (by intro _ _ _ h; exact h) (Or.inl ⟨by rfl, ?hyrx6⟩) HS0.out ?restrx6
      case hyrx6 => (intro w hSw; go_simp; try with_reducible rfl)
      try simp only [Act.put, List.setIfInBounds_toArray, List.set_cons_zero, List.set_cons_succ]
      refine wpAnyP_take (i := 7) (v := ?vrx7) [7, 8, 9] (by simp only [List.getElem?_toArray, List.getElem?_cons_succ, List.getElem?_cons_zero]; exact rfl) (by kernel_rfl) (by kernel_rfl) (by kernel_rfl) (by kernel_rfl) (by intro _ _ _ h; exact h) (Or.inl ⟨by rfl, ?hyrx7⟩) HS0.out ?restrx7
      case hyrx7 => (intro w hSw; go_simp; try with_reducible rfl)
      try simp only [Act.put, List.setIfInBounds_toArray, List.set_cons_zero, List.set_cons_succ]
      refine wpAnyT_one 8 (by kernel_rfl) (by simp only [List.getElem?_toArray, List.getElem?_cons_succ, List.getElem?_cons_zero]; exact rfl) (fun K hK => ?_)
      go_simp
      go_at_call 8
      refine (snow_any Hd.out).mono ?_
      rintro e wl ⟨rfl, rfl⟩
      refine hK.out _ _ (fun _ => HS0.out) ?_
      clear hK K
      try simp only [Act.put, List.setIfInBounds_toArray, List.set_cons_zero, List.set_cons_succ]
      refine wpAnyT_one 9 (by kernel_rfl) (by simp only [List.getElem?_toArray, List.getElem?_cons_succ, List.getElem?_cons_zero]; exact rfl) (fun K hK => ?_)
      go_simp
      go_at_call 27
      refine (tset_any HTd.out HTab.out HQ.out.2.1 E HTO.out).mono ?_
      rintro e w9 ⟨rfl, hs9, hk9⟩
      have hord := HTd.out.ord
      have hsb := HQ.out.2.2.2.1
      have H9 := Kept.mk ((hk9.block sb (by have := Bd.out.size; have := HCl.out; omega) (.inr (by omega))).trans Hd.out)
      have K9 := Kept.mk (KD.out.trans (hk9.wide (hi' := sb + 1) (by omega)))
      have O9 := Kept.mk (own_kp (own_kp OP.out (Kp.of_below (lo := G.lo) (hi := sb + 1) Bd.out) HSL.out) (hk9.wide (hi' := sb + 1) (by omega)) HSL.out)
      have S9 := Kept.mk (show SState w9 G sb mn mx E E tuc dd per Wc from ⟨m, a2, lt, ar, g, nf, H9.out, hs9, HSN.out⟩)
      refine hK.out _ _ (fun h => (by cases h)) ?_
      clear hK K
      try simp only [Act.put, List.setIfInBounds_toArray, List.set_cons_zero, List.set_cons_succ]
      clear hs9 hk9 hord hsb
      refine wpAnyT_done (by kernel_rfl) ?_ _
      have HNO9 := snow_any H9.out
      have HTO0 := HTO0.out
      have HTO1 := HTO.out.2
      have ht00 := HE1.out.1
      have htto := (HNUM.out E HTO2.out).out.1
      go_wp2_with fail
      refine HNO9.mono ?_
      rintro e w10 ⟨rfl, rfl⟩
      go_wp2_with fail
      try rw [Exit.noGoto_ret]
      go_ret3
      exact ⟨xs, Av, cv, E, tuc, Wc, rfl, HNUM.out E HTO2.out, (R3.of_own O9.out).2, fun a e => (O9.out.lt a.block (by rw [e]; rfl)).1, by rw [← HDD.out]; exact S9.out, K9.out⟩
end Go.Proofs.YtakkfgkogomjbaaDoor
