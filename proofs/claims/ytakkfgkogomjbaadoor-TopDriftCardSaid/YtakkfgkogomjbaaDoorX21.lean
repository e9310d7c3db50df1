/-
  The law TopDrift: the service rings.
-/
import Derived.Test.YtakkfgkogomjbaaDoorX20
namespace Go.Proofs.YtakkfgkogomjbaaDoor
open Go.RowKit Go.Shelf
set_option linter.unusedVariables false
set_option linter.unusedSimpArgs false
/-- What ringing tells. -/
def SRing (w : World) (G : TG) (sb : Nat) (mn mx t tu d : Int) (per : Nat) (e : Ending) (w' : World) : Prop :=
  ∃ (c : Nat) (A : Option Addr) (cap : Nat) (tu' W' : Int), e = .returned (.slice A c cap) ∧ Kept (c ≤ 1024 ∧ (∀ i : Nat, i < c → d + (i : Int) * (per : Int) ≤ t) ∧ (c = 1024 ∨ t < d + (c : Int) * (per : Int)) ∧ tu ≤ tu' ∧ tu' ≤ tu + c) ∧
    R3 w' w'.heap.size A (firedL d per t c) ∧ (A = none → cap = 0) ∧ (∀ a, A = some a → w.heap.size ≤ a.block) ∧ SState w' G sb mn mx t t tu' (d + (c : Int) * (per : Int)) per W' ∧ Kp G.lo (sb + 1) w w'
theorem Kp.wide2 {lo lo' hi : Nat} {a w : World} (h : Kp lo hi a w) (hh : lo' ≤ lo) : Kp lo' hi a w := ⟨h.os, h.tape, h.output, h.size, fun i h1 h2 => h.block i h1 (by omega)⟩
theorem R3.kp {w w' : World} {lo hi : Nat} {A : Option Addr} {xs : List Q3} (h : R3 w w.heap.size A xs) (hk : Kp lo hi w w') (hb : ∀ b off, A = some ⟨b, off, none⟩ → 0 < xs.length → b < lo ∨ hi ≤ b) : R3 w' w'.heap.size A xs := fun h0 => by
  obtain ⟨b, off, e, hlt, hc⟩ := h h0
  have hbl := hk.block b hlt (hb b off e h0)
  refine ⟨b, off, e, Nat.lt_of_lt_of_le hlt hk.size, fun j x hj => ?_⟩
  obtain ⟨h1, h2, h3⟩ := hc j x hj
  exact ⟨(World.cell?_of_block (a := ⟨b, off + j * 3, none⟩) hbl).trans h1, (World.cell?_of_block (a := ⟨b, off + j * 3 + 1, none⟩) hbl).trans h2, (World.cell?_of_block (a := ⟨b, off + j * 3 + 2, none⟩) hbl).trans h3⟩
set_option maxRecDepth 100000 in
set_option maxHeartbeats 4000000 in
theorem sring_any {w : World} {G : TG} {sb : Nat} {mn mx m : Int} {a l : Bool} {t g : Int} {ar nf : Bool} {wn tu d : Int} {per : Nat}
    (h : w.heap[sb]? = some (.cells (svC mn mx (t % 4294967296) m a l t G.tb ar g nf) 68)) (hs : TState w G wn tu d per) (hT : Tab w) (hlo : 0 < G.lo) (hn : 1 ≤ G.n) (hsb : G.tb < sb)
    (hmx : -9223372036854775808 ≤ mx ∧ mx ≤ 9223372036854775807) (hti : TimOk mn mx) (p0 : 1 ≤ per) (p1 : per ≤ 4503599627370496) (ht : wn ≤ t ∧ t ≤ 4503599627370496) (htu : tu + 1024 < 1000000000000) (hlate : d ≤ 4503599627370496 → t < d + mn) :
    Calls Tryd.prog 26 #[.pointer (some ⟨sb, 0, none⟩)] w (SRing w G sb mn mx t tu d per) := by
  have hord := hs.ord
  have hsl := (Array.getElem?_eq_some_iff.1 h).1
  have n0 : 0 ≤ t := by omega
  have c2 : w.cell? ⟨sb, 2, none⟩ = some (.int .u32 (t % 4294967296)) := cell_of_row _ _ 2 _ _ _ h
  have c3 : w.cell? ⟨sb, 3, none⟩ = some (.int .u32 m) := cell_of_row _ _ 3 _ _ _ h
  have c4 : w.cell? ⟨sb, 4, none⟩ = some (.bool a) := cell_of_row _ _ 4 _ _ _ h
  have c5 : w.cell? ⟨sb, 5, none⟩ = some (.bool l) := cell_of_row _ _ 5 _ _ _ h
  have H := Kept.mk h
  have HS := Kept.mk hs
  have HT := Kept.mk hT
  have HORD := Kept.mk hord
  have HSL := Kept.mk hsl
  have HQ := Kept.mk (And.intro hlo (And.intro hn (And.intro hsb (And.intro p0 (And.intro p1 (And.intro ht (And.intro htu (And.intro n0 hlate))))))))
  have HTI := Kept.mk (And.intro hmx hti)
  clear h hs hT hlo hn hsb hmx hti p0 p1 ht htu hlate hord hsl n0
  go_enter Tryd.func26, Tryd.ntmps26
  go_wp2_with fail
  refine (hack_any _ m a l _).mono ?_
  rintro e w1 ⟨rfl, hb1⟩
  have H1 := Kept.mk ((hb1.block sb HSL.out).trans H.out)
  have K1 := Kept.mk (Kp.of_below (lo := sb) (hi := sb + 1) hb1)
  clear c2 c3 c4 c5 hb1
  go_upto_region 2 with (refine wpList_store_at rfl 62 _ _ rfl sb 2 rfl #[.int .u32 (t % 4294967296), .int .u32 m, .bool a, .bool false] rfl 68 (svC mn mx (t % 4294967296) m a l t G.tb ar g nf) (svC mn mx (t % 4294967296) m a false t G.tb ar g nf) H1.out (size_hw4 _ _ _ _) (by simp [svC]) hw_one rfl ?_; intro w2 hp; have HP2 := Kept.mk hp; clear hp)
  obtain ⟨wd, hwd⟩ : ∃ wd, wd = w2.drew := ⟨_, rfl⟩
  have H2 := Kept.mk (show wd.heap[sb]? = some (.cells (svC mn mx (t % 4294967296) m a false t G.tb ar g nf) 68) by rw [hwd]; exact HP2.out.here)
  have K2 := Kept.mk (show Kp sb (sb + 1) w wd by rw [hwd]; exact (K1.out.putIn HP2.out (Nat.le_refl _) (Nat.lt_succ_self _)).trans (Kp.of_below ((Below.refl _ _).drewN 1)))
  have HS2 := Kept.mk (HS.out.below (K2.out.toBelow HQ.out.2.2.1 (by have := HSL.out; have := HQ.out.2.2.1; omega)))
  have HT2 := Kept.mk (HT.out.kp K2.out (by have := HQ.out.2.2.1; omega) (by have := HSL.out; omega))
  have HS7 := Kept.mk (show (fun V : World => V.cell? ⟨sb, 7, none⟩ = some (.pointer (some ⟨G.tb, 0, none⟩))) wd from cell_of_row _ _ 7 _ _ _ H2.out)
  refine wp_region_late (fun V : World => V.cell? ⟨sb, 7, none⟩ = some (.pointer (some ⟨G.tb, 0, none⟩))) (fun _ => false) (by kernel_rfl) ?_
  rw [← hwd]
  clear hwd
  refine wpAnyT_take (i := 0) (v := ?v0) [0] (by simp only [List.getElem?_toArray, List.getElem?_cons_succ, List.getElem?_cons_zero]; exact rfl) (by kernel_rfl) (by kernel_rfl) (by kernel_rfl) (by kernel_rfl) (by intro _ _ _ h; exact h) (Or.inl ⟨by rfl, ?hy0⟩) HS7.out ?rest0
  case hy0 => (intro w hSw; go_simp; try with_reducible rfl)
  try simp only [Act.put, List.setIfInBounds_toArray, List.set_cons_zero, List.set_cons_succ]
  refine wpAnyT_take (i := 1) (v := ?v1) [1] (by simp only [List.getElem?_toArray, List.getElem?_cons_succ, List.getElem?_cons_zero]; exact rfl) (by kernel_rfl) (by kernel_rfl) (by kernel_rfl) (by kernel_rfl) (by intro _ _ _ h; exact h) (Or.inl ⟨by rfl, ?hy1⟩) HS7.out ?rest1
  case hy1 => (intro w hSw; go_simp; try with_reducible rfl)
  try simp only [Act.put, List.setIfInBounds_toArray, List.set_cons_zero, List.set_cons_succ]
  refine wpAnyT_take (i := 2) (v := ?v2) [2] (by simp only [List.getElem?_toArray, List.getElem?_cons_succ, List.getElem?_cons_zero]; exact rfl) (by kernel_rfl) (by kernel_rfl) (by kernel_rfl) (by kernel_rfl) (by intro _ _ _ h; exact h) (Or.inl ⟨by rfl, ?hy2⟩) HS7.out ?rest2
  case hy2 => (intro w hSw; go_simp; try with_reducible rfl)
  try simp only [Act.put, List.setIfInBounds_toArray, List.set_cons_zero, List.set_cons_succ]
  refine wpAnyT_take (i := 3) (v := ?v3) [3] (by simp only [List.getElem?_toArray, List.getElem?_cons_succ, List.getElem?_cons_zero]; exact rfl) (by kernel_rfl) (by kernel_rfl) (by kernel_rfl) (by kernel_rfl) (by intro _ _ _ h; exact h) (Or.inl ⟨by rfl, ?hy3⟩) HS7.out ?rest3
  case hy3 => (intro w hSw; go_simp; try with_reducible rfl)
  try simp only [Act.put, List.setIfInBounds_toArray, List.set_cons_zero, List.set_cons_succ]
  refine wpAnyT_take (i := 4) (v := ?v4) [4] (by simp only [List.getElem?_toArray, List.getElem?_cons_succ, List.getElem?_cons_zero]; exact rfl) (by kernel_rfl) (by kernel_rfl) (by kernel_rfl) (by kernel_rfl) (by intro _ _ _ h; exact h) (Or.inl ⟨by rfl, ?hy4⟩) HS7.out ?rest4
  case hy4 => (intro w hSw; go_simp; try with_reducible rfl)
  try simp only [Act.put, List.setIfInBounds_toArray, List.set_cons_zero, List.set_cons_succ]
  refine wpAnyT_one 5 (by kernel_rfl) (by simp only [List.getElem?_toArray, List.getElem?_cons_succ, List.getElem?_cons_zero]; exact rfl) (fun K hK => ?_)
  go_simp
  go_at_call 8
  refine (snow_any H2.out).mono ?_
  rintro e wl ⟨rfl, rfl⟩
  refine hK.out _ _ (fun _ => HS7.out) ?_
  clear hK K
  try simp only [Act.put, List.setIfInBounds_toArray, List.set_cons_zero, List.set_cons_succ]
  refine wpAnyT_one 6 (by kernel_rfl) (by simp only [List.getElem?_toArray, List.getElem?_cons_succ, List.getElem?_cons_zero]; exact rfl) (fun K hK => ?_)
  go_simp
  go_at_call 12
  refine (trun_any HS2.out HT2.out HQ.out.1 HQ.out.2.1 HQ.out.2.2.2.1 HQ.out.2.2.2.2.1 t HQ.out.2.2.2.2.2.1 HQ.out.2.2.2.2.2.2.1).mono ?_
  rintro e w3 ⟨c, A, cap, tu3, rfl, hnum, hR, hcap, hfr, hs3, hk3⟩
  have H3 := Kept.mk ((hk3.block sb (by have := K2.out.size; have := HSL.out; omega) (.inr (by have := HQ.out.2.2.1; omega))).trans H2.out)
  have HS73 := Kept.mk (show (fun V : World => V.cell? ⟨sb, 7, none⟩ = some (.pointer (some ⟨G.tb, 0, none⟩))) w3 from cell_of_row _ _ 7 _ _ _ H3.out)
  have HR := Kept.mk hR
  have HCAP := Kept.mk hcap
  have HFR := Kept.mk hfr
  have HS3 := Kept.mk hs3
  have K3 := Kept.mk hk3
  refine hK.out _ _ (fun _ => HS73.out) ?_
  clear hK K
  try simp only [Act.put, List.setIfInBounds_toArray, List.set_cons_zero, List.set_cons_succ]
  clear hR hcap hfr hs3 hk3
  refine wpAnyT_take (i := 7) (v := ?v7) [7] (by simp only [List.getElem?_toArray, List.getElem?_cons_succ, List.getElem?_cons_zero]; exact rfl) (by kernel_rfl) (by kernel_rfl) (by kernel_rfl) (by kernel_rfl) (by intro _ _ _ h; exact h) (Or.inl ⟨by rfl, ?hy7⟩) HS73.out ?rest7
  case hy7 => (intro w hSw; go_simp; try with_reducible rfl)
  try simp only [Act.put, List.setIfInBounds_toArray, List.set_cons_zero, List.set_cons_succ]
  refine wpAnyT_take (i := 8) (v := ?v8) [8] (by simp only [List.getElem?_toArray, List.getElem?_cons_succ, List.getElem?_cons_zero]; exact rfl) (by kernel_rfl) (by kernel_rfl) (by kernel_rfl) (by kernel_rfl) (by intro _ _ _ h; exact h) (Or.inl ⟨by rfl, ?hy8⟩) HS73.out ?rest8
  case hy8 => (intro w hSw; go_simp; try with_reducible rfl)
  try simp only [Act.put, List.setIfInBounds_toArray, List.set_cons_zero, List.set_cons_succ]
  refine wpAnyT_take (i := 9) (v := ?v9) [9] (by simp only [List.getElem?_toArray, List.getElem?_cons_succ, List.getElem?_cons_zero]; exact rfl) (by kernel_rfl) (by kernel_rfl) (by kernel_rfl) (by kernel_rfl) (by intro _ _ _ h; exact h) (Or.inl ⟨by rfl, ?hy9⟩) HS73.out ?rest9
  case hy9 => (intro w hSw; go_simp; try with_reducible rfl)
  try simp only [Act.put, List.setIfInBounds_toArray, List.set_cons_zero, List.set_cons_succ]
  refine wpAnyT_one 10 (by kernel_rfl) (by simp only [List.getElem?_toArray, List.getElem?_cons_succ, List.getElem?_cons_zero]; exact rfl) (fun K hK => ?_)
  go_simp
  refine hK.out _ _ (fun _ => HS73.out) ?_
  clear hK K
  try simp only [Act.put, List.setIfInBounds_toArray, List.set_cons_zero, List.set_cons_succ]
  refine wpAnyT_one 11 (by kernel_rfl) (by simp only [List.getElem?_toArray, List.getElem?_cons_succ, List.getElem?_cons_zero]; exact rfl) (fun K hK => ?_)
  go_simp
  refine hK.out _ _ (fun _ => HS73.out) ?_
  clear hK K
  try simp only [Act.put, List.setIfInBounds_toArray, List.set_cons_zero, List.set_cons_succ]
  refine wpAnyT_done (by kernel_rfl) ?_ _
  have HRE := srest_any H3.out
  go_wp2_with fail
  refine HRE.mono ?_
  rintro e w4 ⟨rfl, h4, k4⟩
  have HSZ := Kept.mk (show sb < w3.heap.size from (Array.getElem?_eq_some_iff.1 H3.out).1)
  have HS4 := Kept.mk (HS3.out.below (k4.toBelow HQ.out.2.2.1 (by have := HSZ.out; have := HQ.out.2.2.1; omega)))
  have K34 := Kept.mk ((K2.out.wide2 (lo' := G.lo) (by have := HORD.out; have := HQ.out.2.2.1; omega)).trans (K3.out.wide (hi' := sb + 1) (by have := HQ.out.2.2.1; omega)))
  have K4 := Kept.mk (K34.out.trans (k4.wide2 (lo' := G.lo) (by have := HORD.out; have := HQ.out.2.2.1; omega)))
  have HT4 := Kept.mk (HT.out.kp K4.out HQ.out.1 (by have := HSL.out; omega))
  have HR4 := Kept.mk (HR.out.kp k4 (fun b off e _ => .inr (by have h1 : wd.heap.size ≤ b := HFR.out _ e; have := K2.out.size; have := HSL.out; omega)))
  have HLK := slook_g h4 HS4.out HT4.out HQ.out.2.2.1 HTI.out.1 HTI.out.2 HQ.out.2.2.2.2.2.2.2.1 HQ.out.2.2.2.2.2.1.2
  clear HRE h4 k4
  go_wp2_with fail
  refine HLK.mono ?_
  rintro e w5 ⟨rfl, m', a', ar', g', nf', hc5, hs5, hk5, hn5⟩
  have HR5 := Kept.mk (HR4.out.kp hk5 (fun b off e _ => .inr (by have h1 : wd.heap.size ≤ b := HFR.out _ e; have := K2.out.size; have := HSL.out; omega)))
  have K5 := Kept.mk (K4.out.trans (hk5.wide2 (lo' := G.lo) (by have := HORD.out; have := HQ.out.2.2.1; omega)))
  have HSS := Kept.mk (show SState w5 G sb mn mx t t tu3 (d + (c : Int) * (per : Int)) per (lkW mn mx t (d + (c : Int) * (per : Int))) from
    ⟨m', a', false, ar', g', nf', hc5, hs5, ⟨lk_num HTI.out.2 HQ.out.2.2.2.2.2.1.2 (fun hd => by
      have hl := HQ.out.2.2.2.2.2.2.2.2
      have hp := HQ.out.2.2.2.1
      have : 0 ≤ (c : Int) * (per : Int) := Int.mul_nonneg (by omega) (by omega)
      have := hl (by omega)
      omega) hn5.out⟩⟩)
  clear HLK hc5 hs5 hk5 hn5
  go_wp2_with fail
  go_ret
  exact ⟨c, A, cap, tu3, _, rfl, hnum, HR5.out, HCAP.out, fun a e => by have := HFR.out a e; have := K2.out.size; omega, HSS.out, K5.out⟩
end Go.Proofs.YtakkfgkogomjbaaDoor
