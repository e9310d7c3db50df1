/-
  The law TopDrift: the walk of Run.
-/
import Derived.Test.YtakkfgkogomjbaaDoorX18
import Derived.Laws.AppendOwn
namespace Go.Proofs.YtakkfgkogomjbaaDoor
open Go.RowKit Go.Shelf
set_option linter.unusedVariables false
set_option linter.unusedSimpArgs false
theorem own_nil {w : World} {base : Nat} {e : TypeId} {sz n c : Nat} {xs : List Value} {A : Option Addr} (h : w.ownsRow base e sz (.slice A n c) n xs) : A = none → c = 0 := by
  rintro rfl
  rcases h.2 with ⟨h1, _⟩ | ⟨g, cap, cur, h1, _⟩
  · injection h1
  · cases h1
theorem info_fired : (Tryd.prog.info? 39).map (fun i => (i.zero, i.size, i.bytes)) = some (some (.agg #[.int .i64 0, .int .i64 0, .int .i64 0]), 3, 24) := by kernel_rfl
def lenV : Value → Nat
  | .slice _ n _ => n
  | _ => 0
/-- What a run at T tells. -/
def TRun (w : World) (G : TG) (T tu d : Int) (per : Nat) (e : Ending) (w' : World) : Prop :=
  ∃ (c : Nat) (A : Option Addr) (cap : Nat) (tu' : Int), e = .returned (.tuple #[.slice A c cap, .int .i64 0]) ∧ Kept (c ≤ 1024 ∧ (∀ i : Nat, i < c → d + (i : Int) * (per : Int) ≤ T) ∧ (c = 1024 ∨ T < d + (c : Int) * (per : Int)) ∧ tu ≤ tu' ∧ tu' ≤ tu + c) ∧
    R3 w' w'.heap.size A (firedL d per T c) ∧ (A = none → cap = 0) ∧ (∀ a, A = some a → w.heap.size ≤ a.block) ∧ TState w' G T tu' (d + (c : Int) * (per : Int)) per ∧ Kp G.lo G.tb w w'
set_option maxRecDepth 100000 in
set_option maxHeartbeats 4000000 in
theorem trun_any {w : World} {G : TG} {now tu d : Int} {per : Nat} (h : TState w G now tu d per) (hT : Tab w) (hlo : 0 < G.lo) (hn : 1 ≤ G.n) (p0 : 1 ≤ per) (p1 : per ≤ 4503599627370496) (T : Int) (ht : now ≤ T ∧ T ≤ 4503599627370496) (htu : tu + 1024 < 1000000000000) :
    Calls Tryd.prog 12 #[.pointer (some ⟨G.tb, 0, none⟩), .int .i64 T] w (TRun w G T tu d per) := by
  have HS := tset_any h hT hlo T ht
  have b0 : w.cell? ⟨G.tb, 0, none⟩ = some (.pointer (some ⟨G.wb, 0, none⟩)) := cell_of_row _ _ 0 _ _ _ h.cells
  have HH := Kept.mk h
  have HP := Kept.mk (And.intro p0 p1)
  have HTT := Kept.mk ht
  have HTU := Kept.mk htu
  have HORD := Kept.mk h.ord
  obtain ⟨i0, hi0, hz0, hz1, hz2⟩ := info_parts info_fired
  have h64 : T ≤ 4503599627370496 := ht.2
  clear h hT hlo p0 p1 ht htu
  go_enter Tryd.func12, Tryd.ntmps12
  go_wp2_with fail
  refine HS.mono ?_
  rintro e w1 ⟨rfl, hs1, hk1⟩
  have HK1 := Kept.mk hk1
  have HS1 := Kept.mk hs1
  clear b0 HS hk1 hs1
  go_wp2_with fail
  have HBASE := Kept.mk (show G.tb < w1.heap.size from HS1.out.lt)
  go_loopw [7] (fun v wr => ∃ (j : Nat) (tuj : Int), Kept (j ≤ 1024 ∧ (∀ i : Nat, i < j → d + (i : Int) * (per : Int) ≤ T) ∧ tu ≤ tuj ∧ tuj ≤ tu + j) ∧ Kept (wr.ownsRow w1.heap.size 39 3 v j ((firedL d per T j).flatMap Q3.cells)) ∧ Kept (TState wr G T tuj (d + (j : Int) * (per : Int)) per) ∧ Kept (Kp G.lo G.tb w1 wr)) (fun v _ => 1024 - lenV v)
  case atStart =>
    exact ⟨0, tu, ⟨by omega, fun i hi => by omega, by omega, by omega⟩, ⟨World.ownsRow_nil _ _ _ _⟩, ⟨by simpa using HS1.out⟩, ⟨Kp.refl _ _ _⟩⟩
  case round =>
    obtain ⟨j, tuj, hnum, hO, hS, hK⟩ := hrel
    obtain ⟨Av, cv, hv⟩ := own_slice hO.out
    subst hv
    obtain ⟨dj, hdj⟩ : ∃ dj, dj = d + (j : Int) * (per : Int) := ⟨_, rfl⟩
    rw [← hdj] at hS
    have HDJ := Kept.mk hdj
    clear hdj
    have hj0 := hnum.out.1
    have hb0 : wr.cell? ⟨G.tb, 0, none⟩ = some (.pointer (some ⟨G.wb, 0, none⟩)) := cell_of_row _ _ 0 _ _ _ hS.out.cells
    by_cases hj : j < 1024
    · have hdj0 : 0 ≤ dj := hS.out.d0
      by_cases hd : dj ≤ T
      · have HPOP := tpop_due hS.out hd
        clear hj0
        go_wp2_with fail
        refine HPOP.mono ?_
        rintro e w3 ⟨rfl, hp3, hk3⟩
        go_upto_region 8 with fail
        obtain ⟨xb, hxb⟩ : ∃ xb, xb = w3.heap.size := ⟨_, rfl⟩
        obtain ⟨W, hW⟩ : ∃ W, W = w3.alloc (.cells #[.int .i64 1, .int .i64 dj] 52) := ⟨_, rfl⟩
        have hx : W.heap[xb]? = some (.cells #[.int .i64 1, .int .i64 dj] 52) := by rw [hW, hxb]; exact heap_alloc_new _ _
        have hbW : Below w3.heap.size w3 W := by rw [hW]; exact below_box _ _
        have HXL := Kept.mk (show wr.heap.size ≤ xb by rw [hxb]; exact hk3.size)
        have HWZ := Kept.mk (show W.heap.size = xb + 1 by rw [hW, hxb]; simp)
        rw [← hW, ← hxb]
        have hord := HORD.out
        have hbase := HBASE.out
        have htl := hS.out.lt
        have hwz := hK.out.size
        have HPW := Kept.mk (show TPop W G T tuj per from hp3.below (hbW.mono (by have := hk3.size; omega)))
        have KW := Kept.mk (show Kp G.lo G.tb wr W from (hk3.wide (by omega)).trans (Kp.of_below hbW))
        have OWN := Kept.mk (own_kp hO.out KW.out (Nat.le_of_lt hbase))
        clear hW hxb hp3 hk3 hbW HPOP hb0
        have x0 := cell_of_row _ _ 0 _ _ _ hx
        have x1 := cell_of_row _ _ 1 _ _ _ hx
        have XX := Kept.mk hx
        have HOWN := Kept.mk (OWN.out.alloc (.cells #[.int .i64 1, .int .i64 dj, .int .i64 (T - dj)] 39))
        have HNEW := Kept.mk (show ∀ k u, [Value.int .i64 1, .int .i64 dj, .int .i64 (T - dj)][k]? = some u → (W.alloc (.cells #[.int .i64 1, .int .i64 dj, .int .i64 (T - dj)] 39)).cell? ((⟨W.heap.size, 0, none⟩ : Addr).add k) = some u from World.news_of_block (cs := #[.int .i64 1, .int .i64 dj, .int .i64 (T - dj)]) (heap_alloc_new W _))
        have hbs : w1.heap.size ≤ (W.alloc (.cells #[.int .i64 1, .int .i64 dj, .int .i64 (T - dj)] 39)).heap.size := by have := HWZ.out; have := HXL.out; simp; omega
        have HF := Kept.mk (fun (v' : Value) (w4 : World) (ho : w4.ownsRow w1.heap.size 39 3 v' (j + 1) ((firedL d per T j).flatMap Q3.cells ++ [Value.int .i64 1, .int .i64 dj, .int .i64 (T - dj)])) (hg : (W.alloc (.cells #[.int .i64 1, .int .i64 dj, .int .i64 (T - dj)] 39)).grownBy w4 (Value.slice Av j cv).ownBlock) => show
            ∃ A4 c4, v' = .slice A4 (j + 1) c4 ∧ Kept (w4.ownsRow w1.heap.size 39 3 v' (j + 1) ((firedL d per T (j + 1)).flatMap Q3.cells)) ∧ Kept (TPop w4 G T tuj per) ∧ Kept (Kp G.lo G.tb w1 w4) ∧ w4.cell? ⟨xb, 0, none⟩ = some (.int .i64 1) ∧ w4.cell? ⟨xb, 1, none⟩ = some (.int .i64 dj) from by
          obtain ⟨A4, c4, rfl⟩ := own_slice ho
          have hw1 := HWZ.out
          have hxl := HXL.out
          have hb : Below w1.heap.size W w4 := ((Below.refl _ _).alloc (by omega) _).grown hg hbs fun k hk => (HOWN.out.lt k hk).1
          have hrow : w4.heap[xb]? = some (.cells #[.int .i64 1, .int .i64 dj] 52) := by
            refine (hg.block xb (by simp; omega) fun e => ?_).trans ((heap_alloc_old W _ (by omega)).trans XX.out)
            have := (hO.out.lt xb e.symm).2
            omega
          refine ⟨A4, c4, rfl, ⟨?_⟩, ⟨HPW.out.below (hb.mono hbase)⟩, ⟨?_⟩, cell_of_row _ _ 0 _ _ _ hrow, cell_of_row _ _ 1 _ _ _ hrow⟩
          · rw [firedL_succ, List.flatMap_append, ← HDJ.out]
            simpa [Q3.cells] using ho
          · exact kp_bel (hK.out.trans KW.out) hb (Nat.le_refl _))
        clear hx htl hwz hord
        go_wp2_with (at_builtin; refine wpList_append_own _ rfl _ _ 35 rfl w1.heap.size 39 i0 (.agg #[.int .i64 0, .int .i64 0, .int .i64 0]) 3 24 Tryd.underlying35 hi0 hz0 hz1 hz2 rfl (by decide) _ _ _ rfl HOWN.out ⟨W.heap.size, 0, none⟩ 1 1 [.int .i64 1, .int .i64 dj, .int .i64 (T - dj)] rfl rfl HNEW.out (by simp [Value.oneCell']) (by simp only [maxLen]; omega) (by omega) hbs ?_; intro v' w4 own4 grow4 _; obtain ⟨A4, c4, rfl, hO4, hP4, hK4, y0, y1⟩ := HF.out v' w4 own4 grow4; clear own4 grow4)
        have hnn := hnum.out
        have HAG := tagain_g hP4.out hn (by have := HTU.out; omega) dj hdj0 (by omega) HP.out.1 HP.out.2
        clear hnn HF HNEW HOWN x0 x1 hbs hP4
        go_wp2_with fail
        refine HAG.mono ?_
        rintro e w5 ⟨rfl, ⟨tu5, htu5, hs5⟩, hk5⟩
        have HK5 := Kept.mk (hK4.out.trans hk5)
        have HO5 := Kept.mk (own_kp hO4.out hk5 (Nat.le_of_lt hbase))
        have HS5 := Kept.mk (show TState w5 G T tu5 (d + ((j + 1 : Nat) : Int) * (per : Int)) per by
          rw [show d + ((j + 1 : Nat) : Int) * (per : Int) = dj + per by rw [HDJ.out, Int.natCast_add, Int.add_mul]; simp; omega]; exact hs5)
        have HN5 := Kept.mk (show j + 1 ≤ 1024 ∧ (∀ i : Nat, i < j + 1 → d + (i : Int) * (per : Int) ≤ T) ∧ tu ≤ tu5 ∧ tu5 ≤ tu + ((j + 1 : Nat) : Int) from by
          obtain ⟨n1, n2, n3, n4⟩ := hnum.out
          have hu := htu5.out
          refine ⟨by omega, fun i hi => ?_, by omega, by omega⟩
          rcases Nat.lt_or_ge i j with h | h
          · exact n2 i h
          · obtain rfl : i = j := by omega
            rw [← HDJ.out]; exact hd)
        clear HAG hs5 hk5 y0 y1 hK4 hO4
        go_wp2
        go_roundw
        case rel => exact ⟨j + 1, tu5, HN5, HO5, HS5, HK5⟩
        case measure => simp [lenV]; omega
      · have HPOP := tpop_no hS.out (by omega)
        have HD := Kept.mk (show T < d + (j : Int) * (per : Int) by rw [← HDJ.out]; omega)
        clear hd hj0
        go_wp2_with fail
        refine HPOP.mono ?_
        rintro e w3 ⟨rfl, hb3⟩
        have HB := Kept.mk (show Below wr.heap.size wr (w3.alloc (.cells #[.int .i64 0, .int .i64 0] 52)) from hb3.trans ((below_box w3 _).mono hb3.size))
        have hbase := HBASE.out
        have HO3 := Kept.mk (own_kp (lo := G.lo) (hi := G.tb) hO.out (Kp.of_below HB.out) (Nat.le_of_lt hbase))
        clear hb3 HPOP hb0
        go_wp2_with fail
        go_ret2
        obtain ⟨n1, n2, n3, n4⟩ := hnum.out
        refine ⟨j, Av, cv, tuj, rfl, ⟨by omega, n2, .inr HD.out, n3, n4⟩, (R3.of_own HO3.out).2, own_nil HO3.out, fun a e => by have := (HO3.out.lt a.block (by rw [e]; rfl)).1; have := HK1.out.size; omega, ?_, ?_⟩
        · rw [← HDJ.out]
          exact hS.out.below (HB.out.mono hS.out.lt)
        · exact ((HK1.out.wide (by have := HORD.out; omega)).trans hK.out).trans (Kp.of_below HB.out)
    · obtain rfl : j = 1024 := by omega
      clear hj hj0 hb0
      go_wp2_with fail
      go_ret2
      obtain ⟨n1, n2, n3, n4⟩ := hnum.out
      refine ⟨1024, Av, cv, tuj, rfl, ⟨by omega, n2, .inl rfl, n3, n4⟩, (R3.of_own hO.out).2, own_nil hO.out, fun a e => by have := (hO.out.lt a.block (by rw [e]; rfl)).1; have := HK1.out.size; omega, ?_, ?_⟩
      · rw [← HDJ.out]; exact hS.out
      · exact (HK1.out.wide (by have := HORD.out; omega)).trans hK.out
end Go.Proofs.YtakkfgkogomjbaaDoor
