/-
  The walk of ideal.begin.
-/
import Derived.Test.YtcchmkpodfjhcaaM7b
import Derived.BigRegion
namespace Go.Proofs.Ytcchmkpodfjhcaa
open Go.RowKit
set_option linter.unusedVariables false
theorem info_i64M : (Try.prog.info? 2).map (fun i => (i.zero, i.size, i.bytes)) = some (some (.int .i64 0), 1, 8) := by kernel_rfl
theorem make_i64M (n : Nat) (hn : n ≤ 4096) : ∃ X : Array Value, (∀ j, j < n → X[j]? = some (.int .i64 0)) ∧ ∀ W, (Instr.makeSlice 85 (.int .i64 n) (.int .i64 n)).run Try.prog W = .ok (.slice (some ⟨W.heap.size, 0, none⟩) n n) (W.alloc (.cells X 2)) := by
  obtain ⟨i0, hi, hz0, hz1, hz2⟩ := info_parts info_i64M
  refine ⟨madeCells (Value.int .i64 0).cells n, fun j hj => ?_, fun W => ?_⟩
  · unfold madeCells
    rw [Array.getElem?_map, Array.getElem?_range, if_pos hj]
    simp only [Option.map_some, Value.cells]
    have : j % 1 = 0 := Nat.mod_one j
    simp [this]
  · have := run_make (P := Try.prog) W 85 2 i0 _ Try.underlying85 hi hz0 .i64 .i64 n n (by omega) (by omega) (by rw [hz2]; omega) (by omega)
    rw [hz1] at this
    simpa using this
theorem BG.first {w : World} {A : Option Addr} {xs : List Q3} {cap : Nat} {X : Array Value} (hX : ∀ j, j < xs.length → X[j]? = some (.int .i64 0)) :
    BG w ((((w.alloc (.cells #[.slice A xs.length cap] 84)).alloc (.cells X 2)).alloc (.cells #[.slice A xs.length cap, .slice none 0 0, .pointer none, .slice none 0 0, .slice (some ⟨w.heap.size + 1, 0, none⟩) xs.length xs.length, .slice none 0 0, .int .i64 0] 160)).drew) w.heap.size A xs cap 0 0 := by
  have z1 : (w.alloc (.cells #[.slice A xs.length cap] 84)).heap.size = w.heap.size + 1 := by simp
  have z2 : ((w.alloc (.cells #[.slice A xs.length cap] 84)).alloc (.cells X 2)).heap.size = w.heap.size + 2 := by simp
  have b1 := below_box w (.cells #[.slice A xs.length cap] 84)
  have b2 := below_box (w.alloc (.cells #[.slice A xs.length cap] 84)) (.cells X 2)
  have b3 := below_box ((w.alloc (.cells #[.slice A xs.length cap] 84)).alloc (.cells X 2)) (.cells #[.slice A xs.length cap, .slice none 0 0, .pointer none, .slice none 0 0, .slice (some ⟨w.heap.size + 1, 0, none⟩) xs.length xs.length, .slice none 0 0, .int .i64 0] 160)
  have h1 : BG w (((w.alloc (.cells #[.slice A xs.length cap] 84)).alloc (.cells X 2)).alloc (.cells #[.slice A xs.length cap, .slice none 0 0, .pointer none, .slice none 0 0, .slice (some ⟨w.heap.size + 1, 0, none⟩) xs.length xs.length, .slice none 0 0, .int .i64 0] 160)) w.heap.size A xs cap 0 0 := by
    refine ⟨?_, ⟨X, ?_, hX⟩, ⟨none, 0, none, 0, ?_, ⟨rfl, .inl ⟨rfl, rfl⟩⟩, ⟨rfl, .inl ⟨rfl, rfl⟩⟩, fun g e => by simp [Value.ownBlock] at e⟩, by simp, b1.trans ((b2.mono (by simp)).trans (b3.mono (by simp; omega)))⟩
    · rw [b3.block _ (by simp; omega), b2.block _ (by simp)]
      exact heap_alloc_new w _
    · rw [b3.block _ (by simp), ← z1]
      exact heap_alloc_new _ _
    · rw [← z2]
      exact heap_alloc_new _ _
  exact h1.drewN 1
set_option maxRecDepth 100000 in
set_option maxHeartbeats 16000000 in
theorem begin_any {w : World} {A : Option Addr} {xs : List Q3} {cap : Nat} (hR : Rt xs) (hx : R3 w w.heap.size A xs) :
    Calls Try.prog 99 #[.slice A xs.length cap] w (Beg w A xs cap) := by
  obtain ⟨X, hX, mk1⟩ := make_i64M xs.length hR.len
  have hlen := hR.len
  have HX := Kept.mk (BG.first (w := w) (A := A) (cap := cap) hX)
  have HI := Kept.mk hx
  have HR := Kept.mk hR
  obtain ⟨i0, hi0, hz0, hz1, hz2⟩ := info_parts info_int
  obtain ⟨j0, hj0, hj1, hj2, hj3⟩ := info_parts info_i64M
  clear hX hx hR
  go_enter Try.func99, Try.ntmps99
  go_upto_region 1 with fail
  go_region
  all_goals go_upto_region 2 with fail
  obtain ⟨W1, hW1⟩ : ∃ W1, W1 = ((((w.alloc (.cells #[.slice A xs.length cap] 84)).alloc (.cells X 2)).alloc (.cells #[.slice A xs.length cap, .slice none 0 0, .pointer none, .slice none 0 0, .slice (some ⟨w.heap.size + 1, 0, none⟩) xs.length xs.length, .slice none 0 0, .int .i64 0] 160)).drew) := ⟨_, rfl⟩
  obtain ⟨pb, hpb⟩ : ∃ pb, pb = w.heap.size + 1 + 1 := ⟨_, rfl⟩
  rw [← hW1, ← hpb]
  have HB := Kept.mk (show BG w W1 w.heap.size A xs cap 0 0 by rw [hW1]; exact HX.out)
  have HPB := Kept.mk (show pb = w.heap.size + 2 from hpb)
  have hbx1 : W1.cell? ⟨w.heap.size, 0, none⟩ = some (.slice A xs.length cap) := cell_of_row _ _ 0 _ _ _ HB.out.bx
  clear hW1 hpb HX mk1
  go_wp2_with fail
  go_loopw [14] (fun t wr => ∃ k : Nat, k ≤ xs.length ∧ t = .int .i64 k ∧ BG w wr w.heap.size A xs cap k k) (fun t _ => xs.length - (intOf t).toNat)
  case atStart => exact ⟨0, by omega, rfl, HB.out⟩
  case round =>
    clear hbx1 HB
    obtain ⟨k, hk, rfl, hB⟩ := hrel
    by_cases hlt : k < xs.length
    · have ik : (k : Int) < (xs.length : Int) := by omega
      obtain ⟨b, off, rfl, hbB, hc⟩ := (HI.out.below hB.bw) (by omega)
      obtain ⟨q, hq, hqo, hqa, hqb, hqc⟩ := HR.out.at hlt
      obtain ⟨e1, e2, e3⟩ := hc k q hq
      obtain ⟨qa, qb, qc⟩ := q
      simp only at e1 e2 e3 hqc
      have hst : csC xs k ++ [.int .i64 qc] = csC xs (k + 1) := by rw [csC_succ, hqc]
      have HST := Kept.mk hqc
      have HBA := Kept.mk hB
      clear hc hq hqo hqa hqb hqc hst hB
      go_upto_region 5 with fail
      obtain ⟨wa, hwa⟩ : ∃ wa, wa = wr.alloc (.cells #[.int .i64 qa, .int .i64 qb, .int .i64 qc] 108) := ⟨_, rfl⟩
      obtain ⟨xb, hxb⟩ : ∃ xb, xb = wr.heap.size := ⟨_, rfl⟩
      rw [← hwa, ← hxb]
      have hBa : BG w wa w.heap.size (some ⟨b, off, none⟩) xs cap k k := by rw [hwa]; exact HBA.out.alloc _
      have hxlt : xb < wa.heap.size := by rw [hwa, hxb]; simp
      have hxc : wa.cell? ⟨xb, 2, none⟩ = some (.int .i64 qc) := by
        rw [hwa, hxb]; exact cell_of_row _ _ 2 _ _ _ (heap_alloc_new _ _)
      have hxpb : xb ≠ pb := by have := HBA.out.size; have := HPB.out; omega
      have hxown : ∀ v n ys (e : TypeId), wr.ownsRow (w.heap.size + 3) e 1 v n ys → some xb ≠ v.ownBlock := fun v n ys e ho h => by
        have := (ho.lt xb h.symm).2; omega
      obtain ⟨Ac, cc, Al, cl, h1, h2, h3, h4⟩ := HBA.out.box
      have hpl : pb < wa.heap.size := by have := hBa.size; have := HPB.out; omega
      have h1a : wa.heap[w.heap.size + 2]? = some (.cells #[.slice (some ⟨b, off, none⟩) xs.length cap, .slice Ac k cc, .pointer none, .slice Al k cl, .slice (some ⟨w.heap.size + 1, 0, none⟩) xs.length xs.length, .slice none 0 0, .int .i64 0] 160) := by
        rw [hwa, (below_box wr _).block _ (by have := HBA.out.size; omega)]; exact h1
      have h2a : wa.ownsRow (w.heap.size + 3) 3 1 (.slice Ac k cc) k (idC k) := by rw [hwa]; exact h2.alloc _
      have hxo : some xb ≠ (Value.slice Ac k cc).ownBlock := hxown _ _ _ _ h2
      have hpo : some pb ≠ (Value.slice Ac k cc).ownBlock := fun h => by have := (h2.lt pb h.symm).1; have := HPB.out; omega
      have c1 : wa.cell? ⟨pb, 1, none⟩ = some (.slice Ac k cc) := by rw [HPB.out]; exact cell_of_row _ _ 1 _ _ _ h1a
      have f1 : wa.frozen? ⟨pb, 1, none⟩ = false := by rw [HPB.out]; exact frozen_of_row _ _ 1 _ _ h1a
      have HBa := Kept.mk hBa
      have H1a := Kept.mk h1a
      have H2a := Kept.mk h2a
      have HN := Kept.mk (show ∀ j u, [Value.int .i64 (k : Int)][j]? = some u → (wa.alloc (.cells #[.int .i64 (k : Int)] 3)).cell? ((⟨wa.heap.size, 0, none⟩ : Addr).add j) = some u from World.news_of_block (cs := #[.int .i64 (k : Int)]) (heap_alloc_new wa _))
      have hsz : w.heap.size + 3 ≤ (wa.alloc (.cells #[.int .i64 (k : Int)] 3)).heap.size := by have := hBa.size; simp; omega
      clear hwa hxb hBa h1 h2 h3 h4 h1a h2a hxown e1 e2 e3 HBA
      go_upto_region 6 with (at_builtin; refine wpList_append_lies _ rfl _ _ 28 rfl (w.heap.size + 3) 3 i0 (.int .i64 0) 1 8 Try.underlying28 hi0 hz0 hz1 hz2 rfl (by decide) (.slice Ac k cc) k (idC k) rfl (H2a.out.alloc _) ⟨wa.heap.size, 0, none⟩ 1 1 [.int .i64 (k : Int)] rfl rfl HN.out (by simp [Value.oneCell']) (by decide) (by simp only [maxLen]; omega) (by omega) hsz _ rfl ?_; intro g4 cap4 w4 own4 grow4 lies4 hlt4; have hb5 := Kept.mk (HBa.out.come H1a.out rfl (below_box wa _) rfl own4 grow4 lies4); have q4 : w4.cell? ⟨pb, 1, none⟩ = some (.slice Ac k cc) := (grow4.cell_far ⟨pb, 1, none⟩ (by simp; omega) hpo).trans (((below_box wa _).cell (p := ⟨pb, 1, none⟩) hpl).trans c1); have g4' : w4.frozen? ⟨pb, 1, none⟩ = false := (grow4.frozen_far ⟨pb, 1, none⟩ (by simp; omega) hpo).trans (((below_box wa _).frozen (p := ⟨pb, 1, none⟩) hpl).trans f1); have x4 : w4.cell? ⟨xb, 2, none⟩ = some (.int .i64 qc) := (grow4.cell_far ⟨xb, 2, none⟩ (by simp; omega) hxo).trans (((below_box wa _).cell (p := ⟨xb, 2, none⟩) hxlt).trans hxc); have z4 : xb < w4.heap.size := Nat.lt_of_lt_of_le hxlt (Nat.le_trans (below_box wa _).size grow4.size); clear own4 grow4 lies4 hlt4)
      obtain ⟨w5, hw5⟩ : ∃ w5, w5 = w4.setCell ⟨pb, 1, none⟩ (.slice (some ⟨g4, 0, none⟩) (k + 1) cap4) := ⟨_, rfl⟩
      rw [← hw5]
      have hB5 : BG w w5 w.heap.size (some ⟨b, off, none⟩) xs cap (k + 1) k := by rw [hw5, HPB.out]; exact hb5.out
      have x5 : w5.cell? ⟨xb, 2, none⟩ = some (.int .i64 qc) := by rw [hw5]; exact (World.cell?_setCell_other _ _ _ _ (by simp <;> (intro h; exact absurd h hxpb))).trans x4
      have z5 : xb < w5.heap.size := by rw [hw5]; simpa using z4
      obtain ⟨Ac5, cc5, Al5, cl5, h15, h25, h35, h45⟩ := hB5.box
      have hs5 := hB5.size
      have hpl5 : pb < w5.heap.size := by have := HPB.out; omega
      have c5 : w5.cell? ⟨pb, 3, none⟩ = some (.slice Al5 k cl5) := by rw [HPB.out]; exact cell_of_row _ _ 3 _ _ _ h15
      have f5 : w5.frozen? ⟨pb, 3, none⟩ = false := by rw [HPB.out]; exact frozen_of_row _ _ 3 _ _ h15
      have HB5 := Kept.mk hB5
      have H15 := Kept.mk h15
      have HO5 := Kept.mk (show ((w5.alloc (.cells #[.int .i64 qc] 2)).drew).ownsRow (w.heap.size + 3) 2 1 (.slice Al5 k cl5) k (csC xs k) from h35.alloc _)
      have HS5 := Kept.mk (show w.heap.size + 3 ≤ ((w5.alloc (.cells #[.int .i64 qc] 2)).drew).heap.size by show _ ≤ (w5.alloc _).heap.size; simp; omega)
      have HPL5 := Kept.mk (show pb < ((w5.alloc (.cells #[.int .i64 qc] 2)).drew).heap.size by show _ < (w5.alloc _).heap.size; simp; omega)
      have HPO5 := Kept.mk (show some pb ≠ (Value.slice Al5 k cl5).ownBlock from fun h => by have := (h35.lt pb h.symm).1; have := HPB.out; omega)
      have HC5 := Kept.mk (show ((w5.alloc (.cells #[.int .i64 qc] 2)).drew).cell? ⟨pb, 3, none⟩ = some (.slice Al5 k cl5) from ((below_box w5 _).cell (p := ⟨pb, 3, none⟩) hpl5).trans c5)
      have HF5 := Kept.mk (show ((w5.alloc (.cells #[.int .i64 qc] 2)).drew).frozen? ⟨pb, 3, none⟩ = false from ((below_box w5 _).frozen (p := ⟨pb, 3, none⟩) hpl5).trans f5)
      have HN5 := Kept.mk (show ∀ j u, [Value.int .i64 qc][j]? = some u → ((w5.alloc (.cells #[.int .i64 qc] 2)).drew).cell? ((⟨w5.heap.size, 0, none⟩ : Addr).add j) = some u from World.news_of_block (cs := #[.int .i64 qc]) (heap_alloc_new w5 _))
      have ca5 : (w5.alloc (.cells #[.int .i64 qc] 2)).cell? ⟨pb, 3, none⟩ = some (.slice Al5 k cl5) := ((below_box w5 _).cell (p := ⟨pb, 3, none⟩) hpl5).trans c5
      have xa5 : (w5.alloc (.cells #[.int .i64 qc] 2)).cell? ⟨xb, 2, none⟩ = some (.int .i64 qc) := ((below_box w5 _).cell (p := ⟨xb, 2, none⟩) z5).trans x5
      have FIN := Kept.mk (fun (g6 cap6 : Nat) (w6 : World) (ho : w6.ownsRow (w.heap.size + 3) 2 1 (.slice (some ⟨g6, 0, none⟩) (k + 1) cap6) (k + 1) (csC xs k ++ [.int .i64 qc])) (hg : ((w5.alloc (.cells #[.int .i64 qc] 2)).drew).grownBy w6 (Value.slice Al5 k cl5).ownBlock) (hl : (Value.slice Al5 k cl5).ownBlock = some g6 ∨ g6 = ((w5.alloc (.cells #[.int .i64 qc] 2)).drew).heap.size) => show BG w (w6.setCell ⟨pb, 3, none⟩ (.slice (some ⟨g6, 0, none⟩) (k + 1) cap6)) w.heap.size (some ⟨b, off, none⟩) xs cap (k + 1) (k + 1) from by
        rw [HPB.out]
        rw [HST.out] at ho
        exact HB5.out.left H15.out rfl ((below_box w5 _).drewN 1) rfl ho hg hl)
      clear hw5 hb5 q4 g4' x4 z4 z5 hB5 h15 h25 h35 h45 hsz HN H2a H1a HBa c1 f1 hxc hpo hxo hpl hxlt hs5
      go_region_law (first
        | (refine step_append_lies _ rfl (.tmp 33) (.tmp 36) 85 rfl (w.heap.size + 3) 2 j0 (.int .i64 0) 1 8 Try.underlying85 hj0 hj1 hj2 hj3 rfl (by decide) (.slice Al5 k cl5) k (csC xs k) rfl HO5.out ⟨w5.heap.size, 0, none⟩ 1 1 [.int .i64 qc] rfl rfl HN5.out (by simp [Value.oneCell']) (by decide) (by simp only [maxLen]; omega) (by omega) HS5.out _ rfl ?_; intro g6 cap6 w6 own6 grow6 lies6 _; have q6 : w6.cell? ⟨pb, 3, none⟩ = some (.slice Al5 k cl5) := (grow6.cell_far ⟨pb, 3, none⟩ HPL5.out HPO5.out).trans HC5.out; have f6 : w6.frozen? ⟨pb, 3, none⟩ = false := (grow6.frozen_far ⟨pb, 3, none⟩ HPL5.out HPO5.out).trans HF5.out; have HOW6 := Kept.mk own6; have HG6 := Kept.mk grow6; have HL6 := Kept.mk lies6; clear own6 grow6 lies6))
      all_goals go_wp2_with fail
      all_goals go_roundw
      all_goals first
        | exact ⟨k + 1, by omega, by go_num, FIN.out _ _ _ HOW6.out HG6.out HL6.out⟩
        | (simp [intOf]; omega)
    · have hke : k = xs.length := by omega
      subst hke
      obtain ⟨gc, gl, hS⟩ := hB.counted
      have HS := Kept.mk hS
      have HQ := Kept.mk (fun (W : World) => qnew_any (max xs.length 1) (by omega) (by omega) W)
      have hmx : max (xs.length : Int) 1 = ((max xs.length 1 : Nat) : Int) := by omega
      obtain ⟨mx, hmx2⟩ : ∃ mx, mx = max xs.length 1 := ⟨_, rfl⟩
      rw [← hmx2] at hmx HQ
      have HMX := Kept.mk hmx2
      -- the tail, behind the sort
      obtain ⟨Ac, cc, Al, cl, h1, h2, h3⟩ := hS.box
      have c1 : wr.cell? ⟨pb, 1, none⟩ = some (.slice Ac xs.length cc) := by rw [HPB.out]; exact cell_of_row _ _ 1 _ _ _ h1
      have TAIL := Kept.mk (fun (W : World) (D : Nat → Nat) (h : BS w W w.heap.size A xs cap D gc gl) => show W.cell? ⟨w.heap.size, 0, none⟩ = some (.slice A xs.length cap) ∧ ∃ v, W.cell? ⟨pb, 2, none⟩ = some v ∧ W.frozen? ⟨pb, 2, none⟩ = false from by
        obtain ⟨_, _, _, _, h1, _⟩ := h.box
        rw [HPB.out]
        exact ⟨cell_of_row _ _ 0 _ _ _ h.bx, _, cell_of_row _ _ 2 _ _ _ h1, frozen_of_row _ _ 2 _ _ h1⟩)
      clear hmx2 h1 hS hB
      by_cases h0 : 0 < xs.length
      · obtain ⟨rfl, hcc⟩ := h2 h0
        have hSort := Kept.mk (sort_any (cap := cc) (A := (pcs xs).A) (show DB wr gc xs.length (fun k => k) from ⟨HS.out.come h0, fun k hk => hk⟩) (HS.out.cmp HR.out HI.out h0) hlen)
        clear h2 h3 hcc
        go_wp2_with fail
        refine hSort.out.mono ?_
        rintro e w2 ⟨rfl, hK2, D2, hD2, hSam, hSrt⟩
        have hS2 := HS.out.sorted h0 hK2 hD2
        have HS2 := Kept.mk hS2
        have HO2 := Kept.mk (show Ord40 (pcs xs) D2 from ⟨hSam, hSrt⟩)
        obtain ⟨t1, v2, t2, t3⟩ := TAIL.out _ _ hS2
        clear hK2 hD2 hSam hSrt hS2 hSort c1
        go_wp2_with fail
        refine (HQ.out _).mono ?_
        rintro e w3 ⟨hi, qb, I, M, p, L, K, rfl, hq, hb⟩
        have l1 : w3.cell? ⟨pb, 2, none⟩ = some v2 := (hb.cell (p := ⟨pb, 2, none⟩) (by have := HS2.out.size; have := HPB.out; show pb < w2.heap.size; omega)).trans t2
        have l2 : w3.frozen? ⟨pb, 2, none⟩ = false := (hb.frozen (p := ⟨pb, 2, none⟩) (by have := HS2.out.size; have := HPB.out; show pb < w2.heap.size; omega)).trans t3
        rw [HMX.out] at hq
        have HF := Kept.mk (HS2.out.queued HR.out HI.out HO2.out hq hb)
        clear hq hb
        go_wp2
        go_ret
        show Beg w A xs cap (.returned (.pointer (some ⟨pb, 0, none⟩))) (w3.setCell ⟨pb, 2, none⟩ (.pointer (some ⟨qb, 0, none⟩)))
        rw [HPB.out]
        exact HF.out
      · have hz : xs.length = 0 := by omega
        rw [hz] at c1
        have hSort := Kept.mk (sort_nil Ac (cmpV w.heap.size) cc wr)
        have HO2 := Kept.mk (show Ord40 (pcs xs) (fun k => k) from ⟨Sam.refl _ _ _, fun i j _ h1 h2 => absurd h2 (by show ¬ j < xs.length; omega)⟩)
        clear h2 h3 hz h0
        go_wp2_with fail
        refine hSort.out.mono ?_
        rintro e w2 ⟨rfl, rfl⟩
        obtain ⟨t1, v2, t2, t3⟩ := TAIL.out _ _ HS.out
        clear hSort c1
        go_wp2_with fail
        refine (HQ.out _).mono ?_
        rintro e w3 ⟨hi, qb, I, M, p, L, K, rfl, hq, hb⟩
        have l1 : w3.cell? ⟨pb, 2, none⟩ = some v2 := (hb.cell (p := ⟨pb, 2, none⟩) (by have := HS.out.size; have := HPB.out; show pb < wr.heap.size; omega)).trans t2
        have l2 : w3.frozen? ⟨pb, 2, none⟩ = false := (hb.frozen (p := ⟨pb, 2, none⟩) (by have := HS.out.size; have := HPB.out; show pb < wr.heap.size; omega)).trans t3
        rw [HMX.out] at hq
        have HF := Kept.mk (HS.out.queued HR.out HI.out HO2.out hq hb)
        clear hq hb
        go_wp2
        go_ret
        show Beg w A xs cap (.returned (.pointer (some ⟨pb, 0, none⟩))) (w3.setCell ⟨pb, 2, none⟩ (.pointer (some ⟨qb, 0, none⟩)))
        rw [HPB.out]
        exact HF.out
end Go.Proofs.Ytcchmkpodfjhcaa
