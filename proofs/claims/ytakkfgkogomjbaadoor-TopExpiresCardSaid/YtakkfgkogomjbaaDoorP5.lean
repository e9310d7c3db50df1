/-
  The walk of pool.New.
-/
import Derived.Test.YtakkfgkogomjbaaDoorP4
import Derived.Laws.MakeOwn
namespace Go.Proofs.YtakkfgkogomjbaaDoor
open Go.RowKit
set_option linter.unusedVariables false
theorem info_link : (Tryd.prog.info? 86).map (fun i => (i.zero, i.size, i.bytes)) = some (some (.agg #[.int .i64 0, .int .i64 0, .int .i64 0]), 3, 24) := by kernel_rfl
theorem info_ends : (Tryd.prog.info? 88).map (fun i => (i.zero, i.size, i.bytes)) = some (some (.agg #[.int .i64 0, .int .i64 0]), 2, 16) := by kernel_rfl
theorem make_link (n : Nat) (hn : n ≤ 4096) : ∃ X : Array Value, (∀ j, j < n * 3 → X[j]? = some (.int .i64 0)) ∧ ∀ W, (Instr.makeSlice 81 (.int .i64 n) (.int .i64 n)).run Tryd.prog W = .ok (.slice (some ⟨W.heap.size, 0, none⟩) n n) (W.alloc (.cells X 86)) := by
  obtain ⟨i0, hi, hz0, hz1, hz2⟩ := info_parts info_link
  refine ⟨madeCells (Value.agg #[.int .i64 0, .int .i64 0, .int .i64 0]).cells (n * 3), fun j hj => ?_, fun W => ?_⟩
  · unfold madeCells
    rw [Array.getElem?_map, Array.getElem?_range, if_pos hj]
    simp only [Option.map_some, Value.cells]
    have : j % 3 = 0 ∨ j % 3 = 1 ∨ j % 3 = 2 := by omega
    rcases this with h | h | h <;> simp [h]
  · have := run_make (P := Tryd.prog) W 81 86 i0 _ Tryd.underlying81 hi hz0 .i64 .i64 n n (by omega) (by omega) (by rw [hz2]; omega) (by omega)
    rw [hz1] at this
    simpa using this
theorem make_ends (n : Nat) (hn : n ≤ 4096) : ∃ X : Array Value, (∀ j, j < n * 2 → X[j]? = some (.int .i64 0)) ∧ ∀ W, (Instr.makeSlice 82 (.int .i64 n) (.int .i64 n)).run Tryd.prog W = .ok (.slice (some ⟨W.heap.size, 0, none⟩) n n) (W.alloc (.cells X 88)) := by
  obtain ⟨i0, hi, hz0, hz1, hz2⟩ := info_parts info_ends
  refine ⟨madeCells (Value.agg #[.int .i64 0, .int .i64 0]).cells (n * 2), fun j hj => ?_, fun W => ?_⟩
  · unfold madeCells
    rw [Array.getElem?_map, Array.getElem?_range, if_pos hj]
    simp only [Option.map_some, Value.cells]
    have : j % 2 = 0 ∨ j % 2 = 1 := by omega
    rcases this with h | h <;> simp [h]
  · have := run_make (P := Tryd.prog) W 82 88 i0 _ Tryd.underlying82 hi hz0 .i64 .i64 n n (by omega) (by omega) (by rw [hz2]; omega) (by omega)
    rw [hz1] at this
    simpa using this
theorem new_bad (n m : Int) (h : ¬ (1 ≤ n ∧ n ≤ 4096 ∧ 1 ≤ m ∧ m ≤ 512)) (w : World) :
    Calls Tryd.prog 13 #[.int .i64 n, .int .i64 m] w fun e w' => e = .returned (.tuple #[.pointer none, .int .i64 1]) ∧ w = w' := by
  by_cases h1 : n < 1
  · go_enter Tryd.func13, Tryd.ntmps13
    go_wp2
    go_ret2
    exact ⟨rfl, rfl⟩
  · by_cases h2 : 4096 < n
    · go_enter Tryd.func13, Tryd.ntmps13
      go_wp2
      go_ret2
      exact ⟨rfl, rfl⟩
    · by_cases h3 : m < 1
      · go_enter Tryd.func13, Tryd.ntmps13
        go_wp2
        go_ret2
        exact ⟨rfl, rfl⟩
      · have h4 : 512 < m := by omega
        go_enter Tryd.func13, Tryd.ntmps13
        go_wp2
        go_ret2
        exact ⟨rfl, rfl⟩
theorem NB.congr {w : World} {L N : Nat} {F F' : Nat → Int} (h : NB w L N F) (he : ∀ j, j < N → F j = F' j) : NB w L N F' := ⟨fun j hj => by rw [← he j hj]; exact h.c j hj, h.f⟩
theorem PB.congr {w : World} {p L K n m : Nat} {F G F' G' : Nat → Int} {top free : Int} (h : PB w p L K n m F G top free) (h1 : ∀ j, j < n * 3 → F j = F' j) (h2 : ∀ j, j < m * 2 → G j = G' j) : PB w p L K n m F' G' top free := h.pc.pb (h.l.congr h1) (h.k.congr h2)
theorem NB.new {w w' : World} {N : Nat} {X : Array Value} {T : TypeId} (hX : ∀ j, j < N → X[j]? = some (.int .i64 0)) (hb : Below (w.alloc (.cells X T)).heap.size (w.alloc (.cells X T)) w') : NB w' w.heap.size N (fun _ => 0) :=
  ⟨fun j hj => box_cell hb j _ (hX j hj), fun j => box_free hb j⟩
/-- What New has made ahead of its loops. -/
structure Made (w W : World) (p L K n m : Nat) : Prop where
  pb : PB W p L K n m (fun _ => 0) (fun _ => 0) 0 n
  pl : PL w.heap.size (w.heap.size + 3) p L K
  size : W.heap.size = w.heap.size + 3
  below : Below w.heap.size w W
theorem made1 (w : World) (n m : Nat) (X Y : Array Value) (hX : ∀ j, j < n * 3 → X[j]? = some (.int .i64 0)) (hY : ∀ j, j < m * 2 → Y[j]? = some (.int .i64 0)) (v : Array Value) (hv : v = #[.slice (some ⟨w.heap.size, 0, none⟩) n n, .slice (some ⟨w.heap.size + 1, 0, none⟩) m m, .int .i64 0, .int .i64 n]) (T1 T2 T3 : TypeId) :
    Made w (((w.alloc (.cells X T1)).alloc (.cells Y T2)).alloc (.cells v T3)).drew (w.heap.size + 1 + 1) w.heap.size (w.heap.size + 1) n m := by
  subst hv
  have b3 := below_box ((w.alloc (.cells X T1)).alloc (.cells Y T2)) (.cells #[.slice (some ⟨w.heap.size, 0, none⟩) n n, .slice (some ⟨w.heap.size + 1, 0, none⟩) m m, .int .i64 0, .int .i64 n] T3)
  have b2 := (below_box (w.alloc (.cells X T1)) (.cells Y T2)).trans (b3.mono (by simp))
  have q1 := NB.new hX b2
  have q2 := NB.new hY b3
  have q3 := Below.refl (((w.alloc (.cells X T1)).alloc (.cells Y T2)).alloc (.cells #[.slice (some ⟨w.heap.size, 0, none⟩) n n, .slice (some ⟨w.heap.size + 1, 0, none⟩) m m, .int .i64 0, .int .i64 n] T3)).heap.size (((w.alloc (.cells X T1)).alloc (.cells Y T2)).alloc (.cells #[.slice (some ⟨w.heap.size, 0, none⟩) n n, .slice (some ⟨w.heap.size + 1, 0, none⟩) m m, .int .i64 0, .int .i64 n] T3))
  have e1 : (w.alloc (.cells X T1)).heap.size = w.heap.size + 1 := by simp
  have e2 : ((w.alloc (.cells X T1)).alloc (.cells Y T2)).heap.size = w.heap.size + 1 + 1 := by simp
  rw [e1] at q2
  have k0 := box_cell q3 0 _ rfl
  have k1 := box_cell q3 1 _ rfl
  have k2 := box_cell q3 2 _ rfl
  have k3 := box_cell q3 3 _ rfl
  have kf := box_free q3
  rw [e2] at k0 k1 k2 k3 kf
  refine ⟨PB.drew ⟨k0, k1, k2, k3, kf, q1, q2⟩, ⟨?_, ?_, ?_, ?_, ?_, ?_, ?_, ?_, ?_⟩, ?_, ?_⟩
  any_goals omega
  · simp
  · have := (below_box w (.cells X T1)).trans (b2.mono (by simp))
    exact ⟨this.os, this.tape, this.output, this.size, this.block⟩
theorem made2 (w : World) (n m : Nat) (X Y : Array Value) (hX : ∀ j, j < n * 3 → X[j]? = some (.int .i64 0)) (hY : ∀ j, j < m * 2 → Y[j]? = some (.int .i64 0)) (v : Array Value) (hv : v = #[.slice (some ⟨w.heap.size + 1, 0, none⟩) n n, .slice (some ⟨w.heap.size, 0, none⟩) m m, .int .i64 0, .int .i64 n]) (T1 T2 T3 : TypeId) :
    Made w (((w.alloc (.cells Y T2)).alloc (.cells X T1)).alloc (.cells v T3)).drew (w.heap.size + 1 + 1) (w.heap.size + 1) w.heap.size n m := by
  subst hv
  have b3 := below_box ((w.alloc (.cells Y T2)).alloc (.cells X T1)) (.cells #[.slice (some ⟨w.heap.size + 1, 0, none⟩) n n, .slice (some ⟨w.heap.size, 0, none⟩) m m, .int .i64 0, .int .i64 n] T3)
  have b2 := (below_box (w.alloc (.cells Y T2)) (.cells X T1)).trans (b3.mono (by simp))
  have q1 := NB.new hY b2
  have q2 := NB.new hX b3
  have q3 := Below.refl (((w.alloc (.cells Y T2)).alloc (.cells X T1)).alloc (.cells #[.slice (some ⟨w.heap.size + 1, 0, none⟩) n n, .slice (some ⟨w.heap.size, 0, none⟩) m m, .int .i64 0, .int .i64 n] T3)).heap.size (((w.alloc (.cells Y T2)).alloc (.cells X T1)).alloc (.cells #[.slice (some ⟨w.heap.size + 1, 0, none⟩) n n, .slice (some ⟨w.heap.size, 0, none⟩) m m, .int .i64 0, .int .i64 n] T3))
  have e1 : (w.alloc (.cells Y T2)).heap.size = w.heap.size + 1 := by simp
  have e2 : ((w.alloc (.cells Y T2)).alloc (.cells X T1)).heap.size = w.heap.size + 1 + 1 := by simp
  rw [e1] at q2
  have k0 := box_cell q3 0 _ rfl
  have k1 := box_cell q3 1 _ rfl
  have k2 := box_cell q3 2 _ rfl
  have k3 := box_cell q3 3 _ rfl
  have kf := box_free q3
  rw [e2] at k0 k1 k2 k3 kf
  refine ⟨PB.drew ⟨k0, k1, k2, k3, kf, q2, q1⟩, ⟨?_, ?_, ?_, ?_, ?_, ?_, ?_, ?_, ?_⟩, ?_, ?_⟩
  any_goals omega
  · simp
  · have := (below_box w (.cells Y T2)).trans (b2.mono (by simp))
    exact ⟨this.os, this.tape, this.output, this.size, this.block⟩
def nF (k : Nat) (j : Nat) : Int := if j < k * 3 then (if j % 3 = 2 then ((j / 3 + 1 : Nat) : Int) else -1) else 0
theorem nF_step (k : Nat) : upd (upd (upd (nF k) (k * 3) (-1)) (k * 3 + 1) (-1)) (k * 3 + 2) ((k : Int) + 1) = nF (k + 1) := by
  funext j
  unfold upd nF
  by_cases h2 : j = k * 3 + 2
  · rw [if_pos h2, if_pos (by omega), if_pos (by omega)]
    omega
  · rw [if_neg h2]
    by_cases h1 : j = k * 3 + 1
    · rw [if_pos h1, if_pos (by omega), if_neg (by omega)]
    · rw [if_neg h1]
      by_cases h0 : j = k * 3
      · rw [if_pos h0, if_pos (by omega), if_neg (by omega)]
      · rw [if_neg h0]
        by_cases hl : j < k * 3
        · have : j < (k + 1) * 3 := by omega
          simp only [hl, this, if_true]
        · rw [if_neg hl, if_neg (by omega)]
theorem nF_last (q j : Nat) (hj : j < (q + 1) * 3) : upd (nF (q + 1)) (q * 3 + 2) (-1) j = newF (q + 1) j := by
  unfold upd nF newF
  by_cases h2 : j = q * 3 + 2
  · rw [if_pos h2, if_pos (by omega), if_pos (by omega)]
  · rw [if_neg h2, if_pos hj]
    split
    · rw [if_neg (by omega)]
    · rfl
def nG (k : Nat) (j : Nat) : Int := if j < k * 2 then -1 else 0
theorem nG_step (k : Nat) : upd (upd (nG k) (k * 2) (-1)) (k * 2 + 1) (-1) = nG (k + 1) := by
  funext j
  unfold upd nG
  by_cases h1 : j = k * 2 + 1
  · rw [if_pos h1, if_pos (by omega)]
  · rw [if_neg h1]
    by_cases h0 : j = k * 2
    · rw [if_pos h0, if_pos (by omega)]
    · rw [if_neg h0]
      by_cases hl : j < k * 2
      · rw [if_pos hl, if_pos (by omega)]
      · rw [if_neg hl, if_neg (by omega)]
theorem pb_ends {w : World} {lo hi p L K n m : Nat} {F G : Nat → Int} {top free : Int} (h : PB w p L K n m F G top free) (hp : PL lo hi p L K) {o : Nat} (ho : o + 1 < m * 2) (a b : Int) :
    PB ((w.setCell ⟨K, o, none⟩ (.int .i64 a)).setCell ⟨K, o + 1, none⟩ (.int .i64 b)) p L K n m F (upd (upd G o a) (o + 1) b) top free :=
  pb_setK (pb_setK h hp (by omega) a) hp ho b
set_option maxHeartbeats 4000000 in
theorem new_walk (n m : Nat) (h1 : 1 ≤ n) (h2 : n ≤ 4096) (h3 : 1 ≤ m) (h4 : m ≤ 512) (w : World) :
    Calls Tryd.prog 13 #[.int .i64 n, .int .i64 m] w fun e w' => ∃ p L K, e = .returned (.tuple #[.pointer (some ⟨p, 0, none⟩), .int .i64 0]) ∧ PoolAt w' w.heap.size (w.heap.size + 3) p L K n m (newS n m) ∧ Below w.heap.size w w' := by
  obtain ⟨X, hX, mk1⟩ := make_link n h2
  obtain ⟨Y, hY, mk2⟩ := make_ends m (by omega)
  have M1 := Kept.mk (made1 w n m X Y hX hY _ rfl 86 88 84)
  have M2 := Kept.mk (made2 w n m X Y hX hY _ rfl 86 88 84)
  clear hX hY
  obtain ⟨q, hq⟩ : ∃ q, n = q + 1 := ⟨n - 1, by omega⟩
  have hq' : (n : Int) - 1 = q := by omega
  have HQ := Kept.mk hq
  clear hq
  go_enter Tryd.func13, Tryd.ntmps13
  go_wp2_with fail
  go_region
  · obtain ⟨W1, hW1⟩ : ∃ W1, W1 = (((w.alloc (.cells X 86)).alloc (.cells Y 88)).alloc (.cells #[.slice (some ⟨w.heap.size, 0, none⟩) n n, .slice (some ⟨w.heap.size + 1, 0, none⟩) m m, .int .i64 0, .int .i64 n] 84)).drew := ⟨_, rfl⟩
    have HM := M1.out
    rw [← hW1] at HM ⊢
    clear M1 M2 hW1 mk1 mk2
    obtain ⟨hpb, hpl, hsz, hbl⟩ := HM
    have HB := Kept.mk hpb
    have HP := Kept.mk hpl
    have HS := Kept.mk hsz
    obtain ⟨c0, c1, c2, c3, pf, hl, hk⟩ := hpb
    clear hsz hl hk hpl
    go_wp2_with fail
    go_loopw [35] (fun i wr => ∃ (k : Nat), k ≤ n ∧ i = .int .i64 k ∧ PB wr (w.heap.size + 1 + 1) w.heap.size (w.heap.size + 1) n m (nF k) (nG 0) 0 n ∧ Below w.heap.size w wr ∧ w.heap.size + 3 ≤ wr.heap.size) (fun i _ => n - (intOf i).toNat)
    case atStart => exact ⟨0, by omega, rfl, HB.out.congr (fun j _ => by simp [nF]) (fun j _ => by simp [nG]), hbl, by rw [HS.out]; omega⟩
    case round =>
      clear hbl c0 c1 c2 c3 pf
      obtain ⟨k, hk, rfl, hpb, hbw, hzw⟩ := hrel
      have HB := Kept.mk hpb
      have hbk : ∀ (o : Nat) (v : Value), True := fun _ _ => trivial
      by_cases hlt : k < n
      · have ik : (k : Int) < (n : Int) := by omega
        obtain ⟨c0, c1, c2, c3, pf, hl, hkk⟩ := hpb
        have a0 := hl.c (k * 3) (by omega)
        have a1 := hl.c (k * 3 + 1) (by omega)
        have a2 := hl.c (k * 3 + 2) (by omega)
        have lf := hl.f
        clear hl hkk
        go_wp2
        go_roundw
        case rel =>
          refine ⟨k + 1, by omega, by go_num, ?_, ?_, ?_⟩
          · have q := pb_link HB.out HP.out (o := k * 3) (by omega) (-1) (-1) ((k : Int) + 1)
            rw [nF_step] at q
            unfold link3 at q
            exact q
          · exact ((hbw.setCell (p := ⟨w.heap.size, k * 3, none⟩) (show w.heap.size ≤ w.heap.size by omega) _).setCell (p := ⟨w.heap.size, k * 3 + 1, none⟩) (show w.heap.size ≤ w.heap.size by omega) _).setCell (p := ⟨w.heap.size, k * 3 + 2, none⟩) (show w.heap.size ≤ w.heap.size by omega) _
          · simpa using hzw
        case measure => simp [intOf]; omega
      · have e : k = n := by omega
        subst e
        obtain ⟨c0, c1, c2, c3, pf, hl, hkk⟩ := hpb
        have a2 := hl.c (q * 3 + 2) (by have := HQ.out; omega)
        have lf := hl.f
        have qk : (q : Int) < (k : Int) := by have := HQ.out; omega
        have qn : q < k := by have := HQ.out; omega
        clear hl hkk hlt
        go_wp2_with fail
        go_loopw [61] (fun i wr => ∃ (j : Nat), j ≤ m ∧ i = .int .i64 j ∧ PB wr (w.heap.size + 1 + 1) w.heap.size (w.heap.size + 1) k m (newF k) (nG j) 0 k ∧ Below w.heap.size w wr ∧ w.heap.size + 3 ≤ wr.heap.size) (fun i _ => m - (intOf i).toNat)
        case atStart =>
          refine ⟨0, by omega, rfl, ?_, hbw.setCell (p := ⟨w.heap.size, q * 3 + 2, none⟩) (show w.heap.size ≤ w.heap.size by omega) _, by simpa using hzw⟩
          have := pb_setL HB.out HP.out (o := q * 3 + 2) (by omega) (-1)
          have e := HQ.out
          subst e
          exact this.congr (fun j hj => nF_last q j hj) (fun _ _ => rfl)
        case round =>
          clear c0 c1 c2 c3 pf a2 lf HB hbw hzw
          obtain ⟨j, hj, rfl, hpb, hbw, hzw⟩ := hrel
          have HB := Kept.mk hpb
          by_cases hlt : j < m
          · have ik : (j : Int) < (m : Int) := by omega
            obtain ⟨c0, c1, c2, c3, pf, hl, hkk⟩ := hpb
            have a0 := hkk.c (j * 2) (by omega)
            have a1 := hkk.c (j * 2 + 1) (by omega)
            have lf := hkk.f
            clear hl hkk
            go_wp2
            go_roundw
            case rel =>
              refine ⟨j + 1, by omega, by go_num, ?_, ?_, ?_⟩
              · have q := pb_ends HB.out HP.out (o := j * 2) (by omega) (-1) (-1)
                rw [nG_step] at q
                exact q
              · exact (hbw.setCell (p := ⟨(w.heap.size + 1), j * 2, none⟩) (show w.heap.size ≤ (w.heap.size + 1) by omega) _).setCell (p := ⟨(w.heap.size + 1), j * 2 + 1, none⟩) (show w.heap.size ≤ (w.heap.size + 1) by omega) _
              · simpa using hzw
            case measure => simp [intOf]; omega
          · have e : j = m := by omega
            subst e
            go_wp2
            go_ret2
            refine ⟨_, _, _, rfl, ⟨HP.out, hzw, h2, by omega, newF k, fun _ => -1, ?_, good_new k j⟩, hbw⟩
            have e1 : (newS k j).pile.getLast? = some 0 := by
              have := HQ.out
              unfold newS
              rw [List.getLast?_reverse, this, List.range_succ_eq_map]
              rfl
            have e2 : ((newS k j).pile.length : Int) = k := by simp [newS]
            rw [e1, e2]
            exact HB.out.congr (fun _ _ => rfl) (fun i hi => by unfold nG; rw [if_pos hi])
  · obtain ⟨W1, hW1⟩ : ∃ W1, W1 = (((w.alloc (.cells Y 88)).alloc (.cells X 86)).alloc (.cells #[.slice (some ⟨w.heap.size + 1, 0, none⟩) n n, .slice (some ⟨w.heap.size, 0, none⟩) m m, .int .i64 0, .int .i64 n] 84)).drew := ⟨_, rfl⟩
    have HM := M2.out
    rw [← hW1] at HM ⊢
    clear M1 M2 hW1 mk1 mk2
    obtain ⟨hpb, hpl, hsz, hbl⟩ := HM
    have HB := Kept.mk hpb
    have HP := Kept.mk hpl
    have HS := Kept.mk hsz
    obtain ⟨c0, c1, c2, c3, pf, hl, hk⟩ := hpb
    clear hsz hl hk hpl
    go_wp2_with fail
    go_loopw [35] (fun i wr => ∃ (k : Nat), k ≤ n ∧ i = .int .i64 k ∧ PB wr (w.heap.size + 1 + 1) (w.heap.size + 1) w.heap.size n m (nF k) (nG 0) 0 n ∧ Below w.heap.size w wr ∧ w.heap.size + 3 ≤ wr.heap.size) (fun i _ => n - (intOf i).toNat)
    case atStart => exact ⟨0, by omega, rfl, HB.out.congr (fun j _ => by simp [nF]) (fun j _ => by simp [nG]), hbl, by rw [HS.out]; omega⟩
    case round =>
      clear hbl c0 c1 c2 c3 pf
      obtain ⟨k, hk, rfl, hpb, hbw, hzw⟩ := hrel
      have HB := Kept.mk hpb
      have hbk : ∀ (o : Nat) (v : Value), True := fun _ _ => trivial
      by_cases hlt : k < n
      · have ik : (k : Int) < (n : Int) := by omega
        obtain ⟨c0, c1, c2, c3, pf, hl, hkk⟩ := hpb
        have a0 := hl.c (k * 3) (by omega)
        have a1 := hl.c (k * 3 + 1) (by omega)
        have a2 := hl.c (k * 3 + 2) (by omega)
        have lf := hl.f
        clear hl hkk
        go_wp2
        go_roundw
        case rel =>
          refine ⟨k + 1, by omega, by go_num, ?_, ?_, ?_⟩
          · have q := pb_link HB.out HP.out (o := k * 3) (by omega) (-1) (-1) ((k : Int) + 1)
            rw [nF_step] at q
            unfold link3 at q
            exact q
          · exact ((hbw.setCell (p := ⟨(w.heap.size + 1), k * 3, none⟩) (show w.heap.size ≤ (w.heap.size + 1) by omega) _).setCell (p := ⟨(w.heap.size + 1), k * 3 + 1, none⟩) (show w.heap.size ≤ (w.heap.size + 1) by omega) _).setCell (p := ⟨(w.heap.size + 1), k * 3 + 2, none⟩) (show w.heap.size ≤ (w.heap.size + 1) by omega) _
          · simpa using hzw
        case measure => simp [intOf]; omega
      · have e : k = n := by omega
        subst e
        obtain ⟨c0, c1, c2, c3, pf, hl, hkk⟩ := hpb
        have a2 := hl.c (q * 3 + 2) (by have := HQ.out; omega)
        have lf := hl.f
        have qk : (q : Int) < (k : Int) := by have := HQ.out; omega
        have qn : q < k := by have := HQ.out; omega
        clear hl hkk hlt
        go_wp2_with fail
        go_loopw [61] (fun i wr => ∃ (j : Nat), j ≤ m ∧ i = .int .i64 j ∧ PB wr (w.heap.size + 1 + 1) (w.heap.size + 1) w.heap.size k m (newF k) (nG j) 0 k ∧ Below w.heap.size w wr ∧ w.heap.size + 3 ≤ wr.heap.size) (fun i _ => m - (intOf i).toNat)
        case atStart =>
          refine ⟨0, by omega, rfl, ?_, hbw.setCell (p := ⟨(w.heap.size + 1), q * 3 + 2, none⟩) (show w.heap.size ≤ (w.heap.size + 1) by omega) _, by simpa using hzw⟩
          have := pb_setL HB.out HP.out (o := q * 3 + 2) (by omega) (-1)
          have e := HQ.out
          subst e
          exact this.congr (fun j hj => nF_last q j hj) (fun _ _ => rfl)
        case round =>
          clear c0 c1 c2 c3 pf a2 lf HB hbw hzw
          obtain ⟨j, hj, rfl, hpb, hbw, hzw⟩ := hrel
          have HB := Kept.mk hpb
          by_cases hlt : j < m
          · have ik : (j : Int) < (m : Int) := by omega
            obtain ⟨c0, c1, c2, c3, pf, hl, hkk⟩ := hpb
            have a0 := hkk.c (j * 2) (by omega)
            have a1 := hkk.c (j * 2 + 1) (by omega)
            have lf := hkk.f
            clear hl hkk
            go_wp2
            go_roundw
            case rel =>
              refine ⟨j + 1, by omega, by go_num, ?_, ?_, ?_⟩
              · have q := pb_ends HB.out HP.out (o := j * 2) (by omega) (-1) (-1)
                rw [nG_step] at q
                exact q
              · exact (hbw.setCell (p := ⟨w.heap.size, j * 2, none⟩) (show w.heap.size ≤ w.heap.size by omega) _).setCell (p := ⟨w.heap.size, j * 2 + 1, none⟩) (show w.heap.size ≤ w.heap.size by omega) _
              · simpa using hzw
            case measure => simp [intOf]; omega
          · have e : j = m := by omega
            subst e
            go_wp2
            go_ret2
            refine ⟨_, _, _, rfl, ⟨HP.out, hzw, h2, by omega, newF k, fun _ => -1, ?_, good_new k j⟩, hbw⟩
            have e1 : (newS k j).pile.getLast? = some 0 := by
              have := HQ.out
              unfold newS
              rw [List.getLast?_reverse, this, List.range_succ_eq_map]
              rfl
            have e2 : ((newS k j).pile.length : Int) = k := by simp [newS]
            rw [e1, e2]
            exact HB.out.congr (fun _ _ => rfl) (fun i hi => by unfold nG; rw [if_pos hi])
end Go.Proofs.YtakkfgkogomjbaaDoor
