/-
  The walks of server.New, work.New (of one queue), bottom.New (of one thread), vet.thread.
-/
import Derived.Test.YtfneloplbkjbhaaN1
import Derived.Laws.OwnMore
import Derived.Deep.AppendLies
import Derived.Deep.RegionLaw
import Derived.Deep.DeepCutAuto
import Derived.Deep.CutRange
namespace Go.Proofs.Ytfneloplbkjbhaa
open Go.RowKit
set_option linter.unusedVariables false
theorem server_ok (b p : Int) (h1 : 1 ≤ b) (h2 : b ≤ p) (h3 : p ≤ 1099511627776) (w : World) :
    Calls Try.prog 50 #[.int .i64 b, .int .i64 p] w fun e w' => (∃ a, e = .returned (.tuple #[.pointer (some a), .int .i64 0])) ∧ Below w.heap.size w w' := by
  go_enter Try.func50, Try.ntmps50
  go_wp2
  all_goals go_ret2
  all_goals exact ⟨⟨_, rfl⟩, (Below.refl _ _).alloc (Nat.le_refl _) _⟩
theorem server_bad (b p : Int) (h : ¬ (1 ≤ b ∧ b ≤ p ∧ p ≤ 1099511627776)) (w : World) :
    Calls Try.prog 50 #[.int .i64 b, .int .i64 p] w fun e w' => e = .returned (.tuple #[.pointer none, .int .i64 1]) ∧ Below w.heap.size w w' := by
  by_cases h1 : b < 1
  · have d1 : decide (b < 1) = true := decide_eq_true h1
    clear h
    go_enter Try.func50, Try.ntmps50
    go_wp2
    go_ret2
    exact ⟨rfl, Below.refl _ _⟩
  · have d1 : decide (b < 1) = false := decide_eq_false h1
    by_cases h2 : p < b
    · have d2 : decide (p < b) = true := decide_eq_true h2
      clear h h1
      go_enter Try.func50, Try.ntmps50
      go_wp2
      go_ret2
      exact ⟨rfl, Below.refl _ _⟩
    · have d2 : decide (p < b) = false := decide_eq_false h2
      have d3 : decide (1099511627776 < p) = true := decide_eq_true (by omega)
      clear h h1 h2
      go_enter Try.func50, Try.ntmps50
      go_wp2
      go_ret2
      exact ⟨rfl, Below.refl _ _⟩
def oddW (d : Int) : Bool := decide (d < 1 ∨ 64 < d)
theorem oddw_any (d : Int) (w : World) : Calls Try.prog 58 #[.int .i64 d] w fun e w' => e = .returned (.bool (oddW d)) ∧ w = w' := by
  go_enter Try.func58, Try.ntmps58
  go_wp2
  all_goals go_ret
  all_goals exact ⟨ret_dec (by simp <;> omega), rfl⟩
/-- One depth. -/
theorem indexw_any (A : Option Addr) (d : Int) (cap : Nat) (w : World) (h : Ints w w.heap.size A [d]) :
    Calls Try.prog 63 #[.slice A 1 cap, .func (.func 58) #[] #[]] w fun e w' => e = .returned (.int .i64 (if oddW d then 0 else -1)) ∧ w = w' := by
  obtain ⟨b, off, rfl, hb, hc⟩ := h (by simp)
  have hcx := hc 0 (by simp)
  rw [Nat.add_zero] at hcx
  simp only [List.getElem?_cons_zero, Option.getD_some] at hcx
  have HC := Kept.mk (fun W => oddw_any d W)
  obtain ⟨o, ho⟩ : ∃ o, o = oddW d := ⟨_, rfl⟩
  rw [← ho] at HC ⊢
  clear hc h ho
  cases o with
  | true =>
    go_enter Try.func63, Try.ntmps63
    go_wp2
    go_loop [8] (fun i => i = .int .i64 0) (fun i => 1 - (intOf i).toNat)
    case atStart => exact rfl
    case round =>
      subst hrel
      go_wp2_with ((go_at_call 58; refine (HC.out _).mono ?_; rintro e w' ⟨rfl, rfl⟩))
      go_ret
      exact ⟨rfl, rfl⟩
  | false =>
    go_enter Try.func63, Try.ntmps63
    go_wp2
    go_loop [8] (fun i => i = .int .i64 0 ∨ i = .int .i64 1) (fun i => 1 - (intOf i).toNat)
    case atStart => exact .inl rfl
    case round =>
      rcases hrel with rfl | rfl
      · go_wp2_with ((go_at_call 58; refine (HC.out _).mono ?_; rintro e w' ⟨rfl, rfl⟩))
        go_round
        case rel => exact .inr (by go_num)
        case measure => simp [intOf]
      · go_wp2
        go_ret
        exact ⟨rfl, rfl⟩
theorem containsw_any (A : Option Addr) (d : Int) (cap : Nat) (w : World) (h : Ints w w.heap.size A [d]) :
    Calls Try.prog 59 #[.slice A 1 cap, .func (.func 58) #[] #[]] w fun e w' => e = .returned (.bool (oddW d)) ∧ w = w' := by
  have c := indexw_any A d cap w h
  obtain ⟨a, ha⟩ : ∃ a, a = oddW d := ⟨_, rfl⟩
  rw [← ha] at c ⊢
  clear ha
  cases a with
  | true =>
    go_enter Try.func59, Try.ntmps59
    go_wp2_with fail
    refine c.mono ?_
    rintro e w1 ⟨rfl, rfl⟩
    go_wp2
    go_ret
    exact ⟨rfl, rfl⟩
  | false =>
    go_enter Try.func59, Try.ntmps59
    go_wp2_with fail
    refine c.mono ?_
    rintro e w1 ⟨rfl, rfl⟩
    go_wp2
    go_ret
    exact ⟨rfl, rfl⟩
theorem info_qu : (Try.prog.info? 151).map (fun i => (i.zero, i.size, i.bytes)) = some (some (.agg #[.slice none 0 0, .int .i64 0, .int .i64 0]), 3, 40) := by kernel_rfl
set_option maxRecDepth 100000 in
set_option maxHeartbeats 4000000 in
theorem work_any (d : Int) (A : Option Addr) (cap : Nat) (w : World) (h : Ints w w.heap.size A [d]) :
    Calls Try.prog 51 #[.slice A 1 cap] w fun e w' => (oddW d = true ∧ e = .returned (.tuple #[.pointer none, .int .i64 1]) ∨ oddW d = false ∧ ∃ a, e = .returned (.tuple #[.pointer (some a), .int .i64 0])) ∧ Below w.heap.size w w' := by
  have HC := Kept.mk (containsw_any A d cap w h)
  obtain ⟨i0, hi0, hz0, hz1, hz2⟩ := info_parts info_qu
  obtain ⟨b, off, rfl, hb, hc⟩ := h (by simp)
  have hcx := hc 0 (by simp)
  rw [Nat.add_zero] at hcx
  simp only [List.getElem?_cons_zero, Option.getD_some] at hcx
  obtain ⟨o, ho⟩ : ∃ o, o = oddW d := ⟨_, rfl⟩
  rw [← ho] at HC ⊢
  clear hc h ho
  cases o with
  | true =>
    go_enter Try.func51, Try.ntmps51
    go_wp2_with fail
    refine HC.out.mono ?_
    rintro e w1 ⟨rfl, rfl⟩
    go_wp2
    go_ret2
    exact ⟨.inl ⟨(by first | rfl | trivial), rfl⟩, Below.refl _ _⟩
  | false =>
    go_enter Try.func51, Try.ntmps51
    go_wp2_with fail
    refine HC.out.mono ?_
    rintro e w1 ⟨rfl, rfl⟩
    go_upto_region 5 with fail
    obtain ⟨q, hq⟩ : ∃ q, q = w.heap.size := ⟨_, rfl⟩
    obtain ⟨w0, hw0⟩ : ∃ w0, w0 = w.alloc (.cells #[.slice none 0 0] 149) := ⟨_, rfl⟩
    have HB := Kept.mk (show Below q w w0 by rw [hq, hw0]; exact below_box w _)
    have d1 : w0.cell? ⟨b, off, none⟩ = some (.int .i64 d) := (HB.out.cell (p := ⟨b, off, none⟩) (by show b < q; omega)).trans hcx
    have q1 : w0.cell? ⟨q, 0, none⟩ = some (.slice none 0 0) := by rw [hw0, hq]; exact cell_of_row _ _ 0 _ _ _ (heap_alloc_new _ _)
    have q2 : w0.frozen? ⟨q, 0, none⟩ = false := by rw [hw0, hq]; exact frozen_of_row _ _ 0 _ _ (heap_alloc_new _ _)
    have hqs : q < w0.heap.size := by rw [hw0, hq]; simp
    rw [← hw0, ← hq]
    have HQ := Kept.mk hq
    clear hw0 hq hcx hb
    go_wp2_with fail
    go_loopw [25] (fun t wr => (t = .int .i64 0 ∧ wr = w0) ∨ (t = .int .i64 1 ∧ Below q w wr)) (fun t _ => 1 - (intOf t).toNat)
    case atStart => exact .inl ⟨rfl, rfl⟩
    case round =>
      rcases hrel with ⟨rfl, rfl⟩ | ⟨rfl, hb⟩
      · have HN5 := Kept.mk (show ∀ j u, [Value.slice none 0 0, .int .i64 d, .int .i64 0][j]? = some u → (wr.alloc (.cells #[.slice none 0 0, .int .i64 d, .int .i64 0] 151)).cell? ((⟨wr.heap.size, 0, none⟩ : Addr).add j) = some u from World.news_of_block (cs := #[.slice none 0 0, .int .i64 d, .int .i64 0]) (heap_alloc_new wr _))
        have HO5 := Kept.mk (show (wr.alloc (.cells #[.slice none 0 0, .int .i64 d, .int .i64 0] 151)).ownsRow (q + 1) 151 3 (.slice none 0 0) 0 [] from ⟨rfl, .inl ⟨rfl, rfl⟩⟩)
        have HS5 := Kept.mk (show q + 1 ≤ (wr.alloc (.cells #[.slice none 0 0, .int .i64 d, .int .i64 0] 151)).heap.size by simp; omega)
        have HF := Kept.mk (fun (g5 : Nat) (w5 : World) (hg : (wr.alloc (.cells #[.slice none 0 0, .int .i64 d, .int .i64 0] 151)).grownBy w5 (Value.slice none 0 0).ownBlock) => show w5.cell? ⟨q, 0, none⟩ = some (.slice none 0 0) ∧ w5.frozen? ⟨q, 0, none⟩ = false ∧ ∀ u, Below q w (w5.setCell ⟨q, 0, none⟩ u) from by
          have hb5 := (Below.refl (q + 1) (wr.alloc (.cells #[.slice none 0 0, .int .i64 d, .int .i64 0] 151))).grown hg HS5.out fun k hk => (HO5.out.lt k hk).1
          have hb6 := (below_box wr (.cells #[.slice none 0 0, .int .i64 d, .int .i64 0] 151)).mono (show q + 1 ≤ wr.heap.size by omega)
          have hb7 := hb6.trans hb5
          exact ⟨(hb7.cell (p := ⟨q, 0, none⟩) (Nat.lt_succ_self q)).trans q1, (hb7.frozen (p := ⟨q, 0, none⟩) (Nat.lt_succ_self q)).trans q2, fun u => (HB.out.trans (hb7.mono (Nat.le_succ q))).setCell (p := ⟨q, 0, none⟩) (Nat.le_refl _) u⟩)
        go_wp2_with (at_builtin; refine wpList_append_lies _ rfl _ _ 147 rfl (q + 1) 151 i0 (.agg #[.slice none 0 0, .int .i64 0, .int .i64 0]) 3 40 Try.underlying147 hi0 hz0 hz1 hz2 rfl (by decide) (.slice none 0 0) 0 [] rfl HO5.out ⟨wr.heap.size, 0, none⟩ 1 1 [.slice none 0 0, .int .i64 d, .int .i64 0] rfl rfl HN5.out (by simp [Value.oneCell']) (by decide) (by simp only [maxLen]; omega) (by omega) HS5.out _ rfl ?_; intro g5 cap5 w5 own5 grow5 lies5 hlt5; obtain ⟨q3, q4, hbq⟩ := HF.out g5 w5 grow5; have HBQ := Kept.mk hbq; clear own5 grow5 lies5 hlt5 hbq)
        go_roundw
        case rel => exact .inr ⟨by go_num, HBQ.out _⟩
        case measure => simp [intOf]
      · go_wp2
        go_ret2
        exact ⟨.inr ⟨(by first | rfl | trivial), _, rfl⟩, by rw [← HQ.out]; exact hb⟩
def thB' (x : Q4) : Bool := decide (1 ≤ x.b ∧ x.b ≤ x.c ∧ x.c ≤ 1099511627776) && decide (0 ≤ x.a ∧ x.a ≤ 63) && !oddW x.d
theorem info_th : (Try.prog.info? 128).map (fun i => (i.zero, i.size, i.bytes)) = some (some (.agg #[.int .i64 0, .int .i64 0, .int .i64 0, .int .i64 0, .pointer none]), 5, 40) := by kernel_rfl
theorem info_intN3 : (Try.prog.info? 3).map (fun i => (i.zero, i.size, i.bytes)) = some (some (.int .i64 0), 1, 8) := by kernel_rfl
set_option maxRecDepth 100000 in
set_option maxHeartbeats 8000000 in
theorem bottom_any (x : Q4) (A : Option Addr) (cap : Nat) (w : World) (h : R4 w w.heap.size A [x]) :
    Calls Try.prog 43 #[.slice A 1 cap] w fun e w' => (∃ v, e = .returned (.tuple #[v, .int .i64 (if thB' x = true then 0 else 1)])) ∧ Below w.heap.size w w' := by
  obtain ⟨b, off, rfl, hbB, hc⟩ := h (by simp)
  obtain ⟨c1, c2, c3, c4⟩ := hc 0 x rfl
  obtain ⟨pr, bu, pe, de⟩ := x
  simp only [Nat.zero_mul, Nat.add_zero] at c1 c2 c3 c4
  obtain ⟨i0, hi0, hz0, hz1, hz2⟩ := info_parts info_th
  obtain ⟨j0, hj0, hj1, hj2, hj3⟩ := info_parts info_intN3
  have hT : thB' ⟨pr, bu, pe, de⟩ = (decide (1 ≤ bu ∧ bu ≤ pe ∧ pe ≤ 1099511627776) && decide (0 ≤ pr ∧ pr ≤ 63) && !oddW de) := rfl
  obtain ⟨y, hy⟩ : ∃ y : Int, y = (if thB' ⟨pr, bu, pe, de⟩ = true then 0 else 1) := ⟨_, rfl⟩
  rw [← hy]
  rw [hT] at hy
  have HY := Kept.mk hy
  clear hc h hy hT
  go_enter Try.func43, Try.ntmps43
  go_upto_region 3 with fail
  obtain ⟨q, hq⟩ : ∃ q, q = w.heap.size := ⟨_, rfl⟩
  obtain ⟨w0, hw0⟩ : ∃ w0, w0 = w.alloc (.cells #[.slice none 0 0, .pointer none] 123) := ⟨_, rfl⟩
  have HB := Kept.mk (show Below q w w0 by rw [hq, hw0]; exact below_box w _)
  have hqc : w0.heap[q]? = some (.cells #[.slice none 0 0, .pointer none] 123) := by rw [hw0, hq]; exact heap_alloc_new _ _
  have d1 := (HB.out.cell (p := ⟨b, off, none⟩) (by show b < q; omega)).trans c1
  have d2 := (HB.out.cell (p := ⟨b, off + 1, none⟩) (by show b < q; omega)).trans c2
  have d3 := (HB.out.cell (p := ⟨b, off + 2, none⟩) (by show b < q; omega)).trans c3
  have d4 := (HB.out.cell (p := ⟨b, off + 3, none⟩) (by show b < q; omega)).trans c4
  have hqs : q < w0.heap.size := by rw [hw0, hq]; simp
  rw [← hw0, ← hq]
  have HQ := Kept.mk hq
  have HQC := Kept.mk hqc
  clear hw0 hq c1 c2 c3 c4 hbB hqc
  go_wp2_with fail
  go_loopw [5, 16] (fun u t wr => (t = .int .i64 0 ∧ u = .slice none 0 0 ∧ wr = w0) ∨ (t = .int .i64 1 ∧ Kept ((decide (1 ≤ bu ∧ bu ≤ pe ∧ pe ≤ 1099511627776) && decide (0 ≤ pr ∧ pr ≤ 63)) = true) ∧ ∃ (A5 : Option Addr) (c5 : Nat), u = .slice A5 1 c5 ∧ Kept (wr.ownsRow (q + 1) 3 1 (.slice A5 1 c5) 1 [.int .i64 de]) ∧ Kept (wr.cell? ⟨q, 1, none⟩ = some (.pointer none) ∧ wr.frozen? ⟨q, 1, none⟩ = false ∧ q < wr.heap.size) ∧ Below q w wr)) (fun _ t _ => 1 - (intOf t).toNat)
  case atStart => exact .inl ⟨rfl, rfl, rfl⟩
  case round =>
    rcases hrel with ⟨rfl, rfl, rfl⟩ | ⟨rfl, hK, A5, c5, rfl, hO, hqc, hb⟩
    · go_upto_region 6 with fail
      obtain ⟨wa, hwa⟩ : ∃ wa, wa = wr.alloc (.cells #[.int .i64 pr, .int .i64 bu, .int .i64 pe, .int .i64 de] 75) := ⟨_, rfl⟩
      obtain ⟨xb, hxb⟩ : ∃ xb, xb = wr.heap.size := ⟨_, rfl⟩
      have hxc : wa.heap[xb]? = some (.cells #[.int .i64 pr, .int .i64 bu, .int .i64 pe, .int .i64 de] 75) := by rw [hwa, hxb]; exact heap_alloc_new _ _
      have hba : Below xb wr wa := by rw [hwa, hxb]; exact below_box wr _
      have hqa : wa.heap[q]? = some (.cells #[.slice none 0 0, .pointer none] 123) := (hba.block q (by omega)).trans HQC.out
      have HBA := Kept.mk (show Below q w wa from HB.out.trans (hba.mono (by omega)))
      have hxs : xb < wa.heap.size := by rw [hwa, hxb]; simp
      have hqx : q < xb := by omega
      rw [← hwa, ← hxb]
      have HXC := Kept.mk hxc
      have HQA := Kept.mk hqa
      have x0 : wa.cell? ⟨xb, 0, none⟩ = some (.int .i64 pr) := cell_of_row _ _ 0 _ _ _ hxc
      have x1 : wa.cell? ⟨xb, 1, none⟩ = some (.int .i64 bu) := cell_of_row _ _ 1 _ _ _ hxc
      have x2 : wa.cell? ⟨xb, 2, none⟩ = some (.int .i64 pe) := cell_of_row _ _ 2 _ _ _ hxc
      clear hwa hxb hxc hba hqa d1 d2 d3 d4 HB HQC hqs
      by_cases hs : 1 ≤ bu ∧ bu ≤ pe ∧ pe ≤ 1099511627776
      · have HS := Kept.mk (server_ok bu pe hs.1 hs.2.1 hs.2.2 wa)
        have HY2 := Kept.mk (show y = if (decide (0 ≤ pr ∧ pr ≤ 63) && !oddW de) = true then 0 else 1 by rw [HY.out, decide_eq_true hs]; rfl)
        have HK1 := Kept.mk (show decide (1 ≤ bu ∧ bu ≤ pe ∧ pe ≤ 1099511627776) = true from decide_eq_true hs)
        clear hs HY
        go_wp2_with fail
        refine HS.out.mono ?_
        rintro e w5 ⟨⟨sa, rfl⟩, hb5⟩
        have HB5 := Kept.mk (HBA.out.trans (hb5.mono (by omega)))
        have hx5 : w5.heap[xb]? = some (.cells #[.int .i64 pr, .int .i64 bu, .int .i64 pe, .int .i64 de] 75) := (hb5.block xb hxs).trans HXC.out
        have hq5 : w5.heap[q]? = some (.cells #[.slice none 0 0, .pointer none] 123) := (hb5.block q (by omega)).trans HQA.out
        have hx5s : xb < w5.heap.size := lt_of_block hx5
        have hq5s : q < w5.heap.size := by omega
        have u0 : w5.cell? ⟨xb, 0, none⟩ = some (.int .i64 pr) := cell_of_row _ _ 0 _ _ _ hx5
        have HX5 := Kept.mk hx5
        have HQ5 := Kept.mk hq5
        clear hb5 hx5 hq5 x0 x1 x2 hxs
        by_cases hp : 0 ≤ pr ∧ pr ≤ 63
        · have p1 : decide (pr < 0) = false := decide_eq_false (by omega)
          have p2 : decide (63 < pr) = false := decide_eq_false (by omega)
          have HY3 := Kept.mk (show y = if (!oddW de) = true then 0 else 1 by rw [HY2.out, decide_eq_true hp]; rfl)
          have HK2 := Kept.mk (show (decide (1 ≤ bu ∧ bu ≤ pe ∧ pe ≤ 1099511627776) && decide (0 ≤ pr ∧ pr ≤ 63)) = true by rw [HK1.out, decide_eq_true hp]; rfl)
          clear hp HY2 HK1
          go_upto_region 9 with fail
          go_cut [5] from 40 to 51 (fun s wx => s = .slice none 0 0 ∧ Kept (wx.cell? ⟨xb, 3, none⟩ = some (.int .i64 de) ∧ wx.cell? ⟨q, 1, none⟩ = some (.pointer none) ∧ wx.frozen? ⟨q, 1, none⟩ = false ∧ xb < wx.heap.size) ∧ Below q w wx)
          case first =>
            have v0 : w5.cell? ⟨q, 0, none⟩ = some (.slice none 0 0) := cell_of_row _ _ 0 _ _ _ HQ5.out
            have vf : w5.frozen? ⟨q, 0, none⟩ = false := frozen_of_row _ _ 0 _ _ HQ5.out
            have u1 : w5.cell? ⟨xb, 1, none⟩ = some (.int .i64 bu) := cell_of_row _ _ 1 _ _ _ HX5.out
            have u2 : w5.cell? ⟨xb, 2, none⟩ = some (.int .i64 pe) := cell_of_row _ _ 2 _ _ _ HX5.out
            have u3 : w5.cell? ⟨xb, 3, none⟩ = some (.int .i64 de) := cell_of_row _ _ 3 _ _ _ HX5.out
            have HN5 := Kept.mk (show ∀ j u, [Value.int .i64 pr, .int .i64 bu, .int .i64 pe, .int .i64 de, .pointer (some sa)][j]? = some u → ((w5.alloc (.cells #[.int .i64 pr, .int .i64 bu, .int .i64 pe, .int .i64 de, .pointer (some sa)] 128)).drew).cell? ((⟨w5.heap.size, 0, none⟩ : Addr).add j) = some u from World.news_of_block (cs := #[.int .i64 pr, .int .i64 bu, .int .i64 pe, .int .i64 de, .pointer (some sa)]) (heap_alloc_new w5 _))
            have HO5 := Kept.mk (show ((w5.alloc (.cells #[.int .i64 pr, .int .i64 bu, .int .i64 pe, .int .i64 de, .pointer (some sa)] 128)).drew).ownsRow (xb + 1) 128 5 (.slice none 0 0) 0 [] from ⟨rfl, .inl ⟨rfl, rfl⟩⟩)
            have HS5 := Kept.mk (show xb + 1 ≤ ((w5.alloc (.cells #[.int .i64 pr, .int .i64 bu, .int .i64 pe, .int .i64 de, .pointer (some sa)] 128)).drew).heap.size by show _ ≤ (w5.alloc _).heap.size; simp; omega)
            have HF := Kept.mk (fun (w7 : World) (hg : ((w5.alloc (.cells #[.int .i64 pr, .int .i64 bu, .int .i64 pe, .int .i64 de, .pointer (some sa)] 128)).drew).grownBy w7 (Value.slice none 0 0).ownBlock) => show w7.cell? ⟨q, 0, none⟩ = some (.slice none 0 0) ∧ w7.frozen? ⟨q, 0, none⟩ = false ∧ ∀ u, ((w7.setCell ⟨q, 0, none⟩ u).cell? ⟨xb, 3, none⟩ = some (.int .i64 de) ∧ (w7.setCell ⟨q, 0, none⟩ u).cell? ⟨q, 1, none⟩ = some (.pointer none) ∧ (w7.setCell ⟨q, 0, none⟩ u).frozen? ⟨q, 1, none⟩ = false ∧ xb < (w7.setCell ⟨q, 0, none⟩ u).heap.size) ∧ Below q w (w7.setCell ⟨q, 0, none⟩ u) from by
              have hb6 : Below (xb + 1) w5 ((w5.alloc (.cells #[.int .i64 pr, .int .i64 bu, .int .i64 pe, .int .i64 de, .pointer (some sa)] 128)).drew) := ((Below.refl _ _).alloc (by omega) _).drewN 1
              have hb7 : Below (xb + 1) w5 w7 := hb6.grown hg HS5.out fun k hk => (HO5.out.lt k hk).1
              have hx7 := (hb7.block xb (Nat.lt_succ_self _)).trans HX5.out
              have hq7 := (hb7.block q (by omega)).trans HQ5.out
              refine ⟨cell_of_row _ _ 0 _ _ _ hq7, frozen_of_row _ _ 0 _ _ hq7, fun u => ⟨⟨?_, ?_, ?_, ?_⟩, (HB5.out.trans (hb7.mono (by omega))).setCell (p := ⟨q, 0, none⟩) (Nat.le_refl _) u⟩⟩
              · rw [World.cell?_setCell_other _ _ _ _ (by simp <;> omega)]; exact cell_of_row _ _ 3 _ _ _ hx7
              · rw [World.cell?_setCell_other _ _ _ _ (by simp)]; exact cell_of_row _ _ 1 _ _ _ hq7
              · rw [World.frozen?_setCell]; exact frozen_of_row _ _ 1 _ _ hq7
              · have := lt_of_block hx7; simp; omega)
            go_region_law (first
              | (refine step_append_lies _ rfl (.tmp 44) (.tmp 48) 120 rfl (xb + 1) 128 i0 (.agg #[.int .i64 0, .int .i64 0, .int .i64 0, .int .i64 0, .pointer none]) 5 40 Try.underlying120 hi0 hz0 hz1 hz2 rfl (by decide) (.slice none 0 0) 0 [] rfl HO5.out ⟨w5.heap.size, 0, none⟩ 1 1 [.int .i64 pr, .int .i64 bu, .int .i64 pe, .int .i64 de, .pointer (some sa)] rfl rfl HN5.out (by simp [Value.oneCell']) (by decide) (by simp only [maxLen]; omega) (by omega) HS5.out _ rfl ?_; intro g7 cap7 w7 own7 grow7 _ _; obtain ⟨r1, r2, r3⟩ := HF.out w7 grow7; have HR3 := Kept.mk r3; clear own7 grow7 r3))
            all_goals go_wp2_with fail
            all_goals go_meet
            all_goals exact ⟨rfl, ⟨(HR3.out _).1⟩, (HR3.out _).2⟩
          case rest =>
            obtain ⟨rfl, hk, hb9⟩ := hcut
            obtain ⟨k3, k1, kf, ks⟩ := hk.out
            have HN6 := Kept.mk (show ∀ j u, [Value.int .i64 de][j]? = some u → (wc.alloc (.cells #[.int .i64 de] 3)).cell? ((⟨wc.heap.size, 0, none⟩ : Addr).add j) = some u from World.news_of_block (cs := #[.int .i64 de]) (heap_alloc_new wc _))
            have HO6 := Kept.mk (show (wc.alloc (.cells #[.int .i64 de] 3)).ownsRow (q + 1) 3 1 (.slice none 0 0) 0 [] from ⟨rfl, .inl ⟨rfl, rfl⟩⟩)
            have HS6 := Kept.mk (show q + 1 ≤ (wc.alloc (.cells #[.int .i64 de] 3)).heap.size by simp; omega)
            have HF := Kept.mk (fun (w7 : World) (hg : (wc.alloc (.cells #[.int .i64 de] 3)).grownBy w7 (Value.slice none 0 0).ownBlock) => show (w7.cell? ⟨q, 1, none⟩ = some (.pointer none) ∧ w7.frozen? ⟨q, 1, none⟩ = false ∧ q < w7.heap.size) ∧ Below q w w7 from by
              have hb6 : Below (q + 1) wc (wc.alloc (.cells #[.int .i64 de] 3)) := (Below.refl _ _).alloc (by omega) _
              have hb7 : Below (q + 1) wc w7 := hb6.grown hg HS6.out fun k hk => (HO6.out.lt k hk).1
              exact ⟨⟨(hb7.cell (p := ⟨q, 1, none⟩) (Nat.lt_succ_self _)).trans k1, (hb7.frozen (p := ⟨q, 1, none⟩) (Nat.lt_succ_self _)).trans kf, by have := hb7.size; omega⟩, hb9.trans (hb7.mono (Nat.le_succ q))⟩)
            clear hk k1 kf ks hb9
            go_wp2_with (at_builtin; refine wpList_append_lies _ rfl _ _ 103 rfl (q + 1) 3 j0 (.int .i64 0) 1 8 Try.underlying103 hj0 hj1 hj2 hj3 rfl (by decide) (.slice none 0 0) 0 [] rfl HO6.out ⟨wc.heap.size, 0, none⟩ 1 1 [.int .i64 de] rfl rfl HN6.out (by simp [Value.oneCell']) (by decide) (by simp only [maxLen]; omega) (by omega) HS6.out _ rfl ?_; intro g7 cap7 w7 own7 grow7 lies7 hlt7; have HR7 := Kept.mk (HF.out w7 grow7); have HO7 := Kept.mk own7; clear own7 grow7 lies7 hlt7)
            go_roundw
            case rel => exact .inr ⟨by go_num, HK2, _, _, rfl, ⟨HO7.out⟩, ⟨HR7.out.1⟩, HR7.out.2⟩
            case measure => simp [intOf]
        · have HF := Kept.mk (show y = 1 by rw [HY2.out, decide_eq_false hp]; rfl)
          by_cases h1 : pr < 0
          · have p1 : decide (pr < 0) = true := decide_eq_true h1
            clear hp h1
            go_wp2
            go_ret2
            exact ⟨⟨.pointer none, by rw [HF.out] <;> rfl⟩, by rw [← HQ.out]; exact HB5.out⟩
          · have p1 : decide (pr < 0) = false := decide_eq_false h1
            have p2 : decide (63 < pr) = true := decide_eq_true (by omega)
            clear hp h1
            go_wp2
            go_ret2
            exact ⟨⟨.pointer none, by rw [HF.out] <;> rfl⟩, by rw [← HQ.out]; exact HB5.out⟩
      · have HS := Kept.mk (server_bad bu pe hs wa)
        have HF := Kept.mk (show y = 1 by rw [HY.out, decide_eq_false hs]; rfl)
        clear hs
        go_wp2_with fail
        refine HS.out.mono ?_
        rintro e w5 ⟨rfl, hb5⟩
        have HB5 := Kept.mk (HBA.out.trans (hb5.mono (by omega)))
        clear hb5
        go_wp2
        go_ret2
        exact ⟨⟨.pointer none, by rw [HF.out] <;> rfl⟩, by rw [← HQ.out]; exact HB5.out⟩
    · have HY2 := Kept.mk (show y = if (!oddW de) = true then 0 else 1 by rw [HY.out, hK.out]; rfl)
      have HI := Kept.mk (Ints.of_own (xs := [de]) hO.out).2
      obtain ⟨k1, kf, ks⟩ := hqc.out
      have HW := Kept.mk (work_any de A5 c5 wr HI.out)
      obtain ⟨o, ho⟩ : ∃ o, o = oddW de := ⟨_, rfl⟩
      rw [← ho] at HW HY2
      have HB := Kept.mk hb
      clear hK hO hqc HY ho hb
      go_wp2_with fail
      refine HW.out.mono ?_
      rintro e w5 ⟨⟨hod, rfl⟩ | ⟨hod, wb, rfl⟩, hb5⟩
      · have HF := Kept.mk (show y = 1 by rw [HY2.out, hod]; rfl)
        have HB5 := Kept.mk (HB.out.trans (hb5.mono (by omega)))
        clear hod hb5
        go_wp2
        go_ret2
        exact ⟨⟨.pointer none, by rw [HF.out] <;> rfl⟩, by rw [← HQ.out]; exact HB5.out⟩
      · have HF := Kept.mk (show y = 0 by rw [HY2.out, hod]; rfl)
        have HB5 := Kept.mk (HB.out.trans (hb5.mono (by omega)))
        have m1 : w5.cell? ⟨q, 1, none⟩ = some (.pointer none) := (hb5.cell (p := ⟨q, 1, none⟩) ks).trans k1
        have mf : w5.frozen? ⟨q, 1, none⟩ = false := (hb5.frozen (p := ⟨q, 1, none⟩) ks).trans kf
        clear hod hb5 k1 kf
        go_wp2
        go_ret2
        exact ⟨⟨.pointer (some ⟨q, 0, none⟩), by rw [HF.out] <;> rfl⟩, by rw [← HQ.out]; exact HB5.out.setCell (p := ⟨q, 1, none⟩) (Nat.le_refl _) _⟩
def thE' (x : Q4) : Int := if thB' x = true then 0 else 1
theorem vthread_any (x : Q4) (w : World) : Calls Try.prog 34 #[.agg #[.int .i64 x.a, .int .i64 x.b, .int .i64 x.c, .int .i64 x.d]] w fun e w' => e = .returned (.int .i64 (thE' x)) ∧ Below w.heap.size w w' := by
  obtain ⟨pr, bu, pe, de⟩ := x
  have HC := Kept.mk (fun (W : World) (A : Option Addr) (h : R4 W W.heap.size A [⟨pr, bu, pe, de⟩]) => bottom_any ⟨pr, bu, pe, de⟩ A 1 W h)
  obtain ⟨y, hy⟩ : ∃ y : Int, y = (if thB' ⟨pr, bu, pe, de⟩ = true then 0 else 1) := ⟨_, rfl⟩
  rw [← hy] at HC
  have HY := Kept.mk (show thE' ⟨pr, bu, pe, de⟩ = y from hy.symm)
  clear hy
  go_enter Try.func34, Try.ntmps34
  go_wp2_with fail
  have hR : R4 ((w.alloc (.cells #[.int .i64 pr, .int .i64 bu, .int .i64 pe, .int .i64 de] 75)).alloc (.cells #[.int .i64 pr, .int .i64 bu, .int .i64 pe, .int .i64 de] 75)) ((w.alloc (.cells #[.int .i64 pr, .int .i64 bu, .int .i64 pe, .int .i64 de] 75)).alloc (.cells #[.int .i64 pr, .int .i64 bu, .int .i64 pe, .int .i64 de] 75)).heap.size (some ⟨w.heap.size + 1, 0, none⟩) [⟨pr, bu, pe, de⟩] := by
    have := r4_newn (w.alloc (.cells #[.int .i64 pr, .int .i64 bu, .int .i64 pe, .int .i64 de] 75)) (w.heap.size + 1) (by simp) [⟨pr, bu, pe, de⟩] 75 (0, 0)
    exact this
  refine (HC.out _ _ hR).mono ?_
  rintro e w5 ⟨⟨v, rfl⟩, hb⟩
  have HB := Kept.mk (show Below w.heap.size w w5 from ((below_box w _).trans ((below_box _ _).mono (by simp))).trans (hb.mono (by simp; omega)))
  clear hb hR
  go_wp2
  go_ret
  exact ⟨congrArg (fun v => Ending.returned (.int .i64 v)) HY.out.symm, HB.out⟩
end Go.Proofs.Ytfneloplbkjbhaa
