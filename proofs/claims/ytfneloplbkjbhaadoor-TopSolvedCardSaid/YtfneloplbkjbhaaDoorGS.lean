/-
  The walks of package solve and of its reference (vergeref25), part 1: what they compute, Round.
-/
import Derived.Test.YtfneloplbkjbhaaDoorGD
import Derived.Test.YtfneloplbkjbhaaDoorDemQ
import Derived.Test.YtfneloplbkjbhaaDoorApp
import Derived.Test.YtfneloplbkjbhaaDoorGC
namespace Go.Proofs.YtfneloplbkjbhaaDoor
open Go.RowKit
set_option linter.unusedVariables false

def roE (b : Int) (xs : List Q4) (w : Int) : Int := if ldsE xs ≠ 0 then 2 else if b < 1 ∨ 4503599627370496 < b ∨ w < 0 ∨ 4503599627370496 < w then 1 else if alE xs w ≠ 0 then alE xs w else if 4503599627370496 - b < alV xs w then 10 else 0
def roV (b : Int) (xs : List Q4) (w : Int) : Int := if roE b xs w ≠ 0 then 0 else b + alV xs w
theorem roV_zero {b : Int} {xs : List Q4} {w : Int} (h : roE b xs w ≠ 0) : roV b xs w = 0 := by unfold roV; rw [if_pos h]

set_option maxHeartbeats 1000000 in
theorem round_any (b : Int) (A : Option Addr) (xs : List Q4) (cap : Nat) (wd : Int) (w : World) (h : R4 w w.heap.size A xs) (hl : xs.length ≤ 9223372036854775807) :
    Calls Tryd.prog 57 #[.int .i64 b, .slice A xs.length cap, .int .i64 wd] w fun e w' => e = .returned (.tuple #[.int .i64 (roV b xs wd), .int .i64 (roE b xs wd)]) ∧ Below w.heap.size w w' := by
  by_cases hE : ldsE xs = 0
  · by_cases hb : b < 1 ∨ 4503599627370496 < b ∨ wd < 0 ∨ 4503599627370496 < wd
    · have e1 : roE b xs wd = 1 := by unfold roE; rw [if_neg (by omega), if_pos hb]
      have R := Lib.hid (And.intro e1 (roV_zero (by rw [e1]; decide)))
      have ht : timeB wd = decide (0 ≤ wd ∧ wd ≤ 4503599627370496) := rfl
      clear e1
      by_cases hw : 0 ≤ wd ∧ wd ≤ 4503599627370496
      · have htb : timeB wd = true := by rw [ht]; exact decide_eq_true hw
        clear ht
        go_enter Tryd.func57, Tryd.ntmps57
        go_wp2_with (first | (go_at_call 49; refine (dcheck_any A xs _ _ h hl).mono ?_; rintro e w1 ⟨rfl, HB⟩))
        all_goals first | (exfalso; omega) | skip
        all_goals go_ret2
        all_goals exact ⟨ret_ii R.out.2.symm R.out.1.symm, HB⟩
      · have htb : timeB wd = false := by rw [ht]; exact decide_eq_false hw
        clear ht
        go_enter Tryd.func57, Tryd.ntmps57
        go_wp2_with (first | (go_at_call 49; refine (dcheck_any A xs _ _ h hl).mono ?_; rintro e w1 ⟨rfl, HB⟩))
        all_goals first | (exfalso; omega) | skip
        all_goals go_ret2
        all_goals exact ⟨ret_ii R.out.2.symm R.out.1.symm, HB⟩
    · have h1 : 1 ≤ b := by omega
      have h2 : b ≤ 4503599627370496 := by omega
      have h3 : 0 ≤ wd := by omega
      have h4 : wd ≤ 4503599627370496 := by omega
      have htb : timeB wd = true := by simp [timeB]; omega
      have bd := alV_bd xs wd
      by_cases ha : alE xs wd = 0
      · by_cases ho : 4503599627370496 - b < alV xs wd
        · have e1 : roE b xs wd = 10 := by unfold roE; rw [if_neg (by omega), if_neg hb, if_neg (by omega), if_pos ho]
          have R := Lib.hid (And.intro e1 (roV_zero (by rw [e1]; decide)))
          clear e1 hb
          go_enter Tryd.func57, Tryd.ntmps57
          go_wp2_with (first | (go_at_call 49; refine (dcheck_any A xs _ _ h hl).mono ?_; rintro e w1 ⟨rfl, HB⟩) | (go_at_call 68; refine (all_any A xs _ _ _ ((h.below HB).mono HB.size) hl).mono ?_; rintro e w2 ⟨rfl, hb2⟩; replace HB := HB.next HB.size hb2))
          all_goals go_ret2
          all_goals exact ⟨ret_ii R.out.2.symm R.out.1.symm, HB⟩
        · have e1 : roE b xs wd = 0 := by unfold roE; rw [if_neg (by omega), if_neg hb, if_neg (by omega), if_neg ho]
          have e2 : roV b xs wd = b + alV xs wd := by unfold roV; rw [if_neg (by omega)]
          have R := Lib.hid (And.intro e1 e2)
          have ho' : alV xs wd ≤ 4503599627370496 - b := by omega
          clear e1 e2 hb ho
          go_enter Tryd.func57, Tryd.ntmps57
          go_wp2_with (first | (go_at_call 49; refine (dcheck_any A xs _ _ h hl).mono ?_; rintro e w1 ⟨rfl, HB⟩) | (go_at_call 68; refine (all_any A xs _ _ _ ((h.below HB).mono HB.size) hl).mono ?_; rintro e w2 ⟨rfl, hb2⟩; replace HB := HB.next HB.size hb2))
          all_goals go_ret2
          all_goals exact ⟨ret_ii R.out.2.symm R.out.1.symm, HB⟩
      · have e1 : roE b xs wd = alE xs wd := by unfold roE; rw [if_neg (by omega), if_neg hb, if_pos ha]
        have R := Lib.hid (And.intro e1 (roV_zero (by rw [e1]; exact ha)))
        clear e1 hb
        go_enter Tryd.func57, Tryd.ntmps57
        go_wp2_with (first | (go_at_call 49; refine (dcheck_any A xs _ _ h hl).mono ?_; rintro e w1 ⟨rfl, HB⟩) | (go_at_call 68; refine (all_any A xs _ _ _ ((h.below HB).mono HB.size) hl).mono ?_; rintro e w2 ⟨rfl, hb2⟩; replace HB := HB.next HB.size hb2))
        all_goals go_ret2
        all_goals exact ⟨ret_ii R.out.2.symm R.out.1.symm, HB⟩
  · have hE2 : ldsE xs = 2 := lds_two hE
    have e1 : roE b xs wd = 2 := by unfold roE; rw [if_pos hE]
    have R := Lib.hid (And.intro e1 (roV_zero (by rw [e1]; decide)))
    clear e1
    go_enter Tryd.func57, Tryd.ntmps57
    go_wp2_with (first | (go_at_call 49; refine (dcheck_any A xs _ _ h hl).mono ?_; rintro e w1 ⟨rfl, HB⟩))
    all_goals go_ret2
    all_goals exact ⟨ret_ii R.out.2.symm R.out.1.symm, HB⟩
end Go.Proofs.YtfneloplbkjbhaaDoor
namespace Go.Proofs.YtfneloplbkjbhaaDoor
open Go.RowKit Go.Shelf
set_option linter.unusedVariables false
attribute [local go_sem] Oper.semAt_some

/-! ### plain -/
theorem al_mono {xs : List Q4} {w v : Int} (h : ldsE xs = 0) (h0 : 0 ≤ w) (hv : w ≤ v) (h1 : v ≤ 4503599627370496) (ha : alE xs v = 0) : alE xs w = 0 ∧ alV xs w ≤ alV xs v := by
  cases hs : sumP (xs.map (arrOf v)) with
  | none => have := (al_over h (by omega) h1 hs).1; omega
  | some t =>
    obtain ⟨t0, e0, hle⟩ := sum_mono (xs := xs) (w := w) (v := v - w) h h0 (by omega) (by omega) (by rw [show w + (v - w) = v from by omega]; exact hs)
    obtain ⟨a1, a2⟩ := al_sum h h0 (by omega) e0
    obtain ⟨b1, b2⟩ := al_sum h (by omega) h1 hs
    exact ⟨a1, by rw [a2, b2]; exact hle⟩
theorem ro_parts {b : Int} {xs : List Q4} {w : Int} (h : roE b xs w = 0) : ldsE xs = 0 ∧ 1 ≤ b ∧ b ≤ 4503599627370496 ∧ 0 ≤ w ∧ w ≤ 4503599627370496 ∧ alE xs w = 0 ∧ b + alV xs w ≤ 4503599627370496 ∧ roV b xs w = b + alV xs w ∧ b ≤ roV b xs w ∧ roV b xs w ≤ 4503599627370496 := by
  have hb := alV_bd xs w
  have hv : roV b xs w = b + alV xs w := by unfold roV; rw [if_neg (by omega)]
  unfold roE at h
  split at h
  · omega
  · split at h
    · omega
    · split at h
      · omega
      · split at h <;> omega
theorem ro_mono {b : Int} {xs : List Q4} {w v : Int} (h0 : 0 ≤ w) (hv : w ≤ v) (h : roE b xs v = 0) : roE b xs w = 0 ∧ roV b xs w ≤ roV b xs v := by
  obtain ⟨a1, a2, a3, a4, a5, a6, a7, a8, a9, a10⟩ := ro_parts h
  obtain ⟨m1, m2⟩ := al_mono a1 h0 hv a5 a6
  have e : roE b xs w = 0 := by unfold roE; rw [if_neg (by omega), if_neg (by omega), if_neg (by omega), if_neg (by omega)]
  exact ⟨e, by rw [a8, (ro_parts e).2.2.2.2.2.2.2.1]; omega⟩
theorem roE_bd (b : Int) (xs : List Q4) (w : Int) : 0 ≤ roE b xs w ∧ roE b xs w ≤ 10 := by
  unfold roE alE
  repeat' split
  all_goals omega
theorem roV_bd (b : Int) (xs : List Q4) (w : Int) : 0 ≤ roV b xs w ∧ roV b xs w ≤ 4503599627370496 := by
  by_cases h : roE b xs w = 0
  · obtain ⟨a1, a2, a3, a4, a5, a6, a7, a8, a9, a10⟩ := ro_parts h
    omega
  · rw [roV_zero h]; omega

def chain (b : Int) (xs : List Q4) : Nat → Int → List (Int × Int)
  | 0, _ => []
  | f + 1, w => (w, 0) :: (if roE b xs w ≠ 0 then [(0, roE b xs w)] else if roV b xs w = w then [] else chain b xs f (roV b xs w))
theorem chain_bd (b : Int) (xs : List Q4) : ∀ (f : Nat) (w : Int), 0 ≤ w → w ≤ 4503599627370496 → ∀ y ∈ chain b xs f w, 0 ≤ y.1 ∧ y.1 ≤ 4503599627370496 ∧ 0 ≤ y.2 ∧ y.2 ≤ 11
  | 0, _, _, _, y, hy => by simp [chain] at hy
  | f + 1, w, h0, h1, y, hy => by
    have hv := roV_bd b xs w
    have he := roE_bd b xs w
    unfold chain at hy
    rcases List.mem_cons.1 hy with rfl | hy
    · exact ⟨h0, h1, by simp, by simp⟩
    · split at hy
      · simp only [List.mem_cons, List.not_mem_nil, or_false] at hy
        subst hy
        exact ⟨by simp, by simp, he.1, by show roE b xs w ≤ 11; omega⟩
      · split at hy
        · cases hy
        · exact chain_bd b xs f _ hv.1 hv.2 y hy

/-- What comes of a search. -/
abbrev St := { p : Int × Int // 0 ≤ p.1 ∧ p.1 ≤ 4503599627370496 ∧ 0 ≤ p.2 ∧ p.2 ≤ 11 }
abbrev encSt (x : St) : Array Value := #[.int .i64 x.1.1, .int .i64 x.1.2]
theorem sts_of : ∀ l : List (Int × Int), (∀ y ∈ l, 0 ≤ y.1 ∧ y.1 ≤ 4503599627370496 ∧ 0 ≤ y.2 ∧ y.2 ≤ 11) → ∃ ys : List St, ys.map (·.1) = l
  | [], _ => ⟨[], rfl⟩
  | y :: r, h => by
    obtain ⟨ys, e⟩ := sts_of r fun z hz => h z (by simp [hz])
    exact ⟨⟨y, h y (by simp)⟩ :: ys, by simp [e]⟩

/-- What a round of such a loop keeps: what lies below n₀, and two captured cells. -/
def KpD (n₀ : Nat) (p q : Addr) (W W' : World) : Prop := Below n₀ W W' ∧ (∀ v, W.cell? p = some v → W'.cell? p = some v) ∧ ∀ v, W.cell? q = some v → W'.cell? q = some v
theorem KpD.trans {n₀ : Nat} {p q : Addr} {A B C : World} (h : KpD n₀ p q A B) (k : KpD n₀ p q B C) : KpD n₀ p q A C := ⟨h.1.trans k.1, fun v hv => k.2.1 v (h.2.1 v hv), fun v hv => k.2.2 v (h.2.2 v hv)⟩
theorem KpD.book {n₀ : Nat} {p q : Addr} {w : World} (hn : n₀ ≤ w.heap.size) (W : World) (l : Nat) (o o' : Obj) (hl : w.heap.size ≤ l) (h : W.heap[l]? = some o) (hc : o.isCells = false) (hw : o.isWalk = false) : KpD n₀ p q W (W.putObj l o') :=
  ⟨belowK_b hn W l o o' hl h hc hw, fun v hv => cell_kept hv (grownBy_putObj' W l o') fun r e => by cases e; exact ⟨o, h, hc⟩, fun v hv => cell_kept hv (grownBy_putObj' W l o') fun r e => by cases e; exact ⟨o, h, hc⟩⟩

set_option maxHeartbeats 1000000 in
theorem stp_in (n : Nat) (hn : 1 ≤ n) (l B1 B2 n₀ : Nat) (A : Option Addr) (xs : List Q4) (cap : Nat) (b : Int) (ys : List St) (f0 : Nat) (hys : ys.map (·.1) = chain b xs f0 b) (hf0 : 4503599627370497 - b ≤ f0) (b1 : 1 ≤ b) (b2 : b ≤ 4503599627370496)
    (J Jx : List St → World → Prop) (B0 : Nat) (hJ : AbidesFrom B0 J) (hlen : xs.length ≤ 9223372036854775807)
    (hY : ∀ pre x W, J pre W → pre.length < ys.length → YieldAt Fence.wide (n - 1) Tryd.prog l (encSt x) W fun e W' =>
      (e = .returned (.bool true) ∧ J (pre ++ [x]) W' ∧ KpD n₀ ⟨B1, 0, none⟩ ⟨B2, 0, none⟩ W W') ∨ (e = .returned (.bool false) ∧ Jx (pre ++ [x]) W'))
    (W : World) (hB1 : W.cell? ⟨B1, 0, none⟩ = some (.int .i64 b)) (hB2 : W.cell? ⟨B2, 0, none⟩ = some (.slice A xs.length cap)) (hB1l : B1 < W.heap.size) (hB2l : B2 < W.heap.size) (hR : R4 W n₀ A xs) (hn0 : n₀ ≤ W.heap.size) (h0 : J [] W) :
    CallsIn Fence.wide n Tryd.prog 56 #[.func (.yield l) #[] #[], .pointer (some ⟨B1, 0, none⟩), .pointer (some ⟨B2, 0, none⟩)] W fun e W' => (∃ v, e = .returned v) ∧
      ((∃ l, l = ys ∧ J l W') ∨ (∃ pre, pre <+: ys ∧ Jx pre W')) := by
  refine callsIn_of_wp Tryd.func56 rfl trivial ?_ rfl
  simp only [Tryd.ntmps56, List.size_toArray, List.length_cons, List.length_nil, Nat.reduceAdd, Nat.reduceSub, Array.replicate_succ, Array.replicate_zero, List.push_toArray, List.append_toArray, List.nil_append, List.cons_append]
  have HYS := Lib.hid hys
  have HF0 := Lib.hid hf0
  clear hys hf0
  gi_wp2_with fail
  gi_loopw [4] (fun u wr => ∃ (pre rest : List St) (x : Int) (f : Nat), u = .int .i64 x ∧ wr.cell? ⟨B1, 0, none⟩ = some (.int .i64 b) ∧ wr.cell? ⟨B2, 0, none⟩ = some (.slice A xs.length cap) ∧ B1 < wr.heap.size ∧ B2 < wr.heap.size ∧ R4 wr n₀ A xs ∧ n₀ ≤ wr.heap.size ∧ J pre wr ∧
      Hid (ys = pre ++ rest ∧ rest.map (·.1) = chain b xs f x ∧ 4503599627370497 - x ≤ f ∧ (roE b xs x = 0 → x ≤ roV b xs x)) ∧ b ≤ x ∧ x ≤ 4503599627370496)
    (fun u _ => (4503599627370497 - intOf u).toNat)
  case atStart => exact ⟨[], ys, b, f0, rfl, hB1, hB2, hB1l, hB2l, hR, hn0, h0, ⟨rfl, HYS.out, HF0.out, fun h => (ro_parts h).2.2.2.2.2.2.2.2.1⟩, by omega, b2⟩
  case round =>
    obtain ⟨pre, rest, x, f, rfl, c1, c2, l1, l2, hr, hnr, hj, hH, x1, x2⟩ := hrel
    obtain ⟨g1, g2, g3, g4⟩ := hH.out
    clear hH
    obtain ⟨f, rfl⟩ : ∃ g, f = g + 1 := ⟨f - 1, by omega⟩
    cases rest with
    | nil => simp [chain] at g2
    | cons y rest =>
      simp only [chain, List.map_cons, List.cons.injEq] at g2
      obtain ⟨gy, g2⟩ := g2
      obtain ⟨⟨y1, y2⟩, hyb⟩ := y
      simp only [Prod.mk.injEq] at gy
      obtain ⟨rfl, rfl⟩ := gy
      have hpl : pre.length < ys.length := by rw [g1]; simp
      have hpre : pre ++ [⟨(y1, 0), hyb⟩] <+: ys := ⟨rest, by rw [g1]; simp⟩
      have G := Lib.hid (And.intro g1 (And.intro g2 (And.intro g3 g4)))
      have HP := Lib.hid hpre
      clear g1 g2 g3 g4 hpre
      obtain ⟨fn, tmps, assign, body, hy, hRd⟩ := hY _ ⟨(y1, 0), hyb⟩ wr hj hpl
      dsimp only [encSt] at hy
      gi_wp2
      refine hRd.mono ?_
      rintro e W3 (⟨rfl, hJ3, hk3⟩ | ⟨rfl, hJx3⟩)
      · have d1 := hk3.2.1 _ c1
        have d2 := hk3.2.2 _ c2
        have hr3 := hr.below hk3.1
        have hs3 := hk3.1.size
        have vb := roV_bd b xs y1
        have eb := roE_bd b xs y1
        gi_wp2_with fail
        refine ⟨trivial, ?_⟩
        refine (callsIn_wide.2 (round_any _ A xs _ _ _ (hr3.mono (by omega)) hlen)).mono ?_
        rintro e w1 ⟨rfl, hb⟩
        have hj1 := hJ _ W3 w1 none hJ3 ⟨hb.os, hb.tape, hb.output, hb.size, fun i hi _ => hb.block i hi⟩ (fun r e => by cases e)
        replace d1 := (hb.cell (p := ⟨B1, 0, none⟩) (by show B1 < W3.heap.size; omega)).trans d1
        replace d2 := (hb.cell (p := ⟨B2, 0, none⟩) (by show B2 < W3.heap.size; omega)).trans d2
        have hs1 := hb.size
        have hr1 := hr3.below (hb.mono (Nat.le_trans hnr hs3))
        obtain ⟨g1, g2, g3, g4⟩ := G.out
        clear G
        by_cases he : roE b xs y1 = 0
        · rw [if_neg (by omega)] at g2
          by_cases hv : roV b xs y1 = y1
          · rw [if_pos hv, List.map_eq_nil_iff] at g2
            subst g2
            have G := Lib.hid g1
            clear g1 g3 g4 hb
            gi_wp2
            first | go_end0 | refine bodyPost_ret (results_none rfl _ _ _) rfl ?_
            exact ⟨⟨_, rfl⟩, .inl ⟨_, G.out.symm, hj1⟩⟩
          · rw [if_neg hv] at g2
            have hle := g4 he
            have hmono : roE b xs (roV b xs y1) = 0 → roV b xs y1 ≤ roV b xs (roV b xs y1) := fun h => (ro_mono (by omega) hle h).2
            have hbv : b ≤ roV b xs y1 := (ro_parts he).2.2.2.2.2.2.2.2.1
            have G := Lib.hid (And.intro g1 (And.intro g2 (And.intro g3 hmono)))
            clear g1 g2 g3 g4 hb hmono
            gi_wp2
            go_roundw
            case rel =>
              obtain ⟨g1, g2, g3, g4⟩ := G.out
              exact ⟨pre ++ [⟨(y1, 0), hyb⟩], rest, _, f, rfl, d1, d2, by omega, by omega, hr1, by omega, hj1, ⟨by rw [g1]; simp, g2, by omega, g4⟩, hbv, vb.2⟩
            case measure => simp only [intOf]; simp; omega
        · rw [if_pos he] at g2
          cases rest with
          | nil => simp at g2
          | cons z rest =>
            simp only [List.map_cons, List.cons.injEq, List.map_eq_nil_iff] at g2
            obtain ⟨gz, rfl⟩ := g2
            obtain ⟨⟨z1, z2⟩, hzb⟩ := z
            simp only [Prod.mk.injEq] at gz
            obtain ⟨rfl, rfl⟩ := gz
            have hpl2 : (pre ++ [(⟨(y1, 0), hyb⟩ : St)]).length < ys.length := by rw [g1]; simp
            have G := Lib.hid g1
            clear g1 g3 g4 hb hy hRd
            obtain ⟨fn2, tmps2, assign2, body2, hy, hRd2⟩ := hY _ ⟨(0, roE b xs y1), hzb⟩ w1 hj1 hpl2
            dsimp only [encSt] at hy
            gi_wp2
            refine hRd2.mono ?_
            rintro e W4 (⟨rfl, hJ4, hk4⟩ | ⟨rfl, hJx4⟩)
            · gi_wp2
              first | go_end0 | refine bodyPost_ret (results_none rfl _ _ _) rfl ?_
              exact ⟨⟨_, rfl⟩, .inl ⟨_, by rw [G.out]; simp, hJ4⟩⟩
            · gi_wp2
              first | go_end0 | refine bodyPost_ret (results_none rfl _ _ _) rfl ?_
              exact ⟨⟨_, rfl⟩, .inr ⟨_, ⟨[], by rw [G.out]; simp⟩, hJx4⟩⟩
      · gi_wp2
        go_end0
        exact ⟨⟨_, rfl⟩, .inr ⟨_, HP.out, hJx3⟩⟩

theorem stp_stops (n : Nat) (hn : 1 ≤ n) (B1 B2 n₀ : Nat) (A : Option Addr) (xs : List Q4) (cap : Nat) (b : Int) (ys : List St) (f0 : Nat) (hys : ys.map (·.1) = chain b xs f0 b) (hf0 : 4503599627370497 - b ≤ f0) (b1 : 1 ≤ b) (b2 : b ≤ 4503599627370496) (hlen : xs.length ≤ 9223372036854775807) (w : World)
    (hB1 : w.cell? ⟨B1, 0, none⟩ = some (.int .i64 b)) (hB2 : w.cell? ⟨B2, 0, none⟩ = some (.slice A xs.length cap)) (hB1l : B1 < w.heap.size) (hB2l : B2 < w.heap.size) (hR : R4 w n₀ A xs) (hn0 : n₀ ≤ w.heap.size) :
    SeqStopsK Fence.wide n Tryd.prog 56 #[.pointer (some ⟨B1, 0, none⟩), .pointer (some ⟨B2, 0, none⟩)] encSt (KpD n₀ ⟨B1, 0, none⟩ ⟨B2, 0, none⟩) (fun l => l = ys) (fun pre => pre <+: ys) ys.length w := fun l J Jx W hW hJ hJx hY h0 =>
  stp_in n hn l B1 B2 n₀ A xs cap b ys f0 hys hf0 b1 b2 J Jx W.heap.size hJ hlen hY W ((hW.cell (p := ⟨B1, 0, none⟩) hB1l).trans hB1) ((hW.cell (p := ⟨B2, 0, none⟩) hB2l).trans hB2) (Nat.lt_of_lt_of_le hB1l hW.size) (Nat.lt_of_lt_of_le hB2l hW.size) (hR.below (hW.mono hn0)) (Nat.le_trans hn0 hW.size) h0

/-- steps: the function that makes the iterator. -/
theorem steps_any (b : Int) (A : Option Addr) (n cap : Nat) (w : World) :
    Calls Tryd.prog 50 #[.int .i64 b, .slice A n cap] w fun e w' => e = .returned (.func (.func 56) #[] #[.pointer (some ⟨w.heap.size, 0, none⟩), .pointer (some ⟨w.heap.size + 1, 0, none⟩)]) ∧ w' = (w.alloc (.cells #[.int .i64 b] 2)).alloc (.cells #[.slice A n cap] 51) := by
  go_enter Tryd.func50, Tryd.ntmps50
  go_wp2
  go_ret
  exact ⟨rfl, rfl⟩
end Go.Proofs.YtfneloplbkjbhaaDoor
namespace Go.Proofs.YtfneloplbkjbhaaDoor
open Go.RowKit Go.Shelf
set_option linter.unusedVariables false
attribute [local go_sem] Oper.semAt_some

/-! ### plain -/
def run (b : Int) (xs : List Q4) (lim : Int) : Nat → Int → List Int → List Int × Int
  | 0, _, _ => ([], 11)
  | k + 1, w, out => if lim < w then ([], 11) else if roE b xs w ≠ 0 then ([], roE b xs w) else if roV b xs w = w then (out ++ [w], 0) else run b xs lim k (roV b xs w) (out ++ [w])
def stOk (b : Int) (xs : List Q4) (lim : Int) : Prop := ldsE xs = 0 ∧ 1 ≤ b ∧ b ≤ 4503599627370496 ∧ 0 ≤ lim ∧ lim ≤ 4503599627370496
def stE (b : Int) (xs : List Q4) (lim : Int) : Int := if ldsE xs ≠ 0 then 2 else if b < 1 ∨ 4503599627370496 < b ∨ lim < 0 ∨ 4503599627370496 < lim then 1 else (run b xs lim 4096 b []).2
def stL (b : Int) (xs : List Q4) (lim : Int) : List Int := if ldsE xs ≠ 0 then [] else if b < 1 ∨ 4503599627370496 < b ∨ lim < 0 ∨ 4503599627370496 < lim then [] else (run b xs lim 4096 b []).1
/-- What is made of what comes. -/
def cons (lim : Int) : List (Int × Int) → List Int → List Int × Int
  | [], out => (out, 0)
  | y :: r, out => if y.2 ≠ 0 then ([], y.2) else if lim < y.1 ∨ out.length = 4096 then ([], 11) else cons lim r (out ++ [y.1])
theorem cons_run (b : Int) (xs : List Q4) (lim : Int) : ∀ (f : Nat) (w : Int) (out : List Int), 4503599627370497 - w ≤ f → 0 ≤ w → w ≤ 4503599627370496 → (roE b xs w = 0 → w ≤ roV b xs w) → out.length ≤ 4096 → cons lim (chain b xs f w) out = run b xs lim (4096 - out.length) w out
  | 0, w, out, hf, _, h1, _, _ => by omega
  | f + 1, w, out, hf, h0, h1, hm, ho => by
    unfold chain cons
    rw [if_neg (by simp)]
    by_cases hl : out.length = 4096
    · rw [if_pos (.inr hl), hl]; rfl
    · obtain ⟨k, hk⟩ : ∃ k, 4096 - out.length = k + 1 := ⟨4095 - out.length, by omega⟩
      rw [hk]
      unfold run
      by_cases hw : lim < w
      · rw [if_pos (.inl hw), if_pos hw]
      · rw [if_neg (by simp; omega), if_neg hw]
        by_cases he : roE b xs w = 0
        · have he' : ¬ roE b xs w ≠ 0 := fun h => h he
          rw [if_neg he', if_neg he']
          by_cases hv : roV b xs w = w
          · rw [if_pos hv, if_pos hv]; rfl
          · rw [if_neg hv, if_neg hv]
            show cons lim (chain b xs f (roV b xs w)) (out ++ [w]) = _
            have hle := hm he
            have vb := roV_bd b xs w
            rw [cons_run b xs lim f (roV b xs w) (out ++ [w]) (by omega) vb.1 vb.2 (fun h => (ro_mono h0 hle h).2) (by simp; omega)]
            congr 1
            simp; omega
        · rw [if_pos he, if_pos he]
          unfold cons
          rw [if_pos he]
theorem cons_ok {lim : Int} {p : List (Int × Int)} {out : List Int} (h : ∀ r, cons lim (p ++ r) [] = cons lim r out) {w : Int} (hw : ¬ lim < w) (ho : ¬ out.length = 4096) (r : List (Int × Int)) : cons lim ((p ++ [(w, 0)]) ++ r) [] = cons lim r (out ++ [w]) := by
  rw [List.append_assoc, h]
  show cons lim ((w, 0) :: r) out = _
  rw [cons, if_neg (by simp), if_neg (by simp; omega)]
theorem cons_late {lim : Int} {p : List (Int × Int)} {out : List Int} (h : ∀ r, cons lim (p ++ r) [] = cons lim r out) {w : Int} (hw : lim < w ∨ out.length = 4096) (r : List (Int × Int)) : cons lim ((p ++ [(w, 0)]) ++ r) [] = ([], 11) := by
  rw [List.append_assoc, h]
  show cons lim ((w, 0) :: r) out = _
  rw [cons, if_neg (by simp), if_pos hw]
theorem cons_err {lim : Int} {p : List (Int × Int)} {out : List Int} (h : ∀ r, cons lim (p ++ r) [] = cons lim r out) {w e : Int} (he : e ≠ 0) (r : List (Int × Int)) : cons lim ((p ++ [(w, e)]) ++ r) [] = ([], e) := by
  rw [List.append_assoc, h]
  show cons lim ((w, e) :: r) out = _
  rw [cons, if_pos he]

theorem st_run {b : Int} {xs : List Q4} {lim : Int} (hE : ldsE xs = 0) (b1 : 1 ≤ b) (b2 : b ≤ 4503599627370496) (l1 : 0 ≤ lim) (l2 : lim ≤ 4503599627370496) {ys : List St} (hys : ys.map (·.1) = chain b xs (4503599627370497 - b).toNat b) :
    stL b xs lim = (cons lim (ys.map (·.1)) []).1 ∧ stE b xs lim = (cons lim (ys.map (·.1)) []).2 := by
  rw [hys, cons_run b xs lim _ b [] (by omega) (by omega) b2 (fun h => (ro_parts h).2.2.2.2.2.2.2.2.1) (by simp)]
  unfold stL stE
  rw [if_neg (by omega), if_neg (by omega), if_neg (by omega), if_neg (by omega)]
  exact ⟨rfl, rfl⟩

/-! ### worlds -/
theorem own_cells {W : World} {base : Nat} {e : TypeId} {sz k : Nat} {v : Value} {xs : List Value} (h : W.ownsRow base e sz v k xs) : ∀ (j : Nat) (o : Obj), v.ownBlock = some j → W.heap[j]? = some o → o.isCells = true := by
  intro j o hj ho
  rcases h.2 with ⟨rfl, _⟩ | ⟨g, cap, cur, rfl, _, hg, _⟩
  · simp [Value.ownBlock] at hj
  · simp only [Value.ownBlock, Option.some.injEq] at hj
    subst hj
    rw [hg] at ho
    cases ho
    rfl
theorem own_book {W W' : World} {base : Nat} {e : TypeId} {sz k : Nat} {v : Value} {xs : List Value} {row : Option Nat} (h : W.ownsRow base e sz v k xs) (hg : W.grownBy W' row) (hr : ∀ r, row = some r → ∃ o : Obj, W.heap[r]? = some o ∧ o.isCells = false) : W'.ownsRow base e sz v k xs := by
  refine h.kept hg ?_
  cases hv : v.ownBlock with
  | none => exact .inl rfl
  | some j =>
    right
    intro e
    obtain ⟨o, ho, hc⟩ := hr j e.symm
    rw [own_cells h j o hv ho] at hc
    cases hc
theorem set_own {W : World} {base b : Nat} {e : TypeId} {sz k : Nat} {v : Value} {xs : List Value} (h : W.ownsRow base e sz v k xs) (hb : b < base) (u : Value) : (W.setCell ⟨b, 0, none⟩ u).ownsRow base e sz v k xs := by
  refine h.kept (grownBy_setCell' W b u) ?_
  cases hv : v.ownBlock with
  | none => exact .inl rfl
  | some j => right; intro e; cases e; have := (h.lt _ hv).1; omega
theorem app_far {W W4 : World} {o : Obj} {base : Nat} {e : TypeId} {k : Nat} {xs : List Value} {v : Value} (hown : W.ownsRow base e 1 v k xs) (hg : (W.alloc o).grownBy W4 v.ownBlock) (hb : base ≤ W.heap.size) (p : Addr) (hp : p.block < base) : W4.cell? p = W.cell? p ∧ W4.frozen? p = W.frozen? p := by
  have hne : some p.block ≠ v.ownBlock := fun h => by have := (hown.lt p.block h.symm).1; omega
  have hg' : W.grownBy W4 v.ownBlock := (World.grownBy_alloc W o _).trans hg
  exact ⟨hg'.cell_far p (by omega) hne, hg'.frozen_far p (by omega) hne⟩
theorem app_step {W W4 : World} {o : Obj} {base N1 B : Nat} {e : TypeId} {k k' : Nat} {xs xs' : List Value} {v v' : Value} (hown : W.ownsRow base e 1 v k xs) (hown4 : W4.ownsRow base e 1 v' k' xs') (hg : (W.alloc o).grownBy W4 v.ownBlock) (hN : N1 < base) (hb : base ≤ W.heap.size) (hB : B ≤ N1) {u0 : Value} (hq : W.cell? ⟨N1, 0, none⟩ = some u0) :
    KeepsOthers W (W4.setCell ⟨N1, 0, none⟩ v') ∧ Below B W (W4.setCell ⟨N1, 0, none⟩ v') ∧ (W4.setCell ⟨N1, 0, none⟩ v').ownsRow base e 1 v' k' xs' ∧ (∀ (p : Addr) u, p.block < base → p ≠ ⟨N1, 0, none⟩ → W.cell? p = some u → (W4.setCell ⟨N1, 0, none⟩ v').cell? p = some u) ∧
      (∀ p : Addr, p.block < base → (W4.setCell ⟨N1, 0, none⟩ v').frozen? p = W.frozen? p) ∧ (W4.setCell ⟨N1, 0, none⟩ v').cell? ⟨N1, 0, none⟩ = some v' ∧ base ≤ (W4.setCell ⟨N1, 0, none⟩ v').heap.size := by
  have hne : ∀ p : Addr, p.block < base → some p.block ≠ v.ownBlock := fun p hp h => by have := (hown.lt p.block h.symm).1; omega
  have hg' : W.grownBy W4 v.ownBlock := (World.grownBy_alloc W o _).trans hg
  have hc4 : ∀ p : Addr, p.block < base → W4.cell? p = W.cell? p := fun p hp => hg'.cell_far p (by omega) (hne p hp)
  have hf4 : ∀ p : Addr, p.block < base → W4.frozen? p = W.frozen? p := fun p hp => hg'.frozen_far p (by omega) (hne p hp)
  refine ⟨(KeepsOthers.of_grownBy hg' (own_cells hown)).trans (KeepsOthers.setCell _ _ _), ?_, ?_, ?_, ?_, ?_, ?_⟩
  · exact (below_grown (Below.refl B W) hg' hown (by omega) (by omega)).setCell (p := ⟨N1, 0, none⟩) hB _
  · refine hown4.kept (grownBy_setCell' W4 N1 v') ?_
    cases hv : v'.ownBlock with
    | none => exact .inl rfl
    | some j => right; intro e; cases e; have := (hown4.lt _ hv).1; omega
  · intro p u hp hpq hu
    rw [World.cell?_setCell_other _ _ _ _ (by first | exact hpq | exact fun h => hpq h.symm), hc4 p hp]
    exact hu
  · intro p hp
    rw [World.frozen?_setCell]
    exact hf4 p hp
  · exact World.cell?_setCell_same' _ _ _ (by rw [hc4 ⟨N1, 0, none⟩ hN, hq]; rfl)
  · have := hg'.size
    simp
    omega

theorem three_box {w w1 : World} {v0 v1 v2 : Value} {t0 t1 t2 : TypeId} (hb : Below (((w.alloc (.cells #[v0] t0)).alloc (.cells #[v1] t1)).alloc (.cells #[v2] t2)).heap.size (((w.alloc (.cells #[v0] t0)).alloc (.cells #[v1] t1)).alloc (.cells #[v2] t2)) w1) :
    w1.cell? ⟨w.heap.size, 0, none⟩ = some v0 ∧ w1.cell? ⟨w.heap.size + 1, 0, none⟩ = some v1 ∧ w1.frozen? ⟨w.heap.size + 1, 0, none⟩ = false ∧ w1.cell? ⟨w.heap.size + 1 + 1, 0, none⟩ = some v2 ∧ w1.frozen? ⟨w.heap.size + 1 + 1, 0, none⟩ = false ∧ w.heap.size + 3 ≤ w1.heap.size ∧ Below w.heap.size w w1 := by
  have h1 : Below ((w.alloc (.cells #[v0] t0)).alloc (.cells #[v1] t1)).heap.size ((w.alloc (.cells #[v0] t0)).alloc (.cells #[v1] t1)) w1 := hb.box (Nat.le_refl _)
  have h0 : Below (w.alloc (.cells #[v0] t0)).heap.size (w.alloc (.cells #[v0] t0)) w1 := h1.box (Nat.le_refl _)
  have c0 := box_cell h0 0 v0 rfl
  have c1 := box_cell h1 0 v1 rfl
  have f1 := box_free h1 0
  have c2 := box_cell hb 0 v2 rfl
  have f2 := box_free hb 0
  have e : (w.alloc (.cells #[v0] t0)).heap.size = w.heap.size + 1 := by simp
  have e2 : ((w.alloc (.cells #[v0] t0)).alloc (.cells #[v1] t1)).heap.size = w.heap.size + 1 + 1 := by simp
  rw [e] at c1 f1
  rw [e2] at c2 f2
  exact ⟨c0, c1, f1, c2, f2, by have := hb.size; simp at this; omega, h0.box (Nat.le_refl _)⟩

set_option maxRecDepth 100000 in
set_option maxHeartbeats 2000000 in
theorem sts_any (b : Int) (A : Option Addr) (xs : List Q4) (cap : Nat) (lim : Int) (w : World) (h : R4 w w.heap.size A xs) (hl : xs.length ≤ 9223372036854775807) :
    Calls Tryd.prog 34 #[.int .i64 b, .slice A xs.length cap, .int .i64 lim] w (IntsRes w (stL b xs lim) (stE b xs lim)) := by
  by_cases hE : ldsE xs = 0
  · by_cases hwd : b < 1 ∨ 4503599627370496 < b ∨ lim < 0 ∨ 4503599627370496 < lim
    · have A1 := Lib.hid (show stL b xs lim = [] by unfold stL; rw [if_neg (by omega), if_pos hwd])
      have A2 := Lib.hid (show stE b xs lim = 1 by unfold stE; rw [if_neg (by omega), if_pos hwd])
      refine (callsIn_wide (n := 4)).1 ?_
      refine callsIn_of_wp_marks Tryd.func34 rfl trivial ?_ rfl
      simp only [Tryd.ntmps34, List.size_toArray, List.length_cons, List.length_nil, Nat.reduceAdd, Nat.reduceSub, Array.replicate_succ, Array.replicate_zero, List.push_toArray, List.append_toArray, List.nil_append, List.cons_append]
      gi_wp2_with fail
      refine ⟨trivial, ?_⟩
      refine (callsIn_wide.2 (dcheck_any A xs _ _ ((h.below ((((Below.refl _ w).alloc (Nat.le_refl _) _).alloc (by simp) _).alloc (by simp; omega) _)).mono (by simp; omega)) hl)).mono ?_
      rintro e w1 ⟨rfl, hb⟩
      obtain ⟨c0, c1, f1, c2, f2, hsz, hbw⟩ := three_box hb
      clear hb
      gi_wp2
      all_goals first | (exfalso; omega) | skip
      all_goals
        refine ⟨.tuple #[.slice none 0 0, .int .i64 1], ?_, ?_⟩
        · have r0 := set2_first (b := w.heap.size + 1) (b' := w.heap.size + 1 + 1) (by omega) c1 (.slice none 0 0) (.int .i64 1)
          have r1 := set2_second (b := w.heap.size + 1) (b' := w.heap.size + 1 + 1) (by omega) c2 (.slice none 0 0) (.int .i64 1)
          simp [results, Tryd.f34, go_sem, r0, r1]
        · rw [A1.out, A2.out]
          exact IntsRes.nil rfl ((hbw.setCell (p := ⟨w.heap.size + 1, 0, none⟩) (by simp) _).setCell (p := ⟨w.heap.size + 1 + 1, 0, none⟩) (by simp; omega) _)
    · have b1 : 1 ≤ b := by omega
      have b2 : b ≤ 4503599627370496 := by omega
      have l1 : 0 ≤ lim := by omega
      have l2 : lim ≤ 4503599627370496 := by omega
      refine (callsIn_wide (n := 4)).1 ?_
      refine callsIn_of_wp_marks Tryd.func34 rfl trivial ?_ rfl
      simp only [Tryd.ntmps34, List.size_toArray, List.length_cons, List.length_nil, Nat.reduceAdd, Nat.reduceSub, Array.replicate_succ, Array.replicate_zero, List.push_toArray, List.append_toArray, List.nil_append, List.cons_append]
      gi_wp2_with fail
      refine ⟨trivial, ?_⟩
      refine (callsIn_wide.2 (dcheck_any A xs _ _ ((h.below ((((Below.refl _ w).alloc (Nat.le_refl _) _).alloc (by simp) _).alloc (by simp; omega) _)).mono (by simp; omega)) hl)).mono ?_
      rintro e w1 ⟨rfl, hb⟩
      obtain ⟨c0, c1, f1, c2, f2, hsz, hbw⟩ := three_box hb
      clear hb
      gi_wp2_with fail
      refine ⟨trivial, ?_⟩
      refine (callsIn_wide.2 (steps_any _ A _ _ _)).mono ?_
      rintro e w2 ⟨rfl, rfl⟩
      gi_wp2_with fail
      obtain ⟨ys, hys⟩ := sts_of (chain b xs (4503599627370497 - b).toNat b) (chain_bd b xs _ b (by omega) b2)
      obtain ⟨W2, hW2⟩ : ∃ W2, ((w1.alloc (.cells #[.slice none 0 0] 32)).alloc (.cells #[.int .i64 b] 2)).alloc (.cells #[.slice A xs.length cap] 51) = W2 := ⟨_, rfl⟩
      obtain ⟨s0, b1c, _, b2c, _, _, hst1⟩ := three_box (w := w1) (w1 := W2) (v0 := .slice none 0 0) (v1 := .int .i64 b) (v2 := .slice A xs.length cap) (t0 := 32) (t1 := 2) (t2 := 51) (by rw [hW2]; exact Below.refl _ _)
      have sf : W2.frozen? ⟨w1.heap.size, 0, none⟩ = false := by
        have hst : Below (w1.alloc (.cells #[.slice none 0 0] 32)).heap.size (w1.alloc (.cells #[.slice none 0 0] 32)) W2 := by rw [← hW2]; exact ((Below.refl _ _).alloc (Nat.le_refl _) _).alloc (by simp) _
        exact box_free hst 0
      have z2 : W2.heap.size = w1.heap.size + 3 := by rw [← hW2]; simp
      replace c0 := (hst1.cell (p := ⟨w.heap.size, 0, none⟩) (by show w.heap.size < _; omega)).trans c0
      replace c1 := (hst1.cell (p := ⟨w.heap.size + 1, 0, none⟩) (by show w.heap.size + 1 < _; omega)).trans c1
      replace f1 := (hst1.frozen (p := ⟨w.heap.size + 1, 0, none⟩) (by show w.heap.size + 1 < _; omega)).trans f1
      replace c2 := (hst1.cell (p := ⟨w.heap.size + 1 + 1, 0, none⟩) (by show w.heap.size + 1 + 1 < _; omega)).trans c2
      replace f2 := (hst1.frozen (p := ⟨w.heap.size + 1 + 1, 0, none⟩) (by show w.heap.size + 1 + 1 < _; omega)).trans f2
      have hb2 := hbw.trans (hst1.mono (by omega))
      rw [hW2]
      clear hst1 hbw hW2
      have HYS := Lib.hid hys
      have HE := Lib.hid hE
      have HST := Lib.hid (st_run hE b1 b2 l1 l2 hys)
      clear hys hE hwd
      obtain ⟨i0, hi, hz0, hz1, hz2⟩ := info_parts info_i64
      refine wpIn_rangeFunc_ownF rfl (by omega) (gf := 56) (lb := #[.pointer (some ⟨w1.heap.size + 1, 0, none⟩), .pointer (some ⟨w1.heap.size + 1 + 1, 0, none⟩)]) rfl trivial (enters_of Tryd.func56 (by kernel_rfl) rfl)
        (stp_stops (4 - 1) (by omega) (w1.heap.size + 1) (w1.heap.size + 1 + 1) w.heap.size A xs cap b ys _ HYS.out (by omega) b1 b2 hl W2 b1c b2c (by omega) (by omega) (h.below hb2) (by omega))
        KpD.trans (KpD.book (by omega)) (Below.refl _ _) (fun _ => rfl)
        (fun pre W => (∃ (out : List Int) (v : Value), Hid (∀ r, cons lim (pre.map (·.1) ++ r) [] = cons lim r out) ∧ out.length ≤ 4096 ∧ W.ownsRow (w1.heap.size + 3) 2 1 v out.length (out.map (Value.int .i64)) ∧ w1.heap.size + 3 ≤ W.heap.size ∧ W.cell? ⟨w1.heap.size, 0, none⟩ = some v ∧ W.frozen? ⟨w1.heap.size, 0, none⟩ = false ∧
          W.cell? ⟨w.heap.size, 0, none⟩ = some (.int .i64 lim) ∧ W.cell? ⟨w.heap.size + 1, 0, none⟩ = some (.slice none 0 0) ∧ W.frozen? ⟨w.heap.size + 1, 0, none⟩ = false ∧ W.cell? ⟨w.heap.size + 1 + 1, 0, none⟩ = some (.int .i64 0) ∧ W.frozen? ⟨w.heap.size + 1 + 1, 0, none⟩ = false) ∧ Below w.heap.size w W)
        (fun c pre W => (c = .ret ∧ ∃ E, Hid (∀ r, cons lim (pre.map (·.1) ++ r) [] = ([], E)) ∧ W.cell? ⟨w.heap.size + 1, 0, none⟩ = some (.slice none 0 0) ∧ W.cell? ⟨w.heap.size + 1 + 1, 0, none⟩ = some (.int .i64 E)) ∧ Below w.heap.size w W)
        (OwnFrom.and (Own.from (fun s A B row hs hg hr => by
          obtain ⟨out, v, g1, g2, g3, g4, g5, g6, g7, g8, g9, g10, g11⟩ := hs
          exact ⟨out, v, g1, g2, own_book g3 hg hr, Nat.le_trans g4 hg.size, cell_kept g5 hg hr, (frozen_kept g5 hg hr).trans g6, cell_kept g7 hg hr, cell_kept g8 hg hr, (frozen_kept g8 hg hr).trans g9, cell_kept g10 hg hr, (frozen_kept g10 hg hr).trans g11⟩) _) (ownFrom_below (Nat.le_refl _) (by omega)))
        (fun c => OwnFrom.and (Own.from (fun s A B row hs hg hr => by
          obtain ⟨g0, E, g1, g2, g3⟩ := hs
          exact ⟨g0, E, g1, cell_kept g2 hg hr, cell_kept g3 hg hr⟩) _) (ownFrom_below (Nat.le_refl _) (by omega)))
        ⟨⟨[], _, fun _ => rfl, by simp, World.ownsRow_nil _ _ _ _, by omega, s0, sf, c0, c1, f1, c2, f2⟩, hb2⟩
        (fun x => { tmps := #[.int .i64 b, .slice A xs.length cap, .int .i64 lim, undef, undef, .pointer (some ⟨w.heap.size, 0, none⟩), .pointer (some ⟨w.heap.size + 1, 0, none⟩), .pointer (some ⟨w.heap.size + 1 + 1, 0, none⟩), .int .i64 0, .pointer (some ⟨w1.heap.size, 0, none⟩), .int .i64 x.1.1, .int .i64 x.1.2,
          .slice A xs.length cap, .int .i64 0, .int .i64 0, .bool false, undef, .int .i64 b, .bool (decide (b < 1)), .bool (decide (b < 1)), .int .i64 b, .bool (decide (4503599627370496 < b)), .bool (decide (b < 1) || decide (4503599627370496 < b)), .bool (decide (b < 1) || decide (4503599627370496 < b)), .int .i64 lim,
          .bool (decide (lim < 0)), .bool (decide (b < 1) || decide (4503599627370496 < b) || decide (lim < 0)), .bool (decide (b < 1) || decide (4503599627370496 < b) || decide (lim < 0)), .int .i64 lim, .bool (decide (4503599627370496 < lim)),
          .bool (decide (b < 1) || decide (4503599627370496 < b) || decide (lim < 0) || decide (4503599627370496 < lim)), .int .i64 b, .slice A xs.length cap, .func (.func 56) #[] #[.pointer (some ⟨w1.heap.size + 1, 0, none⟩), .pointer (some ⟨w1.heap.size + 1 + 1, 0, none⟩)],
          .int .i64 x.1.1, .int .i64 x.1.2, undef, undef, undef, undef, undef, undef, undef, undef, undef, undef, undef, undef, undef, undef, undef, undef, undef, undef], defers := [] }) ?assign ?body ?done ?stop
      case assign =>
        intro l x W K hK
        gi_wp2
        exact hK
      case body =>
        rintro l pre ⟨⟨n, e⟩, hx⟩ W ⟨⟨out, v, hs, ho, hown, hsW, d0, d1, d2, d3, d4, d5, d6⟩, hbW⟩ _
        obtain ⟨x1, x2, x3, x4⟩ := hx
        simp only at x1 x2 x3 x4
        have hmap : (pre ++ [(⟨(n, e), ⟨x1, x2, x3, x4⟩⟩ : St)]).map (·.1) = pre.map (·.1) ++ [(n, e)] := by simp
        obtain ⟨A0, cp, rfl⟩ := own_slice hown
        have hset : Below w.heap.size w ((W.setCell ⟨w.heap.size + 1, 0, none⟩ (.slice none 0 0)).setCell ⟨w.heap.size + 1 + 1, 0, none⟩ (.int .i64 e)) := (hbW.setCell (p := ⟨w.heap.size + 1, 0, none⟩) (by simp) _).setCell (p := ⟨w.heap.size + 1 + 1, 0, none⟩) (by simp; omega) _
        by_cases he : e = 0
        · subst he
          by_cases hw : lim < n
          · have HS := Lib.hid (cons_late hs.out (w := n) (.inl hw))
            rw [← hmap] at HS
            clear hs hmap hset
            gi_wp2
            exact ⟨(KeepsOthers.setCell _ _ _).trans (KeepsOthers.setCell _ _ _), ⟨rfl, 11, HS, set2_first (by omega) d3 _ _, set2_second (by omega) d5 _ _⟩, (hbW.setCell (p := ⟨w.heap.size + 1, 0, none⟩) (by simp) _).setCell (p := ⟨w.heap.size + 1 + 1, 0, none⟩) (by simp; omega) _⟩
          · by_cases hk : out.length = 4096
            · have HS := Lib.hid (cons_late hs.out (w := n) (.inr hk))
              rw [← hmap] at HS
              have hk' : (out.length : Int) = 4096 := by omega
              clear hs hmap hset
              gi_wp2
              exact ⟨(KeepsOthers.setCell _ _ _).trans (KeepsOthers.setCell _ _ _), ⟨rfl, 11, HS, set2_first (by omega) d3 _ _, set2_second (by omega) d5 _ _⟩, (hbW.setCell (p := ⟨w.heap.size + 1, 0, none⟩) (by simp) _).setCell (p := ⟨w.heap.size + 1 + 1, 0, none⟩) (by simp; omega) _⟩
            · have HS := Lib.hid (cons_ok hs.out (w := n) hw hk)
              rw [← hmap] at HS
              have hk' : ¬ (out.length : Int) = 4096 := by omega
              clear hs hmap hset
              gi_wp2_with ((gi_at_builtin; refine wpListIn_append_own _ rfl _ _ 32 rfl (w1.heap.size + 3) 2 i0 (.int .i64 0) 1 8 Tryd.underlying32 hi hz0 hz1 hz2 rfl (by decide) _ _ _ rfl (hown.alloc _) ⟨W.heap.size, 0, none⟩ 1 1 [.int .i64 n] rfl rfl (cell_one_new _ _ _) (by simp [Value.oneCell']) (by simp only [maxLen]; omega) (by omega) (by simp; omega) ?_; intro v' w4 hown' hgrow _; obtain ⟨A4, cp4, rfl⟩ := own_slice hown'; have q4 := (app_far hown hgrow hsW ⟨w1.heap.size, 0, none⟩ (by show w1.heap.size < _; omega)).1.trans d0; have f4 := (app_far hown hgrow hsW ⟨w1.heap.size, 0, none⟩ (by show w1.heap.size < _; omega)).2.trans d1))
              obtain ⟨k1, k2, k3, k4, k5, k6, k7⟩ := app_step (B := w.heap.size) hown hown' hgrow (by omega) hsW (by omega) d0
              exact ⟨k1, ⟨k2, fun u hu => k4 _ u (by show w1.heap.size + 1 < _; omega) (by simp) hu, fun u hu => k4 _ u (by show w1.heap.size + 1 + 1 < _; omega) (by simp) hu⟩,
                ⟨out ++ [n], HS, by simp; omega, _, by rw [List.length_append, List.map_append]; exact k3, k7, k6, (k5 _ (by show w1.heap.size < _; omega)).trans d1,
                  k4 _ _ (by show w.heap.size < _; omega) (by simp <;> omega) d2, k4 _ _ (by show w.heap.size + 1 < _; omega) (by simp <;> omega) d3, (k5 _ (by show w.heap.size + 1 < _; omega)).trans d4,
                  k4 _ _ (by show w.heap.size + 1 + 1 < _; omega) (by simp <;> omega) d5, (k5 _ (by show w.heap.size + 1 + 1 < _; omega)).trans d6⟩, hbW.trans k2⟩
        · have HS := Lib.hid (cons_err hs.out (w := n) he)
          rw [← hmap] at HS
          clear hs hmap
          gi_wp2
          exact ⟨(KeepsOthers.setCell _ _ _).trans (KeepsOthers.setCell _ _ _), ⟨rfl, e, HS, set2_first (by omega) d3 _ _, set2_second (by omega) d5 _ _⟩, hset⟩
      case done =>
        rintro D l W hD rfl ⟨⟨out, v, hs, ho, hown, hsW, d0, d1, d2, d3, d4, d5, d6⟩, hbW⟩ hK
        obtain ⟨A0, cp, rfl⟩ := own_slice hown
        have hr := hs.out []
        rw [List.append_nil] at hr
        obtain ⟨e1, e2⟩ := HST.out
        rw [hr] at e1 e2
        have A1 := Lib.hid (show stL b xs lim = out from e1)
        have A2 := Lib.hid (show stE b xs lim = 0 from e2)
        clear e1 e2 hr hs HST HYS
        gi_wp2
        have hK2 := ((KeepsOthers.setCell W ⟨w.heap.size + 1, 0, none⟩ (.slice A0 out.length cp)).trans (KeepsOthers.setCell _ ⟨w.heap.size + 1 + 1, 0, none⟩ (.int .i64 0))).same D _ hK rfl
        refine ⟨by simp, .inl ⟨_, _, rfl, run_takeDeferred hK2, ?_⟩⟩
        have r0 := cell_kept (set2_first (b := w.heap.size + 1) (b' := w.heap.size + 1 + 1) (by omega) d3 (.slice A0 out.length cp) (.int .i64 0)) (grownBy_putObj' _ D (.deferred none)) (fun r e => by cases e; exact ⟨_, hK2, rfl⟩)
        have r1 := cell_kept (set2_second (b := w.heap.size + 1) (b' := w.heap.size + 1 + 1) (by omega) d5 (.slice A0 out.length cp) (.int .i64 0)) (grownBy_putObj' _ D (.deferred none)) (fun r e => by cases e; exact ⟨_, hK2, rfl⟩)
        have own1 := set_own hown (b := w.heap.size + 1) (by omega) (.slice A0 out.length cp)
        have own2 := set_own own1 (b := w.heap.size + 1 + 1) (by omega) (.int .i64 0)
        have own3 := own_book own2 (grownBy_putObj' _ D (.deferred none)) (fun r e => by cases e; exact ⟨_, hK2, rfl⟩)
        refine ⟨.tuple #[.slice A0 out.length cp, .int .i64 0], ?_, ?_⟩
        · simp [results, Tryd.f34, go_sem, r0, r1]
        · rw [A1.out, A2.out]
          exact IntsRes.own rfl own3 (((hbW.setCell (p := ⟨w.heap.size + 1, 0, none⟩) (by simp) _).setCell (p := ⟨w.heap.size + 1 + 1, 0, none⟩) (by simp; omega) _).trans (belowK_b (w := W2) (by omega) _ D _ _ hD hK2 rfl rfl))
      case stop =>
        rintro D c pre W hD hpre ⟨⟨rfl, E, hs, d0, d1⟩, hbW⟩ hK
        obtain ⟨rest, hrest⟩ := hpre
        have hr := hs.out (rest.map (·.1))
        rw [← List.map_append, hrest] at hr
        obtain ⟨e1, e2⟩ := HST.out
        rw [hr] at e1 e2
        have A1 := Lib.hid (show stL b xs lim = [] from e1)
        have A2 := Lib.hid (show stE b xs lim = E from e2)
        clear e1 e2 hr hs HST HYS hrest
        gi_wp2
        refine ⟨by simp, .inl ⟨_, _, rfl, run_takeDeferred hK, ?_⟩⟩
        have r0 := cell_kept d0 (grownBy_putObj' _ D (.deferred none)) (fun r e => by cases e; exact ⟨_, hK, rfl⟩)
        have r1 := cell_kept d1 (grownBy_putObj' _ D (.deferred none)) (fun r e => by cases e; exact ⟨_, hK, rfl⟩)
        refine ⟨.tuple #[.slice none 0 0, .int .i64 E], ?_, ?_⟩
        · simp [results, Tryd.f34, go_sem, r0, r1]
        · rw [A1.out, A2.out]
          exact IntsRes.nil rfl (hbW.trans (belowK_b (w := W2) (by omega) _ D _ _ hD hK rfl rfl))
  · have hE2 : ldsE xs = 2 := lds_two hE
    have A1 := Lib.hid (show stL b xs lim = [] by unfold stL; rw [if_pos hE])
    have A2 := Lib.hid (show stE b xs lim = 2 by unfold stE; rw [if_pos hE])
    clear hE
    refine (callsIn_wide (n := 4)).1 ?_
    refine callsIn_of_wp_marks Tryd.func34 rfl trivial ?_ rfl
    simp only [Tryd.ntmps34, List.size_toArray, List.length_cons, List.length_nil, Nat.reduceAdd, Nat.reduceSub, Array.replicate_succ, Array.replicate_zero, List.push_toArray, List.append_toArray, List.nil_append, List.cons_append]
    gi_wp2_with fail
    refine ⟨trivial, ?_⟩
    refine (callsIn_wide.2 (dcheck_any A xs _ _ ((h.below ((((Below.refl _ w).alloc (Nat.le_refl _) _).alloc (by simp) _).alloc (by simp; omega) _)).mono (by simp; omega)) hl)).mono ?_
    rintro e w1 ⟨rfl, hb⟩
    obtain ⟨c0, c1, f1, c2, f2, hsz, hbw⟩ := three_box hb
    clear hb
    gi_wp2
    all_goals
      refine ⟨.tuple #[.slice none 0 0, .int .i64 2], ?_, ?_⟩
      · have r0 := set2_first (b := w.heap.size + 1) (b' := w.heap.size + 1 + 1) (by omega) c1 (.slice none 0 0) (.int .i64 2)
        have r1 := set2_second (b := w.heap.size + 1) (b' := w.heap.size + 1 + 1) (by omega) c2 (.slice none 0 0) (.int .i64 2)
        simp [results, Tryd.f34, go_sem, r0, r1]
      · rw [A1.out, A2.out]
        exact IntsRes.nil rfl ((hbw.setCell (p := ⟨w.heap.size + 1, 0, none⟩) (by simp) _).setCell (p := ⟨w.heap.size + 1 + 1, 0, none⟩) (by simp; omega) _)
end Go.Proofs.YtfneloplbkjbhaaDoor
namespace Go.Proofs.YtfneloplbkjbhaaDoor
open Go.RowKit
set_option linter.unusedVariables false

def slLen : Value → Nat
  | .slice _ n _ => n
  | _ => 0
/-! ### Solve -/
def soV (b : Int) (xs : List Q4) (lim : Int) : Int := if stE b xs lim ≠ 0 then 0 else (stL b xs lim)[(stL b xs lim).length - 1]?.getD 0
theorem run_ne {b : Int} {xs : List Q4} {lim : Int} : ∀ (k : Nat) (w : Int) (out : List Int), (run b xs lim k w out).2 = 0 → (run b xs lim k w out).1 ≠ []
  | 0, w, out, h => by simp [run] at h
  | k + 1, w, out, h => by
    unfold run at h ⊢
    by_cases hx : lim < w
    · rw [if_pos hx] at h; simp at h
    · rw [if_neg hx] at h ⊢
      by_cases he : roE b xs w ≠ 0
      · rw [if_pos he] at h; exact absurd h he
      · rw [if_neg he] at h ⊢
        by_cases hv : roV b xs w = w
        · rw [if_pos hv]; simp
        · rw [if_neg hv] at h ⊢; exact run_ne k _ _ h
theorem run_len {b : Int} {xs : List Q4} {lim : Int} : ∀ (k : Nat) (w : Int) (out : List Int), (run b xs lim k w out).1.length ≤ out.length + k
  | 0, w, out => by simp [run]
  | k + 1, w, out => by
    unfold run
    have ih := run_len (b := b) (xs := xs) (lim := lim) k (roV b xs w) (out ++ [w])
    simp only [List.length_append, List.length_cons, List.length_nil] at ih
    repeat' split
    all_goals first | (simp; omega) | (simp; done) | omega
theorem st_ne {b : Int} {xs : List Q4} {lim : Int} (h : stE b xs lim = 0) : ∃ m, (stL b xs lim).length = m + 1 ∧ m < 4096 := by
  unfold stE at h
  unfold stL
  split at h
  · omega
  · split at h
    · omega
    · rename_i h1 h2
      rw [if_neg h1, if_neg h2]
      have := run_ne 4096 b [] h
      have hl := run_len (b := b) (xs := xs) (lim := lim) 4096 b []
      cases e : (run b xs lim 4096 b []).1 with
      | nil => exact absurd e this
      | cons a r => rw [e] at hl; exact ⟨r.length, by simp, by simp at hl; omega⟩
theorem stL_len (b : Int) (xs : List Q4) (lim : Int) : (stL b xs lim).length ≤ 4096 := by
  unfold stL
  have hl := run_len (b := b) (xs := xs) (lim := lim) 4096 b []
  simp only [List.length_nil, Nat.zero_add] at hl
  repeat' split
  all_goals first | (simp; done) | exact hl

set_option maxHeartbeats 1000000 in
theorem solve_any (b : Int) (A : Option Addr) (xs : List Q4) (cap : Nat) (lim : Int) (w : World) (h : R4 w w.heap.size A xs) (hl : xs.length ≤ 9223372036854775807) :
    Calls Tryd.prog 13 #[.int .i64 b, .slice A xs.length cap, .int .i64 lim] w fun e w' => e = .returned (.tuple #[.int .i64 (soV b xs lim), .int .i64 (stE b xs lim)]) ∧ Below w.heap.size w w' := by
  by_cases he : stE b xs lim = 0
  · obtain ⟨m, hm, hm1⟩ := st_ne he
    have hv : soV b xs lim = (stL b xs lim)[m]?.getD 0 := by unfold soV; rw [if_neg (by omega), hm]; rfl
    have HV := Lib.hid hv
    have HM := Lib.hid hm
    clear hv hm
    go_enter Tryd.func13, Tryd.ntmps13
    go_wp2_with fail
    refine (sts_any _ A xs _ _ _ h hl).mono ?_
    rintro e w1 ⟨A2, c2, rfl, hI, hb⟩
    obtain ⟨b2, off, rfl, hlt, hc⟩ := hI (by rw [HM.out]; omega)
    replace hc := hc m (by rw [HM.out]; omega)
    rw [HM.out]
    have hm2 : IntKind.i64.wrap (((m + 1 : Nat) : Int) - 1) = (m : Int) := by rw [IntWalk.i64_in _ (by omega)]; omega
    go_wp2
    go_ret2
    exact ⟨ret_ii HV.out.symm he.symm, hb⟩
  · have hv : soV b xs lim = 0 := by unfold soV; rw [if_pos he]
    have HV := Lib.hid hv
    clear hv
    go_enter Tryd.func13, Tryd.ntmps13
    go_wp2_with fail
    refine (sts_any _ A xs _ _ _ h hl).mono ?_
    rintro e w1 ⟨A2, c2, rfl, hI, hb⟩
    go_wp2
    go_ret2
    exact ⟨ret_ii HV.out.symm rfl, hb⟩
end Go.Proofs.YtfneloplbkjbhaaDoor
namespace Go.Proofs.YtfneloplbkjbhaaDoor
open Go.RowKit
set_option linter.unusedVariables false

end Go.Proofs.YtfneloplbkjbhaaDoor
namespace Go.Proofs.YtfneloplbkjbhaaDoor
open Go.RowKit
set_option linter.unusedVariables false

theorem run_last {b : Int} {xs : List Q4} {lim : Int} : ∀ (k : Nat) (x : Int) (out : List Int), 0 ≤ x → (roE b xs x = 0 → x ≤ roV b xs x) → (run b xs lim k x out).2 = 0 →
    ∃ (r : List Int) (z : Int), (run b xs lim k x out).1 = out ++ r ++ [z] ∧ roE b xs z = 0 ∧ roV b xs z = z ∧ z ≤ lim ∧ x ≤ z ∧ ∀ t, x ≤ t → t < z → roE b xs t = 0 ∧ t < roV b xs t
  | 0, x, out, _, _, h => by simp [run] at h
  | k + 1, x, out, h0, hm, h => by
    unfold run at h ⊢
    by_cases hx : lim < x
    · rw [if_pos hx] at h; simp at h
    · rw [if_neg hx] at h ⊢
      by_cases he : roE b xs x = 0
      · have he' : ¬ roE b xs x ≠ 0 := fun h => h he
        rw [if_neg he'] at h ⊢
        have hle := hm he
        by_cases hv : roV b xs x = x
        · rw [if_pos hv]
          exact ⟨[], x, by simp, he, hv, by omega, by omega, fun t h1 h2 => by omega⟩
        · rw [if_neg hv] at h ⊢
          obtain ⟨r, z, e, a1, a2, a3, a4, a5⟩ := run_last k (roV b xs x) (out ++ [x]) (roV_bd b xs x).1 (fun h => (ro_mono h0 hle h).2) h
          refine ⟨x :: r, z, by rw [e]; simp, a1, a2, a3, by omega, fun t h1 h2 => ?_⟩
          by_cases ht : t < roV b xs x
          · obtain ⟨m1, m2⟩ := ro_mono (b := b) (xs := xs) (w := t) (v := z) (by omega) (by omega) a1
            have := (ro_mono (b := b) (xs := xs) (w := x) (v := t) h0 h1 m1).2
            exact ⟨m1, by omega⟩
          · exact a5 t (by omega) h2
      · have he' : roE b xs x ≠ 0 := he
        rw [if_pos he'] at h; exact absurd h he
theorem st_parts {b : Int} {xs : List Q4} {lim : Int} (h : stE b xs lim = 0) : ldsE xs = 0 ∧ 1 ≤ b ∧ b ≤ 4503599627370496 ∧ 0 ≤ lim ∧ lim ≤ 4503599627370496 ∧ (run b xs lim 4096 b []).2 = 0 ∧ stL b xs lim = (run b xs lim 4096 b []).1 := by
  unfold stE at h
  split at h
  · omega
  · split at h
    · omega
    · rename_i h1 h2
      exact ⟨by omega, by omega, by omega, by omega, by omega, h, by unfold stL; rw [if_neg h1, if_neg h2]⟩
/-- What is found. -/
theorem so_least {b : Int} {xs : List Q4} {lim : Int} (h : stE b xs lim = 0) : ∃ z, soV b xs lim = z ∧ roE b xs z = 0 ∧ roV b xs z = z ∧ z ≤ lim ∧ b ≤ z ∧ 0 ≤ z ∧ z ≤ 4503599627370496 ∧ ∀ t, b ≤ t → t < z → roE b xs t = 0 ∧ t < roV b xs t := by
  obtain ⟨h1, h2, h3, h4, h5, h6, h7⟩ := st_parts h
  obtain ⟨r, z, e, a1, a2, a3, a4, a5⟩ := run_last 4096 b [] (by omega) (fun h => (ro_parts h).2.2.2.2.2.2.2.2.1) h6
  refine ⟨z, ?_, a1, a2, a3, a4, by omega, by omega, a5⟩
  unfold soV
  rw [if_neg (by omega), h7, e]
  simp
theorem run_rises {b : Int} {xs : List Q4} {lim : Int} : ∀ (k : Nat) (x : Int) (out : List Int), 0 ≤ x → (roE b xs x = 0 → x ≤ roV b xs x) → (run b xs lim k x out).2 = 0 →
    ∃ r : List Int, (run b xs lim k x out).1 = out ++ x :: r ∧ (∀ (i : Nat) a, (x :: r)[i]? = some a → 0 ≤ a ∧ a ≤ lim) ∧ ∀ (i : Nat) a c, (x :: r)[i]? = some a → (x :: r)[i + 1]? = some c → a < c
  | 0, x, out, _, _, h => by simp [run] at h
  | k + 1, x, out, h0, hm, h => by
    unfold run at h ⊢
    by_cases hx : lim < x
    · rw [if_pos hx] at h; simp at h
    · rw [if_neg hx] at h ⊢
      by_cases he : roE b xs x = 0
      · have he' : ¬ roE b xs x ≠ 0 := fun h => h he
        rw [if_neg he'] at h ⊢
        have hle := hm he
        by_cases hv : roV b xs x = x
        · rw [if_pos hv]
          refine ⟨[], by simp, fun i a hi => ?_, fun i a c h1 h2 => ?_⟩
          · cases i with
            | zero => simp at hi; omega
            | succ i => simp at hi
          · simp at h2
        · rw [if_neg hv] at h ⊢
          obtain ⟨r, e, a1, a2⟩ := run_rises k (roV b xs x) (out ++ [x]) (roV_bd b xs x).1 (fun h => (ro_mono h0 hle h).2) h
          refine ⟨roV b xs x :: r, by rw [e]; simp, fun i a hi => ?_, fun i a c h1 h2 => ?_⟩
          · cases i with
            | zero => simp at hi; omega
            | succ i => exact a1 i a (by simpa using hi)
          · cases i with
            | zero => simp at h1 h2; omega
            | succ i => exact a2 i a c (by simpa using h1) (by simpa using h2)
      · have he' : roE b xs x ≠ 0 := he
        rw [if_pos he'] at h; exact absurd h he
theorem st_rises {b : Int} {xs : List Q4} {lim : Int} (h : stE b xs lim = 0) : ∃ r, stL b xs lim = b :: r ∧ (∀ (i : Nat) a, (b :: r)[i]? = some a → 0 ≤ a ∧ a ≤ lim) ∧ ∀ (i : Nat) a c, (b :: r)[i]? = some a → (b :: r)[i + 1]? = some c → a < c := by
  obtain ⟨h1, h2, h3, h4, h5, h6, h7⟩ := st_parts h
  obtain ⟨r, e, a1, a2⟩ := run_rises 4096 b [] (by omega) (fun h => (ro_parts h).2.2.2.2.2.2.2.2.1) h6
  exact ⟨r, by rw [h7, e]; simp, a1, a2⟩
theorem st_bad {b : Int} {xs : List Q4} {lim : Int} (h : stE b xs lim ≠ 0) : soV b xs lim = 0 ∧ stL b xs lim = [] := by
  refine ⟨by unfold soV; rw [if_pos h], ?_⟩
  have key : ∀ (k : Nat) (x : Int) (out : List Int), (run b xs lim k x out).2 ≠ 0 → (run b xs lim k x out).1 = [] := by
    intro k
    induction k with
    | zero => intro x out _; rfl
    | succ k ih =>
      intro x out hx
      unfold run at hx ⊢
      by_cases h1 : lim < x
      · rw [if_pos h1]
      · rw [if_neg h1] at hx ⊢
        by_cases h2 : roE b xs x ≠ 0
        · rw [if_pos h2]
        · rw [if_neg h2] at hx ⊢
          by_cases h3 : roV b xs x = x
          · rw [if_pos h3] at hx; exact absurd rfl hx
          · rw [if_neg h3] at hx ⊢; exact ih _ _ hx
  unfold stE at h
  unfold stL
  by_cases h1 : ldsE xs ≠ 0
  · rw [if_pos h1]
  · rw [if_neg h1] at h ⊢
    by_cases h2 : b < 1 ∨ 4503599627370496 < b ∨ lim < 0 ∨ 4503599627370496 < lim
    · rw [if_pos h2]
    · rw [if_neg h2] at h ⊢; exact key _ _ _ h

/-! ### more -/
theorem al_app {l m : List Q4} {w : Int} (hl : ldsE l = 0) (hb : ldsE (l ++ m) = 0) (w0 : 0 ≤ w) (w1 : w ≤ 4503599627370496) (h : alE (l ++ m) w = 0) : alV l w ≤ alV (l ++ m) w := by
  cases ht : sumP ((l ++ m).map (arrOf w)) with
  | none => have := (al_over hb w0 w1 ht).1; omega
  | some t =>
    have happ : sumP ((l ++ m).map (arrOf w)) = (m.map (arrOf w)).foldl addP (sumP (l.map (arrOf w))) := by unfold sumP; rw [List.map_append, List.foldl_append]
    have nn := arr_nonneg hb w
    have nm : ∀ y ∈ m.map (arrOf w), 0 ≤ y.1 ∧ 0 ≤ y.2 := fun y hy => nn y (by rw [List.map_append]; exact List.mem_append_right _ hy)
    cases hs : sumP (l.map (arrOf w)) with
    | none => rw [happ, hs, foldP_none] at ht; cases ht
    | some s =>
      have sb := sumP_bd (arr_nonneg hl w) hs
      rw [happ, hs] at ht
      obtain ⟨t0, e0, e1⟩ := (fold_shift (m.map (arrOf w)) s nm sb.1 sb.2).1 t ht
      have tb := foldP_bd _ 0 t0 nm (by omega) (by omega) e0
      have ht2 : sumP ((l ++ m).map (arrOf w)) = some t := by rw [happ, hs]; exact ht
      rw [(al_sum hl w0 w1 hs).2, (al_sum hb w0 w1 ht2).2]
      omega
theorem so_app {b : Int} {l m : List Q4} {lim : Int} (h1 : stE b l lim = 0) (h2 : stE b (l ++ m) lim = 0) : soV b l lim ≤ soV b (l ++ m) lim := by
  obtain ⟨z, e, a1, a2, a3, a4, a5, a6, a7⟩ := so_least h1
  obtain ⟨y, e', c1, c2, c3, c4, c5, c6, c7⟩ := so_least h2
  rw [e, e']
  by_cases hlt : y < z
  · have h3 := (a7 y c4 hlt)
    have p1 := ro_parts c1
    have p2 := ro_parts h3.1
    have := al_app p2.1 p1.1 c5 c6 p1.2.2.2.2.2.1
    omega
  · omega
theorem so_base {b more : Int} {l : List Q4} {lim : Int} (hm : 0 ≤ more) (h1 : stE b l lim = 0) (h2 : stE (b + more) l lim = 0) : soV b l lim ≤ soV (b + more) l lim := by
  obtain ⟨z, e, a1, a2, a3, a4, a5, a6, a7⟩ := so_least h1
  obtain ⟨y, e', c1, c2, c3, c4, c5, c6, c7⟩ := so_least h2
  rw [e, e']
  by_cases hlt : y < z
  · have h3 := (a7 y (by omega) hlt)
    have p1 := ro_parts c1
    have p2 := ro_parts h3.1
    omega
  · omega
theorem so_nil {b lim : Int} (h : stE b [] lim = 0) : soV b [] lim = b := by
  obtain ⟨z, e, a1, a2, a3, a4, a5, a6, a7⟩ := so_least h
  have p := ro_parts a1
  have hv : alV [] z = 0 := by
    unfold alV
    split
    · rfl
    · rfl
  omega
theorem st_nil {b lim : Int} {l : List Q4} (h : stE b l lim = 0) : stE b [] lim = 0 := by
  obtain ⟨h1, h2, h3, h4, h5, h6, h7⟩ := st_parts h
  obtain ⟨z, e, a1, a2, a3, a4, a5, a6, a7⟩ := so_least h
  have hE : roE b [] b = 0 := by
    unfold roE
    have e1 : ldsE [] = 0 := rfl
    have e2 : alE [] b = 0 := (al_sum (xs := []) rfl (by omega) h3 (s := 0) rfl).1
    have e3 : alV [] b = 0 := (al_sum (xs := []) rfl (by omega) h3 (s := 0) rfl).2
    rw [if_neg (by omega), if_neg (by omega), if_neg (by omega), if_neg (by omega)]
  have hV : roV b [] b = b := by
    have e3 : alV [] b = 0 := (al_sum (xs := []) rfl (by omega) h3 (s := 0) rfl).2
    rw [(ro_parts hE).2.2.2.2.2.2.2.1]; omega
  unfold stE
  rw [if_neg (by decide), if_neg (by omega)]
  show (run b [] lim (4095 + 1) b []).2 = 0
  unfold run
  rw [if_neg (by omega), if_neg (fun h => h hE), if_pos hV]
end Go.Proofs.YtfneloplbkjbhaaDoor
