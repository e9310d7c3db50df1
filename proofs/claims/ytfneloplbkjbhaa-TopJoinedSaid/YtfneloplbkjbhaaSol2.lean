/-
  The steps of a search as a list, and the walk of solve.steps' function: an iterator over them.
-/
import Derived.Test.YtfneloplbkjbhaaSol
import Derived.Test.YtfneloplbkjbhaaDem4
namespace Go.Proofs.Ytfneloplbkjbhaa
open Go.RowKit Go.Shelf
set_option linter.unusedVariables false
attribute [local go_sem] Oper.semAt_some

/-! ### plain -/
theorem al_mono {xs : List Q4} {w v : Int} (h : ldsE xs = 0) (h0 : 0 ≤ w) (hv : w ≤ v) (h1 : v ≤ 4503599627370496) (ha : alE xs v = 0) : alE xs w = 0 ∧ alV xs w ≤ alV xs v := by
  cases hs : sumP (xs.map (arrOf v)) with
  | none => have := (al_over h (by omega) h1 hs).1; omega
  | some t =>
    obtain ⟨t0, e0, hle⟩ := sum_mono (xs := xs) (w := w) (v := v - w) h h0 (by omega) (by omega) (by rw [show w + (v - w) = v from by omega]; exact hs)
    obtain ⟨a1, a2⟩ := al_sum h h0 (by omega) e0
    obtain ⟨b1, b2⟩ := al_sum h (by omega) h1 hs
    exact ⟨a1, by rw [a2, b2]; exact hle⟩
theorem ro_parts {b : Int} {xs : List Q4} {w : Int} (h : roE b xs w = 0) : ldsE xs = 0 ∧ 1 ≤ b ∧ b ≤ 4503599627370496 ∧ 0 ≤ w ∧ w ≤ 4503599627370496 ∧ alE xs w = 0 ∧ b + alV xs w ≤ 4503599627370496 ∧ roV b xs w = b + alV xs w ∧ b ≤ roV b xs w ∧ roV b xs w ≤ 4503599627370496 := by
  have hb := alV_bd xs w
  have hv : roV b xs w = b + alV xs w := by unfold roV; rw [if_neg (by omega)]
  unfold roE at h
  split at h
  · omega
  · split at h
    · omega
    · split at h
      · omega
      · split at h <;> omega
theorem ro_mono {b : Int} {xs : List Q4} {w v : Int} (h0 : 0 ≤ w) (hv : w ≤ v) (h : roE b xs v = 0) : roE b xs w = 0 ∧ roV b xs w ≤ roV b xs v := by
  obtain ⟨a1, a2, a3, a4, a5, a6, a7, a8, a9, a10⟩ := ro_parts h
  obtain ⟨m1, m2⟩ := al_mono a1 h0 hv a5 a6
  have e : roE b xs w = 0 := by unfold roE; rw [if_neg (by omega), if_neg (by omega), if_neg (by omega), if_neg (by omega)]
  exact ⟨e, by rw [a8, (ro_parts e).2.2.2.2.2.2.2.1]; omega⟩
theorem roE_bd (b : Int) (xs : List Q4) (w : Int) : 0 ≤ roE b xs w ∧ roE b xs w ≤ 10 := by
  unfold roE alE
  repeat' split
  all_goals omega
theorem roV_bd (b : Int) (xs : List Q4) (w : Int) : 0 ≤ roV b xs w ∧ roV b xs w ≤ 4503599627370496 := by
  by_cases h : roE b xs w = 0
  · obtain ⟨a1, a2, a3, a4, a5, a6, a7, a8, a9, a10⟩ := ro_parts h
    omega
  · rw [roV_zero h]; omega

def chain (b : Int) (xs : List Q4) : Nat → Int → List (Int × Int)
  | 0, _ => []
  | f + 1, w => (w, 0) :: (if roE b xs w ≠ 0 then [(0, roE b xs w)] else if roV b xs w = w then [] else chain b xs f (roV b xs w))
theorem chain_bd (b : Int) (xs : List Q4) : ∀ (f : Nat) (w : Int), 0 ≤ w → w ≤ 4503599627370496 → ∀ y ∈ chain b xs f w, 0 ≤ y.1 ∧ y.1 ≤ 4503599627370496 ∧ 0 ≤ y.2 ∧ y.2 ≤ 11
  | 0, _, _, _, y, hy => by simp [chain] at hy
  | f + 1, w, h0, h1, y, hy => by
    have hv := roV_bd b xs w
    have he := roE_bd b xs w
    unfold chain at hy
    rcases List.mem_cons.1 hy with rfl | hy
    · exact ⟨h0, h1, by simp, by simp⟩
    · split at hy
      · simp only [List.mem_cons, List.not_mem_nil, or_false] at hy
        subst hy
        exact ⟨by simp, by simp, he.1, by show roE b xs w ≤ 11; omega⟩
      · split at hy
        · cases hy
        · exact chain_bd b xs f _ hv.1 hv.2 y hy

/-- What comes of a search. -/
abbrev St := { p : Int × Int // 0 ≤ p.1 ∧ p.1 ≤ 4503599627370496 ∧ 0 ≤ p.2 ∧ p.2 ≤ 11 }
abbrev encSt (x : St) : Array Value := #[.int .i64 x.1.1, .int .i64 x.1.2]
theorem sts_of : ∀ l : List (Int × Int), (∀ y ∈ l, 0 ≤ y.1 ∧ y.1 ≤ 4503599627370496 ∧ 0 ≤ y.2 ∧ y.2 ≤ 11) → ∃ ys : List St, ys.map (·.1) = l
  | [], _ => ⟨[], rfl⟩
  | y :: r, h => by
    obtain ⟨ys, e⟩ := sts_of r fun z hz => h z (by simp [hz])
    exact ⟨⟨y, h y (by simp)⟩ :: ys, by simp [e]⟩

/-- What a round of such a loop keeps: what lies below n₀, and two captured cells. -/
def KpD (n₀ : Nat) (p q : Addr) (W W' : World) : Prop := Below n₀ W W' ∧ (∀ v, W.cell? p = some v → W'.cell? p = some v) ∧ ∀ v, W.cell? q = some v → W'.cell? q = some v
theorem KpD.trans {n₀ : Nat} {p q : Addr} {A B C : World} (h : KpD n₀ p q A B) (k : KpD n₀ p q B C) : KpD n₀ p q A C := ⟨h.1.trans k.1, fun v hv => k.2.1 v (h.2.1 v hv), fun v hv => k.2.2 v (h.2.2 v hv)⟩
theorem KpD.book {n₀ : Nat} {p q : Addr} {w : World} (hn : n₀ ≤ w.heap.size) (W : World) (l : Nat) (o o' : Obj) (hl : w.heap.size ≤ l) (h : W.heap[l]? = some o) (hc : o.isCells = false) (hw : o.isWalk = false) : KpD n₀ p q W (W.putObj l o') :=
  ⟨belowK_b hn W l o o' hl h hc hw, fun v hv => cell_kept hv (grownBy_putObj' W l o') fun r e => by cases e; exact ⟨o, h, hc⟩, fun v hv => cell_kept hv (grownBy_putObj' W l o') fun r e => by cases e; exact ⟨o, h, hc⟩⟩

set_option maxHeartbeats 1000000 in
theorem stp_in (n : Nat) (hn : 1 ≤ n) (l B1 B2 n₀ : Nat) (A : Option Addr) (xs : List Q4) (cap : Nat) (b : Int) (ys : List St) (f0 : Nat) (hys : ys.map (·.1) = chain b xs f0 b) (hf0 : 4503599627370497 - b ≤ f0) (b1 : 1 ≤ b) (b2 : b ≤ 4503599627370496)
    (J Jx : List St → World → Prop) (B0 : Nat) (hJ : AbidesFrom B0 J) (hlen : xs.length ≤ 9223372036854775807)
    (hY : ∀ pre x W, J pre W → pre.length < ys.length → YieldAt Fence.wide (n - 1) Try.prog l (encSt x) W fun e W' =>
      (e = .returned (.bool true) ∧ J (pre ++ [x]) W' ∧ KpD n₀ ⟨B1, 0, none⟩ ⟨B2, 0, none⟩ W W') ∨ (e = .returned (.bool false) ∧ Jx (pre ++ [x]) W'))
    (W : World) (hB1 : W.cell? ⟨B1, 0, none⟩ = some (.int .i64 b)) (hB2 : W.cell? ⟨B2, 0, none⟩ = some (.slice A xs.length cap)) (hB1l : B1 < W.heap.size) (hB2l : B2 < W.heap.size) (hR : R4 W n₀ A xs) (hn0 : n₀ ≤ W.heap.size) (h0 : J [] W) :
    CallsIn Fence.wide n Try.prog 39 #[.func (.yield l) #[] #[], .pointer (some ⟨B1, 0, none⟩), .pointer (some ⟨B2, 0, none⟩)] W fun e W' => (∃ v, e = .returned v) ∧
      ((∃ l, l = ys ∧ J l W') ∨ (∃ pre, pre <+: ys ∧ Jx pre W')) := by
  refine callsIn_of_wp Try.func39 rfl trivial ?_ rfl
  simp only [Try.ntmps39, List.size_toArray, List.length_cons, List.length_nil, Nat.reduceAdd, Nat.reduceSub, Array.replicate_succ, Array.replicate_zero, List.push_toArray, List.append_toArray, List.nil_append, List.cons_append]
  have HYS := Lib.hid hys
  have HF0 := Lib.hid hf0
  clear hys hf0
  gi_wp2_with fail
  gi_loopw [4] (fun u wr => ∃ (pre rest : List St) (x : Int) (f : Nat), u = .int .i64 x ∧ wr.cell? ⟨B1, 0, none⟩ = some (.int .i64 b) ∧ wr.cell? ⟨B2, 0, none⟩ = some (.slice A xs.length cap) ∧ B1 < wr.heap.size ∧ B2 < wr.heap.size ∧ R4 wr n₀ A xs ∧ n₀ ≤ wr.heap.size ∧ J pre wr ∧
      Hid (ys = pre ++ rest ∧ rest.map (·.1) = chain b xs f x ∧ 4503599627370497 - x ≤ f ∧ (roE b xs x = 0 → x ≤ roV b xs x)) ∧ b ≤ x ∧ x ≤ 4503599627370496)
    (fun u _ => (4503599627370497 - intOf u).toNat)
  case atStart => exact ⟨[], ys, b, f0, rfl, hB1, hB2, hB1l, hB2l, hR, hn0, h0, ⟨rfl, HYS.out, HF0.out, fun h => (ro_parts h).2.2.2.2.2.2.2.2.1⟩, by omega, b2⟩
  case round =>
    obtain ⟨pre, rest, x, f, rfl, c1, c2, l1, l2, hr, hnr, hj, hH, x1, x2⟩ := hrel
    obtain ⟨g1, g2, g3, g4⟩ := hH.out
    clear hH
    obtain ⟨f, rfl⟩ : ∃ g, f = g + 1 := ⟨f - 1, by omega⟩
    cases rest with
    | nil => simp [chain] at g2
    | cons y rest =>
      simp only [chain, List.map_cons, List.cons.injEq] at g2
      obtain ⟨gy, g2⟩ := g2
      obtain ⟨⟨y1, y2⟩, hyb⟩ := y
      simp only [Prod.mk.injEq] at gy
      obtain ⟨rfl, rfl⟩ := gy
      have hpl : pre.length < ys.length := by rw [g1]; simp
      have hpre : pre ++ [⟨(y1, 0), hyb⟩] <+: ys := ⟨rest, by rw [g1]; simp⟩
      have G := Lib.hid (And.intro g1 (And.intro g2 (And.intro g3 g4)))
      have HP := Lib.hid hpre
      clear g1 g2 g3 g4 hpre
      obtain ⟨fn, tmps, assign, body, hy, hRd⟩ := hY _ ⟨(y1, 0), hyb⟩ wr hj hpl
      dsimp only [encSt] at hy
      gi_wp2
      refine hRd.mono ?_
      rintro e W3 (⟨rfl, hJ3, hk3⟩ | ⟨rfl, hJx3⟩)
      · have d1 := hk3.2.1 _ c1
        have d2 := hk3.2.2 _ c2
        have hr3 := hr.below hk3.1
        have hs3 := hk3.1.size
        have vb := roV_bd b xs y1
        have eb := roE_bd b xs y1
        gi_wp2_with fail
        refine ⟨trivial, ?_⟩
        refine (callsIn_wide.2 (round_any _ A xs _ _ _ (hr3.mono (by omega)) hlen)).mono ?_
        rintro e w1 ⟨rfl, hb⟩
        have hj1 := hJ _ W3 w1 none hJ3 ⟨hb.os, hb.tape, hb.output, hb.size, fun i hi _ => hb.block i hi⟩ (fun r e => by cases e)
        replace d1 := (hb.cell (p := ⟨B1, 0, none⟩) (by show B1 < W3.heap.size; omega)).trans d1
        replace d2 := (hb.cell (p := ⟨B2, 0, none⟩) (by show B2 < W3.heap.size; omega)).trans d2
        have hs1 := hb.size
        have hr1 := hr3.below (hb.mono (Nat.le_trans hnr hs3))
        obtain ⟨g1, g2, g3, g4⟩ := G.out
        clear G
        by_cases he : roE b xs y1 = 0
        · rw [if_neg (by omega)] at g2
          by_cases hv : roV b xs y1 = y1
          · rw [if_pos hv, List.map_eq_nil_iff] at g2
            subst g2
            have G := Lib.hid g1
            clear g1 g3 g4 hb
            gi_wp2
            first | go_end0 | refine bodyPost_ret (results_none rfl _ _ _) rfl ?_
            exact ⟨⟨_, rfl⟩, .inl ⟨_, G.out.symm, hj1⟩⟩
          · rw [if_neg hv] at g2
            have hle := g4 he
            have hmono : roE b xs (roV b xs y1) = 0 → roV b xs y1 ≤ roV b xs (roV b xs y1) := fun h => (ro_mono (by omega) hle h).2
            have hbv : b ≤ roV b xs y1 := (ro_parts he).2.2.2.2.2.2.2.2.1
            have G := Lib.hid (And.intro g1 (And.intro g2 (And.intro g3 hmono)))
            clear g1 g2 g3 g4 hb hmono
            gi_wp2
            go_roundw
            case rel =>
              obtain ⟨g1, g2, g3, g4⟩ := G.out
              exact ⟨pre ++ [⟨(y1, 0), hyb⟩], rest, _, f, rfl, d1, d2, by omega, by omega, hr1, by omega, hj1, ⟨by rw [g1]; simp, g2, by omega, g4⟩, hbv, vb.2⟩
            case measure => simp only [intOf]; simp; omega
        · rw [if_pos he] at g2
          cases rest with
          | nil => simp at g2
          | cons z rest =>
            simp only [List.map_cons, List.cons.injEq, List.map_eq_nil_iff] at g2
            obtain ⟨gz, rfl⟩ := g2
            obtain ⟨⟨z1, z2⟩, hzb⟩ := z
            simp only [Prod.mk.injEq] at gz
            obtain ⟨rfl, rfl⟩ := gz
            have hpl2 : (pre ++ [(⟨(y1, 0), hyb⟩ : St)]).length < ys.length := by rw [g1]; simp
            have G := Lib.hid g1
            clear g1 g3 g4 hb hy hRd
            obtain ⟨fn2, tmps2, assign2, body2, hy, hRd2⟩ := hY _ ⟨(0, roE b xs y1), hzb⟩ w1 hj1 hpl2
            dsimp only [encSt] at hy
            gi_wp2
            refine hRd2.mono ?_
            rintro e W4 (⟨rfl, hJ4, hk4⟩ | ⟨rfl, hJx4⟩)
            · gi_wp2
              first | go_end0 | refine bodyPost_ret (results_none rfl _ _ _) rfl ?_
              exact ⟨⟨_, rfl⟩, .inl ⟨_, by rw [G.out]; simp, hJ4⟩⟩
            · gi_wp2
              first | go_end0 | refine bodyPost_ret (results_none rfl _ _ _) rfl ?_
              exact ⟨⟨_, rfl⟩, .inr ⟨_, ⟨[], by rw [G.out]; simp⟩, hJx4⟩⟩
      · gi_wp2
        go_end0
        exact ⟨⟨_, rfl⟩, .inr ⟨_, HP.out, hJx3⟩⟩

theorem stp_stops (n : Nat) (hn : 1 ≤ n) (B1 B2 n₀ : Nat) (A : Option Addr) (xs : List Q4) (cap : Nat) (b : Int) (ys : List St) (f0 : Nat) (hys : ys.map (·.1) = chain b xs f0 b) (hf0 : 4503599627370497 - b ≤ f0) (b1 : 1 ≤ b) (b2 : b ≤ 4503599627370496) (hlen : xs.length ≤ 9223372036854775807) (w : World)
    (hB1 : w.cell? ⟨B1, 0, none⟩ = some (.int .i64 b)) (hB2 : w.cell? ⟨B2, 0, none⟩ = some (.slice A xs.length cap)) (hB1l : B1 < w.heap.size) (hB2l : B2 < w.heap.size) (hR : R4 w n₀ A xs) (hn0 : n₀ ≤ w.heap.size) :
    SeqStopsK Fence.wide n Try.prog 39 #[.pointer (some ⟨B1, 0, none⟩), .pointer (some ⟨B2, 0, none⟩)] encSt (KpD n₀ ⟨B1, 0, none⟩ ⟨B2, 0, none⟩) (fun l => l = ys) (fun pre => pre <+: ys) ys.length w := fun l J Jx W hW hJ hJx hY h0 =>
  stp_in n hn l B1 B2 n₀ A xs cap b ys f0 hys hf0 b1 b2 J Jx W.heap.size hJ hlen hY W ((hW.cell (p := ⟨B1, 0, none⟩) hB1l).trans hB1) ((hW.cell (p := ⟨B2, 0, none⟩) hB2l).trans hB2) (Nat.lt_of_lt_of_le hB1l hW.size) (Nat.lt_of_lt_of_le hB2l hW.size) (hR.below (hW.mono hn0)) (Nat.le_trans hn0 hW.size) h0

/-- steps: the function that makes the iterator. -/
theorem steps_any (b : Int) (A : Option Addr) (n cap : Nat) (w : World) :
    Calls Try.prog 25 #[.int .i64 b, .slice A n cap] w fun e w' => e = .returned (.func (.func 39) #[] #[.pointer (some ⟨w.heap.size, 0, none⟩), .pointer (some ⟨w.heap.size + 1, 0, none⟩)]) ∧ w' = (w.alloc (.cells #[.int .i64 b] 2)).alloc (.cells #[.slice A n cap] 47) := by
  go_enter Try.func25, Try.ntmps25
  go_wp2
  go_ret
  exact ⟨rfl, rfl⟩
end Go.Proofs.Ytfneloplbkjbhaa
