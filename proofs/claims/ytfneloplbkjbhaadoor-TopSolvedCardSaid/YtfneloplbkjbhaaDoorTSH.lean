/-
  TopSolved: the walk.
-/
import Derived.Test.YtfneloplbkjbhaaDoorTSF
import Derived.Test.YtfneloplbkjbhaaDoorTS8
import Derived.Test.YtfneloplbkjbhaaDoorTSL
import Derived.Test.YtfneloplbkjbhaaDoorTSZ
namespace Go.Proofs.YtfneloplbkjbhaaDoor
open Go.RowKit Go.Shelf
set_option linter.unusedVariables false
set_option linter.unusedSimpArgs false
theorem info_load : (Tryd.prog.info? 56).map (fun i => (i.zero, i.size, i.bytes)) = some (some (.agg #[.int .i64 0, .int .i64 0, .int .i64 0, .int .i64 0]), 4, 32) := by kernel_rfl
theorem he_len (ts : List Tk) (i : Int) : ∀ k : Nat, (heK ts i k).length ≤ k
  | 0 => by simp [heK]
  | k + 1 => by
    have h := he_len ts i k
    show (heK ts i k ++ _).length ≤ _
    rw [List.length_append]
    split
    · simp; omega
    · cases ts[k]? <;> simp <;> omega
theorem on_len (ts : List Tk) (i o : Int) : ∀ k : Nat, (onK ts i o k).length ≤ k
  | 0 => by simp [onK]
  | k + 1 => by
    have h := on_len ts i o k
    show (onK ts i o k ++ _).length ≤ _
    rw [List.length_append]
    split
    · simp; omega
    · split
      · cases ts[k]? <;> simp <;> omega
      · simp; omega
theorem flat_snoc (l : List Q4) (q : Q4) : (l ++ [q]).flatMap Q4.cells = l.flatMap Q4.cells ++ q.cells := by rw [List.flatMap_append]; simp
theorem LRw.grow {w W W' : World} {l : List Q4} {A : Option Addr} {n c g cap : Nat} {q : Q4} {rs : List Rw} (h : LRw w W (lR l A n c :: rs)) (ho : W'.ownsRow w.heap.size 56 4 (.slice (some ⟨g, 0, none⟩) (n + 1) cap) (n + 1) (l.flatMap Q4.cells ++ q.cells)) (hg : W.grownBy W' (lR l A n c).v.ownBlock) (hl : (lR l A n c).v.ownBlock = some g ∨ g = W.heap.size) : LRw w W' (lR (l ++ [q]) (some ⟨g, 0, none⟩) (n + 1) cap :: rs) := by
  have h2 := h.lies (l' := (l ++ [q]).flatMap Q4.cells) (by rw [flat_snoc]; exact ho) hg hl
  exact h2
theorem LRw.swap {w W : World} {a b : Rw} {rs : List Rw} (h : LRw w W (a :: b :: rs)) : LRw w W (b :: a :: rs) := h.perm (List.Perm.swap _ _ _)
theorem LRw.rot {w W : World} {a b c : Rw} (h : LRw w W [a, b, c]) : LRw w W [b, c, a] := h.perm ((List.Perm.swap b a [c]).trans (List.Perm.cons b (List.Perm.swap c a [])))
theorem LRw.last {w W : World} {a b c : Rw} (h : LRw w W [a, b, c]) : LRw w W [c, b, a] := h.perm ((List.Perm.swap b a [c]).trans ((List.Perm.cons b (List.Perm.swap c a [])).trans (List.Perm.swap c b [a])))
theorem LRw.last' {w W : World} {a b c : Rw} (h : LRw w W [c, b, a]) : LRw w W [a, b, c] := h.last
/-- The last load of a row. -/
theorem last_cells {W : World} {l : List Q4} {q : Q4} {g : Nat} (h : R4 W W.heap.size (some ⟨g, 0, none⟩) (l ++ [q])) : W.cell? ⟨g, l.length * 4, none⟩ = some (.int .i64 q.a) ∧ W.cell? ⟨g, l.length * 4 + 1, none⟩ = some (.int .i64 q.b) ∧ W.cell? ⟨g, l.length * 4 + 2, none⟩ = some (.int .i64 q.c) ∧ W.cell? ⟨g, l.length * 4 + 3, none⟩ = some (.int .i64 q.d) := by
  obtain ⟨b, off, e, hlt, hc⟩ := h (by simp)
  simp only [Option.some.injEq, Addr.mk.injEq] at e
  obtain ⟨rfl, rfl, _⟩ := e
  have := hc l.length q (by simp)
  rw [Nat.zero_add] at this
  exact this
/-- The three rows between two tasks. -/
structure S3 (w W : World) (ts : List Tk) (i o : Int) (k nh no : Nat) (A1 A2 A3 : Option Addr) (c1 c2 c3 : Nat) : Prop where
  r : LRw w W [lR (heK ts i k) A1 nh c1, lR (heK ts i k) A2 nh c2, lR (onK ts i o k) A3 no c3]
  h : nh = (heK ts i k).length
  o : no = (onK ts i o k).length
theorem rowR4 {w W : World} {l : List Q4} {A : Option Addr} {n c : Nat} {rs : List Rw} (h : lR l A n c ∈ rs) (hr : LRw w W rs) : R4 W W.heap.size A l := (R4.of_own (hr.own _ h)).2
set_option maxRecDepth 100000 in
set_option maxHeartbeats 8000000 in
theorem solved_walk (c : Cf) (At : Option Addr) (ct : Nat) (Al : Option Addr) (cl : Nat) (Ah : Option Addr) (ch : Nat) (i other limit : Int) (w : World) (hT : RT w w.heap.size At c.ts) (hL : R4 w w.heap.size Al c.ls) (hH : R4 w w.heap.size Ah c.hs) (EN : EnvS w.heap.size w) (hkd : ∀ t ∈ c.ts, 0 ≤ t.k) :
    Calls Tryd.prog 4 #[.agg #[.int .i64 c.mn, .int .i64 c.mx, .int .i64 c.sw, .slice At c.ts.length ct, .slice Al c.ls.length cl, .slice Ah c.hs.length ch], .int .i64 i, .int .i64 other, .int .i64 limit] w fun e w' => e = .returned (.bool true) ∧ Below w.heap.size w w' := by
  obtain ⟨W1, hW1⟩ : ∃ W1, W1 = w.alloc (.cells #[.int .i64 c.mn, .int .i64 c.mx, .int .i64 c.sw, .slice At c.ts.length ct, .slice Al c.ls.length cl, .slice Ah c.hs.length ch] 47) := ⟨_, rfl⟩
  have s1 : W1.heap.size = w.heap.size + 1 := by rw [hW1]; simp
  have hb1 : Below w.heap.size w W1 := by rw [hW1]; exact below_box w _
  have hT1 := (hT.below hb1).mono hb1.size
  have hP0 := putc_any c At ct Al cl Ah ch W1 hT1 ((hL.below hb1).mono hb1.size) ((hH.below hb1).mono hb1.size) (fun U hU => EN.pow U (hb1.trans (hU.mono hb1.size)))
  have HBX := Kept.mk (fun (U : World) (hU : Below W1.heap.size W1 U) => show U.cell? ⟨w.heap.size, 3, none⟩ = some (.slice At c.ts.length ct) from by
    rw [hW1] at hU
    exact box_cell hU 3 _ rfl)
  have HT1 := Kept.mk hT1
  have HB1 := Kept.mk hb1
  have HEN := Kept.mk (fun (U : World) (hU : Below w.heap.size w U) => show EnvS U.heap.size U from (EN.on hU).mono hU.size)
  have HS1 := Kept.mk s1
  have HKD := Kept.mk hkd
  clear hT hL hH hT1 hb1 EN s1 hkd
  by_cases hok : okC c
  · have HOK := Kept.mk (show okCC c from ⟨hok, HKD.out⟩)
    have HPUT := Kept.mk (hP0.mono (R' := fun e w' => e = .returned (.tuple #[.string (BA (linesT (cfgL c))), .int .i64 0]) ∧ Below W1.heap.size W1 w') (fun e w' h => by
      rcases h with ⟨h1, ⟨_, h2⟩ | ⟨h2, _⟩⟩
      · exact ⟨h2, h1⟩
      · exact absurd hok h2))
    have HGET := Kept.mk (fun (W : World) (EN : EnvS W.heap.size W) => (get_any c (cfgL c) (.inl ⟨rfl, HOK.out⟩) W EN).mono (R' := fun e w' => ∃ At' ct' Al' nl' cl' Ah' nh' ch', e = .returned (.tuple #[.agg #[.int .i64 c.mn, .int .i64 c.mx, .int .i64 c.sw, .slice At' c.ts.length ct', .slice Al' nl' cl', .slice Ah' nh' ch'], .int .i64 0, .int .i64 0]) ∧ RT w' w'.heap.size At' c.ts ∧ Below W.heap.size W w') (fun e w' h => by
      rcases h with ⟨h1, ⟨_, a, b, c2, d, e2, f, g, h, he, hr⟩ | ⟨h2, _⟩⟩
      · exact ⟨a, b, c2, d, e2, f, g, h, he, hr, h1⟩
      · unfold cfgL at h2
        cases h2))
    have n32 : c.ts.length ≤ 32 := hok.nt
    obtain ⟨tx, htx⟩ : ∃ tx, tx = linesT (cfgL c) := ⟨_, rfl⟩
    rw [← htx] at HPUT HGET
    clear htx hP0 hok
    rw [hW1] at HPUT
    go_enter Tryd.func4, Tryd.ntmps4
    go_wp2_with (first | (go_at_call 5; refine (begins_any _).mono ?_; rintro e w' ⟨rfl, rfl⟩) | (go_at_call 11; refine HPUT.out.mono ?_; rintro e w2 ⟨rfl, hb2⟩; refine Hid.out ?_))
    refine Lib.hid ?_
    rw [← hW1] at hb2
    clear hW1 HPUT
    have B2 := HB1.out.trans (hb2.mono HB1.out.size)
    have HG2 := Kept.mk (HGET.out w2 (HEN.out w2 B2))
    clear HGET
    go_wp2_with (go_at_call 12; refine HG2.out.mono ?_; rintro e w3 ⟨At', ct', Al', nl', cl', Ah', nh', ch', rfl, hRT3, hb3⟩; refine Hid.out ?_)
    refine Lib.hid ?_
    clear HG2
    have B3 : Below W1.heap.size W1 w3 := hb2.trans (hb3.mono hb2.size)
    go_upto_region 7 with fail
    obtain ⟨w4, hw4⟩ : ∃ w4, w4 = w3.alloc (.cells #[.int .i64 c.mn, .int .i64 c.mx, .int .i64 c.sw, .slice At' c.ts.length ct', .slice Al' nl' cl', .slice Ah' nh' ch'] 47) := ⟨_, rfl⟩
    obtain ⟨xd, hxd⟩ : ∃ xd, xd = w3.heap.size := ⟨_, rfl⟩
    have hb4 : Below w3.heap.size w3 w4 := by rw [hw4]; exact below_box w3 _
    have B4 : Below W1.heap.size W1 w4 := B3.trans (hb4.mono B3.size)
    have HXD := Kept.mk (fun (U : World) (hU : Below w4.heap.size w4 U) => show U.cell? ⟨xd, 3, none⟩ = some (.slice At' c.ts.length ct') from by
      rw [hw4] at hU
      rw [hxd]
      exact box_cell hU 3 _ rfl)
    have HXC := Kept.mk (fun (U : World) (hU : Below w4.heap.size w4 U) => HBX.out U (B4.trans (hU.mono B4.size)))
    have HTC := Kept.mk (show RT w4 w4.heap.size At c.ts from (HT1.out.below B4).mono B4.size)
    have HTD := Kept.mk (show RT w4 w4.heap.size At' c.ts from (hRT3.below hb4).mono hb4.size)
    have HBF := Kept.mk (HB1.out.trans (B4.mono HB1.out.size))
    rw [← hw4, ← hxd]
    clear hw4 hxd hb4 B4 B3 hRT3 hb3 hb2 B2 HT1 HB1 HEN HS1 HBX HKD
    have c3 := HXC.out w4 (Below.refl _ _)
    have d3 := HXD.out w4 (Below.refl _ _)
    by_cases hi : 0 ≤ i ∧ i < c.ts.length
    · obtain ⟨j, rfl⟩ : ∃ j : Nat, i = j := ⟨i.toNat, by omega⟩
      have hj : j < c.ts.length := by omega
      have i1 : decide ((j : Int) < 0) = false := decide_eq_false (by omega)
      have i2 : decide ((c.ts.length : Int) ≤ (j : Int)) = false := decide_eq_false (by omega)
      have i2' : decide (c.ts.length ≤ j) = false := decide_eq_false (by omega)
      obtain ⟨i0, hi0, hz0, hz1, hz2⟩ := info_parts info_load
      clear hi
      go_wp2
      go_loopw [14, 15, 16, 66] (fun h t o kv wr => ∃ (k nh no : Nat) (A1 : Option Addr) (c1 : Nat) (A2 : Option Addr) (c2 : Nat) (A3 : Option Addr) (c3 : Nat), k ≤ c.ts.length ∧ kv = .int .i64 k ∧ h = .slice A1 nh c1 ∧ t = .slice A2 nh c2 ∧ o = .slice A3 no c3 ∧ nh ≤ k ∧ no ≤ k ∧ S3 w4 wr c.ts j other k nh no A1 A2 A3 c1 c2 c3) (fun _ _ _ kv _ => c.ts.length - (intOf kv).toNat)
      case atStart => exact ⟨0, 0, 0, none, 0, none, 0, none, 0, by omega, rfl, rfl, rfl, rfl, by omega, by omega, ⟨(((LRw.first w4).push 56 4).push 56 4).push 56 4, rfl, rfl⟩⟩
      case round =>
        clear c3 d3 i1 i2 i2'
        obtain ⟨k, nh, no, A1, c1, A2, c2, A3, c3, hk, rfl, rfl, rfl, rfl, hnh, hno, hS⟩ := hrel
        have hsz := hS.r.bw.size
        have HS := Kept.mk hS
        by_cases hlt : k < c.ts.length
        · have ik : (k : Int) < (c.ts.length : Int) := by omega
          obtain ⟨y, hy⟩ : ∃ y, c.ts[k]? = some y := ⟨c.ts[k], List.getElem?_eq_getElem _⟩
          obtain ⟨b, off, rfl, hbB, hc⟩ := (HTC.out.below hS.r.bw) (by omega)
          obtain ⟨b', off', hAt', hbB', -⟩ := (HTD.out.below hS.r.bw) (by omega)
          obtain rfl := hAt'
          have HY := Kept.mk hy
          have HCD := Kept.mk (fun (U : World) (hU : Below w4.heap.size w4 U) => show ∀ o u, y.arr[o]? = some u → U.cell? ⟨b', off' + k * 10 + o, none⟩ = some u from by
            obtain ⟨b2, o2, e2, _, h2⟩ := (HTD.out.below hU) (by omega)
            simp only [Option.some.injEq, Addr.mk.injEq] at e2
            obtain ⟨rfl, rfl, _⟩ := e2
            exact fun o u hu => h2 k y o u hy hu)
          obtain ⟨tk, tp, t2, t3, t4, t5, t6, t7, t8, t9⟩ := y
          have e0 := hc k _ 0 _ hy rfl
          have e1 := hc k _ 1 _ hy rfl
          have e2 := hc k _ 2 _ hy rfl
          have e3 := hc k _ 3 _ hy rfl
          have e4 := hc k _ 4 _ hy rfl
          have e5 := hc k _ 5 _ hy rfl
          have e6 := hc k _ 6 _ hy rfl
          have e7 := hc k _ 7 _ hy rfl
          have e8 := hc k _ 8 _ hy rfl
          have e9 := hc k _ 9 _ hy rfl
          rw [Nat.add_zero] at e0
          have kb : b < wr.heap.size := by omega
          have R0 := hS.r.alloc (.cells #[.int .u8 tk, .int .i64 tp, .int .i64 t2, .int .i64 t3, .int .i64 t4, .int .i64 t5, .int .i64 t6, .int .i64 t7, .int .i64 t8, .int .i64 t9] 54)
          clear hc hy hS
          by_cases hki : (k : Int) = (j : Int)
          · have b1 : ((k : Int) == (j : Int)) = true := beq_iff_eq.2 hki
            have hkn : k = j := by omega
            have b2 : (k == j) = true := beq_iff_eq.2 hkn
            have HE := Kept.mk (show S3 w4 (wr.alloc (.cells #[.int .u8 tk, .int .i64 tp, .int .i64 t2, .int .i64 t3, .int .i64 t4, .int .i64 t5, .int .i64 t6, .int .i64 t7, .int .i64 t8, .int .i64 t9] 54)) c.ts j other (k + 1) nh no A1 A2 A3 c1 c2 c3 from by
              refine ⟨?_, ?_, ?_⟩
              · rw [he_same hki, on_same (.inl hki)]; exact R0
              · rw [he_same hki]; exact HS.out.h
              · rw [on_same (.inl hki)]; exact HS.out.o)
            clear hki hkn R0
            go_wp2
            go_roundw
            case rel => exact ⟨k + 1, nh, no, _, _, _, _, _, _, by omega, by go_num, rfl, rfl, rfl, by omega, by omega, HE.out⟩
            case measure => simp [intOf]; omega
          · have b1 : ((k : Int) == (j : Int)) = false := beq_eq_false_iff_ne.2 hki
            have b2 : (k == j) = false := beq_eq_false_iff_ne.2 (by omega)
            have HKI := Kept.mk hki
            clear hki
            go_wp2_with (at_builtin; refine wpList_append_lies _ rfl (.tmp 74) (.tmp 83) 51 rfl w4.heap.size 56 i0 (.agg #[.int .i64 0, .int .i64 0, .int .i64 0, .int .i64 0]) 4 32 Tryd.underlying51 hi0 hz0 hz1 hz2 rfl (by decide) (.slice A1 nh c1) nh ((heK c.ts j k).flatMap Q4.cells) rfl (R0.alloc _).head ⟨_, 0, none⟩ 1 1 (Q4.cells ⟨t2, 0, t2, t5⟩) rfl rfl (cells_new _ _ (by simp) (Q4.cells ⟨t2, 0, t2, t5⟩) 56) (q4_one _) (by decide) (by simp only [maxLen]; omega) (by omega) (R0.alloc (.cells (Q4.cells ⟨t2, 0, t2, t5⟩).toArray 56)).bw.size _ rfl ?_; intro g5 k5 w5 ho5 hg5 hl5 hlt5; refine Hid.out ?_)
            refine Lib.hid ?_
            have R5 := (R0.alloc (.cells (Q4.cells ⟨t2, 0, t2, t5⟩).toArray 56)).grow (q := ⟨t2, 0, t2, t5⟩) ho5 hg5 hl5
            clear ho5 hg5 hl5 hlt5 R0 e0 e1 e2 e3 e4 e5 e6 e7 e8 e9
            obtain ⟨w6, hw6⟩ : ∃ w6, w6 = w5 := ⟨_, rfl⟩
            rw [← hw6] at R5 ⊢
            clear hw6
            obtain ⟨g1, hg1⟩ : ∃ g1, g1 = g5 := ⟨_, rfl⟩
            obtain ⟨m1, hm1⟩ : ∃ m1, m1 = k5 := ⟨_, rfl⟩
            rw [← hg1, ← hm1] at R5 ⊢
            clear hg1 hm1
            have hf := HCD.out w6 R5.bw
            have f0 := hf 0 _ rfl
            have f1 := hf 1 _ rfl
            have f2 := hf 2 _ rfl
            have f3 := hf 3 _ rfl
            have f4 := hf 4 _ rfl
            have f5 := hf 5 _ rfl
            have f6 := hf 6 _ rfl
            have f7 := hf 7 _ rfl
            have f8 := hf 8 _ rfl
            have f9 := hf 9 _ rfl
            rw [Nat.add_zero] at f0
            have d3 := HXD.out w6 R5.bw
            have kb' : b' < w6.heap.size := by have := R5.bw.size; omega
            have R6 := R5.swap.alloc (.cells #[.int .u8 tk, .int .i64 tp, .int .i64 t2, .int .i64 t3, .int .i64 t4, .int .i64 t5, .int .i64 t6, .int .i64 t7, .int .i64 t8, .int .i64 t9] 54)
            clear hf R5
            go_wp2_with (at_builtin; refine wpList_append_lies _ rfl (.tmp 90) (.tmp 99) 51 rfl w4.heap.size 56 i0 (.agg #[.int .i64 0, .int .i64 0, .int .i64 0, .int .i64 0]) 4 32 Tryd.underlying51 hi0 hz0 hz1 hz2 rfl (by decide) (.slice A2 nh c2) nh ((heK c.ts j k).flatMap Q4.cells) rfl (R6.alloc _).head ⟨_, 0, none⟩ 1 1 (Q4.cells ⟨t2, 0, t2, t5⟩) rfl rfl (cells_new _ _ (by simp) (Q4.cells ⟨t2, 0, t2, t5⟩) 56) (q4_one _) (by decide) (by simp only [maxLen]; omega) (by omega) (R6.alloc (.cells (Q4.cells ⟨t2, 0, t2, t5⟩).toArray 56)).bw.size _ rfl ?_; intro g5 k5 w5 ho5 hg5 hl5 hlt5; refine Hid.out ?_)
            refine Lib.hid ?_
            have R7 := (R6.alloc (.cells (Q4.cells ⟨t2, 0, t2, t5⟩).toArray 56)).grow (q := ⟨t2, 0, t2, t5⟩) ho5 hg5 hl5
            clear ho5 hg5 hl5 hlt5 R6 f0 f1 f2 f3 f4 f5 f6 f7 f8 f9 d3
            obtain ⟨w7, hw7⟩ : ∃ w7, w7 = w5 := ⟨_, rfl⟩
            rw [← hw7] at R7 ⊢
            clear hw7
            obtain ⟨g2, hg2⟩ : ∃ g2, g2 = g5 := ⟨_, rfl⟩
            obtain ⟨m2, hm2⟩ : ∃ m2, m2 = k5 := ⟨_, rfl⟩
            rw [← hg2, ← hm2] at R7 ⊢
            clear hg2 hm2
            have HH := Kept.mk (show (nh + 1 = (heK c.ts j (k + 1)).length) ∧ heK c.ts j (k + 1) = heK c.ts j k ++ [⟨t2, 0, t2, t5⟩] from by
              have e : heK c.ts j (k + 1) = heK c.ts j k ++ [⟨t2, 0, t2, t5⟩] := he_next HKI.out HY.out
              exact ⟨by rw [e, List.length_append, ← HS.out.h]; rfl, e⟩)
            by_cases hko : (k : Int) = other
            · have b3 : ((k : Int) == other) = true := beq_iff_eq.2 hko
              have HR4 := rowR4 (l := heK c.ts j k ++ [⟨t2, 0, t2, t5⟩]) (A := some ⟨g1, 0, none⟩) (n := nh + 1) (c := m1) (by simp) R7
              obtain ⟨x0, x1, x2, x3⟩ := last_cells HR4
              rw [← HS.out.h] at x0 x1 x2 x3
              simp only at x0 x1 x2 x3
              have HO := Kept.mk (show (no + 1 = (onK c.ts j other (k + 1)).length) ∧ onK c.ts j other (k + 1) = onK c.ts j other k ++ [⟨t2, 0, t2, t5⟩] from by
                have e : onK c.ts j other (k + 1) = onK c.ts j other k ++ [⟨t2, 0, t2, t5⟩] := on_next HKI.out hko HY.out
                exact ⟨by rw [e, List.length_append, ← HS.out.o]; rfl, e⟩)
              have R8 := R7.last
              have kg1 : g1 < w7.heap.size := (cell_some_lt x0).1
              clear hko HR4 R7
              go_wp2_with (at_builtin; refine wpList_append_lies _ rfl (.tmp 104) (.tmp 111) 51 rfl w4.heap.size 56 i0 (.agg #[.int .i64 0, .int .i64 0, .int .i64 0, .int .i64 0]) 4 32 Tryd.underlying51 hi0 hz0 hz1 hz2 rfl (by decide) (.slice A3 no c3) no ((onK c.ts j other k).flatMap Q4.cells) rfl (R8.alloc _).head ⟨_, 0, none⟩ 1 1 (Q4.cells ⟨t2, 0, t2, t5⟩) rfl rfl (cells_new _ _ (by simp) (Q4.cells ⟨t2, 0, t2, t5⟩) 56) (q4_one _) (by decide) (by simp only [maxLen]; omega) (by omega) (R8.alloc (.cells (Q4.cells ⟨t2, 0, t2, t5⟩).toArray 56)).bw.size _ rfl ?_; intro g5 k5 w5 ho5 hg5 hl5 hlt5; refine Hid.out ?_)
              refine Lib.hid ?_
              have R9 := (R8.alloc (.cells (Q4.cells ⟨t2, 0, t2, t5⟩).toArray 56)).grow (q := ⟨t2, 0, t2, t5⟩) ho5 hg5 hl5
              have HE := Kept.mk (show S3 w4 w5 c.ts j other (k + 1) (nh + 1) (no + 1) (some ⟨g1, 0, none⟩) (some ⟨g2, 0, none⟩) (some ⟨g5, 0, none⟩) m1 m2 k5 from by
                refine ⟨?_, HH.out.1, HO.out.1⟩
                rw [HH.out.2, HO.out.2]
                exact R9.rot)
              clear ho5 hg5 hl5 hlt5 R8 R9 x0 x1 x2 x3
              go_wp2
              go_roundw
              case rel => exact ⟨k + 1, nh + 1, no + 1, _, _, _, _, _, _, by omega, by go_num, rfl, rfl, rfl, by omega, by omega, HE.out⟩
              case measure => simp [intOf]; omega
            · have b3 : ((k : Int) == other) = false := beq_eq_false_iff_ne.2 hko
              have HE := Kept.mk (show S3 w4 w7 c.ts j other (k + 1) (nh + 1) no (some ⟨g1, 0, none⟩) (some ⟨g2, 0, none⟩) A3 m1 m2 c3 from by
                refine ⟨?_, HH.out.1, ?_⟩
                · rw [HH.out.2, on_same (.inr hko)]
                  exact R7.swap
                · rw [on_same (.inr hko)]
                  exact HS.out.o)
              clear hko R7
              go_wp2
              go_roundw
              case rel => exact ⟨k + 1, nh + 1, no, _, _, _, _, _, _, by omega, by go_num, rfl, rfl, rfl, by omega, by omega, HE.out⟩
              case measure => simp [intOf]; omega
        · have hkn : k = c.ts.length := by omega
          have ik : ¬ (k : Int) < (c.ts.length : Int) := by omega
          clear hlt HS
          obtain ⟨hr, hh, ho⟩ := hS
          subst hh
          subst ho
          obtain ⟨y, hy⟩ : ∃ y, c.ts[j]? = some y := ⟨c.ts[j], List.getElem?_eq_getElem _⟩
          obtain ⟨b, off, rfl, hbB, -⟩ := (HTC.out.below hr.bw) (by omega)
          obtain ⟨b', off', hAt', hbB', -⟩ := (HTD.out.below hr.bw) (by omega)
          obtain rfl := hAt'
          have HY := Kept.mk hy
          obtain ⟨tk, tp, t2, t3, t4, t5, t6, t7, t8, t9⟩ := y
          have HCC := Kept.mk (fun (U : World) (hU : Below w4.heap.size w4 U) => show U.cell? ⟨b, off + j * 10 + 5, none⟩ = some (.int .i64 t5) from by
            obtain ⟨b2, o2, e2, _, h2⟩ := (HTC.out.below hU) (by omega)
            simp only [Option.some.injEq, Addr.mk.injEq] at e2
            obtain ⟨rfl, rfl, _⟩ := e2
            exact h2 j _ 5 _ HY.out rfl)
          have HCD := Kept.mk (fun (U : World) (hU : Below w4.heap.size w4 U) => show U.cell? ⟨b', off' + j * 10 + 5, none⟩ = some (.int .i64 t5) from by
            obtain ⟨b2, o2, e2, _, h2⟩ := (HTD.out.below hU) (by omega)
            simp only [Option.some.injEq, Addr.mk.injEq] at e2
            obtain ⟨rfl, rfl, _⟩ := e2
            exact h2 j _ 5 _ HY.out rfl)
          have q1 := he_len c.ts j k
          have q2 := on_len c.ts j other k
          obtain ⟨L1, hL1⟩ : ∃ L, L = heK c.ts j k := ⟨_, rfl⟩
          obtain ⟨L3, hL3⟩ : ∃ L, L = onK c.ts j other k := ⟨_, rfl⟩
          have HLAW := Kept.mk (show stE t5 L1 limit = 0 → stE t5 L3 limit = 0 → soV t5 L3 limit ≤ soV t5 L1 limit from by
            rw [hL1, hL3]
            exact so_on c.ts j other k t5 limit)
          rw [← hL1, ← hL3] at hr
          rw [← hL1] at q1
          rw [← hL3] at q2
          rw [← hL1, ← hL3]
          clear hL1 hL3 hy
          have HL1 : Kept (L1.length ≤ 9223372036854775807) := Kept.mk (by omega)
          have HL3 : Kept (L3.length ≤ 9223372036854775807) := Kept.mk (by omega)
          obtain ⟨a1, ha1⟩ : ∃ a, a = soV t5 L1 limit := ⟨_, rfl⟩
          obtain ⟨a3, ha3⟩ : ∃ a, a = soV t5 L3 limit := ⟨_, rfl⟩
          obtain ⟨z1, hz1'⟩ : ∃ a, a = stE t5 L1 limit := ⟨_, rfl⟩
          obtain ⟨z3, hz3'⟩ : ∃ a, a = stE t5 L3 limit := ⟨_, rfl⟩
          have HV := Kept.mk (fun (A : Option Addr) (cap : Nat) (U : World) (h4 : R4 U U.heap.size A L1) => solve_any t5 A L1 cap limit U h4 HL1.out)
          have HV3 := Kept.mk (fun (A : Option Addr) (cap : Nat) (U : World) (h4 : R4 U U.heap.size A L3) => solve_any t5 A L3 cap limit U h4 HL3.out)
          rw [← ha1, ← hz1'] at HV
          rw [← ha3, ← hz3'] at HV3
          rw [← ha1, ← hz1', ← ha3, ← hz3'] at HLAW
          clear ha1 ha3 hz1' hz3' q1 q2 hnh hno HL1 HL3
          have x3 := HXC.out wr hr.bw
          have x5 := HCC.out wr hr.bw
          have kb : b < wr.heap.size := (cell_some_lt x5).1
          have HR := Kept.mk hr
          have HN1 := Kept.mk (HV.out A1 c1 wr (rowR4 (l := L1) (A := A1) (n := L1.length) (c := c1) (by simp) hr))
          clear hr
          go_wp2_with (go_at_call 13; refine HN1.out.mono ?_; rintro e w5 ⟨rfl, hb5⟩; refine Hid.out ?_)
          refine Lib.hid ?_
          have r5 := HR.out.below (hb5.mono (Nat.le_refl _))
          clear HR HN1 hb5 x3 x5 kb
          have y3 := HXD.out w5 r5.bw
          have y5 := HCD.out w5 r5.bw
          have kb' : b' < w5.heap.size := (cell_some_lt y5).1
          have HR5 := Kept.mk r5
          have HN2 := Kept.mk (HV.out A2 c2 w5 (rowR4 (l := L1) (A := A2) (n := L1.length) (c := c2) (by simp) r5))
          clear r5
          go_wp2_with (go_at_call 13; refine HN2.out.mono ?_; rintro e w6 ⟨rfl, hb6⟩; refine Hid.out ?_)
          refine Lib.hid ?_
          have r6 := HR5.out.below (hb6.mono (Nat.le_refl _))
          clear HR5 HN2 hb6 y3 y5 kb'
          have x3 := HXC.out w6 r6.bw
          have x5 := HCC.out w6 r6.bw
          have kb : b < w6.heap.size := (cell_some_lt x5).1
          have HR6 := Kept.mk r6
          have HN3 := Kept.mk (HV3.out A3 c3 w6 (rowR4 (l := L3) (A := A3) (n := L3.length) (c := c3) (by simp) r6))
          clear r6
          go_wp2_with (go_at_call 13; refine HN3.out.mono ?_; rintro e w7 ⟨rfl, hb7⟩; refine Hid.out ?_)
          refine Lib.hid ?_
          have HB7 := Kept.mk (HBF.out.trans ((HR6.out.below (hb7.mono (Nat.le_refl _))).bw.mono HBF.out.size))
          clear HR6 HN3 hb7 x3 x5 kb
          have q1 : (a1 == a1) = true := beq_self_eq_true a1
          have q2 : (z1 == z1) = true := beq_self_eq_true z1
          by_cases hz : z1 = 0
          · by_cases hz3 : z3 = 0
            · have le := HLAW.out hz hz3
              have le' : decide (a3 ≤ a1) = true := decide_eq_true le
              subst hz
              subst hz3
              go_wp2
              all_goals go_ret
              all_goals exact ⟨rfl, HB7.out⟩
            · subst hz
              have n1 : (z3 == 0) = false := beq_eq_false_iff_ne.2 hz3
              have n2 : (z3 != 0) = true := by simp [bne, n1]
              go_wp2
              all_goals go_ret
              all_goals exact ⟨rfl, HB7.out⟩
          · have n1 : (z1 == 0) = false := beq_eq_false_iff_ne.2 hz
            have n2 : (z1 != 0) = true := by simp [bne, n1]
            go_wp2
            all_goals go_ret
            all_goals exact ⟨rfl, HB7.out⟩
    · have hi1 : i < 0 ∨ (0 ≤ i ∧ (c.ts.length : Int) ≤ i) := by omega
      rcases hi1 with h | ⟨h, h'⟩
      · have i1 : decide (i < 0) = true := decide_eq_true h
        clear hi h
        go_wp2
        go_ret
        exact ⟨rfl, HBF.out⟩
      · have i1 : decide (i < 0) = false := decide_eq_false (by omega)
        have i2 : decide ((c.ts.length : Int) ≤ i) = true := decide_eq_true h'
        clear hi h h'
        go_wp2
        go_ret
        exact ⟨rfl, HBF.out⟩
  · have HPUT := Kept.mk (hP0.mono (R' := fun e w' => e = .returned (.tuple #[.string (BA (linesT [])), .int .i64 2]) ∧ Below W1.heap.size W1 w') (fun e w' h => by
      rcases h with ⟨h1, ⟨h2, _⟩ | ⟨_, h2⟩⟩
      · exact absurd h2 hok
      · exact ⟨h2, h1⟩))
    clear hP0 hok
    rw [hW1] at HPUT
    have e0 : linesT [] = [] := rfl
    rw [e0] at HPUT
    go_enter Tryd.func4, Tryd.ntmps4
    go_wp2_with (first | (go_at_call 5; refine (begins_any _).mono ?_; rintro e w' ⟨rfl, rfl⟩) | (go_at_call 11; refine HPUT.out.mono ?_; rintro e w2 ⟨rfl, hb2⟩; refine Hid.out ?_))
    refine Lib.hid ?_
    rw [← hW1] at hb2
    clear hW1 HPUT
    have B2 := HB1.out.trans (hb2.mono HB1.out.size)
    have HG2 := Kept.mk ((get_any c [] (.inr rfl) w2 (HEN.out w2 B2)).mono (R' := fun e w' => e = .returned (.tuple #[.agg #[.int .i64 0, .int .i64 0, .int .i64 0, .slice none 0 0, .slice none 0 0, .slice none 0 0], .int .i64 1, .int .i64 8]) ∧ Below w2.heap.size w2 w') (fun e w' h => by
      rcases h with ⟨h1, ⟨h2, _⟩ | ⟨_, h2⟩⟩
      · unfold cfgL at h2
        cases h2
      · exact ⟨h2, h1⟩))
    rw [e0] at HG2
    go_wp2_with (go_at_call 12; refine HG2.out.mono ?_; rintro e w3 ⟨rfl, hb3⟩; refine Hid.out ?_)
    refine Lib.hid ?_
    have B3 := B2.trans (hb3.mono B2.size)
    clear HG2 hb3 hb2
    go_wp2
    go_ret
    exact ⟨rfl, B3.alloc B3.size _⟩
end Go.Proofs.YtfneloplbkjbhaaDoor
