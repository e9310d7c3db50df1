/-
  A configuration as text: told; a line's words, read one by one.
-/
import Derived.Test.YtfneloplbkjbhaaDoorGU
namespace Go.Proofs.YtfneloplbkjbhaaDoor
open Go.RowKit Go.Shelf
open Go.Lib (byteCells itoa)
set_option linter.unusedVariables false
/-- What the walks read of the package's variables. -/
structure EnvS (B : Nat) (w : World) : Prop where
  pow : PowB B w
  mx : ∃ m, w.cell? ⟨1, 0, none⟩ = some (.int .i64 m)
  b2 : 1 < B
theorem EnvS.on {B : Nat} {w w' : World} (h : EnvS B w) (hb : Below B w w') : EnvS B w' :=
  ⟨h.pow.on hb, by obtain ⟨m, hm⟩ := h.mx; exact ⟨m, (hb.cell (p := ⟨1, 0, none⟩) h.b2).trans hm⟩, h.b2⟩
theorem EnvS.mono {B B' : Nat} {w : World} (h : EnvS B w) (hB : B ≤ B') : EnvS B' w :=
  ⟨fun w' hb => h.pow w' (hb.mono hB), h.mx, by have := h.b2; omega⟩
def toldB (l : List Int) : Bool := l.all timeB
set_option maxHeartbeats 1600000 in
theorem told_any (A : Option Addr) (cap : Nat) (xs : List Int) (w : World) (h : Ints w w.heap.size A xs) (hl : xs.length ≤ 65536) :
    Calls Tryd.prog 42 #[.slice A xs.length cap] w fun e w' => e = .returned (.bool (toldB xs)) ∧ w = w' := by
  go_enter Tryd.func42, Tryd.ntmps42
  go_wp2
  go_loop [7] (fun t => ∃ k : Nat, k ≤ xs.length ∧ t = .int .i64 k ∧ toldB xs = toldB (xs.drop k)) (fun t => xs.length - (intOf t).toNat)
  case atStart => exact ⟨0, by omega, rfl, by simp⟩
  case round =>
    obtain ⟨k, hk, rfl, hs⟩ := hrel
    by_cases hlt : k < xs.length
    · obtain ⟨b, off, rfl, hbB, hc⟩ := h (by omega)
      have hcell := hc k hlt
      rw [drop_cons hlt] at hs
      obtain ⟨x, hx⟩ : ∃ x, x = xs[k]?.getD 0 := ⟨_, rfl⟩
      rw [← hx] at hs hcell
      have ik : (k : Int) < (xs.length : Int) := by omega
      have HS := Lib.hid hs
      clear hs hx hc
      by_cases h1 : x < 0
      · go_wp2
        go_ret
        exact ⟨ret_bool (by rw [HS.out]; simp [toldB, timeB]; omega), rfl⟩
      · by_cases h2 : 4503599627370496 < x
        · go_wp2
          go_ret
          exact ⟨ret_bool (by rw [HS.out]; simp [toldB, timeB]; omega), rfl⟩
        · go_wp2
          go_round
          case rel => exact ⟨k + 1, by omega, by go_num, by rw [HS.out]; unfold toldB; rw [List.all_cons, show timeB x = true from by simp [timeB]; omega]; rfl⟩
          case measure => simp [intOf]; omega
    · have HS := Lib.hid hs
      clear hs
      go_wp2
      go_ret
      exact ⟨ret_bool (by rw [HS.out, List.drop_eq_nil_of_le (by omega)]; rfl), rfl⟩
/-! Frames that leave one block out. -/
theorem gb_refl (w : World) (r : Option Nat) : w.grownBy w r := ⟨rfl, rfl, rfl, Nat.le_refl _, fun _ _ _ => rfl⟩
theorem gb_trans {a b c : World} {r : Option Nat} (h : a.grownBy b r) (k : b.grownBy c r) : a.grownBy c r :=
  ⟨k.os.trans h.os, k.tape.trans h.tape, k.output.trans h.output, Nat.le_trans h.size k.size, fun i hi hn => (k.block i (Nat.lt_of_lt_of_le hi h.size) hn).trans (h.block i hi hn)⟩
theorem gb_below {a b : World} (h : Below a.heap.size a b) (r : Option Nat) : a.grownBy b r := ⟨h.os, h.tape, h.output, h.size, fun i hi _ => h.block i hi⟩
theorem gb_set (w : World) (g k : Nat) (v : Value) : w.grownBy (w.setCell ⟨g, k, none⟩ v) (some g) :=
  ⟨rfl, rfl, rfl, by simp, fun i hi hn => heap_setCell_other w ⟨g, k, none⟩ i v (fun e => hn (by rw [e]))⟩
/-- The words of a line, read up to place o: their row in block K, the reader's own block g. -/
structure WS (g K : Nat) (ss : List (List UInt8)) (o : Nat) (bad : Bool) (w : World) : Prop where
  me : ∃ a, (o < ss.length → a = some (⟨K, o, none⟩ : Addr)) ∧ w.heap[g]? = some (.cells #[.slice a (ss.length - o) (ss.length - o), .bool bad] 106 (0, 0))
  row : w.heap[K]? = some (.cells (ss.map fun s => Value.string (BA s)).toArray 9 (0, 0))
  ne : g ≠ K
theorem WS.lt {g K : Nat} {ss : List (List UInt8)} {o : Nat} {bad : Bool} {w : World} (h : WS g K ss o bad w) : g < w.heap.size := by
  obtain ⟨a, _, h1⟩ := h.me
  exact (Array.getElem?_eq_some_iff.1 h1).1
theorem WS.on {g K : Nat} {ss : List (List UInt8)} {o : Nat} {bad : Bool} {w w' : World} (h : WS g K ss o bad w) (hb : Below w.heap.size w w') : WS g K ss o bad w' := by
  obtain ⟨a, h0, h1⟩ := h.me
  exact ⟨⟨a, h0, (hb.block g h.lt).trans h1⟩, (hb.block K (Array.getElem?_eq_some_iff.1 h.row).1).trans h.row, h.ne⟩
theorem WS.step {g K : Nat} {ss : List (List UInt8)} {o : Nat} {bad : Bool} {w : World} (h : WS g K ss o bad w) (a' : Option Addr) (h' : o + 1 < ss.length → a' = some ⟨K, o + 1, none⟩) (m : Nat) (hm : m = ss.length - (o + 1)) : WS g K ss (o + 1) bad (w.setCell ⟨g, 0, none⟩ (.slice a' m m)) := by
  subst hm
  obtain ⟨a, h0, h1⟩ := h.me
  exact ⟨⟨a', h', set_at h1 _⟩, (heap_setCell_other w ⟨g, 0, none⟩ K _ (fun e => h.ne e.symm)).trans h.row, h.ne⟩
set_option maxHeartbeats 1600000 in
theorem next_any (g K : Nat) (ss : List (List UInt8)) (o : Nat) (bad : Bool) (s : List UInt8) (w : World) (h : WS g K ss o bad w) (hs : ss[o]? = some s) (hl : ss.length ≤ 65536) :
    Calls Tryd.prog 45 #[.pointer (some ⟨g, 0, none⟩)] w fun e w' => e = .returned (.string (BA s)) ∧ WS g K ss (o + 1) bad w' ∧ w.grownBy w' (some g) := by
  have ho : o < ss.length := (List.getElem?_eq_some_iff.1 hs).1
  obtain ⟨a, ha, hme⟩ := h.me
  obtain rfl := ha ho
  have c0 : w.cell? ⟨g, 0, none⟩ = some (.slice (some ⟨K, o, none⟩) (ss.length - o) (ss.length - o)) := cell_of_row _ _ 0 _ _ _ hme
  have f0 : w.frozen? ⟨g, 0, none⟩ = false := by simp [World.frozen?, hme]
  have c1 : w.cell? ⟨K, o, none⟩ = some (.string (BA s)) := by
    rw [cell_of_row _ _ o _ _ _ h.row]
    simp [hs]
  have HW := Kept.mk h.step
  clear h hs hme ha
  obtain ⟨m, hm⟩ : ∃ m, m = ss.length - (o + 1) := ⟨_, rfl⟩
  have hm1 : ss.length - o = m + 1 := by omega
  rw [hm1] at c0
  have mb : m + 1 ≤ 65536 := by omega
  have HM := Kept.mk (show m = ss.length - (o + 1) ∧ (m = 0 → ¬ o + 1 < ss.length) from ⟨hm, by omega⟩)
  clear hm hm1 ho hl
  rcases Nat.eq_zero_or_pos m with rfl | hpos
  · go_enter Tryd.func45, Tryd.ntmps45
    go_wp2
    go_ret
    exact ⟨rfl, HW.out _ (fun hx => absurd hx (by have := HM.out.1; omega)) 0 HM.out.1, gb_set _ _ _ _⟩
  · go_enter Tryd.func45, Tryd.ntmps45
    go_wp2
    go_ret
    exact ⟨rfl, HW.out _ (fun _ => rfl) m HM.out.1, gb_set _ _ _ _⟩
theorem gb_bel {w w' : World} {g B : Nat} (h : w.grownBy w' (some g)) (hB : B ≤ g) (hw : B ≤ w.heap.size) : Below B w w' :=
  (Below.refl B w).grown h hw (fun k hk => by obtain rfl := Option.some.inj hk; exact hB)
set_option maxHeartbeats 3200000 in
theorem num_any (g K : Nat) (ss : List (List UInt8)) (o : Nat) (bad : Bool) (n : Int) (B : Nat) (w : World) (h : WS g K ss o bad w) (hs : ss[o]? = some (itoa n)) (hl : ss.length ≤ 65536) (h0 : 0 ≤ n) (h1 : n ≤ 4503599627370496) (EN : EnvS B w) (hB : B ≤ g) :
    Calls Tryd.prog 46 #[.pointer (some ⟨g, 0, none⟩)] w fun e w' => e = .returned (.int .i64 n) ∧ WS g K ss (o + 1) bad w' ∧ w.grownBy w' (some g) := by
  have hgl := h.lt
  have HN := Kept.mk (next_any g K ss o bad (itoa n) w h hs hl)
  have hsz : (BA (itoa n)).size ≤ 9223372036854775806 := by rw [BA_size]; have := Lib.itoa_length_le n (by omega) (by omega); omega
  have HP := Kept.mk (strconv_ParseInt_10_at64_ok (BA (itoa n)) hsz n (parse_itoa h0 h1))
  have HEN := Kept.mk EN
  have ht : toldB [n] = true := by simp [toldB, timeB]; omega
  clear h hs EN
  go_enter Tryd.func46, Tryd.ntmps46
  go_wp2_with (go_at_call 45; refine HN.out.mono ?_; rintro e w1 ⟨rfl, hw1, hg1⟩; refine Hid.out ?_)
  refine Lib.hid ?_
  have hb1 : Below B w w1 := gb_bel hg1 hB (by omega)
  go_wp2_with (go_at_call 54; refine (HP.out _).mono ?_; rintro e w2 ⟨rfl, hw2⟩; refine Hid.out ?_)
  refine Lib.hid ?_
  have hb2 : Below w1.heap.size w1 w2 := by rcases hw2 with rfl | ⟨t, rfl⟩ <;> first | exact Below.refl _ _ | exact Lib.bytesWorld_below _ _ _
  clear hw2
  have sB : B ≤ w1.heap.size := by have := hb1.size; omega
  have E2 := ((HEN.out.on hb1).mono sB).on hb2
  have W2 := hw1.on hb2
  have G2 := gb_trans hg1 (gb_below hb2 (some g))
  have s2 := hb2.size
  have hI : ∀ (U : World) (K2 : Nat), U.cell? ⟨K2, 0, none⟩ = some (.int .i64 n) → K2 < U.heap.size → Ints U U.heap.size (some ⟨K2, 0, none⟩) [n] := fun U K2 hc hlt _ => ⟨K2, 0, rfl, hlt, fun j hj => by
    have : j = 0 := by simpa using hj
    subst this
    simpa using hc⟩
  have b3 := below_box w2 (.cells #[.int .i64 n] 2)
  have HTOLD := Kept.mk (told_any (some ⟨w2.heap.size, 0, none⟩) 1 [n] (w2.alloc (.cells #[.int .i64 n] 2)) (hI _ _ (cell_of_row _ _ 0 _ _ _ (heap_alloc_new w2 _)) (by simp)) (by simp))
  rw [ht] at HTOLD
  have E3 := ((E2.on (b3.mono s2)).mono (B' := (w2.alloc (.cells #[.int .i64 n] 2)).heap.size) (by simp; omega))
  have W3 := W2.on b3
  have G3 := gb_trans G2 (gb_below b3 (some g))
  have HT3 := Kept.mk E3.pow
  clear hb1 hb2 hg1 hw1 E2 E3 W2 G2 hI ht b3
  go_wp2_with (first | (go_at_call 42; refine HTOLD.out.mono ?_; rintro e w4 ⟨rfl, rfl⟩) | (go_at_call 36; refine (strconv_AppendInt_10 _ 0 n (by omega) (by omega) (.slice none 0 0) [] _ (World.ownsRow_nil _ _ _ _) (Nat.le_refl _) (by omega) HT3.out).mono ?_; rintro e w5 ⟨v5, rfl, hown5, hb5, -⟩; obtain ⟨g5, c5, rfl, hcv⟩ := own_conv hown5 rfl rfl h0))
  go_ret
  exact ⟨rfl, W3.on hb5, gb_trans G3 (gb_below hb5 _)⟩
end Go.Proofs.YtfneloplbkjbhaaDoor
