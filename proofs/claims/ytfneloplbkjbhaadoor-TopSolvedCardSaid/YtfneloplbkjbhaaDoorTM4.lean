/-
  Marks' text.
-/
import Derived.Test.YtfneloplbkjbhaaDoorTM3
import Derived.Test.YtfneloplbkjbhaaDoorP0
namespace Go.Proofs.YtfneloplbkjbhaaDoor
open Go.RowKit Go.Shelf
open Go.Lib (byteCells itoa)
set_option linter.unusedVariables false
theorem OB.snoc {B : Nat} {w0 w w1 : World} {v v1 : Value} {l : List UInt8} (h : OB B w v l) (hb : Below B w0 w) (hB : B ≤ w0.heap.size) {o : Obj} {x : UInt8} {n : Nat} {ys : List Value} (h1 : w1.ownsRow B 5 1 v1 n ys) (hn : n = l.length + 1) (hy : ys = byteCells l ++ [.int .u8 x.toNat]) (hg : (w.alloc o).grownBy w1 v.ownBlock) : OB B w1 v1 (l ++ [x]) ∧ Below B w0 w1 := by
  subst hn hy
  have hs := hb.size
  exact ⟨by unfold OB; rw [List.length_append, Lib.byteCells_append]; exact h1, (hb.alloc (by omega) o).grown hg (by simp; omega) (fun k hk => (World.ownsRow.lt h k hk).1)⟩
theorem OB.nil (B : Nat) (w : World) : OB B w (.slice none 0 0) [] := World.ownsRow_nil _ _ _ _
theorem OB.cases {B : Nat} {w : World} {v : Value} {l : List UInt8} (h : OB B w v l) : (v = .slice none 0 0 ∧ l = []) ∨ ∃ g cap, v = .slice (some ⟨g, 0, none⟩) l.length cap ∧ ∀ j (hj : j < l.length), w.cell? ((⟨g, 0, none⟩ : Addr).add j) = some (.int .u8 (l[j].toNat : Int)) := by
  rcases h.2 with ⟨h1, h2⟩ | ⟨g, cap, cur, h1, _⟩
  · exact .inl ⟨h1, List.eq_nil_of_length_eq_zero h2⟩
  · subst h1
    exact .inr ⟨g, cap, rfl, fun j hj => World.ownsRow.cells h (g := g) rfl j _ (by simp [byteCells, hj])⟩
theorem text_take {l : List QM} {k : Nat} {q : QM} (h : l[k]? = some q) : textL (l.take (k + 1)) = textL (l.take k) ++ lineL q ++ [10] := by
  rw [List.take_add_one, h]
  simp only [Option.toList_some]
  rw [text_snoc, List.append_assoc]
/-- Is each mark right? -/
def okL (l : List QM) : Prop := ∀ q ∈ l, okM q
theorem okL_take {l : List QM} {k : Nat} {q : QM} (h : l[k]? = some q) (h1 : okL (l.take k)) (h2 : okM q) : okL (l.take (k + 1)) := by
  intro x hx
  rw [List.take_add_one, h] at hx
  simp only [Option.toList_some, List.mem_append, List.mem_singleton] at hx
  rcases hx with hx | rfl
  · exact h1 x hx
  · exact h2
def TxtRes (w : World) (ms : List QM) (e : Ending) (w' : World) : Prop :=
  Below w.heap.size w w' ∧ ((okL ms ∧ e = .returned (.tuple #[.string (BA (textL ms)), .int .i64 0])) ∨ (¬ okL ms ∧ e = .returned (.tuple #[.string ⟨#[]⟩, .int .i64 2])))
set_option maxHeartbeats 6400000 in
set_option maxRecDepth 100000 in
theorem text_any (A : Option Addr) (ms : List QM) (cap : Nat) (w : World) (hms : RM w w.heap.size A ms) (hl : ms.length ≤ 65536) (hT : PowB w.heap.size w) (hW : Wrd w) (h0 : 0 < w.heap.size) :
    Calls Tryd.prog 6 #[.slice A ms.length cap] w (TxtRes w ms) := by
  have HI := Kept.mk hms
  obtain ⟨i0, hi, hz0, hz1, hz2⟩ := info_parts byteInfo
  clear hms
  go_enter Tryd.func6, Tryd.ntmps6
  go_wp2
  go_loopw [4, 12] (fun u t wr => ∃ (k : Nat) (v : Value), k ≤ ms.length ∧ t = .int .i64 k ∧ u = v ∧ OB w.heap.size wr v (textL (ms.take k)) ∧ Kept (okL (ms.take k)) ∧ Below w.heap.size w wr) (fun _ t _ => ms.length - (intOf t).toNat)
  case atStart => exact ⟨0, _, by omega, rfl, rfl, OB.nil _ _, ⟨fun q hq => by simp at hq⟩, Below.refl _ _⟩
  case round =>
    obtain ⟨k, v, hk, rfl, rfl, hO, hA, hb⟩ := hrel
    have hsz := hb.size
    by_cases hlt : k < ms.length
    · obtain ⟨b, off, rfl, hbB, hc⟩ := (HI.out.below hb) (by omega)
      obtain ⟨m, hm⟩ := some_atM hlt
      obtain ⟨e1, e2, e3, e4⟩ := hc k m hm
      have ik : (k : Int) < (ms.length : Int) := by omega
      have HM := Kept.mk hm
      have HC := Kept.mk hc
      clear hm hc
      by_cases hok : okM m
      · have hokb : okMB m = true := decide_eq_true hok
        have HOK := Kept.mk hok
        have n0 : (textL (ms.take k)).length ≤ 4915200 := by
          have := text_len hA.out
          have := List.length_take_le k ms
          omega
        clear hok
        obtain ⟨ma, mb, mc, md⟩ := m
        simp only at e1 e2 e3 e4
        go_wp2_with (first | (go_at_call 16; refine (tmright_any ⟨ma, mb, mc, md⟩ _).mono ?_; rintro ee w1 ⟨rfl, hb1⟩; have q0 := box_cell hb1 0 _ rfl; have q1 := box_cell hb1 1 _ rfl; have q2 := box_cell hb1 2 _ rfl; have q3 := box_cell hb1 3 _ rfl; have B1 := (hb.alloc hsz _).trans (hb1.mono (by simp; omega)); have O1 := own_below (World.ownsRow.alloc hO _) hb1) | (go_at_call 17; refine (put_any w.heap.size _ (textL (ms.take k)) ⟨ma, mb, mc, md⟩ w1 HOK.out O1 h0 B1.size (by omega) (hT.on B1) (hW.below h0 B1)).mono ?_; rintro ee w2 ⟨v2, rfl, O2, hb2⟩; refine Hid.out ?_))
        refine Lib.hid ?_
        have B2 := B1.trans hb2
        have n1 : (textL (ms.take k) ++ lineL ⟨ma, mb, mc, md⟩).length ≤ 4916000 := by
          have := line_len HOK.out
          rw [List.length_append]; omega
        have O2' : w2.ownsRow w.heap.size 5 1 v2 _ _ := O2
        go_wp2_with (at_builtin; refine wpList_append_own _ rfl _ _ 62 rfl w.heap.size 5 i0 (.int .u8 0) 1 1 Tryd.underlying62 hi hz0 hz1 hz2 rfl (by decide) _ _ _ rfl (World.ownsRow.alloc O2' _) ⟨_, 0, none⟩ 1 1 [Value.int .u8 10] rfl rfl (by intro j u' hj; match j, hj with | 0, hj => simp at hj; subst hj; simp [Addr.add]) (by intro u' hu'; simp at hu'; subst hu'; rfl) (by simp only [maxLen]; omega) (by omega) (by have := B2.size; simp; omega) ?_)
        intro v3 w3 hown3 hg3 _
        obtain ⟨O3, B3⟩ := O2.snoc B2 (Nat.le_refl _) (x := 10) hown3 (by simp <;> omega) (by first | rfl | simp) hg3
        rw [← text_take HM.out] at O3
        clear hown3 hg3 O2' O2 n1
        go_wp2
        go_roundw
        case rel => exact ⟨k + 1, v3, by omega, by go_num, rfl, O3, ⟨okL_take HM.out hA.out HOK.out⟩, B3⟩
        case measure => simp [intOf]; omega
      · have hokb : okMB m = false := decide_eq_false hok
        have HOK := Kept.mk hok
        clear hok
        obtain ⟨ma, mb, mc, md⟩ := m
        simp only at e1 e2 e3 e4
        go_wp2_with (first | (go_at_call 16; refine (tmright_any ⟨ma, mb, mc, md⟩ _).mono ?_; rintro ee w1 ⟨rfl, hb1⟩; have B1 := (hb.alloc hsz _).trans (hb1.mono (by simp; omega))))
        go_ret2
        exact ⟨B1, .inr ⟨fun h => HOK.out (h _ (List.mem_of_getElem? HM.out)), rfl⟩⟩
    · have e0 : ms.take k = ms := List.take_of_length_le (by omega)
      rw [e0] at hO hA
      obtain ⟨l, hl'⟩ : ∃ l, l = textL ms := ⟨_, rfl⟩
      rw [← hl'] at hO
      have HL := Lib.hid hl'
      clear hl' e0
      rcases hO.cases with ⟨rfl, h2⟩ | ⟨g, cp, rfl, hcell⟩
      · have H2 := Lib.hid h2
        clear h2
        have hcv : (convert 62 9 (.slice none 0 0)).run Tryd.prog wr = .ok (.string ⟨#[]⟩) wr := by
          rw [run_convert_bytes_string wr 62 9 5 none 0 0 Tryd.underlying62 Tryd.underlying5 Tryd.underlying9]
          rfl
        go_wp2
        go_ret2
        refine ⟨hb, .inl ⟨hA.out, ?_⟩⟩
        rw [← HL.out, H2.out]
        rfl
      · have hcv := run_convert_bytes_back (P := Tryd.prog) wr 62 9 5 ⟨g, 0, none⟩ cp l Tryd.underlying62 Tryd.underlying5 Tryd.underlying9 hcell
        go_wp2
        clear hcv hcell
        go_ret2
        refine ⟨hb, .inl ⟨hA.out, ?_⟩⟩
        rw [← HL.out]
        rfl
end Go.Proofs.YtfneloplbkjbhaaDoor
