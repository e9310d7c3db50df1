/-
  A configuration is read again: a line's words; the reader.
-/
import Derived.Test.YtfneloplbkjbhaaDoorTP
import Derived.RangeFuncOwn
namespace Go.Proofs.YtfneloplbkjbhaaDoor
open Go.RowKit Go.Shelf
open Go.Lib (byteCells itoa countB splitB)
set_option linter.unusedVariables false
/-- Words behind blanks. -/
def blanks (r : List (List UInt8)) : List UInt8 := r.flatMap (32 :: ·)
theorem split_words : ∀ (r : List (List UInt8)) (a : List UInt8), (32 : UInt8) ∉ a → (∀ x ∈ r, (32 : UInt8) ∉ x) → countB (BA (a ++ blanks r)) (BA [32]) = r.length ∧ splitB (BA [32]) 0 r.length (BA (a ++ blanks r)) = (a :: r).map BA
  | [], a, ha, _ => by
    have e : a ++ blanks [] = a := by simp [blanks]
    rw [e]
    exact ⟨(split_none ha).1, (split_none ha).2 _⟩
  | b :: r, a, ha, hr => by
    have e : a ++ blanks (b :: r) = a ++ 32 :: (b ++ blanks r) := by simp [blanks]
    obtain ⟨h1, h2⟩ := split_words r b (hr b (by simp)) (fun x hx => hr x (by simp [hx]))
    obtain ⟨s1, s2⟩ := split_hit (r := b ++ blanks r) ha
    rw [e, List.length_cons]
    exact ⟨by rw [s1, h1]; omega, by rw [s2, h2]; rfl⟩
theorem nums_blanks (ns : List Int) : numsL ns = blanks (ns.map itoa) := by
  unfold numsL blanks
  rw [List.flatMap_map]
theorem blanks_app (r s : List (List UInt8)) : blanks (r ++ s) = blanks r ++ blanks s := by unfold blanks; rw [List.flatMap_append]
theorem nums_no {ns : List Int} (h : ∀ n ∈ ns, TN n) : ∀ x ∈ ns.map itoa, (32 : UInt8) ∉ x := by
  intro x hx
  obtain ⟨n, hn, rfl⟩ := List.mem_map.1 hx
  exact itoa_no (h n hn).1 (by decide)
theorem split_line (a : List UInt8) (r : List (List UInt8)) (n : Nat) (w : World) (hn : r.length + 1 = n) (ha : (32 : UInt8) ∉ a) (hr : ∀ x ∈ r, (32 : UInt8) ∉ x) (hl : (a ++ blanks r).length ≤ 65536) (hm : ∃ m, w.cell? ⟨1, 0, none⟩ = some (.int .i64 m)) :
    Calls Tryd.prog 38 #[.string (BA (a ++ blanks r)), .string ⟨#[32]⟩] w fun e w' => e = .returned (.slice (some ⟨w.heap.size, 0, none⟩) n n) ∧ w' = w.alloc (.cells ((a :: r).map fun s => Value.string (BA s)).toArray 9) := by
  obtain ⟨m, hm⟩ := hm
  obtain ⟨h1, h2⟩ := split_words r a ha hr
  have h := strings_Split (BA (a ++ blanks r)) (BA [32]) m w (by rw [BA_size]; omega) hm (by rw [BA_size]; decide)
  rw [h1, h2, hn, List.map_map] at h
  exact h
/-! The lines' words. -/
theorem l1_words (mn mx : Int) : l1T mn mx = wT ++ blanks [itoa mn, itoa mx] := by unfold l1T; rw [nums_blanks]; rfl
theorem l2_words (sw : Int) : l2T sw = wS ++ blanks [itoa sw] := by unfold l2T; rw [nums_blanks]; rfl
theorem tk_words (t : Tk) : tkT t = tkWord t ++ blanks (if t.g < 0 then tkW t else tkL t) := by
  unfold tkT
  rw [nums_blanks, nums_blanks]
  by_cases h : t.g < 0
  · rw [if_pos h, if_pos h, List.append_nil]
    rfl
  · rw [if_neg h, if_neg h]
    unfold tkL
    rw [blanks_app, List.append_assoc]
    rfl
theorem sv_words (x y : Q4) : svT x y = wL ++ blanks ((svNums x y).map itoa) := by unfold svT; rw [nums_blanks]
/-- Blocks below B but g stay, and whatever is no cells. -/
structure FX (B g : Nat) (w w' : World) : Prop where
  os : w'.os = w.os
  tape : w'.tape = w.tape
  output : w'.output = w.output
  size : w.heap.size ≤ w'.heap.size
  block : ∀ i, i < B → i ≠ g → w'.heap[i]? = w.heap[i]?
  others : KeepsOthers w w'
theorem FX.refl (B g : Nat) (w : World) : FX B g w w := ⟨rfl, rfl, rfl, Nat.le_refl _, fun _ _ _ => rfl, KeepsOthers.refl w⟩
theorem FX.trans {B g : Nat} {a b c : World} (h : FX B g a b) (k : FX B g b c) : FX B g a c :=
  ⟨k.os.trans h.os, k.tape.trans h.tape, k.output.trans h.output, Nat.le_trans h.size k.size, fun i hi hn => (k.block i hi hn).trans (h.block i hi hn), h.others.trans k.others⟩
theorem FX.below {B g : Nat} {w w' : World} (h : FX B g w w') (hg : g ≤ B) : Below g w w' :=
  ⟨h.os, h.tape, h.output, h.size, fun i hi => h.block i (by omega) (by omega)⟩
theorem FX.of_gb {B g : Nat} {w w' : World} {r : Option Nat} (h : w.grownBy w' r) (hB : B ≤ w.heap.size) (hr : ∀ k, r = some k → B ≤ k ∨ k = g) (hc : ∀ (j : Nat) (o : Obj), r = some j → w.heap[j]? = some o → o.isCells = true) : FX B g w w' :=
  ⟨h.os, h.tape, h.output, h.size, fun i hi hn => h.block i (by omega) (fun e => by rcases hr i e.symm with h | h <;> omega), KeepsOthers.of_grownBy h hc⟩
theorem FX.of_new {B g gw : Nat} {w w' : World} (h : w.grownBy w' (some gw)) (hB : B ≤ w.heap.size) (hg : w.heap.size ≤ gw) : FX B g w w' :=
  FX.of_gb h hB (fun k hk => by injection hk with hk; omega) (fun j o hj ho => by injection hj with hj; have := (Array.getElem?_eq_some_iff.1 ho).1; omega)
theorem FX.of_below {B g : Nat} {w w' : World} (h : Below w.heap.size w w') (hB : B ≤ w.heap.size) : FX B g w w' :=
  FX.of_gb (r := none) ⟨h.os, h.tape, h.output, h.size, fun i hi _ => h.block i hi⟩ hB (fun _ hk => by cases hk) (fun _ _ hj => by cases hj)
theorem FX.set (B g k : Nat) (w : World) (v : Value) : FX B g w (w.setCell ⟨g, k, none⟩ v) := ⟨rfl, rfl, rfl, by simp, fun i hi hn => heap_setCell_other w ⟨g, k, none⟩ i v hn, KeepsOthers.setCell w _ v⟩
def Tk.cells (t : Tk) : List Value := [.int .u8 t.k, .int .i64 t.p, .int .i64 t.b, .int .i64 t.c, .int .i64 t.d, .int .i64 t.e, .int .i64 t.f, .int .i64 t.g, .int .i64 t.h, .int .i64 t.i]
/-- What has been read: the timing, the switch, the tasks, the lines and threads, how many lines. -/
structure Rd where
  mn : Int
  mx : Int
  sw : Int
  ts : List Tk
  ls : List Q4
  hs : List Q4
  at' : Int
/-- The reader. -/
structure RD (B g : Nat) (d : Rd) (vt vl vh : Value) (w : World) : Prop where
  me : w.heap[g]? = some (.cells #[.int .i64 d.mn, .int .i64 d.mx, .int .i64 d.sw, vt, vl, vh, .int .i64 d.at'] 85 (0, 0))
  ot : w.ownsRow B 54 10 vt d.ts.length (d.ts.flatMap Tk.cells)
  ol : w.ownsRow B 79 4 vl d.ls.length (d.ls.flatMap Q4.cells)
  oh : w.ownsRow B 82 4 vh d.hs.length (d.hs.flatMap Q4.cells)
theorem RD.lt {B g : Nat} {d : Rd} {vt vl vh : Value} {w : World} (h : RD B g d vt vl vh w) : g < w.heap.size := (Array.getElem?_eq_some_iff.1 h.me).1
/-- Whatever leaves the reader and its rows alone. -/
theorem RD.on {B g gw : Nat} {d : Rd} {vt vl vh : Value} {w w' : World} (h : RD B g d vt vl vh w) (hb : w.grownBy w' (some gw)) (hg : w.heap.size ≤ gw) : RD B g d vt vl vh w' := by
  have ne : ∀ {v : Value} {e : TypeId} {sz n : Nat} {xs : List Value}, w.ownsRow B e sz v n xs → v.ownBlock = none ∨ v.ownBlock ≠ some gw := fun {v e sz n xs} ho => by
    cases hv : v.ownBlock with
    | none => exact .inl rfl
    | some j => right; intro e; have := (ho.lt j hv).2; injection e with e; omega
  exact ⟨(hb.block g h.lt (by intro e; injection e with e; have := h.lt; omega)).trans h.me, h.ot.kept hb (ne h.ot), h.ol.kept hb (ne h.ol), h.oh.kept hb (ne h.oh)⟩
theorem RD.below {B g : Nat} {d : Rd} {vt vl vh : Value} {w w' : World} (h : RD B g d vt vl vh w) (hb : Below w.heap.size w w') : RD B g d vt vl vh w' :=
  ⟨(hb.block g h.lt).trans h.me, own_below h.ot hb, own_below h.ol hb, own_below h.oh hb⟩
theorem RD.at {B g : Nat} {d : Rd} {vt vl vh : Value} {w : World} (h : RD B g d vt vl vh w) {i : Nat} {v : Value} (hv : #[Value.int .i64 d.mn, .int .i64 d.mx, .int .i64 d.sw, vt, vl, vh, .int .i64 d.at'][i]? = some v) : w.cell? ⟨g, i, none⟩ = some v ∧ w.frozen? ⟨g, i, none⟩ = false :=
  ⟨(cell_of_row _ _ i _ _ _ h.me).trans hv, by simp [World.frozen?, h.me]⟩
end Go.Proofs.YtfneloplbkjbhaaDoor
