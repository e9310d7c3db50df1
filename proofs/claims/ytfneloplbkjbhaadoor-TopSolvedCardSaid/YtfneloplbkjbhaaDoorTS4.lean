/-
  A configuration as text: a word and numbers behind bytes.
-/
import Derived.Test.YtfneloplbkjbhaaDoorTS3
import Derived.Test.YtfneloplbkjbhaaDoorTA
namespace Go.Proofs.YtfneloplbkjbhaaDoor
open Go.RowKit Go.Shelf
open Go.Lib (byteCells itoa)
set_option linter.unusedVariables false
/-- Every block that is no row of bytes that begins with a 't' stays as it was. -/
def KO (w w' : World) : Prop := ∀ (K : Nat) (cs : Array Value) (T : TypeId), (T ≠ 5 ∨ cs[0]? ≠ some (.int .u8 116)) → w.heap[K]? = some (.cells cs T (0, 0)) → w'.heap[K]? = some (.cells cs T (0, 0))
theorem KO.refl (w : World) : KO w w := fun _ _ _ _ h => h
theorem KO.trans {a b c : World} (h : KO a b) (k : KO b c) : KO a c := fun K cs T hc hk => k K cs T hc (h K cs T hc hk)
theorem KO.of_below {w w' : World} (h : Below w.heap.size w w') : KO w w' := fun K cs T _ hk => (h.block K (Array.getElem?_eq_some_iff.1 hk).1).trans hk
/-- Where the row that grows does not lie. -/
theorem own_ne2 {w : World} {B : Nat} {v : Value} {l : List UInt8} (h : OB B w v l) (hd : v.ownBlock = none ∨ l.head? = some 116) {K : Nat} {cs : Array Value} {T : TypeId} (hc : T ≠ 5 ∨ cs[0]? ≠ some (.int .u8 116)) (hK : w.heap[K]? = some (.cells cs T (0, 0))) : some K ≠ v.ownBlock := by
  rcases hc with hc | hc
  · exact own_ne h hK hc
  · intro e1
    rcases hd with hd | hd
    · rw [hd] at e1; cases e1
    · rcases OB.cases h with ⟨rfl, _⟩ | ⟨g, cap, rfl, hcell⟩
      · cases e1
      · simp only [Value.ownBlock, Option.some.injEq] at e1
        subst e1
        cases l with
        | nil => cases hd
        | cons x r =>
          simp only [List.head?_cons, Option.some.injEq] at hd
          subst hd
          have h0 := hcell 0 (by simp)
          have h1 := cell_of_row _ _ 0 _ _ _ hK
          have e0 : (⟨K, 0, none⟩ : Addr).add 0 = ⟨K, 0, none⟩ := rfl
          rw [e0, h1] at h0
          exact hc (by simpa using h0)
/-- A row that grows. -/
structure PG (B : Nat) (w0 w : World) (v : Value) (l : List UInt8) : Prop where
  own : OB B w v l
  bel : Below B w0 w
  ko : KO w0 w
  hd : v.ownBlock = none ∨ l.head? = some 116
theorem PG.pow {B : Nat} {w0 w : World} {v : Value} {l : List UInt8} (h : PG B w0 w v l) (hT : PowB B w0) : PowB B w := hT.on h.bel
theorem PG.grow {B : Nat} {w0 w w1 : World} {v v1 : Value} {l m : List UInt8} (h : PG B w0 w v l) (hB : B ≤ w0.heap.size) {n : Nat} {ys : List Value} (h1 : w1.ownsRow B 5 1 v1 n ys) (hn : n = (l ++ m).length) (hy : ys = byteCells (l ++ m)) (hg : w.grownBy w1 v.ownBlock) (hd : (l ++ m).head? = some 116) : PG B w0 w1 v1 (l ++ m) := by
  subst hn hy
  have hs := h.bel.size
  exact ⟨h1, h.bel.grown hg (by omega) (fun k hk => (World.ownsRow.lt h.own k hk).1), h.ko.trans fun K cs T hc hK => (hg.block K (Array.getElem?_eq_some_iff.1 hK).1 (own_ne2 h.own h.hd hc hK)).trans hK, .inr hd⟩
theorem head_app {l m : List UInt8} (h : l.head? = some 116) : (l ++ m).head? = some 116 := by
  cases l with
  | nil => cases h
  | cons x r => exact h
theorem PG.snoc {B : Nat} {w0 w w1 : World} {v v1 : Value} {l : List UInt8} (h : PG B w0 w v l) (hB : B ≤ w0.heap.size) {o : Obj} {x : UInt8} {n : Nat} {ys : List Value} (h1 : w1.ownsRow B 5 1 v1 n ys) (hn : n = l.length + 1) (hy : ys = byteCells l ++ [.int .u8 x.toNat]) (hg : (w.alloc o).grownBy w1 v.ownBlock) (hd : l.head? = some 116) : PG B w0 w1 v1 (l ++ [x]) :=
  h.grow hB h1 (by rw [hn, List.length_append]; rfl) (by rw [hy, Lib.byteCells_append]; rfl) (gb_tr (World.grownBy_alloc w o _) hg) (head_app hd)
theorem PG.str {B : Nat} {w0 w w1 : World} {v v1 : Value} {l m : List UInt8} (h : PG B w0 w v l) (hB : B ≤ w0.heap.size) {n : Nat} {ys : List Value} (h1 : w1.ownsRow B 5 1 v1 n ys) (hn : n = l.length + (BA m).size) (hy : ys = byteCells l ++ Lib.strCells (BA m)) (hg : w.grownBy w1 v.ownBlock) (hd : (l ++ m).head? = some 116) : PG B w0 w1 v1 (l ++ m) :=
  h.grow hB h1 (by rw [hn, BA_size, List.length_append]) (by rw [hy, strCells_BA, Lib.byteCells_append]) hg hd
theorem PG.int {B : Nat} {w0 w w1 : World} {v v1 : Value} {l m : List UInt8} (h : PG B w0 w v l) (hB : B ≤ w0.heap.size) {n : Nat} {ys : List Value} (h1 : w1.ownsRow B 5 1 v1 n ys) (hn : n = l.length + m.length) (hy : ys = byteCells l ++ byteCells m) (hg : w.grownBy w1 v.ownBlock) (hd : l.head? = some 116) : PG B w0 w1 v1 (l ++ m) :=
  h.grow hB h1 (by rw [hn, List.length_append]) (by rw [hy, Lib.byteCells_append]) hg (head_app hd)
/-- Numbers, each behind a blank. -/
def numsL (ns : List Int) : List UInt8 := ns.flatMap fun n => 32 :: itoa n
theorem nums_take {ns : List Int} {k : Nat} (h : k < ns.length) : numsL (ns.take (k + 1)) = numsL (ns.take k) ++ [32] ++ itoa (ns[k]?.getD 0) := by
  unfold numsL
  rw [List.take_add_one, List.getElem?_eq_getElem h, List.flatMap_append]
  simp
theorem nums_len : ∀ {ns : List Int}, (∀ n ∈ ns, TN n) → (numsL ns).length ≤ 22 * ns.length
  | [], _ => by simp [numsL]
  | n :: r, h => by
    have h1 := nums_len (ns := r) (fun x hx => h x (by simp [hx]))
    have h2 := h n (by simp)
    have h3 := Lib.itoa_length_le n (by have := h2.1; omega) (by have := h2.2; omega)
    have e : numsL (n :: r) = (32 :: itoa n) ++ numsL r := by unfold numsL; rw [List.flatMap_cons]
    rw [e, List.length_append, List.length_cons, List.length_cons]
    omega
set_option maxHeartbeats 6400000 in
set_option maxRecDepth 100000 in
theorem say_any (B : Nat) (sv : Value) (xs word : List UInt8) (nb : Nat) (ns : List Int) (w : World) (hn : ∀ n ∈ ns, TN n) (hln : ns.length ≤ 64) (hlw : word.length ≤ 16) (hown : OB B w sv xs) (hB0 : 0 < B) (hB : B ≤ w.heap.size) (hlim : xs.length ≤ 1099511627776) (hT : PowB B w)
    (hnb : w.heap[nb]? = some (.cells (ns.map (Value.int .i64)).toArray 2 (0, 0))) (hsv : sv.ownBlock = none ∨ xs.head? = some 116) (hxw : (xs ++ word).head? = some 116) :
    Calls Tryd.prog 28 #[sv, .string (BA word), .slice (some ⟨nb, 0, none⟩) ns.length ns.length] w fun e w' => ∃ v', e = .returned v' ∧ PG B w w' v' (xs ++ (word ++ numsL ns)) := by
  obtain ⟨i0, hi, hz0, hz1, hz2⟩ := info_parts byteInfo
  have S0 : PG B w w sv xs := ⟨hown, Below.refl _ _, KO.refl _, hsv⟩
  have HNB := Kept.mk hnb
  have HXW := Kept.mk hxw
  clear hown hnb hsv hxw
  go_enter Tryd.func28, Tryd.ntmps28
  go_wp2_with (at_builtin; refine Lib.wpList_append_own_string _ rfl _ _ 62 9 rfl B 5 i0 Tryd.underlying62 Tryd.underlying9 hi hz0 hz1 hz2 _ _ _ rfl S0.own (BA word) rfl (by rw [BA_size]; simp only [maxLen]; omega) (by rw [BA_size]; omega) (by have := S0.bel.size; omega) ?_; intro v1 w1 hown1 hg1 _; refine Hid.out ?_)
  refine Lib.hid ?_
  have S1 := S0.str hB (m := word) hown1 (by simp [BA_size] <;> omega) (by first | rfl | simp) hg1 HXW.out
  clear hown1 hg1 S0
  go_wp2
  go_loopw [0, 14] (fun s t wr => ∃ (k : Nat) (v : Value), k ≤ ns.length ∧ t = .int .i64 k ∧ s = v ∧ PG B w wr v (xs ++ word ++ numsL (ns.take k))) (fun _ t _ => ns.length - (intOf t).toNat)
  case atStart => exact ⟨0, v1, by omega, rfl, rfl, by simpa [numsL] using S1⟩
  case round =>
    obtain ⟨k, v, hk, rfl, rfl, hS⟩ := hrel
    by_cases hlt : k < ns.length
    · have hc : wr.cell? ⟨nb, k, none⟩ = some (.int .i64 (ns[k]?.getD 0)) := by
        rw [cell_of_row _ _ k _ _ _ (hS.ko nb _ _ (.inl (by decide)) HNB.out)]
        simp [hlt]
      have HT := Kept.mk (nums_take hlt)
      have hx0 : TN (ns[k]?.getD 0) := hn _ (by rw [List.getElem?_eq_getElem hlt]; simp)
      have nlen : (xs ++ word ++ numsL (ns.take k)).length ≤ 1099511629300 := by
        have h1 := nums_len (ns := ns.take k) (fun n h => hn n (List.mem_of_mem_take h))
        rw [List.length_take] at h1
        rw [List.length_append, List.length_append]
        omega
      have hhd : (xs ++ word ++ numsL (ns.take k)).head? = some 116 := head_app HXW.out
      obtain ⟨n, hnn⟩ : ∃ n, n = ns[k]?.getD 0 := ⟨_, rfl⟩
      rw [← hnn] at hc HT hx0
      have ik : (k : Int) < (ns.length : Int) := by omega
      obtain ⟨x1, x2⟩ := hx0
      obtain ⟨ys, hys⟩ : ∃ ys, ys = xs ++ word ++ numsL (ns.take k) := ⟨_, rfl⟩
      rw [← hys] at hS nlen hhd
      have HHD := Kept.mk hhd
      have HY := Kept.mk (show xs ++ word ++ numsL (ns.take (k + 1)) = ys ++ [32] ++ itoa n from by rw [HT.out, hys]; simp)
      clear hnn hys HT hhd
      go_wp2_with (at_builtin; refine wpList_append_own _ rfl _ _ 62 rfl B 5 i0 (.int .u8 0) 1 1 Tryd.underlying62 hi hz0 hz1 hz2 rfl (by decide) _ _ _ rfl (World.ownsRow.alloc hS.own _) ⟨_, 0, none⟩ 1 1 [Value.int .u8 32] rfl rfl (by intro j u' hj; match j, hj with | 0, hj => simp at hj; subst hj; simp [Addr.add]) (by intro u' hu'; simp at hu'; subst hu'; rfl) (by simp only [maxLen]; omega) (by omega) (by have := hS.bel.size; simp; omega) ?_)
      intro v2 w2 hown2 hg2 _
      have S2 := hS.snoc hB (x := 32) hown2 (by simp <;> omega) (by first | rfl | simp) hg2 HHD.out
      clear hown2 hg2 hc
      have n2 : (ys ++ [32]).length ≤ 1099511629301 := by rw [List.length_append]; simp only [List.length_singleton]; omega
      go_wp2_with (go_at_call 36; refine (int_any B _ n x1 x2 v2 _ w2 S2.own (by have := S2.bel.size; omega) (by omega) (S2.pow hT).here).mono ?_; rintro e w3 ⟨v3, rfl, hown3, hg3⟩; refine Hid.out ?_)
      refine Lib.hid ?_
      have S3 := S2.int hB (m := itoa n) hown3 (by simp <;> omega) (by first | rfl | simp) hg3 (head_app HHD.out)
      rw [← HY.out] at S3
      clear hown3 hg3 S2 hS
      go_wp2
      go_roundw
      case rel => exact ⟨k + 1, v3, by omega, by go_num, rfl, S3⟩
      case measure => simp [intOf]; omega
    · have e0 : ns.take k = ns := List.take_of_length_le (by omega)
      rw [e0] at hS
      clear e0
      go_wp2
      go_ret
      exact ⟨_, rfl, by rw [← List.append_assoc]; exact hS⟩
end Go.Proofs.YtfneloplbkjbhaaDoor
