/-
  The wheel: slices.SortFunc at timers, by the library's contract, laid at this program by the kit's tools.
-/
import Derived.Shelf.SlSortCmp.NoneTotal
import Derived.Ground.SlsfProg
import Derived.Test.YtakkfgkogomjbaaDoorW12
namespace Go.Proofs.YtakkfgkogomjbaaDoor
open Go.Shelf
def sortT_ren : Go.Shelf.Ren := ⟨fun | 6 => 52 | 15 => 74 | 14 => 73 | 28 => 90 | 29 => 91 | 20 => 82 | 21 => 83 | 22 => 84 | 23 => 85 | 24 => 86 | 25 => 87 | 26 => 88 | 27 => 89 | 46 => 95 | 47 => 96 | 48 => 97 | 49 => 98 | 50 => 99 | 57 => 100 | n => n, fun | 22 => 89 | 24 => 100 | 25 => 121 | 3 => 3 | 39 => 150 | 0 => 0 | 53 => 57 | 55 => 91 | 4 => 4 | 46 => 158 | 45 => 157 | 50 => 95 | 5 => 5 | 9 => 9 | 66 => 167 | 70 => 171 | 76 => 174 | 77 => 175 | n => n, fun | n => n⟩
theorem sortT : Go.Proofs.SlLaysF0.n6 Tryd.prog sortT_ren := {
  mixed := by kernel_rfl
  f6 := ⟨Tryd.f52.name, by decide, Tryd.func52.trans (congrArg some (by kernel_rfl))⟩
  f14 := ⟨Tryd.f73.name, by decide, Tryd.func73.trans (congrArg some (by kernel_rfl))⟩
  f15 := Tryd.func74.trans (congrArg some (by kernel_rfl))
  f20 := ⟨Tryd.f82.name, by decide, Tryd.func82.trans (congrArg some (by kernel_rfl))⟩
  f21 := ⟨Tryd.f83.name, by decide, Tryd.func83.trans (congrArg some (by kernel_rfl))⟩
  f22 := ⟨Tryd.f84.name, by decide, Tryd.func84.trans (congrArg some (by kernel_rfl))⟩
  f23 := ⟨Tryd.f85.name, by decide, Tryd.func85.trans (congrArg some (by kernel_rfl))⟩
  f24 := ⟨Tryd.f86.name, by decide, Tryd.func86.trans (congrArg some (by kernel_rfl))⟩
  f25 := ⟨Tryd.f87.name, by decide, Tryd.func87.trans (congrArg some (by kernel_rfl))⟩
  f26 := ⟨Tryd.f88.name, by decide, Tryd.func88.trans (congrArg some (by kernel_rfl))⟩
  f27 := ⟨Tryd.f89.name, by decide, Tryd.func89.trans (congrArg some (by kernel_rfl))⟩
  f28 := Tryd.func90.trans (congrArg some (by kernel_rfl))
  f29 := Tryd.func91.trans (congrArg some (by kernel_rfl))
  f46 := ⟨Tryd.f95.name, by decide, Tryd.func95.trans (congrArg some (by kernel_rfl))⟩
  f47 := Tryd.func96.trans (congrArg some (by kernel_rfl))
  f48 := Tryd.func97.trans (congrArg some (by kernel_rfl))
  f49 := ⟨Tryd.f98.name, by decide, Tryd.func98.trans (congrArg some (by kernel_rfl))⟩
  f50 := ⟨Tryd.f99.name, by decide, Tryd.func99.trans (congrArg some (by kernel_rfl))⟩
  f57 := ⟨Tryd.f100.name, by decide, Tryd.func100.trans (congrArg some (by kernel_rfl))⟩
  t0 := Tryd.underlying0
  a0 := Tryd.isAgg0
  z0 := Tryd.sizeOf0
  v0 := Tryd.zeroValue0
  t3 := Tryd.underlying3
  a3 := Tryd.isAgg3
  z3 := Tryd.sizeOf3
  v3 := Tryd.zeroValue3
  t4 := Tryd.underlying4
  a4 := Tryd.isAgg4
  z4 := Tryd.sizeOf4
  v4 := Tryd.zeroValue4
  t5 := Tryd.underlying5
  a5 := Tryd.isAgg5
  z5 := Tryd.sizeOf5
  v5 := Tryd.zeroValue5
  t9 := Tryd.underlying9
  a9 := Tryd.isAgg9
  z9 := Tryd.sizeOf9
  v9 := Tryd.zeroValue9
  t22 := Tryd.underlying89
  a22 := Tryd.isAgg89
  z22 := Tryd.sizeOf89
  v22 := Tryd.zeroValue89
  t25 := Tryd.underlying121
  a25 := Tryd.isAgg121
  z25 := Tryd.sizeOf121
  v25 := Tryd.zeroValue121
  t39 := Tryd.underlying150
  a39 := Tryd.isAgg150
  z39 := Tryd.sizeOf150
  v39 := Tryd.zeroValue150
  t45 := Tryd.underlying157
  a45 := Tryd.isAgg157
  z45 := Tryd.sizeOf157
  v45 := Tryd.zeroValue157
  t46 := Tryd.underlying158
  a46 := Tryd.isAgg158
  z46 := Tryd.sizeOf158
  v46 := Tryd.zeroValue158
  t50 := Tryd.underlying95
  a50 := Tryd.isAgg95
  z50 := Tryd.sizeOf95
  v50 := Tryd.zeroValue95
  t53 := Tryd.underlying57
  a53 := Tryd.isAgg57
  z53 := Tryd.sizeOf57
  v53 := Tryd.zeroValue57
  t55 := Tryd.underlying91
  a55 := Tryd.isAgg91
  z55 := Tryd.sizeOf91
  v55 := Tryd.zeroValue91
  t66 := Tryd.underlying167
  a66 := Tryd.isAgg167
  z66 := Tryd.sizeOf167
  v66 := Tryd.zeroValue167
  t70 := Tryd.underlying171
  a70 := Tryd.isAgg171
  z70 := Tryd.sizeOf171
  v70 := Tryd.zeroValue171
  t76 := Tryd.underlying174
  a76 := Tryd.isAgg174
  z76 := Tryd.sizeOf174
  v76 := Tryd.zeroValue174
  t77 := Tryd.underlying175
  a77 := Tryd.isAgg175
  z77 := Tryd.sizeOf175
  v77 := Tryd.zeroValue175 }

open Go.RowKit Go.Lib Go.Sort
set_option linter.unusedVariables false
theorem cmpLaysT (blk off size : Nat) (w : World) : CmpLays Tryd.prog 46 #[] encT 3 cfT blk off size w :=
  fun _ _ _ _ x y => before_any x y _
theorem block_other (w : World) (blk off n : Nat) (d : Array Tm) (os : Array Obj) {i : Nat} (h : i ≠ blk) (hi : i < w.heap.size) : (sortWorldK encT 3 w blk off n d os).heap[i]? = w.heap[i]? := by
  have e : ¬ blk = i := fun e => h e.symm
  unfold sortWorldK grow putRowK putRow mapBlock Go.Sort.ahead
  simp only
  rw [Array.getElem?_append_left (by simpa using hi), Array.getElem?_modify, if_neg e]
theorem sortOk : SortOk := by
  intro A0 l c base w h hsz hn
  by_cases h0 : l.length = 0
  · have hl : l = [] := List.eq_nil_of_length_eq_zero h0
    subst hl
    refine (AnyF.slices_SortFunc_none sortT A0 c (.func (.func 46) #[] #[]) w).mono ?_
    rintro e w' ⟨he, rfl⟩
    exact ⟨he, [], List.Pairwise.nil, List.Perm.refl _, fun h => by simp at h, Below.refl _ _⟩
  · obtain ⟨g, cap, hv, hb, hlt⟩ := h.form (by omega)
    have hA : A0 = some ⟨g, 0, none⟩ := by injection hv
    subst hA
    have hgb : base ≤ g := (h.lt g rfl).1
    have eg : ∀ args w, (callFunc 46 args).run Tryd.prog w = .ok (.enter 46 args) w := enters_of Tryd.func46 (by kernel_rfl) rfl
    have hH : HoldsK encT 3 w g 0 l.toArray := by
      intro j hj
      rw [size_flatK] at hj
      rw [get_flatK _ _ _ _ hj]
      have hj' : j < l.length * 3 := by simpa using hj
      refine ⟨?_, by rw [Nat.zero_add]; exact h.frozenAt j⟩
      rw [Nat.zero_add, h.cellAt j hj']
      obtain ⟨x, hx⟩ : ∃ x, l[j / 3]? = some x := ⟨_, List.getElem?_eq_getElem (by omega)⟩
      have e1 := encT_at l (j / 3) (j % 3) x hx (by omega)
      rw [show j / 3 * 3 + j % 3 = j by omega] at e1
      rw [e1]
      have e2 : l.toArray[j / 3]! = x := by simp [hx]
      rw [e2]
      have h3 : j % 3 = 0 ∨ j % 3 = 1 ∨ j % 3 = 2 := by omega
      rcases h3 with h3 | h3 | h3 <;> rw [h3] <;> rfl
    have hcon := AnyQ.slices_SortFunc sortT 3 Tryd.isAgg100 Tryd.sizeOf100 encT (fun _ => rfl) (fun x v hv => by simp [encT] at hv; rcases hv with rfl | rfl | rfl <;> rfl) cfT swoT 46 #[] g 0 c l.toArray w eg (cmpLaysT g 0 l.toArray.size w) hH hlt (by simp; omega)
    rw [List.size_toArray] at hcon
    refine Calls.mono hcon ?_
    rintro e w' ⟨he, d', n, os, hp, hs, rfl⟩
    have hp' : PermIn 0 l.toArray.size l.toArray d' := by rw [List.size_toArray]; exact hp
    have hs' : SortedIn (ltOf cfT) 0 l.toArray.size d' := by rw [List.size_toArray]; exact hs
    obtain ⟨r1, r2⟩ := srt_of hp' hs' hn
    have hds : d'.size = l.toArray.size := hp'.1
    have hH' : HoldsK encT 3 (sortWorldK encT 3 w g 0 n d' os) g 0 d' := by
      unfold sortWorldK
      refine holdsK_grow _ _ _ _ _ _ _ ?_ (holdsK_putRowK _ _ _ _ _ l.toArray d' (holdsK_ahead _ _ _ _ _ _ _ hH) hds)
      unfold putRowK putRow mapBlock Go.Sort.ahead
      simpa using hlt
    refine ⟨he, d'.toList, r1, r2, fun _ => ⟨g, rfl, ?_, fun k x hx o v hv => ?_⟩, ⟨rfl, rfl, rfl, ?_, fun i hi => ?_⟩⟩
    · unfold sortWorldK grow putRowK putRow mapBlock Go.Sort.ahead
      simp
      omega
    · obtain ⟨hk, hx'⟩ := List.getElem?_eq_some_iff.1 hx
      have hk' : k < d'.size := by simpa using hk
      have ho : o < 3 := by
        have := (List.getElem?_eq_some_iff.1 hv).1
        simpa [encT] using this
      have := (hH'.cell (i := k) (c := o) hk' ho).1
      rw [Nat.zero_add] at this
      rw [this, getElem!_pos d' k hk']
      simp only [Array.getElem_toList] at hx'
      rw [hx']
      have := (List.getElem?_eq_some_iff.1 hv)
      obtain ⟨h5, h6⟩ := this
      rw [getElem!_pos _ o h5, h6]
    · unfold sortWorldK grow putRowK putRow mapBlock Go.Sort.ahead
      simp
    · exact block_other w g 0 n d' os (by omega) (by omega)
/-- What is due is told, in order. -/
theorem wtold_all {w : World} {lo hi wb I M p L K n : Nat} {now tu : Int} {A : List Tm} (h : WAt w lo hi wb I M p L K n now tu A) (hwf : ∀ t ∈ A, (Lit.int .i64 t.id).wf = true) :
    Calls Tryd.prog 33 #[.pointer (some ⟨wb, 0, none⟩)] w fun e w' => ∃ D B c, e = .returned (.slice B D.length c) ∧ Srt D ∧ D.Perm (A.filter fun t => decide (t.du ≤ now)) ∧ DuR w' B D ∧ WAt w' lo hi wb I M p L K n now tu (A.filter fun t => decide (now < t.du)) ∧ Kp lo hi w w' :=
  wtold_any sortOk h hwf
end Go.Proofs.YtakkfgkogomjbaaDoor
