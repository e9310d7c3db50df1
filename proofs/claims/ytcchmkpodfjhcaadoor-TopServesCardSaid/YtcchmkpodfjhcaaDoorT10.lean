/-
  The walk of the desk's next: the line of the greatest priority, of these the least.
-/
import Derived.Test.YtcchmkpodfjhcaaDoorT10a
import Derived.Test.YtcchmkpodfjhcaaDoorCalm
import Derived.Sort.QuietIn
namespace Go.Proofs.YtcchmkpodfjhcaaDoor
open Go.RowKit Go.Shelf
set_option linter.unusedVariables false
set_option linter.unusedSimpArgs false
attribute [local go_sem] Oper.semAt_some
/-- What the search has, behind the lines l. -/
def nxF (xs : List Int) (l : List Nat) : Int × Int := l.foldl (fun (s : Int × Int) (n : Nat) => if s.2 < xs[n]?.getD 0 then ((n : Int), xs[n]?.getD 0) else s) (64, 0)
theorem nxF_snoc (xs : List Int) (l : List Nat) (n : Nat) : nxF xs (l ++ [n]) = if (nxF xs l).2 < xs[n]?.getD 0 then ((n : Int), xs[n]?.getD 0) else nxF xs l := by
  unfold nxF; rw [List.foldl_append]; rfl
def nxS (xs : List Int) {b : Nat} (pre : List {n : Nat // n ∈ lbn b}) : Int × Int := nxF xs (pre.map Subtype.val)
theorem nxS_snoc (xs : List Int) {b : Nat} (pre : List {n : Nat // n ∈ lbn b}) (n : {n : Nat // n ∈ lbn b}) : nxS xs (pre ++ [n]) = if (nxS xs pre).2 < xs[n.1]?.getD 0 then ((n.1 : Int), xs[n.1]?.getD 0) else nxS xs pre := by
  unfold nxS; rw [List.map_append, List.map_cons, List.map_nil, nxF_snoc]
set_option maxRecDepth 100000 in
set_option maxHeartbeats 4000000 in
theorem next_any (P : Nat) (M : Int) (hP : P < 18446744073709551616) (d : Nat) (A : Option Addr) (xs : List Int) (cap : Nat) (B : Option Addr) (c2 : Nat) (w : World) (hpm : bits .and .u64 (P : Int) M = P) (hp0 : bits .andNot .u64 (P : Int) 0 = P)
    (hD : DeskAt w d P 0 M M (.slice A xs.length cap) (.slice B 0 c2)) (hdl : d < w.heap.size) (h : Ints w w.heap.size A xs) (hT : Tab w) (hs0 : 0 < w.heap.size)
    (hr : ∀ n, n ∈ lbn P → n < xs.length) (h2 : xs.length ≤ 64) (h15 : ∀ n : Nat, n < xs.length → xs[n]?.getD 0 ≤ 15) :
    Calls Tryd.prog 41 #[.pointer (some ⟨d, 0, none⟩)] w fun e w' => e = .returned (.tuple #[.int .i64 (nxF xs (lbn P)).1, .bool (!((nxF xs (lbn P)).1 == 64))]) ∧ Below w.heap.size w w' := by
  obtain ⟨c0, c1, c2', c3, c4, c5, c6⟩ := hD
  refine (callsIn_wide (n := 4)).1 ?_
  refine callsIn_of_wp_marks Tryd.func41 rfl trivial ?_ rfl
  simp only [Tryd.ntmps41, List.size_toArray, List.length_cons, List.length_nil, Nat.reduceAdd, Nat.reduceSub, Array.replicate_succ, Array.replicate_zero, List.push_toArray, List.append_toArray, List.nil_append, List.cons_append]
  gi_wp2_with fail
  refine ⟨trivial, ?_⟩
  refine (callsIn_wide.2 (level_any d B c2 _ ((below_box w _).cell (p := (⟨d, 6, none⟩ : Addr)) hdl |>.trans c6) ((below_box w _).cell (p := (⟨d, 5, none⟩ : Addr)) hdl |>.trans c5))).mono ?_
  rintro e w2 ⟨rfl, rfl⟩
  gi_wp2_with fail
  obtain ⟨W3, hW3⟩ : ∃ W3, ((w.alloc (.cells #[.pointer (some ⟨d, 0, none⟩)] 56)).alloc (.cells #[.int .i64 64] 3)).alloc (.cells #[.int .i64 0] 3) = W3 := ⟨_, rfl⟩
  have b3 : Below w.heap.size w W3 := by rw [← hW3]; exact ((below_box w _).alloc (by simp) _).alloc (by simp <;> omega) _
  have z3 : W3.heap.size = w.heap.size + 3 := by rw [← hW3]; simp
  have p0 : W3.cell? ⟨w.heap.size, 0, none⟩ = some (.pointer (some ⟨d, 0, none⟩)) := by rw [← hW3]; clear hW3; go_simp
  have p1 : W3.cell? ⟨w.heap.size + 1, 0, none⟩ = some (.int .i64 64) := by rw [← hW3]; clear hW3; go_simp
  have p2 : W3.cell? ⟨w.heap.size + 2, 0, none⟩ = some (.int .i64 0) := by rw [← hW3]; clear hW3; go_simp
  have f1 : W3.frozen? ⟨w.heap.size + 1, 0, none⟩ = false := by rw [← hW3]; clear hW3; go_simp
  have f2 : W3.frozen? ⟨w.heap.size + 2, 0, none⟩ = false := by rw [← hW3]; clear hW3; go_simp
  rw [hW3]
  clear hW3
  have d0 := (b3.cell (p := (⟨d, 0, none⟩ : Addr)) hdl).trans c0
  have d1 := (b3.cell (p := (⟨d, 1, none⟩ : Addr)) hdl).trans c1
  have d6 := (b3.cell (p := (⟨d, 6, none⟩ : Addr)) hdl).trans c6
  refine wpIn_wide.2 ?_
  go_region_held3 (fun W => W.cell? ⟨w.heap.size, 0, none⟩ = some (.pointer (some ⟨d, 0, none⟩)) ∧ W.cell? ⟨d, 0, none⟩ = some (.int .u64 (P : Int)) ∧ W.cell? ⟨d, 1, none⟩ = some (.int .u64 M)) ((first | exact ⟨p0, d0, d1⟩ | go_keep)) (first
    | (go_at_call 39; refine (active_any d B c2 W3.drew d6).mono ?_; rintro e w5 ⟨rfl, rfl⟩)
    | (go_at_call 32; refine (beach_any P _).mono ?_; rintro e w6 ⟨rfl, rfl⟩))
  have q4 : (W3.alloc (.cells #[.int .u64 (P : Int)] 23)).drew.cell? ⟨w.heap.size + 3, 0, none⟩ = some (.int .u64 (P : Int)) := by rw [← z3]; go_simp
  have z4 : (W3.alloc (.cells #[.int .u64 (P : Int)] 23)).drew.heap.size = w.heap.size + 4 := by simp [z3]
  have b4 : Below W3.heap.size W3 (W3.alloc (.cells #[.int .u64 (P : Int)] 23)).drew := (below_box _ _).drew
  generalize (W3.alloc (.cells #[.int .u64 (P : Int)] 23)).drew = W4 at q4 z4 b4 ⊢
  replace p0 := (b4.cell (p := (⟨w.heap.size, 0, none⟩ : Addr)) (by show w.heap.size < _; omega)).trans p0
  replace p1 := (b4.cell (p := (⟨w.heap.size + 1, 0, none⟩ : Addr)) (by show w.heap.size + 1 < _; omega)).trans p1
  replace p2 := (b4.cell (p := (⟨w.heap.size + 2, 0, none⟩ : Addr)) (by show w.heap.size + 2 < _; omega)).trans p2
  replace f1 := (b4.frozen (p := (⟨w.heap.size + 1, 0, none⟩ : Addr)) (by show w.heap.size + 1 < _; omega)).trans f1
  replace f2 := (b4.frozen (p := (⟨w.heap.size + 2, 0, none⟩ : Addr)) (by show w.heap.size + 2 < _; omega)).trans f2
  replace b4 := b3.trans (b4.mono (by omega))
  clear b3 z3 d0 d1 d6
  gi_wp2_with fail
  refine wpIn_rangeFunc_ownF rfl (by omega) (gf := 46) (lb := #[.pointer (some ⟨w.heap.size + 3, 0, none⟩)]) rfl trivial (enters_of Tryd.func46 (by kernel_rfl) rfl)
    (each_stops2 (4 - 1) (by omega) (w.heap.size + 3) w.heap.size P hP W4 q4 (by omega) (hT.below b4 hs0) hs0 (by omega))
    KpB.trans (KpB.book (by omega)) (Below.refl _ _) (fun _ => rfl)
    (fun pre W => (W.cell? ⟨w.heap.size, 0, none⟩ = some (.pointer (some ⟨d, 0, none⟩)) ∧ W.cell? ⟨w.heap.size + 1, 0, none⟩ = some (.int .i64 (nxS xs pre).1) ∧ W.cell? ⟨w.heap.size + 2, 0, none⟩ = some (.int .i64 (nxS xs pre).2) ∧ W.frozen? ⟨w.heap.size + 1, 0, none⟩ = false ∧ W.frozen? ⟨w.heap.size + 2, 0, none⟩ = false) ∧ Below w.heap.size w W)
    (fun c pre W => False ∧ Below w.heap.size w W)
    (OwnFrom.and (Own.from (fun s A B row hs hg hr => by
      obtain ⟨g1, g2, g3, g4, g5⟩ := hs
      exact ⟨cell_kept g1 hg hr, cell_kept g2 hg hr, cell_kept g3 hg hr, (frozen_kept g2 hg hr).trans g4, (frozen_kept g3 hg hr).trans g5⟩) _) (ownFrom_below (Nat.le_refl _) (by omega)))
    (fun c => OwnFrom.and (Own.from (fun s A B row hs hg hr => hs) _) (ownFrom_below (Nat.le_refl _) (by omega)))
    ⟨⟨p0, p1, p2, f1, f2⟩, b4⟩
    (fun x => { tmps := #[.pointer (some ⟨d, 0, none⟩), .pointer (some ⟨w.heap.size, 0, none⟩), .int .i64 0, .bool false, .pointer (some ⟨w.heap.size + 1, 0, none⟩), .pointer (some ⟨w.heap.size + 1 + 1, 0, none⟩), .int .i64 (x.1 : Int), .pointer (some ⟨d, 0, none⟩), .int .i64 0, .pointer (some ⟨d, 0, none⟩), .pointer (some ⟨d, 0, none⟩), .pointer (some ⟨d, 0, none⟩), .pointer (some ⟨d, 0, none⟩), .int .u64 (P : Int), .pointer (some ⟨d, 0, none⟩), .pointer (some ⟨d, 0, none⟩), .pointer (some ⟨d, 0, none⟩), .pointer (some ⟨d, 1, none⟩), .int .u64 M, .int .u64 (P : Int), .pointer (some ⟨d, 0, none⟩), .int .u64 0, .int .u64 (P : Int), .func (.func 46) #[] #[.pointer (some ⟨w.heap.size + 3, 0, none⟩)], .int .i64 (x.1 : Int), undef, undef, undef, undef, undef, undef, undef, undef, undef, undef, undef, undef, undef, undef, undef, undef, undef, undef, undef, undef, undef, undef], defers := [] }) ?assign ?body ?done ?stop
  case assign =>
    intro l x W K hK
    gi_wp2
    exact hK
  case body =>
    rintro l pre ⟨x, hx⟩ W ⟨⟨g1, g2, g3, g4, g5⟩, hbW⟩ hpl
    have hxl := hr x hx
    obtain ⟨bb, off, rfl, hbb, hcc⟩ := (h.below hbW) (by omega)
    have hcx := hcc x hxl
    have e4 := (hbW.cell (p := (⟨d, 4, none⟩ : Addr)) hdl).trans c4
    have il : (x : Int) < (xs.length : Int) := by omega
    obtain ⟨y, hy⟩ : ∃ y, y = xs[x]?.getD 0 := ⟨_, rfl⟩
    obtain ⟨bs, hbs⟩ : ∃ b, b = (nxS xs pre).1 := ⟨_, rfl⟩
    obtain ⟨m, hm⟩ : ∃ m, m = (nxS xs pre).2 := ⟨_, rfl⟩
    rw [← hbs] at g2
    rw [← hm] at g3
    rw [← hy] at hcx
    have HS : nxS xs (pre ++ [(⟨x, hx⟩ : {n : Nat // n ∈ lbn P})]) = if m < y then ((x : Int), y) else (bs, m) := by rw [nxS_snoc, ← hy, ← hm, hbs]; split <;> first | rfl | (rw [hm])
    clear hcc h hr hy hbs hm
    gi_wp2_with fail
    refine wpIn_region_calm (S := fun W' => W'.cell? ⟨w.heap.size, 0, none⟩ = some (.pointer (some ⟨d, 0, none⟩)) ∧ W'.cell? ⟨d, 4, none⟩ = some (.slice (some ⟨bb, off, none⟩) xs.length cap) ∧ W'.cell? ⟨bb, off + x, none⟩ = some (.int .i64 y) ∧ W'.cell? ⟨w.heap.size + 1 + 1, 0, none⟩ = some (.int .i64 m)) (by kernel_rfl) (by kernel_rfl) ⟨g1, e4, hcx, g3⟩ (fun hHeld => ?_)
    refine wpAnyH_take (i := 0) (v := ?va0) (by simp only [List.getElem?_toArray, List.getElem?_cons_succ, List.getElem?_cons_zero]; exact rfl) (by kernel_rfl) (by kernel_rfl) (by kernel_rfl) (by intro _ _ _ h; exact h) (Or.inl ⟨by rfl, ?hya0⟩) (by assumption) ?resta0
    case hya0 => (intro w hSw; go_simp; try with_reducible rfl)
    try simp only [Act.put, List.setIfInBounds_toArray, List.set_cons_zero, List.set_cons_succ]
    refine wpAnyH_take (i := 1) (v := ?va1) (by simp only [List.getElem?_toArray, List.getElem?_cons_succ, List.getElem?_cons_zero]; exact rfl) (by kernel_rfl) (by kernel_rfl) (by kernel_rfl) (by intro _ _ _ h; exact h) (Or.inl ⟨by rfl, ?hya1⟩) (by assumption) ?resta1
    case hya1 => (intro w hSw; go_simp; try with_reducible rfl)
    try simp only [Act.put, List.setIfInBounds_toArray, List.set_cons_zero, List.set_cons_succ]
    refine wpAnyH_take (i := 2) (v := ?va2) (by simp only [List.getElem?_toArray, List.getElem?_cons_succ, List.getElem?_cons_zero]; exact rfl) (by kernel_rfl) (by kernel_rfl) (by kernel_rfl) (by intro _ _ _ h; exact h) (Or.inl ⟨by rfl, ?hya2⟩) (by assumption) ?resta2
    case hya2 => (intro w hSw; go_simp; try with_reducible rfl)
    try simp only [Act.put, List.setIfInBounds_toArray, List.set_cons_zero, List.set_cons_succ]
    refine wpAnyH_take (i := 3) (v := ?va3) (by simp only [List.getElem?_toArray, List.getElem?_cons_succ, List.getElem?_cons_zero]; exact rfl) (by kernel_rfl) (by kernel_rfl) (by kernel_rfl) (by intro _ _ _ h; exact h) (Or.inl ⟨by rfl, ?hya3⟩) (by assumption) ?resta3
    case hya3 => (intro w hSw; go_simp; try with_reducible rfl)
    try simp only [Act.put, List.setIfInBounds_toArray, List.set_cons_zero, List.set_cons_succ]
    refine wpAnyH_take (i := 4) (v := ?va4) (by simp only [List.getElem?_toArray, List.getElem?_cons_succ, List.getElem?_cons_zero]; exact rfl) (by kernel_rfl) (by kernel_rfl) (by kernel_rfl) (by intro _ _ _ h; exact h) (Or.inl ⟨by rfl, ?hya4⟩) (by assumption) ?resta4
    case hya4 => (intro w hSw; go_simp; try with_reducible rfl)
    try simp only [Act.put, List.setIfInBounds_toArray, List.set_cons_zero, List.set_cons_succ]
    refine wpAnyH_take (i := 5) (v := ?va5) (by simp only [List.getElem?_toArray, List.getElem?_cons_succ, List.getElem?_cons_zero]; exact rfl) (by kernel_rfl) (by kernel_rfl) (by kernel_rfl) (by intro _ _ _ h; exact h) (Or.inl ⟨by rfl, ?hya5⟩) (by assumption) ?resta5
    case hya5 => (intro w hSw; go_simp; try with_reducible rfl)
    try simp only [Act.put, List.setIfInBounds_toArray, List.set_cons_zero, List.set_cons_succ]
    refine wpAnyH_take (i := 6) (v := ?va6) (by simp only [List.getElem?_toArray, List.getElem?_cons_succ, List.getElem?_cons_zero]; exact rfl) (by kernel_rfl) (by kernel_rfl) (by kernel_rfl) (by intro _ _ _ h; exact h) (Or.inl ⟨by rfl, ?hya6⟩) (by assumption) ?resta6
    case hya6 => (intro w hSw; go_simp; try with_reducible rfl)
    try simp only [Act.put, List.setIfInBounds_toArray, List.set_cons_zero, List.set_cons_succ]
    refine wpAnyH_take (i := 7) (v := ?va7) (by simp only [List.getElem?_toArray, List.getElem?_cons_succ, List.getElem?_cons_zero]; exact rfl) (by kernel_rfl) (by kernel_rfl) (by kernel_rfl) (by intro _ _ _ h; exact h) (Or.inl ⟨by rfl, ?hya7⟩) (by assumption) ?resta7
    case hya7 => (intro w hSw; go_simp; try with_reducible rfl)
    try simp only [Act.put, List.setIfInBounds_toArray, List.set_cons_zero, List.set_cons_succ]
    refine wpAnyH_take (i := 8) (v := ?va8) (by simp only [List.getElem?_toArray, List.getElem?_cons_succ, List.getElem?_cons_zero]; exact rfl) (by kernel_rfl) (by kernel_rfl) (by kernel_rfl) (by intro _ _ _ h; exact h) (Or.inl ⟨by rfl, ?hya8⟩) (by assumption) ?resta8
    case hya8 => (intro w hSw; go_simp; try with_reducible rfl)
    try simp only [Act.put, List.setIfInBounds_toArray, List.set_cons_zero, List.set_cons_succ]
    refine wpAnyH_take (i := 9) (v := ?va9) (by simp only [List.getElem?_toArray, List.getElem?_cons_succ, List.getElem?_cons_zero]; exact rfl) (by kernel_rfl) (by kernel_rfl) (by kernel_rfl) (by intro _ _ _ h; exact h) (Or.inl ⟨by rfl, ?hya9⟩) (by assumption) ?resta9
    case hya9 => (intro w hSw; go_simp; try with_reducible rfl)
    try simp only [Act.put, List.setIfInBounds_toArray, List.set_cons_zero, List.set_cons_succ]
    refine wpAnyH_done (by kernel_rfl) ?_ _
    unfold EndN
    dsimp only
    clear hHeld
    have kW : KpB w.heap.size W W.drew := Below.drewN (Below.refl _ _) 1
    have G : W.drew.cell? ⟨w.heap.size, 0, none⟩ = some (.pointer (some ⟨d, 0, none⟩)) ∧ W.drew.cell? ⟨d, 4, none⟩ = some (.slice (some ⟨bb, off, none⟩) xs.length cap) ∧ W.drew.cell? ⟨bb, off + x, none⟩ = some (.int .i64 y) ∧ W.drew.cell? ⟨w.heap.size + 1, 0, none⟩ = some (.int .i64 bs) ∧ W.drew.cell? ⟨w.heap.size + 1 + 1, 0, none⟩ = some (.int .i64 m) ∧ W.drew.frozen? ⟨w.heap.size + 1, 0, none⟩ = false ∧ W.drew.frozen? ⟨w.heap.size + 1 + 1, 0, none⟩ = false := ⟨g1, e4, hcx, g2, g3, g4, g5⟩
    have KO : KeepsOthers W W.drew := ⟨Nat.le_refl _, fun _ _ h _ => h⟩
    generalize W.drew = W1 at G kW KO ⊢
    obtain ⟨g1, e4, hcx, g2, g3, g4, g5⟩ := G
    have bW := Below.trans hbW kW
    by_cases hlt : m < y
    · rw [if_pos hlt] at HS
      have HK := Kept.mk HS
      clear HS
      gi_wp2_with fail
      refine wpIn_region_calm (S := fun W' => W'.cell? ⟨w.heap.size, 0, none⟩ = some (.pointer (some ⟨d, 0, none⟩)) ∧ W'.cell? ⟨d, 4, none⟩ = some (.slice (some ⟨bb, off, none⟩) xs.length cap) ∧ W'.cell? ⟨bb, off + x, none⟩ = some (.int .i64 y)) (by kernel_rfl) (by kernel_rfl) ⟨g1, e4, hcx⟩ (fun hHeld => ?_)
      refine wpAnyH_take (i := 0) (v := ?vb0) (by simp only [List.getElem?_toArray, List.getElem?_cons_succ, List.getElem?_cons_zero]; exact rfl) (by kernel_rfl) (by kernel_rfl) (by kernel_rfl) (by intro _ _ _ h; exact h) (Or.inl ⟨by rfl, ?hyb0⟩) (by assumption) ?restb0
      case hyb0 => (intro w hSw; go_simp; try with_reducible rfl)
      try simp only [Act.put, List.setIfInBounds_toArray, List.set_cons_zero, List.set_cons_succ]
      refine wpAnyH_take (i := 1) (v := ?vb1) (by simp only [List.getElem?_toArray, List.getElem?_cons_succ, List.getElem?_cons_zero]; exact rfl) (by kernel_rfl) (by kernel_rfl) (by kernel_rfl) (by intro _ _ _ h; exact h) (Or.inl ⟨by rfl, ?hyb1⟩) (by assumption) ?restb1
      case hyb1 => (intro w hSw; go_simp; try with_reducible rfl)
      try simp only [Act.put, List.setIfInBounds_toArray, List.set_cons_zero, List.set_cons_succ]
      refine wpAnyH_take (i := 2) (v := ?vb2) (by simp only [List.getElem?_toArray, List.getElem?_cons_succ, List.getElem?_cons_zero]; exact rfl) (by kernel_rfl) (by kernel_rfl) (by kernel_rfl) (by intro _ _ _ h; exact h) (Or.inl ⟨by rfl, ?hyb2⟩) (by assumption) ?restb2
      case hyb2 => (intro w hSw; go_simp; try with_reducible rfl)
      try simp only [Act.put, List.setIfInBounds_toArray, List.set_cons_zero, List.set_cons_succ]
      refine wpAnyH_take (i := 3) (v := ?vb3) (by simp only [List.getElem?_toArray, List.getElem?_cons_succ, List.getElem?_cons_zero]; exact rfl) (by kernel_rfl) (by kernel_rfl) (by kernel_rfl) (by intro _ _ _ h; exact h) (Or.inl ⟨by rfl, ?hyb3⟩) (by assumption) ?restb3
      case hyb3 => (intro w hSw; go_simp; try with_reducible rfl)
      try simp only [Act.put, List.setIfInBounds_toArray, List.set_cons_zero, List.set_cons_succ]
      refine wpAnyH_take (i := 4) (v := ?vb4) (by simp only [List.getElem?_toArray, List.getElem?_cons_succ, List.getElem?_cons_zero]; exact rfl) (by kernel_rfl) (by kernel_rfl) (by kernel_rfl) (by intro _ _ _ h; exact h) (Or.inl ⟨by rfl, ?hyb4⟩) (by assumption) ?restb4
      case hyb4 => (intro w hSw; go_simp; try with_reducible rfl)
      try simp only [Act.put, List.setIfInBounds_toArray, List.set_cons_zero, List.set_cons_succ]
      refine wpAnyH_take (i := 5) (v := ?vb5) (by simp only [List.getElem?_toArray, List.getElem?_cons_succ, List.getElem?_cons_zero]; exact rfl) (by kernel_rfl) (by kernel_rfl) (by kernel_rfl) (by intro _ _ _ h; exact h) (Or.inl ⟨by rfl, ?hyb5⟩) (by assumption) ?restb5
      case hyb5 => (intro w hSw; go_simp; try with_reducible rfl)
      try simp only [Act.put, List.setIfInBounds_toArray, List.set_cons_zero, List.set_cons_succ]
      refine wpAnyH_take (i := 6) (v := ?vb6) (by simp only [List.getElem?_toArray, List.getElem?_cons_succ, List.getElem?_cons_zero]; exact rfl) (by kernel_rfl) (by kernel_rfl) (by kernel_rfl) (by intro _ _ _ h; exact h) (Or.inl ⟨by rfl, ?hyb6⟩) (by assumption) ?restb6
      case hyb6 => (intro w hSw; go_simp; try with_reducible rfl)
      try simp only [Act.put, List.setIfInBounds_toArray, List.set_cons_zero, List.set_cons_succ]
      refine wpAnyH_take (i := 7) (v := ?vb7) (by simp only [List.getElem?_toArray, List.getElem?_cons_succ, List.getElem?_cons_zero]; exact rfl) (by kernel_rfl) (by kernel_rfl) (by kernel_rfl) (by intro _ _ _ h; exact h) (Or.inl ⟨by rfl, ?hyb7⟩) (by assumption) ?restb7
      case hyb7 => (intro w hSw; go_simp; try with_reducible rfl)
      try simp only [Act.put, List.setIfInBounds_toArray, List.set_cons_zero, List.set_cons_succ]
      refine wpAnyH_take (i := 8) (v := ?vb8) (by simp only [List.getElem?_toArray, List.getElem?_cons_succ, List.getElem?_cons_zero]; exact rfl) (by kernel_rfl) (by kernel_rfl) (by kernel_rfl) (by intro _ _ _ h; exact h) (Or.inl ⟨by rfl, ?hyb8⟩) (by assumption) ?restb8
      case hyb8 => (intro w hSw; go_simp; try with_reducible rfl)
      try simp only [Act.put, List.setIfInBounds_toArray, List.set_cons_zero, List.set_cons_succ]
      refine wpAnyH_ready (rs := [9]) (by kernel_rfl) (by simp) (AllReadyH.cons (by simp only [List.getElem?_toArray, List.getElem?_cons_succ, List.getElem?_cons_zero]; exact rfl) (fun K hK => ?_) AllReadyH.nil)
      go_simp
      refine hK.out _ _ ?_ (fun hHeld => ?_)
      · exact (by refine ⟨?_, ?_, ?_⟩ <;> go_simp)
      clear hK K
      try simp only [Act.put, List.setIfInBounds_toArray, List.set_cons_zero, List.set_cons_succ]
      refine wpAnyH_ready (rs := [10]) (by kernel_rfl) (by simp) (AllReadyH.cons (by simp only [List.getElem?_toArray, List.getElem?_cons_succ, List.getElem?_cons_zero]; exact rfl) (fun K hK => ?_) AllReadyH.nil)
      go_simp
      refine hK.out _ _ ?_ (fun hHeld => ?_)
      · exact (by refine ⟨?_, ?_, ?_⟩ <;> go_simp)
      clear hK K
      try simp only [Act.put, List.setIfInBounds_toArray, List.set_cons_zero, List.set_cons_succ]
      refine wpAnyH_done (by kernel_rfl) ?_ _
      unfold EndN
      dsimp only
      gi_wp2_with fail
      refine ⟨KO.trans ((KeepsOthers.setCell W1 _ _).trans ((KeepsOthers.setCell _ _ _).trans ⟨Nat.le_refl _, fun _ _ h _ => h⟩)), ?_, ⟨?_, ?_, ?_, ?_, ?_⟩, ?_⟩
      · exact Below.trans kW (((Below.refl _ W1).setCell (p := ⟨w.heap.size + 1, 0, none⟩) (by show w.heap.size ≤ w.heap.size + 1; omega) _).setCell (p := ⟨w.heap.size + 1 + 1, 0, none⟩) (by show w.heap.size ≤ w.heap.size + 1 + 1; omega) _).drew
      · go_simp
      · rw [HK.out]; go_simp
      · rw [HK.out]; go_simp
      · go_simp
      · go_simp
      · exact ((bW.setCell (p := ⟨w.heap.size + 1, 0, none⟩) (by show w.heap.size ≤ w.heap.size + 1; omega) _).setCell (p := ⟨w.heap.size + 1 + 1, 0, none⟩) (by show w.heap.size ≤ w.heap.size + 1 + 1; omega) _).drew
    · rw [if_neg hlt] at HS
      have HK := Kept.mk HS
      clear HS
      gi_wp2_with fail
      refine ⟨KO, kW, ⟨g1, by rw [HK.out]; exact g2, by rw [HK.out]; exact g3, g4, g5⟩, bW⟩
  case done =>
    rintro D l W hD hS ⟨⟨g1, g2, g3, g4, g5⟩, hbW⟩ hK
    have e : nxS xs l = nxF xs (lbn P) := by unfold nxS; rw [hS]
    rw [e] at g2 g3
    gi_wp2_with fail
    gi_quiet (fail)
    have hK' : (W.drewN nq).heap[D]? = some (.deferred (some [])) := hK
    have hb' := hbW.drewN nq
    generalize W.drewN nq = W5 at hK' hb' ⊢
    gi_wp2
    refine ⟨by simp, .inl ⟨_, _, rfl, run_takeDeferred hK', ?_⟩⟩
    refine ⟨.tuple #[.int .i64 (nxF xs (lbn P)).1, .bool (!((nxF xs (lbn P)).1 == 64))], ?_, rfl, ?_⟩
    · simp [results, Tryd.f41, go_sem, bne]
    · exact hb'.trans (belowK_b (w := W4) (by omega) _ D _ _ hD hK' rfl rfl)
  case stop =>
    rintro D c pre W hD hpre ⟨hf, hbW⟩ hK
    exact hf.elim
end Go.Proofs.YtcchmkpodfjhcaaDoor
