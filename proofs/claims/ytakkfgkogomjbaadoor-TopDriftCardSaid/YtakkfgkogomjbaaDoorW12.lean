/-
  The wheel: the walk of told.
-/
import Derived.Test.YtakkfgkogomjbaaDoorW11
import Derived.Laws.AppendOwn
namespace Go.Proofs.YtakkfgkogomjbaaDoor
open Go.RowKit Go.Shelf Go.Maps Go.ChangeMaps Go.Sort
set_option linter.unusedVariables false
set_option linter.unusedSimpArgs false
theorem info_tmr : (Tryd.prog.info? 100).map (fun i => (i.zero, i.size, i.bytes)) = some (some (.agg #[.int .i64 0, .int .i64 0, .int .i64 0]), 3, 24) := by kernel_rfl
theorem info_due : (Tryd.prog.info? 52).map (fun i => (i.zero, i.size, i.bytes)) = some (some (.agg #[.int .i64 0, .int .i64 0]), 2, 16) := by kernel_rfl
/-- A timer as it is told. -/
def encD (t : Tm) : List Value := [.int .i64 t.id, .int .i64 t.du]
/-- What is told, in memory. -/
def DuR (w : World) (A : Option Addr) (l : List Tm) : Prop := 0 < l.length → ∃ b, A = some ⟨b, 0, none⟩ ∧ b < w.heap.size ∧ ∀ k x, l[k]? = some x → w.cell? ⟨b, k * 2, none⟩ = some (.int .i64 x.id) ∧ w.cell? ⟨b, k * 2 + 1, none⟩ = some (.int .i64 x.du)
/-- What is known of the timers behind some drops. -/
theorem own_kp {w w' : World} {lo hi base : Nat} {e : TypeId} {size n : Nat} {v : Value} {xs : List Value} (h : w.ownsRow base e size v n xs) (hk : Kp lo hi w w') (hb : hi ≤ base) : w'.ownsRow base e size v n xs := by
  refine ⟨h.1, ?_⟩
  rcases h.2 with hn | ⟨g, cap, cur, rfl, hb2, hgg, rest⟩
  · exact .inl hn
  · refine .inr ⟨g, cap, cur, rfl, hb2, ?_, rest⟩
    rw [hk.block g ((Array.getElem?_eq_some_iff.1 hgg).1) (.inr (by omega))]
    exact hgg
theorem filt_step (A : List Tm) (l : List Int) (a : Int) : (A.filter fun t => decide (t.id ∉ l)).filter (fun t => decide (t.id ≠ a)) = A.filter fun t => decide (t.id ∉ l ++ [a]) := by
  rw [List.filter_filter]
  refine List.filter_congr fun t _ => ?_
  rw [Bool.eq_iff_iff]
  simp only [Bool.and_eq_true, decide_eq_true_eq, List.mem_append, List.mem_singleton, not_or]
  exact ⟨fun h => ⟨h.2, h.1⟩, fun h => ⟨h.2, h.1⟩⟩
theorem kp_bel {lo hi B : Nat} {a b c : World} (h : Kp lo hi a b) (hb : Below B b c) (hB : a.heap.size ≤ B) : Kp lo hi a c :=
  ⟨hb.os.trans h.os, hb.tape.trans h.tape, hb.output.trans h.output, Nat.le_trans h.size hb.size, fun i h1 h2 => (hb.block i (by omega)).trans (h.block i h1 h2)⟩
theorem nodup_of_map {α β : Type} (g : α → β) : ∀ {l : List α}, (l.map g).Nodup → l.Nodup
  | [], _ => List.nodup_nil
  | a :: r, h => by
    rw [List.map_cons, List.nodup_cons] at h
    exact List.nodup_cons.2 ⟨fun hm => h.1 (List.mem_map_of_mem hm), nodup_of_map g h.2⟩
/-- The due list's timers are those that are due. -/
theorem due_list {w : World} {lo hi wb I M p L K n : Nat} {S : PS} {T : Nat → Tm} {f : Int → Option Nat} {F : Nat → Nat} {now tu : Int} {A : List Tm} (h : WK w lo hi wb I M p L K n S T f F now tu A []) (hp : Pl S T now) {R : List Nat} (hR : R = S.list ((257 : Nat) : Int)) (hn : R.Nodup) :
    (A.filter fun t => decide (t.id ∉ R.map fun x => (T x).id)) = (A.filter fun t => decide (now < t.du)) ∧ (R.map T).Perm (A.filter fun t => decide (t.du ≤ now)) ∧ (R.map T).Pairwise fun a b => a.tn ≠ b.tn := by
  have key : ∀ t ∈ A, (t ∈ R.map T ↔ t.du ≤ now) ∧ (t.id ∈ (R.map fun x => (T x).id) ↔ t.du ≤ now) := fun t ht => by
    obtain ⟨q, hq, x, hx, e⟩ := h.co.all t ht
    have hqx := hp q hq x hx
    rw [e] at hqx
    have h1 : t.du ≤ now ↔ q = 257 := by rw [hqx]; exact (hm_due now t.du).symm
    constructor
    · rw [h1]
      constructor
      · intro hm
        obtain ⟨y, hy, ey⟩ := List.mem_map.1 hm
        rw [hR] at hy
        have := hp 257 (by omega) y hy
        rw [ey] at this
        omega
      · rintro rfl
        exact List.mem_map.2 ⟨x, by rw [hR]; exact hx, e⟩
    · rw [h1]
      constructor
      · intro hm
        obtain ⟨y, hy, ey⟩ := List.mem_map.1 hm
        rw [hR] at hy
        have hxy := h.uniq hq (show 257 < 258 by omega) hx hy (by rw [e]; exact ey.symm)
        subst hxy
        have := hp 257 (by omega) x hy
        rw [e] at this
        omega
      · rintro rfl
        exact List.mem_map.2 ⟨x, by rw [hR]; exact hx, by rw [e]⟩
  have hmem : ∀ t ∈ R.map T, t ∈ A := fun t ht => by
    obtain ⟨x, hx, rfl⟩ := List.mem_map.1 ht
    rw [hR] at hx
    exact h.co.mem 257 (by omega) x hx
  have hnd : (R.map T).Nodup := by
    refine List.pairwise_map.2 (List.Pairwise.imp_of_mem (fun {a b} ha hb hab e => hab ?_) hn)
    rw [hR] at ha hb
    exact h.uniq (show 257 < 258 by omega) (show 257 < 258 by omega) ha hb (by rw [e])
  have hpm : (R.map T).Perm (A.filter fun t => decide (t.du ≤ now)) := by
    refine (List.perm_ext_iff_of_nodup hnd ((nodup_of_map Tm.id h.co.ids).sublist List.filter_sublist)).2 fun t => ?_
    rw [List.mem_filter, decide_eq_true_eq]
    exact ⟨fun ht => ⟨hmem t ht, ((key t (hmem t ht)).1).1 ht⟩, fun ⟨h1, h2⟩ => ((key t h1).1).2 h2⟩
  refine ⟨List.filter_congr fun t ht => ?_, hpm, ?_⟩
  · rw [Bool.eq_iff_iff, decide_eq_true_eq, decide_eq_true_eq, (key t ht).2]
    omega
  · refine (hpm.symm.pairwise_iff (fun {a b} h => h.symm)).1 ?_
    exact (h.co.tn.filter _).imp fun h => by omega
/-- What is known behind some drops. -/
structure Dr (w wr : World) (lo hi wb I M p L K n : Nat) (T : Nat → Tm) (now tu : Int) (A : List Tm) (R : List Nat) (base j : Nat) (v : Value) (Sj : PS) (fj : Int → Option Nat) (Fj : Nat → Nat) : Prop where
  k : WK wr lo hi wb I M p L K n Sj T fj Fj now tu (A.filter fun t => decide (t.id ∉ (R.take j).map fun x => (T x).id)) []
  pl : Pl Sj T now
  ins : ∀ x ∈ R.drop j, x ∈ Sj.list ((257 : Nat) : Int)
  own : wr.ownsRow base 100 3 v j (((R.take j).map T).flatMap encT)
  kp : Kp lo hi w wr
theorem Dr.step {w wr w4 w5 : World} {lo hi wb I M p L K n : Nat} {T : Nat → Tm} {now tu : Int} {A : List Tm} {R : List Nat} {base j x : Nat} {v v' : Value} {Sj : PS} {fj : Int → Option Nat} {Fj F' : Nat → Nat} (h : Dr w wr lo hi wb I M p L K n T now tu A R base j v Sj fj Fj) (hn : R.Nodup) (hx : R[j]? = some x) (hb : hi ≤ base) (h4 : Kp lo hi w w4)
    (ho : w4.ownsRow base 100 3 v' (j + 1) (((R.take j).map T).flatMap encT ++ encT (T x))) (hk : Kp lo hi w4 w5) (hw : WK w5 lo hi wb I M p L K n (Sj.give x) T (fun a => if a = (T x).id then none else fj a) F' now tu ((A.filter fun t => decide (t.id ∉ (R.take j).map fun x => (T x).id)).filter fun t => decide (t.id ≠ (T x).id)) []) :
    Dr w w5 lo hi wb I M p L K n T now tu A R base (j + 1) v' (Sj.give x) (fun a => if a = (T x).id then none else fj a) F' := by
  have hjl := (List.getElem?_eq_some_iff.1 hx).1
  have ht : R.take (j + 1) = R.take j ++ [x] := by rw [List.take_add_one, hx]; rfl
  have hd : R.drop j = x :: R.drop (j + 1) := by rw [List.drop_eq_getElem_cons hjl, (List.getElem?_eq_some_iff.1 hx).2]
  have hnd : x ∉ R.drop (j + 1) := by
    have h := hn.sublist (List.drop_sublist j R)
    rw [hd] at h
    exact (List.nodup_cons.1 h).1
  refine ⟨?_, pl_give h.pl x, fun y hy => ?_, ?_, h4.trans hk⟩
  · rw [ht, List.map_append, List.map_singleton, ← filt_step]; exact hw
  · rw [give_list]
    exact List.mem_filter.2 ⟨h.ins y (by rw [hd]; simp [hy]), by simp only [decide_eq_true_eq]; rintro rfl; exact hnd hy⟩
  · rw [ht, List.map_append, List.flatMap_append]
    simpa using own_kp ho hk hb
theorem encD_len (l : List Tm) : (l.flatMap encD).length = l.length * 2 := by
  induction l with
  | nil => rfl
  | cons t r ih => rw [List.flatMap_cons, List.length_append, ih, List.length_cons]; simp [encD]; omega
theorem encD_at : ∀ (l : List Tm) (k o : Nat) (x : Tm), l[k]? = some x → o < 2 → (l.flatMap encD)[k * 2 + o]? = (encD x)[o]?
  | [], k, o, x, h, ho => by simp at h
  | t :: r, 0, o, x, h, ho => by
    simp at h
    subst h
    rw [List.flatMap_cons, List.getElem?_append_left (by simp [encD]; omega)]
    simp
  | t :: r, k + 1, o, x, h, ho => by
    rw [List.flatMap_cons, List.getElem?_append_right (by simp [encD]; omega)]
    have := encD_at r k o x (by simpa using h) ho
    rw [← this]
    congr 1
    simp [encD]
    omega
theorem DuR.of_own {w : World} {base : Nat} {e : TypeId} {A : Option Addr} {l : List Tm} {c n : Nat} (hn : n = l.length) (h : w.ownsRow base e 2 (.slice A n c) n (l.flatMap encD)) : DuR w A l := fun h0 => by
  obtain ⟨g, cap, hv, _, hlt⟩ := h.form (by omega)
  have hA : A = some ⟨g, 0, none⟩ := by injection hv
  subst hA
  have cell : ∀ j v, (l.flatMap encD)[j]? = some v → w.cell? ⟨g, j, none⟩ = some v := fun j v hj => by
    have := h.cells (g := g) rfl j v hj
    rwa [show (⟨g, 0, none⟩ : Addr).add j = ⟨g, j, none⟩ from by unfold Addr.add; split <;> simp_all] at this
  refine ⟨g, rfl, hlt, fun k x hx => ⟨?_, ?_⟩⟩
  · exact cell (k * 2) _ (by have := encD_at l k 0 x hx (by omega); simpa [encD] using this)
  · exact cell (k * 2 + 1) _ (by have := encD_at l k 1 x hx (by omega); simpa [encD] using this)
set_option maxRecDepth 100000 in
set_option maxHeartbeats 8000000 in
theorem wtold_any (HSO : SortOk) {w : World} {lo hi wb I M p L K n : Nat} {now tu : Int} {A : List Tm} (h : WAt w lo hi wb I M p L K n now tu A) (hwf : ∀ t ∈ A, (Lit.int .i64 t.id).wf = true) :
    Calls Tryd.prog 33 #[.pointer (some ⟨wb, 0, none⟩)] w fun e w' => ∃ D B c, e = .returned (.slice B D.length c) ∧ Srt D ∧ D.Perm (A.filter fun t => decide (t.du ≤ now)) ∧ DuR w' B D ∧ WAt w' lo hi wb I M p L K n now tu (A.filter fun t => decide (now < t.du)) ∧ Kp lo hi w w' := by
  obtain ⟨S, T, f, F, h, hpl⟩ := h.of
  obtain ⟨F0, G0, _, hG⟩ := h.pa.of
  obtain ⟨lnd, lle, llt⟩ := list_nodup hG (257 : Int)
  have HL := plist_own h.pa (257 : Int)
  obtain ⟨R, hR⟩ : ∃ R, R = S.list (257 : Int) := ⟨_, rfl⟩
  rw [← hR] at lnd lle llt HL
  have hly := h.ly
  have hn4 : n ≤ 4096 := h.pa.nb
  have HK := Kept.mk h
  have HPL := Kept.mk hpl
  have HND := Kept.mk lnd
  have HLT := Kept.mk llt
  have HRR := Kept.mk hR
  have hRl : R.length ≤ 4096 := by omega
  obtain ⟨c0, c1, c2, c3, c4, c5, c6, c7, c8, wf⟩ := h.wc
  obtain ⟨i0, hi0, hz0, hz1, hz2⟩ := info_parts info_tmr
  obtain ⟨k0, hk0, hy0, hy1, hy2⟩ := info_parts info_due
  clear h hpl hG lnd llt hR lle
  go_enter Tryd.func33, Tryd.ntmps33
  go_wp2_with fail
  refine HL.mono ?_
  rintro e w1 ⟨A1, n1, rfl, ho, hb1⟩
  have HO := Kept.mk ho
  have HB1 := Kept.mk hb1
  have hnl := natI_len R
  rw [hnl] at ho ⊢
  clear c0 c1 c2 c3 c4 c5 c6 c7 c8 wf HL ho hb1
  have HSL := Kept.mk (fun (j x : Nat) (hj : R[j]? = some x) => show ∃ g, A1 = some ⟨g, 0, none⟩ ∧ hi ≤ g ∧ g < w1.heap.size ∧ w1.cell? ⟨g, j, none⟩ = some (.int .i64 (x : Int)) from by
    have hjl := (List.getElem?_eq_some_iff.1 hj).1
    obtain ⟨g, cap, hv, _, hlt⟩ := HO.out.form (by rw [hnl]; omega)
    have hA : A1 = some ⟨g, 0, none⟩ := by injection hv
    refine ⟨g, hA, ?_, hlt, ?_⟩
    · have := (HO.out.lt g (by rw [hA]; rfl)).1
      have := HK.out.hh
      omega
    · have hO := HO.out
      rw [hA] at hO
      have := hO.cells (g := g) rfl j (.int .i64 (x : Int)) (by simp [natI, hj])
      rwa [show (⟨g, 0, none⟩ : Addr).add j = ⟨g, j, none⟩ from by unfold Addr.add; split <;> simp_all] at this)
  clear hnl
  have hbase : hi ≤ w1.heap.size := by have := HK.out.hh; have := HB1.out.size; omega
  go_wp2_with fail
  go_loopw [3, 15] (fun v i wr => ∃ (j : Nat) (Sj : PS) (fj : Int → Option Nat) (Fj : Nat → Nat), j ≤ R.length ∧ i = .int .i64 j ∧ Kept (Dr w wr lo hi wb I M p L K n T now tu A R w1.heap.size j v Sj fj Fj) ∧ Kept (Kp lo hi w1 wr)) (fun _ i _ => R.length - (intOf i).toNat)
  case atStart =>
    have h1 := HK.out.below (HB1.out.mono HK.out.hh)
    exact ⟨0, S, f, F, by omega, rfl, ⟨⟨by rw [show (A.filter fun t => decide (t.id ∉ (R.take 0).map fun x => (T x).id)) = A from List.filter_eq_self.2 (fun t _ => by simp)]; exact h1, HPL.out, fun x hx => by rw [HRR.out] at hx; exact hx, World.ownsRow_nil _ _ _ _, Kp.of_below HB1.out⟩⟩, ⟨Kp.refl _ _ _⟩⟩
  case round =>
    obtain ⟨j, Sj, fj, Fj, hjl, rfl, hD, hk1⟩ := hrel
    by_cases hlt : j < R.length
    · obtain ⟨x, hx⟩ : ∃ x, R[j]? = some x := ⟨_, List.getElem?_eq_getElem hlt⟩
      obtain ⟨g, rfl, hg1, hg2, hgc⟩ := HSL.out j x hx
      have hxc : wr.cell? ⟨g, j, none⟩ = some (.int .i64 (x : Int)) := (World.cell?_of_block (a := ⟨g, j, none⟩) (hk1.out.block g hg2 (.inr hg1))).trans hgc
      have hxn := HLT.out x (List.mem_of_getElem? hx)
      have hdr : R.drop j = x :: R.drop (j + 1) := by rw [List.drop_eq_getElem_cons hlt, (List.getElem?_eq_some_iff.1 hx).2]
      have HXK := Kept.mk (show x ∈ Sj.list ((257 : Nat) : Int) from hD.out.ins x (by rw [hdr]; simp))
      have HX := Kept.mk hx
      obtain ⟨c0, c1, c2, c3, c4, c5, c6, c7, c8, wf⟩ := hD.out.k.wc
      have m0 := hD.out.k.nb.c (x * 3) (by omega)
      have m1 := hD.out.k.nb.c (x * 3 + 1) (by omega)
      have m2 := hD.out.k.nb.c (x * 3 + 2) (by omega)
      rw [tmN_0] at m0
      rw [tmN_1] at m1
      rw [tmN_2] at m2
      have hxn3 : (x : Int) < (n : Int) := by omega
      have HOWN := Kept.mk (hD.out.own.alloc (.cells #[.int .i64 (T x).id, .int .i64 (T x).du, .int .i64 (T x).tn] 100))
      have HNEW := Kept.mk (show ∀ k u, [Value.int .i64 (T x).id, .int .i64 (T x).du, .int .i64 (T x).tn][k]? = some u → (wr.alloc (.cells #[.int .i64 (T x).id, .int .i64 (T x).du, .int .i64 (T x).tn] 100)).cell? ((⟨wr.heap.size, 0, none⟩ : Addr).add k) = some u from World.news_of_block (cs := #[.int .i64 (T x).id, .int .i64 (T x).du, .int .i64 (T x).tn]) (heap_alloc_new wr _))
      have hbs : w1.heap.size ≤ (wr.alloc (.cells #[.int .i64 (T x).id, .int .i64 (T x).du, .int .i64 (T x).tn] 100)).heap.size := by have := hk1.out.size; simp; omega
      obtain ⟨A0, cp, hv⟩ := own_slice hD.out.own
      subst hv
      have HF := Kept.mk (fun (v' : Value) (w4 : World) (ho : w4.ownsRow w1.heap.size 100 3 v' (j + 1) (((R.take j).map T).flatMap encT ++ [Value.int .i64 (T x).id, .int .i64 (T x).du, .int .i64 (T x).tn])) (hg : (wr.alloc (.cells #[.int .i64 (T x).id, .int .i64 (T x).du, .int .i64 (T x).tn] 100)).grownBy w4 (Value.slice A0 j cp).ownBlock) => show
          ∃ A4 c4, v' = .slice A4 (j + 1) c4 ∧ Kept (WK w4 lo hi wb I M p L K n Sj T fj Fj now tu (A.filter fun t => decide (t.id ∉ (R.take j).map fun x => (T x).id)) []) ∧ Kept (Kp lo hi w w4) ∧ Kept (Kp lo hi w1 w4) from by
        obtain ⟨A4, c4, rfl⟩ := own_slice ho
        have hb : Below w1.heap.size wr w4 := ((Below.refl _ _).alloc hk1.out.size _).grown hg hbs fun k hk => (HOWN.out.lt k hk).1
        exact ⟨A4, c4, rfl, ⟨hD.out.k.below (hb.mono hbase)⟩, ⟨kp_bel hD.out.kp hb HB1.out.size⟩, ⟨kp_bel hk1.out hb (Nat.le_refl _)⟩⟩)
      clear hgc hdr hx
      go_wp2_with (at_builtin; refine wpList_append_own _ rfl _ _ 89 rfl w1.heap.size 100 i0 (.agg #[.int .i64 0, .int .i64 0, .int .i64 0]) 3 24 Tryd.underlying89 hi0 hz0 hz1 hz2 rfl (by decide) _ _ _ rfl HOWN.out ⟨wr.heap.size, 0, none⟩ 1 1 [.int .i64 (T x).id, .int .i64 (T x).du, .int .i64 (T x).tn] rfl rfl HNEW.out (by simp [Value.oneCell']) (by simp only [maxLen]; omega) (by omega) hbs ?_; intro v' w4 own4 grow4 _; obtain ⟨A4, c4, rfl, hw4, hk4, hk14⟩ := HF.out v' w4 own4 grow4; have HO4 := Kept.mk own4; clear own4 grow4)
      have HDR := wdrop_any hw4.out (q := 257) (by omega) HXK.out (by
        have := hw4.out.co.mem 257 (by omega) x HXK.out
        exact hwf _ (List.mem_filter.1 this).1)
      refine HDR.mono ?_
      rintro e w5 ⟨rfl, hk5, F5, hw5⟩
      have HST := Kept.mk (hD.out.step HND.out HX.out hbase hk4.out HO4.out hk5 hw5)
      have HK5 := Kept.mk (hk14.out.trans hk5)
      clear HDR hk5 hw5 HF HOWN HNEW
      go_wp2
      go_roundw
      case rel => exact ⟨j + 1, _, _, F5, by omega, by go_num, HST, HK5⟩
      case measure => simp [intOf]; omega
    · obtain rfl : j = R.length := by omega
      clear hlt hjl
      obtain ⟨wo, hwo⟩ : ∃ wo : World, wo = wr := ⟨_, rfl⟩
      subst hwo
      obtain ⟨q1, q2, q3⟩ := due_list HK.out HPL.out HRR.out HND.out
      obtain ⟨A0, cp, hv⟩ := own_slice hD.out.own
      subst hv
      have hown := hD.out.own
      rw [List.take_length] at hown
      have hwk := hD.out.k
      rw [List.take_length, q1] at hwk
      have HWK := Kept.mk (show WAt wo lo hi wb I M p L K n now tu (A.filter fun t => decide (now < t.du)) from ⟨Sj, T, fj, Fj, hwk, hD.out.pl⟩)
      have HKP := Kept.mk hD.out.kp
      obtain ⟨Ls, hLs⟩ : ∃ Ls, Ls = R.map T := ⟨_, rfl⟩
      rw [← hLs] at q2 q3 hown
      have hll : R.length = Ls.length := by rw [hLs, List.length_map]
      rw [hll] at hown hRl ⊢
      have HSC := HSO A0 Ls cp w1.heap.size wo hown hRl q3
      have HPM := Kept.mk q2
      have hwz : wo.heap.size ≥ w1.heap.size := hk1.out.size
      clear q1 q2 q3 hown hwk hLs hll hD HSL
      go_wp2_with fail
      refine HSC.mono ?_
      rintro e w6 ⟨rfl, D, hsd, hpd, htm, hb6⟩
      have HSD := Kept.mk hsd
      have HPD := Kept.mk (hpd.trans HPM.out)
      have HTM := Kept.mk htm
      have hdl : Ls.length = D.length := hpd.length_eq.symm
      have HW6 := Kept.mk (HWK.out.below (hb6.mono hbase))
      have HK6 := Kept.mk (kp_bel HKP.out hb6 HB1.out.size)
      have hwz6 := hb6.size
      rw [hdl] at hRl ⊢
      clear hsd hpd htm hdl hb6 HSC HPM HWK HKP
      go_wp2_with fail
      go_loopw [6, 37] (fun v i wr => ∃ j : Nat, j ≤ D.length ∧ i = .int .i64 j ∧ Kept (wr.ownsRow w6.heap.size 52 2 v j ((D.take j).flatMap encD)) ∧ Kept (Below w6.heap.size w6 wr)) (fun _ i _ => D.length - (intOf i).toNat)
      case atStart => exact ⟨0, by omega, rfl, ⟨World.ownsRow_nil _ _ _ _⟩, ⟨Below.refl _ _⟩⟩
      case round =>
        obtain ⟨j, hjl, rfl, hO, hB⟩ := hrel
        obtain ⟨Av, cv, hv⟩ := own_slice hO.out
        subst hv
        by_cases hlt : j < D.length
        · obtain ⟨x, hx⟩ : ∃ x, D[j]? = some x := ⟨_, List.getElem?_eq_getElem hlt⟩
          obtain ⟨b, rfl, hbl, hc⟩ := HTM.out (by omega)
          have e0 : wr.cell? ⟨b, j * 3, none⟩ = some (.int .i64 x.id) := (hB.out.cell (p := ⟨b, j * 3, none⟩) hbl).trans (hc j x hx 0 _ rfl)
          have e1 : wr.cell? ⟨b, j * 3 + 1, none⟩ = some (.int .i64 x.du) := (hB.out.cell (p := ⟨b, j * 3 + 1, none⟩) hbl).trans (hc j x hx 1 _ rfl)
          have e2 : wr.cell? ⟨b, j * 3 + 2, none⟩ = some (.int .i64 x.tn) := (hB.out.cell (p := ⟨b, j * 3 + 2, none⟩) hbl).trans (hc j x hx 2 _ rfl)
          have ht : D.take (j + 1) = D.take j ++ [x] := by rw [List.take_add_one, hx]; rfl
          have HT := Kept.mk ht
          obtain ⟨x0, x1, x2⟩ := x
          simp only at e0 e1 e2
          have HOWN := Kept.mk ((hO.out.alloc (.cells #[.int .i64 x0, .int .i64 x1, .int .i64 x2] 100)).alloc (.cells #[.int .i64 x0, .int .i64 x1] 52))
          have HNEW := Kept.mk (show ∀ k u, [Value.int .i64 x0, .int .i64 x1][k]? = some u → ((wr.alloc (.cells #[.int .i64 x0, .int .i64 x1, .int .i64 x2] 100)).alloc (.cells #[.int .i64 x0, .int .i64 x1] 52)).cell? ((⟨wr.heap.size + 1, 0, none⟩ : Addr).add k) = some u from by
            have h := World.news_of_block (cs := #[.int .i64 x0, .int .i64 x1]) (heap_alloc_new (wr.alloc (.cells #[.int .i64 x0, .int .i64 x1, .int .i64 x2] 100)) (.cells #[.int .i64 x0, .int .i64 x1] 52))
            rw [show (wr.alloc (.cells #[.int .i64 x0, .int .i64 x1, .int .i64 x2] 100)).heap.size = wr.heap.size + 1 by simp] at h
            exact h)
          have hbs : w6.heap.size ≤ ((wr.alloc (.cells #[.int .i64 x0, .int .i64 x1, .int .i64 x2] 100)).alloc (.cells #[.int .i64 x0, .int .i64 x1] 52)).heap.size := by have := hB.out.size; simp; omega
          have HF := Kept.mk (fun (v' : Value) (w' : World) (ho : w'.ownsRow w6.heap.size 52 2 v' (j + 1) ((D.take j).flatMap encD ++ [Value.int .i64 x0, .int .i64 x1])) (hg : ((wr.alloc (.cells #[.int .i64 x0, .int .i64 x1, .int .i64 x2] 100)).alloc (.cells #[.int .i64 x0, .int .i64 x1] 52)).grownBy w' (Value.slice Av j cv).ownBlock) => show
              Kept (w'.ownsRow w6.heap.size 52 2 v' (j + 1) ((D.take (j + 1)).flatMap encD)) ∧ Kept (Below w6.heap.size w6 w') from by
            refine ⟨⟨?_⟩, ⟨((hB.out.alloc hB.out.size _).alloc (by have := hB.out.size; simp; omega) _).grown hg hbs fun k hk => (HOWN.out.lt k hk).1⟩⟩
            rw [HT.out, List.flatMap_append]
            simpa [encD] using ho)
          have hbl2 : b < wr.heap.size := by have := hB.out.size; omega
          clear hc hx ht
          go_wp2_with (at_builtin; refine wpList_append_own _ rfl _ _ 43 rfl w6.heap.size 52 k0 (.agg #[.int .i64 0, .int .i64 0]) 2 16 Tryd.underlying43 hk0 hy0 hy1 hy2 rfl (by decide) _ _ _ rfl HOWN.out ⟨wr.heap.size + 1, 0, none⟩ 1 1 [.int .i64 x0, .int .i64 x1] rfl rfl HNEW.out (by simp [Value.oneCell']) (by simp only [maxLen]; omega) (by omega) hbs ?_; intro v' w' own4 grow4 _; obtain ⟨hf1, hf2⟩ := HF.out v' w' own4 grow4; clear own4 grow4)
          go_roundw
          case rel => exact ⟨j + 1, by omega, by go_num, hf1, hf2⟩
          case measure => simp [intOf]; omega
        · obtain rfl : j = D.length := by omega
          have hO2 := hO.out
          rw [List.take_length] at hO2
          have HDU := Kept.mk (DuR.of_own rfl hO2)
          have HFW := Kept.mk (HW6.out.below (hB.out.mono (by omega)))
          have HFK := Kept.mk (kp_bel HK6.out hB.out (by have := HB1.out.size; omega))
          clear hlt hjl hO2
          go_wp2
          go_ret
          exact ⟨D, Av, cv, rfl, HSD.out, HPD.out, HDU.out, HFW.out, HFK.out⟩
end Go.Proofs.YtakkfgkogomjbaaDoor
