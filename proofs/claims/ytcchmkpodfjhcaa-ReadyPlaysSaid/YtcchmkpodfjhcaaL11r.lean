/-
  The walk of the law ReadyPlays.
-/
import Derived.Test.YtcchmkpodfjhcaaL11s
import Derived.Test.YtcchmkpodfjhcaaV3
import Derived.Deep.DeepCutAuto
import Derived.Deep.RegionHeld3
import Derived.Deep.CutBlock
namespace Go.Proofs.Ytcchmkpodfjhcaa
open Go.RowKit
set_option linter.unusedVariables false
def wfQ (Q : QL) : Prop := ∀ x ∈ Q, (Lit.int .i64 x.1).wf = true
theorem wf_push {n : Nat} {Q Q' : QL} {id k a : Int} (h : wfQ Q) (hid : (Lit.int .i64 id).wf = true) (e : qPush n Q id k = (a, Q')) : wfQ Q' := by
  unfold qPush at e
  repeat' (split at e)
  all_goals (cases e)
  · exact h
  · exact h
  · exact h
  · intro x hx
    rcases List.mem_append.1 hx with hx | hx
    · exact h x hx
    · simp only [List.mem_singleton] at hx; subst hx; exact hid
theorem wf_rem {Q : QL} (h : wfQ Q) (id : Int) : wfQ (Q.rem id) := fun x hx => h x (List.mem_filter.1 hx).1
theorem wf_remove {Q Q' : QL} {id a : Int} (h : wfQ Q) (e : qRemove Q id = (a, Q')) : wfQ Q' := by
  unfold qRemove at e
  split at e
  · cases e; exact wf_rem h id
  · cases e; exact h
theorem wf_app {Q : QL} (h : wfQ Q) {id : Int} (hid : (Lit.int .i64 id).wf = true) (k : Nat) : wfQ (Q ++ [(id, k)]) := fun x hx => by
  rcases List.mem_append.1 hx with hx | hx
  · exact h x hx
  · simp only [List.mem_singleton] at hx; subst hx; exact hid
theorem wf_raise {Q Q' : QL} {id k a : Int} (h : wfQ Q) (hid : (Lit.int .i64 id).wf = true) (e : qRaise Q id k = (a, Q')) : wfQ Q' := by
  unfold qRaise at e
  repeat' (split at e)
  all_goals (cases e)
  · exact h
  · exact wf_app (wf_rem h id) hid _
  · exact h
theorem wf_turn {Q Q' : QL} {k a : Int} (h : wfQ Q) (e : qTurn Q k = (a, Q')) : wfQ Q' := by
  unfold qTurn at e
  split at e
  · cases e; exact h
  · cases hh : (Q.of k.toNat).head? with
    | none => rw [hh] at e; cases e; exact h
    | some id =>
      rw [hh] at e
      cases e
      have hm : id ∈ Q.of k.toNat := List.mem_of_mem_head? hh
      exact wf_app (wf_rem h id) (h _ (of_mem.1 hm)) _
theorem topV_eq (o : Option (Int × Nat)) : topV o = .tuple #[.int .i64 (tA o), .int .i64 (tB o), .bool (tC o)] := by
  cases o <;> rfl
theorem lt_of_block {w : World} {b : Nat} {o : Obj} (h : w.heap[b]? = some o) : b < w.heap.size := by
  rcases Nat.lt_or_ge b w.heap.size with h' | h'
  · exact h'
  · rw [Array.getElem?_eq_none h'] at h; cases h
theorem rpush_at {w : World} {hi n : Nat} {Q Q' : QL} {v : Value} {id k a : Int} (h : RefQ w hi n Q v) (hh : hi ≤ w.heap.size) (e : qPush n Q id k = (a, Q')) : Calls Try.prog 44 #[v, .int .i64 id, .int .i64 k] w (RAct w hi n Q' a) := by
  have := rpush_any h hh id k
  rwa [e] at this
theorem rremove_at {w : World} {hi n : Nat} {Q Q' : QL} {v : Value} {id a : Int} (h : RefQ w hi n Q v) (hh : hi ≤ w.heap.size) (e : qRemove Q id = (a, Q')) : Calls Try.prog 47 #[v, .int .i64 id] w (RAct w hi n Q' a) := by
  have := rremove_any h hh id
  rwa [e] at this
theorem rraise_at {w : World} {hi n : Nat} {Q Q' : QL} {v : Value} {id k a : Int} (h : RefQ w hi n Q v) (hh : hi ≤ w.heap.size) (e : qRaise Q id k = (a, Q')) : Calls Try.prog 49 #[v, .int .i64 id, .int .i64 k] w (RAct w hi n Q' a) := by
  have := rraise_any h hh id k
  rwa [e] at this
theorem rturn_at {w : World} {hi n : Nat} {Q Q' : QL} {v : Value} {k a : Int} (h : RefQ w hi n Q v) (hh : hi ≤ w.heap.size) (e : qTurn Q k = (a, Q')) : Calls Try.prog 50 #[v, .int .i64 k] w (RAct w hi n Q' a) := by
  have := rturn_any h hh k
  rwa [e] at this
theorem qtop_mem {Q : QL} (h : ∀ x ∈ Q, x.2 < 64) {id : Int} {p : Nat} (e : qTop Q = some (id, p)) : (id, p) ∈ Q := by
  have := top_is h
  rw [e] at this
  exact of_mem.1 (List.mem_of_mem_head? this.2.1)
theorem qremove_top {Q : QL} (h : ∀ x ∈ Q, x.2 < 64) {id : Int} {p : Nat} (e : qTop Q = some (id, p)) : qRemove Q id = (0, Q.rem id) := by
  unfold qRemove
  rw [if_pos]
  exact List.mem_map.2 ⟨_, qtop_mem h e, rfl⟩
theorem rtop_at {w : World} {hi n : Nat} {Q : QL} {v : Value} (h : RefQ w hi n Q v) {o : Option (Int × Nat)} (e : qTop Q = o) :
    Calls Try.prog 45 #[v] w fun e w' => e = .returned (.tuple #[.agg #[.int .i64 (tA o), .int .i64 (tB o)], .bool (tC o)]) ∧ Below w.heap.size w w' := by
  subst e
  exact rtop_any h
theorem qpop_o {w : World} {lo hi qb I M p L K n : Nat} {Q : QL} (h : QAt w lo hi qb I M p L K n Q) (hid : wfQ Q) {o : Option (Int × Nat)} (e : qTop Q = o) :
    Calls Try.prog 46 #[.pointer (some ⟨qb, 0, none⟩)] w (QRes w lo hi qb I M p L K n (popQ Q o) (.tuple #[.int .i64 (tA o), .int .i64 (tB o), .bool (tC o)])) := by
  subst e
  have := qpop_at h hid
  rwa [topV_eq] at this
/-- Behind the queue's act alone. -/
theorem S11.popped {w w7 w8 : World} {lo hi qb I M p L K n d x : Nat} {Q : QL} {B : Option Addr} {c : Nat} {o u : Obj} (h : S11 w w7 lo hi qb I M p L K n d Q B c) (hv : BQ w7 (x + 1) n B Q.length c) (hx : w7.heap[x]? = some o) {y : Nat} (hy : w7.heap[y]? = some u) (hdx : d < x) (hxy : x < y)
    (hk : Kp lo hi w7 w8) : BQ w8 (x + 1) n B Q.length c ∧ BQ w8 d n B Q.length c ∧ RQ w8 hi B Q ∧ w8.heap[x]? = some o ∧ w8.heap[y]? = some u ∧ Below w.heap.size w w8 := by
  have hd := h.hd
  have hl := hv.lt
  have hdl := h.bx.lt
  have hyl := lt_of_block hy
  have kb : ∀ i, hi ≤ i → i < w7.heap.size → w8.heap[i]? = w7.heap[i]? := fun i h1 h2 => hk.block i h2 (.inr h1)
  exact ⟨hv.kept (kb _ (by omega) hl), h.bx.kept (kb _ (by omega) hdl), h.rq.kp hk, (kb x (by omega) (by omega)).trans hx, (kb y (by omega) hyl).trans hy, hk.below h.bw h.lw h.bw.size⟩
set_option maxRecDepth 100000 in
set_option maxHeartbeats 8000000 in
theorem readyplays_bad (n : Int) (h : ¬ (1 ≤ n ∧ n ≤ 4096)) (v : Value) (w : World) :
    Calls Try.prog 6 #[.int .i64 n, v] w fun e w' => e = .returned (.bool true) ∧ Below w.heap.size w w' := by
  go_enter Try.func6, Try.ntmps6
  go_wp2_with fail
  refine (lives11 _).mono ?_
  rintro e w1 ⟨rfl, hb1⟩
  go_wp2_with fail
  refine (qnew_bad n h w1).mono ?_
  rintro e w2 ⟨rfl, rfl⟩
  go_wp2_with fail
  refine (rnew_bad n h w1).mono ?_
  rintro e w3 ⟨rfl, hb3⟩
  have hb := hb1.trans (hb3.mono hb1.size)
  have hb4 := hb.trans ((below_box w3 (.cells #[.int .i64 0, .slice none 0 0] 69)).mono hb.size)
  have HB := Kept.mk hb4
  clear hb1 hb3 hb hb4
  go_wp2
  go_ret
  exact ⟨rfl, HB.out⟩
set_option maxRecDepth 100000 in
set_option maxHeartbeats 8000000 in
theorem readyplays_walk (n : Nat) (h1 : 1 ≤ n) (h2 : n ≤ 4096) (A : Option Addr) (xs : List Q3) (cap : Nat) (w : World) (hxs : R3 w w.heap.size A xs) (hl : xs.length ≤ 9223372036854775807) (hwf : ∀ x ∈ xs, x.wf) :
    Calls Try.prog 6 #[.int .i64 n, .slice A xs.length cap] w fun e w' => e = .returned (.bool true) ∧ Below w.heap.size w w' := by
  have HI := Kept.mk (fun W (hw : Below w.heap.size w W) => hxs.below hw)
  go_enter Try.func6, Try.ntmps6
  go_wp2_with fail
  refine (lives11 _).mono ?_
  rintro e w1 ⟨rfl, hb1⟩
  go_wp2_with fail
  refine (qnew_any n h1 h2 w1).mono ?_
  rintro e w2 ⟨hi, qb, I, M, p, L, K, rfl, hQ2, hb2⟩
  go_wp2_with fail
  refine (rnew_any n h1 h2 w2).mono ?_
  rintro e w3 ⟨rfl, hb3⟩
  have hb4 := below_box w3 (.cells #[.int .i64 (n : Int), .slice none 0 0] 69)
  have hbw3 := (hb1.trans (hb2.mono hb1.size)).trans (hb3.mono (Nat.le_trans hb1.size hb2.size))
  have H4 : S11 w (w3.alloc (.cells #[.int .i64 (n : Int), .slice none 0 0] 69)) w1.heap.size hi qb I M p L K n w3.heap.size [] none 0 :=
    ⟨(hQ2.below (hb3.mono hQ2.hi)).below (hb4.mono (Nat.le_trans hQ2.hi hb3.size)), heap_alloc_new w3 _, RQ.nil _ _ _, fun _ => rfl, fun x hx => (by cases hx), Nat.le_trans hQ2.hi hb3.size, hb1.size, (by
      obtain ⟨_, _, _, _, hk⟩ := hQ2.of
      have := hk.ly.lh
      omega), h2, hbw3.trans (hb4.mono hbw3.size)⟩
  by_cases hlen : 60 < xs.length
  · have hlen' : 60 < (xs.length : Int) := by omega
    have HF := Kept.mk H4.bw
    clear H4 hQ2 hb4 hbw3 hb3 hb2 hxs
    go_wp2
    go_ret
    exact ⟨rfl, HF.out⟩
  · have hlen' : ¬ 60 < (xs.length : Int) := by omega
    have H := Kept.mk H4
    clear H4 hQ2 hb4 hbw3 hb3 hb2 hxs
    obtain ⟨d, hd⟩ : ∃ d, d = w3.heap.size := ⟨_, rfl⟩
    go_wp2_with fail
    obtain ⟨W4, hW4⟩ : ∃ W, W = w3.alloc (.cells #[.int .i64 (n : Int), .slice none 0 0] 69) := ⟨_, rfl⟩
    rw [← hW4] at H ⊢
    rw [← hd] at H ⊢
    clear hd hW4
    go_loopw [63] (fun t wr => ∃ (k : Nat) (Q : QL) (A : Option Addr) (c : Nat), k ≤ xs.length ∧ t = .int .i64 k ∧ S11 w wr w1.heap.size hi qb I M p L K n d Q A c) (fun t _ => xs.length - (intOf t).toNat)
    case atStart => exact ⟨0, [], none, 0, by omega, rfl, H.out⟩
    case round =>
      clear H
      obtain ⟨k, Q, B, c, hk, rfl, hS⟩ := hrel
      by_cases hlt : k < xs.length
      · obtain ⟨b, off, rfl, hbB, hc⟩ := (HI.out wr hS.bw) (by omega)
        obtain ⟨y, hy⟩ := some3_at hlt
        obtain ⟨e1, e2, e3⟩ := hc k y hy
        have hyw := hwf y (List.mem_of_getElem? hy)
        have ik : (k : Int) < (xs.length : Int) := by omega
        obtain ⟨xa, xb, xc⟩ := y
        simp only at e1 e2 e3
        have hxb : (Lit.int .i64 xb).wf = true := hyw.2.1
        have hb5 := below_box wr (.cells #[.int .i64 xa, .int .i64 xb, .int .i64 xc] 73)
        have hb6 := below_box (wr.alloc (.cells #[.int .i64 xa, .int .i64 xb, .int .i64 xc] 73)) (.cells #[.int .i64 (n : Int), .slice B Q.length c] 69)
        have z5 : (wr.alloc (.cells #[.int .i64 xa, .int .i64 xb, .int .i64 xc] 73)).heap.size = wr.heap.size + 1 := by simp
        have hS6 := (hS.next hb5).next hb6
        have hv6 : BQ ((wr.alloc (.cells #[.int .i64 xa, .int .i64 xb, .int .i64 xc] 73)).alloc (.cells #[.int .i64 (n : Int), .slice B Q.length c] 69)) (wr.heap.size + 1) n B Q.length c := by
          have := heap_alloc_new (wr.alloc (.cells #[.int .i64 xa, .int .i64 xb, .int .i64 xc] 73)) (.cells #[.int .i64 (n : Int), .slice B Q.length c] 69)
          rw [z5] at this
          exact this
        have hx6 : ((wr.alloc (.cells #[.int .i64 xa, .int .i64 xb, .int .i64 xc] 73)).alloc (.cells #[.int .i64 (n : Int), .slice B Q.length c] 69)).heap[wr.heap.size]? = some (.cells #[.int .i64 xa, .int .i64 xb, .int .i64 xc] 73) := by
          rw [hb6.block _ (by rw [z5]; omega)]
          exact heap_alloc_new wr _
        have hdx : d < wr.heap.size := hS.bx.lt
        obtain ⟨q0, q1, qf⟩ : wr.cell? ⟨d, 0, none⟩ = some (.int .i64 (n : Int)) ∧ wr.cell? ⟨d, 1, none⟩ = some (.slice B Q.length c) ∧ (∀ i, wr.frozen? ⟨d, i, none⟩ = false) := ⟨hS.bx.c0, hS.bx.c1, hS.bx.fr⟩
        have HS6 := Kept.mk hS6
        have HV6 := Kept.mk hv6
        have HX6 := Kept.mk hx6
        clear hc hy hyw hb5 hb6 hS hS6 hv6 hx6 z5 hbB
        go_outline
        go_upto_block 2 with fail
        obtain ⟨W6, hW6⟩ : ∃ W, W = (wr.alloc (.cells #[.int .i64 xa, .int .i64 xb, .int .i64 xc] 73)).alloc (.cells #[.int .i64 (n : Int), .slice B Q.length c] 69) := ⟨_, rfl⟩
        rw [← hW6] at HS6 HV6 HX6 ⊢
        obtain ⟨x, hx⟩ : ∃ x, x = wr.heap.size := ⟨_, rfl⟩
        rw [← hx] at HV6 HX6 hdx ⊢
        clear hx hW6 e1 e2 e3 q0 q1 qf
        obtain ⟨q0, q1, qf⟩ : W6.cell? ⟨d, 0, none⟩ = some (.int .i64 (n : Int)) ∧ W6.cell? ⟨d, 1, none⟩ = some (.slice B Q.length c) ∧ (∀ i, W6.frozen? ⟨d, i, none⟩ = false) := ⟨HS6.out.bx.c0, HS6.out.bx.c1, HS6.out.bx.fr⟩
        have x0 := cell_of_row W6 x 0 _ _ _ HX6.out
        have x1 := cell_of_row W6 x 1 _ _ _ HX6.out
        have x2 := cell_of_row W6 x 2 _ _ _ HX6.out
        simp only [List.getElem?_toArray, List.getElem?_cons_zero, List.getElem?_cons_succ] at x0 x1 x2
        go_cut [12, 13] (fun s12 s13 wx => ∃ (na : Int) (nQ : QL) (A7 : Option Addr) (c7 : Nat), s12 = .int .i64 na ∧ s13 = .int .i64 na ∧ BQ wx (x + 1) n A7 nQ.length c7 ∧ wx.heap[x]? = some (.cells #[.int .i64 xa, .int .i64 xb, .int .i64 xc] 73) ∧ BQ wx d n B Q.length c ∧ S11 w ((wx.setCell ⟨d, 0, none⟩ (.int .i64 (n : Int))).setCell ⟨d, 1, none⟩ (.slice A7 nQ.length c7)) w1.heap.size hi qb I M p L K n d nQ A7 c7)
        case first =>
          by_cases hk0 : xa = 0
          · have k0 : (xa == 0) = true := by simp [hk0]
            clear hk0
            obtain ⟨na, nQ, hact⟩ : ∃ a Q', qPush n Q xb xc = (a, Q') := ⟨_, _, rfl⟩
            have HWF := Kept.mk (show wfQ nQ from wf_push HS6.out.wf hxb hact)
            have HACT := Kept.mk hact
            clear hact
            go_wp2_with fail
            refine (rpush_at (HS6.out.ref) HS6.out.qa.hi HACT.out).mono ?_
            rintro e w7 ⟨v7, rfl, hr7, hb7⟩
            have HS7 := Kept.mk (HS6.out.next hb7)
            have HV7 := Kept.mk (HV6.out.below hb7)
            have HX7 := Kept.mk ((hb7.block x (by have := HV6.out.lt; omega)).trans HX6.out)
            have HR7 := Kept.mk hr7
            obtain ⟨⟨A7, c7, rfl, _, _⟩, _, _⟩ := hr7
            clear hb7 q0 q1 qf x0 x1 x2
            obtain ⟨v0, v1, vf⟩ : w7.cell? ⟨x + 1, 0, none⟩ = some (.int .i64 (n : Int)) ∧ w7.cell? ⟨x + 1, 1, none⟩ = some (.slice B Q.length c) ∧ (∀ i, w7.frozen? ⟨x + 1, i, none⟩ = false) := ⟨HV7.out.c0, HV7.out.c1, HV7.out.fr⟩
            have x0 := cell_of_row w7 x 0 _ _ _ HX7.out
            have x1 := cell_of_row w7 x 1 _ _ _ HX7.out
            have x2 := cell_of_row w7 x 2 _ _ _ HX7.out
            simp only [List.getElem?_toArray, List.getElem?_cons_zero, List.getElem?_cons_succ] at x0 x1 x2
            go_wp2_with fail
            refine (push_at (HS7.out.mid hdx _ _) hxb HACT.out).mono ?_
            rintro e w8 ⟨rfl, hQ8, hK8⟩
            obtain ⟨hv8, hd8, ⟨hr8, hn8⟩, hx8, hb8⟩ := HS7.out.acted HV7.out HX7.out hdx HR7.out hK8
            have HS9 := Kept.mk (HS7.out.done hQ8 hd8 hr8 hn8 HWF.out hb8)
            have HX8' := Kept.mk hx8
            have HV8' := Kept.mk hv8
            have HD8' := Kept.mk hd8
            clear v0 v1 vf x0 x1 x2 HS7 HV7 HX7 HR7 hr8 hn8 hK8 hQ8 hx8 hb8 hv8 hd8
            go_wp2_with fail
            go_meet
            exact ⟨na, nQ, A7, c7, rfl, rfl, HV8'.out, HX8'.out, HD8'.out, HS9.out⟩
          · have k0 : (xa == 0) = false := by simp [hk0]
            clear hk0
            by_cases hk1 : xa = 1
            · have k1 : (xa == 1) = true := by simp [hk1]
              clear hk1
              obtain ⟨o, ho⟩ : ∃ o, qTop Q = o := ⟨_, rfl⟩
              have HO := Kept.mk ho
              clear ho
              go_wp2_with fail
              refine (rtop_at HS6.out.ref HO.out).mono ?_
              rintro e w7 ⟨rfl, hb7⟩
              have hb8 := below_box w7 (.cells #[.int .i64 (tA o), .int .i64 (tB o)] 77)
              have b68 := hb7.trans (hb8.mono hb7.size)
              have HS8 := Kept.mk (HS6.out.next b68)
              have HV8 := Kept.mk (HV6.out.below b68)
              have HX8 := Kept.mk ((b68.block x (by have := HV6.out.lt; omega)).trans HX6.out)
              have HY8 := Kept.mk (heap_alloc_new w7 (.cells #[.int .i64 (tA o), .int .i64 (tB o)] 77))
              have hxy : x < w7.heap.size := Nat.lt_of_lt_of_le (by have := HV6.out.lt; omega) hb7.size
              clear hb7 hb8 b68 q0 q1 qf x0 x1 x2
              go_upto_region 20 with fail
              obtain ⟨W8, hW8⟩ : ∃ W, W = w7.alloc (.cells #[.int .i64 (tA o), .int .i64 (tB o)] 77) := ⟨_, rfl⟩
              rw [← hW8] at HS8 HV8 HX8 HY8 ⊢
              obtain ⟨y, hy⟩ : ∃ y, y = w7.heap.size := ⟨_, rfl⟩
              rw [← hy] at HY8 hxy ⊢
              clear hy hW8 HS6 HV6 HX6
              go_wp2_with fail
              refine (qpop_o HS8.out.qa HS8.out.wf HO.out).mono ?_
              rintro e w8 ⟨rfl, hQ8, hK8⟩
              obtain ⟨hv8, hd8, hr8, hx8, hy8, hb8⟩ := HS8.out.popped HV8.out HX8.out HY8.out hdx hxy hK8
              have y0 := cell_of_row w8 y 0 _ _ _ hy8
              have y1 := cell_of_row w8 y 1 _ _ _ hy8
              simp only [List.getElem?_toArray, List.getElem?_cons_zero, List.getElem?_cons_succ] at y0 y1
              have HQ8 := Kept.mk hQ8
              have HR8 := Kept.mk hr8
              have HX8' := Kept.mk hx8
              have HB8 := Kept.mk hb8
              obtain ⟨v0, v1, vf⟩ : w8.cell? ⟨x + 1, 0, none⟩ = some (.int .i64 (n : Int)) ∧ w8.cell? ⟨x + 1, 1, none⟩ = some (.slice B Q.length c) ∧ (∀ i, w8.frozen? ⟨x + 1, i, none⟩ = false) := ⟨hv8.c0, hv8.c1, hv8.fr⟩
              obtain ⟨q0, q1, qf⟩ : w8.cell? ⟨d, 0, none⟩ = some (.int .i64 (n : Int)) ∧ w8.cell? ⟨d, 1, none⟩ = some (.slice B Q.length c) ∧ (∀ i, w8.frozen? ⟨d, i, none⟩ = false) := ⟨hd8.c0, hd8.c1, hd8.fr⟩
              have HD8 := Kept.mk hd8
              have HV8' := Kept.mk hv8
              clear hQ8 hK8 hv8 hd8 hr8 hx8 hy8 hb8
              cases o with
              | none =>
                have hQ8 : QAt w8 w1.heap.size hi qb I M p L K n Q := HQ8.out
                have HS9 := Kept.mk (HS8.out.done hQ8 HD8.out HR8.out HS8.out.na HS8.out.wf HB8.out)
                simp only [tA, tB, tC] at y0 y1 ⊢
                clear hQ8 q0 q1 qf v0 v1 vf
                go_wp2_with fail
                go_meet
                exact ⟨0, Q, B, c, rfl, rfl, HV8'.out, HX8'.out, HD8.out, HS9.out⟩
              | some yy =>
                obtain ⟨id, pr⟩ := yy
                have HRM := Kept.mk (qremove_top HS8.out.qa.pr HO.out)
                simp only [tA, tB, tC] at y0 y1 ⊢
                go_wp2_with fail
                refine (rremove_at (show RefQ w8 hi n Q (.agg #[.int .i64 (n : Int), .slice B Q.length c]) from ⟨⟨B, c, rfl, HR8.out, HS8.out.na⟩, HS8.out.ref.len, HS8.out.nb⟩) HQ8.out.hi HRM.out).mono ?_
                rintro e w9 ⟨v9, rfl, hr9, hb9⟩
                obtain ⟨⟨A7, c7, rfl, hr7, hn7⟩, _, _⟩ := hr9
                obtain ⟨nQ, hnQ⟩ : ∃ X, X = Q.rem id := ⟨_, rfl⟩
                have hwf : wfQ nQ := by rw [hnQ]; exact wf_rem HS8.out.wf id
                have hv9 := HV8'.out.below hb9
                have hd9 := HD8.out.below hb9
                have hq9 : QAt w9 w1.heap.size hi qb I M p L K n nQ := by rw [hnQ]; exact HQ8.out.below (hb9.mono HQ8.out.hi)
                rw [← hnQ] at hr7 ⊢
                have hx9 := (hb9.block x (lt_of_block HX8'.out)).trans HX8'.out
                have hbw9 := HB8.out.trans (hb9.mono HB8.out.size)
                have hm := set_far2 (W := w9) (b := x + 1) (i := 0) (j := 1) (B := x + 1) (Nat.le_refl _) (.int .i64 (n : Int)) (.slice A7 nQ.length c7)
                have hd10 := hd9.kept (hm.block d (by omega))
                have hq10 := hq9.below (hm.mono (by have := HS8.out.hd; omega))
                have hr10 := hr7.set2 hv9 (A' := A7) (l' := nQ.length) (c' := c7)
                have hx10 := (hm.block x (by omega)).trans hx9
                have hv10 := hv9.set (A' := A7) (l' := nQ.length) (c' := c7)
                have hbw10 := hbw9.trans (hm.mono (by have := HS8.out.hd; have := HS8.out.lw; have := HS8.out.lh; omega))
                have HS9 := Kept.mk (HS8.out.done hq10 hd10 hr10 hn7 hwf hbw10)
                clear v0 v1 vf q0 q1 qf y0 y1
                obtain ⟨v0, v1, vf⟩ : w9.cell? ⟨x + 1, 0, none⟩ = some (.int .i64 (n : Int)) ∧ w9.cell? ⟨x + 1, 1, none⟩ = some (.slice B Q.length c) ∧ (∀ i, w9.frozen? ⟨x + 1, i, none⟩ = false) := ⟨hv9.c0, hv9.c1, hv9.fr⟩
                have HV10 := Kept.mk hv10
                have HX10 := Kept.mk hx10
                have HD10 := Kept.mk hd10
                clear hr7 hn7 hv9 hd9 hq9 hx9 hbw9 hm hd10 hq10 hr10 hx10 hv10 hbw10 hwf hnQ
                go_wp2_with fail
                go_meet
                exact ⟨0, nQ, A7, c7, rfl, rfl, HV10.out, HX10.out, HD10.out, HS9.out⟩
            · have k1 : (xa == 1) = false := by simp [hk1]
              clear hk1
              by_cases hk2 : xa = 2
              · have k2 : (xa == 2) = true := by simp [hk2]
                clear hk2
                obtain ⟨na, nQ, hact⟩ : ∃ a Q', qRemove Q xb = (a, Q') := ⟨_, _, rfl⟩
                have HWF := Kept.mk (show wfQ nQ from wf_remove HS6.out.wf hact)
                have HACT := Kept.mk hact
                clear hact
                go_wp2_with fail
                refine (rremove_at (HS6.out.ref) HS6.out.qa.hi HACT.out).mono ?_
                rintro e w7 ⟨v7, rfl, hr7, hb7⟩
                have HS7 := Kept.mk (HS6.out.next hb7)
                have HV7 := Kept.mk (HV6.out.below hb7)
                have HX7 := Kept.mk ((hb7.block x (by have := HV6.out.lt; omega)).trans HX6.out)
                have HR7 := Kept.mk hr7
                obtain ⟨⟨A7, c7, rfl, _, _⟩, _, _⟩ := hr7
                clear hb7 q0 q1 qf x0 x1 x2
                obtain ⟨v0, v1, vf⟩ : w7.cell? ⟨x + 1, 0, none⟩ = some (.int .i64 (n : Int)) ∧ w7.cell? ⟨x + 1, 1, none⟩ = some (.slice B Q.length c) ∧ (∀ i, w7.frozen? ⟨x + 1, i, none⟩ = false) := ⟨HV7.out.c0, HV7.out.c1, HV7.out.fr⟩
                have x0 := cell_of_row w7 x 0 _ _ _ HX7.out
                have x1 := cell_of_row w7 x 1 _ _ _ HX7.out
                have x2 := cell_of_row w7 x 2 _ _ _ HX7.out
                simp only [List.getElem?_toArray, List.getElem?_cons_zero, List.getElem?_cons_succ] at x0 x1 x2
                go_wp2_with fail
                refine (remove_at (HS7.out.mid hdx _ _) hxb HACT.out).mono ?_
                rintro e w8 ⟨rfl, hQ8, hK8⟩
                obtain ⟨hv8, hd8, ⟨hr8, hn8⟩, hx8, hb8⟩ := HS7.out.acted HV7.out HX7.out hdx HR7.out hK8
                have HS9 := Kept.mk (HS7.out.done hQ8 hd8 hr8 hn8 HWF.out hb8)
                have HX8' := Kept.mk hx8
                have HV8' := Kept.mk hv8
                have HD8' := Kept.mk hd8
                clear v0 v1 vf x0 x1 x2 HS7 HV7 HX7 HR7 hr8 hn8 hK8 hQ8 hx8 hb8 hv8 hd8
                go_wp2_with fail
                go_meet
                exact ⟨na, nQ, A7, c7, rfl, rfl, HV8'.out, HX8'.out, HD8'.out, HS9.out⟩
              · have k2 : (xa == 2) = false := by simp [hk2]
                clear hk2
                by_cases hk3 : xa = 3
                · have k3 : (xa == 3) = true := by simp [hk3]
                  clear hk3
                  obtain ⟨na, nQ, hact⟩ : ∃ a Q', qRaise Q xb xc = (a, Q') := ⟨_, _, rfl⟩
                  have HWF := Kept.mk (show wfQ nQ from wf_raise HS6.out.wf hxb hact)
                  have HACT := Kept.mk hact
                  clear hact
                  go_wp2_with fail
                  refine (rraise_at (HS6.out.ref) HS6.out.qa.hi HACT.out).mono ?_
                  rintro e w7 ⟨v7, rfl, hr7, hb7⟩
                  have HS7 := Kept.mk (HS6.out.next hb7)
                  have HV7 := Kept.mk (HV6.out.below hb7)
                  have HX7 := Kept.mk ((hb7.block x (by have := HV6.out.lt; omega)).trans HX6.out)
                  have HR7 := Kept.mk hr7
                  obtain ⟨⟨A7, c7, rfl, _, _⟩, _, _⟩ := hr7
                  clear hb7 q0 q1 qf x0 x1 x2
                  obtain ⟨v0, v1, vf⟩ : w7.cell? ⟨x + 1, 0, none⟩ = some (.int .i64 (n : Int)) ∧ w7.cell? ⟨x + 1, 1, none⟩ = some (.slice B Q.length c) ∧ (∀ i, w7.frozen? ⟨x + 1, i, none⟩ = false) := ⟨HV7.out.c0, HV7.out.c1, HV7.out.fr⟩
                  have x0 := cell_of_row w7 x 0 _ _ _ HX7.out
                  have x1 := cell_of_row w7 x 1 _ _ _ HX7.out
                  have x2 := cell_of_row w7 x 2 _ _ _ HX7.out
                  simp only [List.getElem?_toArray, List.getElem?_cons_zero, List.getElem?_cons_succ] at x0 x1 x2
                  go_wp2_with fail
                  refine (raise_at (HS7.out.mid hdx _ _) hxb HACT.out).mono ?_
                  rintro e w8 ⟨rfl, hQ8, hK8⟩
                  obtain ⟨hv8, hd8, ⟨hr8, hn8⟩, hx8, hb8⟩ := HS7.out.acted HV7.out HX7.out hdx HR7.out hK8
                  have HS9 := Kept.mk (HS7.out.done hQ8 hd8 hr8 hn8 HWF.out hb8)
                  have HX8' := Kept.mk hx8
                  have HV8' := Kept.mk hv8
                  have HD8' := Kept.mk hd8
                  clear v0 v1 vf x0 x1 x2 HS7 HV7 HX7 HR7 hr8 hn8 hK8 hQ8 hx8 hb8 hv8 hd8
                  go_wp2_with fail
                  go_meet
                  exact ⟨na, nQ, A7, c7, rfl, rfl, HV8'.out, HX8'.out, HD8'.out, HS9.out⟩
                · have k3 : (xa == 3) = false := by simp [hk3]
                  clear hk3
                  by_cases hk4 : xa = 4
                  · have k4 : (xa == 4) = true := by simp [hk4]
                    clear hk4
                    obtain ⟨na, nQ, hact⟩ : ∃ a Q', qTurn Q xc = (a, Q') := ⟨_, _, rfl⟩
                    have HWF := Kept.mk (show wfQ nQ from wf_turn HS6.out.wf hact)
                    have HACT := Kept.mk hact
                    clear hact
                    go_wp2_with fail
                    refine (rturn_at (HS6.out.ref) HS6.out.qa.hi HACT.out).mono ?_
                    rintro e w7 ⟨v7, rfl, hr7, hb7⟩
                    have HS7 := Kept.mk (HS6.out.next hb7)
                    have HV7 := Kept.mk (HV6.out.below hb7)
                    have HX7 := Kept.mk ((hb7.block x (by have := HV6.out.lt; omega)).trans HX6.out)
                    have HR7 := Kept.mk hr7
                    obtain ⟨⟨A7, c7, rfl, _, _⟩, _, _⟩ := hr7
                    clear hb7 q0 q1 qf x0 x1 x2
                    obtain ⟨v0, v1, vf⟩ : w7.cell? ⟨x + 1, 0, none⟩ = some (.int .i64 (n : Int)) ∧ w7.cell? ⟨x + 1, 1, none⟩ = some (.slice B Q.length c) ∧ (∀ i, w7.frozen? ⟨x + 1, i, none⟩ = false) := ⟨HV7.out.c0, HV7.out.c1, HV7.out.fr⟩
                    have x0 := cell_of_row w7 x 0 _ _ _ HX7.out
                    have x1 := cell_of_row w7 x 1 _ _ _ HX7.out
                    have x2 := cell_of_row w7 x 2 _ _ _ HX7.out
                    simp only [List.getElem?_toArray, List.getElem?_cons_zero, List.getElem?_cons_succ] at x0 x1 x2
                    go_wp2_with fail
                    refine (turn_at (HS7.out.mid hdx _ _) HACT.out).mono ?_
                    rintro e w8 ⟨rfl, hQ8, hK8⟩
                    obtain ⟨hv8, hd8, ⟨hr8, hn8⟩, hx8, hb8⟩ := HS7.out.acted HV7.out HX7.out hdx HR7.out hK8
                    have HS9 := Kept.mk (HS7.out.done hQ8 hd8 hr8 hn8 HWF.out hb8)
                    have HX8' := Kept.mk hx8
                    have HV8' := Kept.mk hv8
                    have HD8' := Kept.mk hd8
                    clear v0 v1 vf x0 x1 x2 HS7 HV7 HX7 HR7 hr8 hn8 hK8 hQ8 hx8 hb8 hv8 hd8
                    go_wp2_with fail
                    go_meet
                    exact ⟨na, nQ, A7, c7, rfl, rfl, HV8'.out, HX8'.out, HD8'.out, HS9.out⟩
                  · have k4 : (xa == 4) = false := by simp [hk4]
                    clear hk4
                    have HS9 := Kept.mk (HS6.out.done HS6.out.qa HS6.out.bx HS6.out.rq HS6.out.na HS6.out.wf HS6.out.bw)
                    have HD10 := Kept.mk HS6.out.bx
                    clear HS6 q0 q1 qf x0 x1 x2
                    go_wp2_with fail
                    go_meet
                    exact ⟨0, Q, B, c, rfl, rfl, HV6.out, HX6.out, HD10.out, HS9.out⟩
        case rest =>
          obtain ⟨na, nQ, AF, cF, rfl, rfl, hv8, hx8, hd8, hS9⟩ := hcut
          have HS9 := Kept.mk hS9
          have HX9 := Kept.mk ((Below.heap_setCell (wc.setCell ⟨d, 0, none⟩ (.int .i64 (n : Int))) ⟨d, 1, none⟩ (.slice AF nQ.length cF) _ (show x ≠ d by omega)).trans ((Below.heap_setCell wc ⟨d, 0, none⟩ (.int .i64 (n : Int)) _ (show x ≠ d by omega)).trans hx8))
          clear q0 q1 qf x0 x1 x2 HS6 HV6 HX6
          obtain ⟨v0, v1, vf⟩ : wc.cell? ⟨x + 1, 0, none⟩ = some (.int .i64 (n : Int)) ∧ wc.cell? ⟨x + 1, 1, none⟩ = some (.slice AF nQ.length cF) ∧ (∀ i, wc.frozen? ⟨x + 1, i, none⟩ = false) := ⟨hv8.c0, hv8.c1, hv8.fr⟩
          obtain ⟨q0, q1, qf⟩ : wc.cell? ⟨d, 0, none⟩ = some (.int .i64 (n : Int)) ∧ wc.cell? ⟨d, 1, none⟩ = some (.slice B Q.length c) ∧ (∀ i, wc.frozen? ⟨d, i, none⟩ = false) := ⟨hd8.c0, hd8.c1, hd8.fr⟩
          clear hv8 hd8 hx8 hS9
          go_upto_region 35 with fail
          obtain ⟨W9, hW9⟩ : ∃ W, W = (wc.setCell ⟨d, 0, none⟩ (.int .i64 (n : Int))).setCell ⟨d, 1, none⟩ (.slice AF nQ.length cF) := ⟨_, rfl⟩
          rw [← hW9] at HS9 HX9 ⊢
          clear hW9 v0 v1 vf q0 q1 qf
          have q0 := HS9.out.bx.c0
          have q1 := HS9.out.bx.c1
          go_wp2_with fail
          refine (rtop_any HS9.out.ref).mono ?_
          rintro e w10 ⟨rfl, hb10⟩
          have hb11 := below_box w10 (.cells #[.int .i64 (tA (qTop nQ)), .int .i64 (tB (qTop nQ))] 77)
          have HS11 := Kept.mk ((HS9.out.next hb10).next hb11)
          have HX11 := Kept.mk ((hb11.block x (by have := hb10.size; have := lt_of_block HX9.out; omega)).trans ((hb10.block x (lt_of_block HX9.out)).trans HX9.out))
          have HO11 := Kept.mk (heap_alloc_new w10 (.cells #[.int .i64 (tA (qTop nQ)), .int .i64 (tB (qTop nQ))] 77))
          clear hb10 hb11 q0 q1 HS9 HX9
          go_upto_region 36 with fail
          obtain ⟨WF, hWF⟩ : ∃ W, W = w10.alloc (.cells #[.int .i64 (tA (qTop nQ)), .int .i64 (tB (qTop nQ))] 77) := ⟨_, rfl⟩
          rw [← hWF] at HS11 HX11 HO11 ⊢
          obtain ⟨t, ht⟩ : ∃ t, t = w10.heap.size := ⟨_, rfl⟩
          rw [← ht] at HO11 ⊢
          clear ht hWF
          have HT := Kept.mk (qtop_at HS11.out.qa)
          rw [topV_eq] at HT
          obtain ⟨ta, hta⟩ : ∃ u, u = tA (qTop nQ) := ⟨_, rfl⟩
          obtain ⟨tb, htb⟩ : ∃ u, u = tB (qTop nQ) := ⟨_, rfl⟩
          obtain ⟨tc, htc⟩ : ∃ u, u = tC (qTop nQ) := ⟨_, rfl⟩
          rw [← hta, ← htb] at HO11
          rw [← hta, ← htb, ← htc] at HT
          rw [← htc]
          clear hta htb htc
          go_wp2_with fail
          refine HT.out.mono ?_
          rintro e w' ⟨rfl, rfl⟩
          clear HT
          go_upto_region 37 with fail
          have HB : Below WF.heap.size WF WF.drew := (Below.refl _ _).drewN 1
          have PP := Kept.mk (fun W (h : Below WF.heap.size WF W) => (HS11.out.next h).qa)
          have RR := Kept.mk (fun W (h : Below WF.heap.size WF W) => (HS11.out.next h).ref)
          have HL := Kept.mk (Nat.le_trans (qList_len HS11.out.qa xc) (show 4096 ≤ 9223372036854775807 by omega))
          have HSS := Kept.mk (show ∀ W, Below WF.heap.size WF W → W.cell? ⟨t, 0, none⟩ = some (.int .i64 ta) ∧ W.cell? ⟨t, 1, none⟩ = some (.int .i64 tb) ∧ W.cell? ⟨x, 2, none⟩ = some (.int .i64 xc) ∧ W.cell? ⟨d, 0, none⟩ = some (.int .i64 (n : Int)) ∧ W.cell? ⟨d, 1, none⟩ = some (.slice AF nQ.length cF) from fun W h => ⟨cell_of_row _ _ 0 _ _ _ ((h.block t (lt_of_block HO11.out)).trans HO11.out), cell_of_row _ _ 1 _ _ _ ((h.block t (lt_of_block HO11.out)).trans HO11.out), cell_of_row _ _ 2 _ _ _ ((h.block x (lt_of_block HX11.out)).trans HX11.out), (HS11.out.next h).bx.c0, (HS11.out.next h).bx.c1⟩)
          have xlen : (nQ.length : Int) ≤ 4096 := by
            have := HS11.out.qa.len
            omega
          go_region_held3 (fun W => W.cell? ⟨t, 0, none⟩ = some (.int .i64 ta) ∧ W.cell? ⟨t, 1, none⟩ = some (.int .i64 tb) ∧ W.cell? ⟨x, 2, none⟩ = some (.int .i64 xc) ∧ W.cell? ⟨d, 0, none⟩ = some (.int .i64 (n : Int)) ∧ W.cell? ⟨d, 1, none⟩ = some (.slice AF nQ.length cF)) ((first | exact HSS.out _ HB | go_keep)) (first
            | (go_at_call 52; refine (qlen_any (PP.out _ HB)).mono ?_; rintro e w' ⟨rfl, rfl⟩)
            | (go_at_call 53; refine (qlist_any (PP.out _ HB) xc).mono ?_; intro e wl hres; obtain ⟨AL, cL, rfl, hIL, hbl⟩ := hres.int; clear hres; (try replace hIR := hIR.below hbl); replace HB := HB.next HB.size hbl)
            | (go_at_call 54; refine (rlist11_any (RR.out _ HB) xc).mono ?_; intro e wq hres; obtain ⟨AR, cR, rfl, hIR, hbq⟩ := hres.int; clear hres; (try replace hIL := (hIL.below hbq).mono hbq.size); replace HB := HB.next HB.size hbq)
            | (go_at_call 24; refine (same_any AL AR (qList nQ xc) (qList nQ xc) cL cR _ hIL hIR HL.out HL.out).mono ?_; rintro e ws ⟨rfl, j, rfl⟩; replace HB := HB.drewN j; rw [decide_eq_true rfl]))
          all_goals go_wp2
          all_goals go_roundw
          any_goals (case rel => exact ⟨k + 1, nQ, AF, cF, by omega, by go_num, HS11.out.next HB⟩)
          all_goals (simp [intOf]; omega)
      · have HB := Kept.mk hS.bw
        clear hS
        go_wp2
        go_ret
        exact ⟨rfl, HB.out⟩
end Go.Proofs.Ytcchmkpodfjhcaa
