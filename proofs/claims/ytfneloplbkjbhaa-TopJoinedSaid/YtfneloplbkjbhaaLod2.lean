/-
  The walk of supply.Loads and of its reference: the loads that threads and lines make.
-/
import Derived.Test.YtfneloplbkjbhaaLod
import Derived.Test.YtfneloplbkjbhaaCur3
namespace Go.Proofs.Ytfneloplbkjbhaa
open Go.RowKit
set_option linter.unusedVariables false

def thL (x : Q4) : Q4 := ⟨x.c, 0, x.c, x.b⟩
def lnL (x : Q4) : Q4 := ⟨x.d, 0, x.d, x.c * x.b⟩
/-- What the lines add, one by one: none where one is too much. -/
def addL (s : Option (List Q4)) (x : Q4) : Option (List Q4) := s.bind fun l => if 1099511627776 < x.c * x.b then none else some (l ++ [lnL x])
def thS (pr : Int) (ts : List Q4) : List Q4 := (ts.filter fun x => decide (pr < x.a)).map thL
def lnS (l : List Q4) (ls : List Q4) : Option (List Q4) := ls.foldl addL (some l)
def loE (ts ls : List Q4) (pr : Int) : Int := if oddB ts ls = true then 2 else if (lnS (thS pr ts) ls).isNone = true then 10 else 0
def loL (ts ls : List Q4) (pr : Int) : List Q4 := if oddB ts ls = true then [] else (lnS (thS pr ts) ls).getD []
theorem foldL_none : ∀ l : List Q4, l.foldl addL none = none
  | [] => rfl
  | x :: r => by rw [List.foldl_cons]; exact foldL_none r
theorem lnS_snoc (l : List Q4) (p : List Q4) (x : Q4) : lnS l (p ++ [x]) = addL (lnS l p) x := by simp [lnS]
theorem lnS_none {l ls : List Q4} {k : Nat} (h : lnS l (ls.take k) = none) : lnS l ls = none := by
  rw [← List.take_append_drop k ls]
  unfold lnS at h ⊢
  rw [List.foldl_append, h]
  exact foldL_none _
theorem thS_snoc (pr : Int) (p : List Q4) (x : Q4) : thS pr (p ++ [x]) = thS pr p ++ if pr < x.a then [thL x] else [] := by
  unfold thS
  rw [List.filter_append, List.map_append]
  by_cases h : pr < x.a
  · simp [h]
  · simp [h]
theorem thS_len (pr : Int) (p : List Q4) : (thS pr p).length ≤ p.length := by unfold thS; simp; exact List.length_filter_le _ _

def LoadsRes (w : World) (L : List Q4) (E : Int) (e : Ending) (w' : World) : Prop :=
  ∃ A c, e = .returned (.tuple #[.slice A L.length c, .int .i64 E]) ∧ R4 w' w'.heap.size A L ∧ Below w.heap.size w w'
theorem LoadsRes.nil {w w' : World} {E E' : Int} (h : E' = E) (hb : Below w.heap.size w w') : LoadsRes w [] E (.returned (.tuple #[.slice none 0 0, .int .i64 E'])) w' :=
  ⟨none, 0, by rw [h]; rfl, R4.nil _ _ _, hb⟩
theorem LoadsRes.own {w w' : World} {L : List Q4} {E : Int} {v : Value} {base : Nat} {t : TypeId} {n : Nat} (h : w'.ownsRow base t 4 v n (L.flatMap Q4.cells)) (hb : Below w.heap.size w w') : LoadsRes w L E (.returned (.tuple #[v, .int .i64 E])) w' := by
  obtain ⟨A, c, rfl, hR⟩ := ownR4 h
  exact ⟨A, c, rfl, hR, hb⟩

theorem steady_any (p c : Int) (w : World) :
    Calls Try.prog 22 #[.int .i64 p, .int .i64 c] w fun e w' => e = .returned (.agg #[.int .i64 p, .int .i64 0, .int .i64 p, .int .i64 c]) ∧ Below w.heap.size w w' := by
  go_enter Try.func22, Try.ntmps22
  go_wp2
  exact bodyPost_ret (v := .agg #[.int .i64 p, .int .i64 0, .int .i64 p, .int .i64 c]) (by simp [results, Try.results22, go_sem]) rfl ⟨rfl, below_box _ _⟩
theorem info_load4 : (Try.prog.info? 64).map (fun i => (i.zero, i.size, i.bytes)) = some (some (.agg #[.int .i64 0, .int .i64 0, .int .i64 0, .int .i64 0]), 4, 32) := by kernel_rfl
end Go.Proofs.Ytfneloplbkjbhaa
