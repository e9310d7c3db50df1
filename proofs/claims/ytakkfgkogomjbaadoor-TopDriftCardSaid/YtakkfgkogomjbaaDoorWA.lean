/-
  The wheel's plain law: where a timer stands, where a list begins, what stays when the time goes on.
-/
import Derived.Test.YtakkfgkogomjbaaDoorVk
namespace Go.Proofs.YtakkfgkogomjbaaDoor
set_option linter.unusedVariables false
/-- The list of a timer that is due at a time. -/
def hm (now at_ : Int) : Nat :=
  if at_ ≤ now then 257
  else if at_ / 64 = now / 64 then (at_ % 64).toNat
  else if at_ / 4096 = now / 4096 then 64 + (at_ / 64 % 64).toNat
  else if at_ / 262144 = now / 262144 then 128 + (at_ / 4096 % 64).toNat
  else if at_ / 16777216 = now / 16777216 then 192 + (at_ / 262144 % 64).toNat
  else 256
/-- Where the list of a timer begins. -/
def bg (k : Nat) (at_ : Int) : Int :=
  if k < 64 then at_ else if k < 128 then at_ / 64 * 64 else if k < 192 then at_ / 4096 * 4096 else if k < 256 then at_ / 262144 * 262144 else at_ / 16777216 * 16777216
theorem hm_due (now a : Int) : hm now a = 257 ↔ a ≤ now := by
  unfold hm
  repeat' split
  all_goals omega
/-- The five ways of one that is not due. -/
def Way (now a : Int) (k : Nat) (b : Int) : Prop :=
  (a / 64 = now / 64 ∧ (k : Int) = a % 64 ∧ b = a) ∨
  (a / 64 ≠ now / 64 ∧ a / 4096 = now / 4096 ∧ (k : Int) = 64 + a / 64 % 64 ∧ b = a / 64 * 64) ∨
  (a / 4096 ≠ now / 4096 ∧ a / 262144 = now / 262144 ∧ (k : Int) = 128 + a / 4096 % 64 ∧ b = a / 4096 * 4096) ∨
  (a / 262144 ≠ now / 262144 ∧ a / 16777216 = now / 16777216 ∧ (k : Int) = 192 + a / 262144 % 64 ∧ b = a / 262144 * 262144) ∨
  (a / 16777216 ≠ now / 16777216 ∧ k = 256 ∧ b = a / 16777216 * 16777216)
theorem way {now a : Int} (h : now < a) : Way now a (hm now a) (bg (hm now a) a) := by
  unfold hm
  rw [if_neg (by omega)]
  by_cases h1 : a / 64 = now / 64
  · rw [if_pos h1]
    left
    unfold bg
    rw [if_pos (by omega)]
    omega
  rw [if_neg h1]
  right
  by_cases h2 : a / 4096 = now / 4096
  · rw [if_pos h2]
    left
    unfold bg
    rw [if_neg (by omega), if_pos (by omega)]
    omega
  rw [if_neg h2]
  right
  by_cases h3 : a / 262144 = now / 262144
  · rw [if_pos h3]
    left
    unfold bg
    rw [if_neg (by omega), if_neg (by omega), if_pos (by omega)]
    omega
  rw [if_neg h3]
  right
  by_cases h4 : a / 16777216 = now / 16777216
  · rw [if_pos h4]
    left
    unfold bg
    rw [if_neg (by omega), if_neg (by omega), if_neg (by omega), if_pos (by omega)]
    omega
  rw [if_neg h4]
  right
  unfold bg
  rw [if_neg (by omega), if_neg (by omega), if_neg (by omega), if_neg (by omega)]
  exact ⟨h4, rfl, rfl⟩
theorem hm_lt (now a : Int) : hm now a < 258 := by
  by_cases h : now < a
  · rcases way h with ⟨_, h, _⟩ | ⟨_, _, h, _⟩ | ⟨_, _, h, _⟩ | ⟨_, _, h, _⟩ | ⟨_, h, _⟩ <;> omega
  · have := (hm_due now a).2 (by omega); omega
/-- What is not due begins behind the time now, and no later than it is due. -/
theorem bg_le {now a : Int} (h : now < a) : now < bg (hm now a) a ∧ bg (hm now a) a ≤ a := by
  rcases way h with ⟨h1, h2, h3⟩ | ⟨h1, h2, h3, h4⟩ | ⟨h1, h2, h3, h4⟩ | ⟨h1, h2, h3, h4⟩ | ⟨h1, h2, h3⟩ <;> omega
theorem way_one {now a : Int} {k k' : Nat} {b b' : Int} (h : Way now a k b) (h' : Way now a k' b') : k = k' ∧ b = b' := by
  rcases h with ⟨h1, h2, h3⟩ | ⟨h1, h2, h3, h4⟩ | ⟨h1, h2, h3, h4⟩ | ⟨h1, h2, h3, h4⟩ | ⟨h1, h2, h3⟩ <;>
  rcases h' with ⟨g1, g2, g3⟩ | ⟨g1, g2, g3, g4⟩ | ⟨g1, g2, g3, g4⟩ | ⟨g1, g2, g3, g4⟩ | ⟨g1, g2, g3⟩ <;> omega
/-- What begins later stands where it stood. -/
theorem hm_keep {now m a : Int} (h1 : now ≤ m) (h : now < a) (h2 : m < bg (hm now a) a) : hm m a = hm now a := by
  have hb := bg_le h
  refine (way_one (way (show m < a by omega)) (b' := bg (hm now a) a) ?_).1
  rcases way h with ⟨g1, g2, g3⟩ | ⟨g1, g2, g3, g4⟩ | ⟨g1, g2, g3, g4⟩ | ⟨g1, g2, g3, g4⟩ | ⟨g1, g2, g3⟩
  · exact .inl ⟨by omega, g2, g3⟩
  · exact .inr (.inl ⟨by omega, by omega, g3, g4⟩)
  · exact .inr (.inr (.inl ⟨by omega, by omega, g3, g4⟩))
  · exact .inr (.inr (.inr (.inl ⟨by omega, by omega, g3, g4⟩)))
  · exact .inr (.inr (.inr (.inr ⟨by omega, g2, g3⟩)))
/-- Of a lower list the beginning is less; one list but the far one has one beginning. -/
theorem bg_mono {now a b : Int} (h1 : now < a) (h2 : now < b) (h : hm now a < hm now b) : bg (hm now a) a < bg (hm now b) b := by
  rcases way h1 with ⟨g1, g2, g3⟩ | ⟨g1, g2, g3, g4⟩ | ⟨g1, g2, g3, g4⟩ | ⟨g1, g2, g3, g4⟩ | ⟨g1, g2, g3⟩ <;>
  rcases way h2 with ⟨e1, e2, e3⟩ | ⟨e1, e2, e3, e4⟩ | ⟨e1, e2, e3, e4⟩ | ⟨e1, e2, e3, e4⟩ | ⟨e1, e2, e3⟩ <;> omega
theorem bg_same {now a b : Int} (h1 : now < a) (h2 : now < b) (h : hm now a = hm now b) (hk : hm now a < 256) : bg (hm now a) a = bg (hm now b) b := by
  rcases way h1 with ⟨g1, g2, g3⟩ | ⟨g1, g2, g3, g4⟩ | ⟨g1, g2, g3, g4⟩ | ⟨g1, g2, g3, g4⟩ | ⟨g1, g2, g3⟩ <;>
  rcases way h2 with ⟨e1, e2, e3⟩ | ⟨e1, e2, e3, e4⟩ | ⟨e1, e2, e3, e4⟩ | ⟨e1, e2, e3, e4⟩ | ⟨e1, e2, e3⟩ <;> omega
/-- A level's list of one that is not due: its number is above the time's own, and it begins where `start` says. -/
theorem lv_slot {now a : Int} (h : now < a) {l n : Nat} (hl : l < 4) (hn : n < 64) (hk : hm now a = l * 64 + n) : now / 64 ^ l % 64 < n ∧ bg (hm now a) a = now / 64 ^ (l + 1) * 64 ^ (l + 1) + n * 64 ^ l := by
  have e : l = 0 ∨ l = 1 ∨ l = 2 ∨ l = 3 := by omega
  rcases way h with ⟨g1, g2, g3⟩ | ⟨g1, g2, g3, g4⟩ | ⟨g1, g2, g3, g4⟩ | ⟨g1, g2, g3, g4⟩ | ⟨g1, g2, g3⟩ <;>
  rcases e with rfl | rfl | rfl | rfl <;> simp only [Int.reducePow, Nat.zero_add, Nat.reduceAdd] <;> omega
end Go.Proofs.YtakkfgkogomjbaaDoor
