/- The reference's small functions on texts (blotterref08): what each answers. Conditions: none. -/
import Derived.Test.YtmhgnaemafohfaaDoorBase
namespace Go.Proofs.YtmhgnaemafohfaaDoor
open Go.RowKit
set_option linter.unusedVariables false
set_option linter.unusedSimpArgs false
set_option maxRecDepth 100000

theorem prefix_eq (t l : B) : (decide (t.length ≤ l.length) && (l.take t.length == t)) = t.isPrefixOf l := by
  rw [Bool.eq_iff_iff]; simp only [Bool.and_eq_true, decide_eq_true_eq, beq_iff_eq, List.isPrefixOf_iff_prefix]
  constructor
  · rintro ⟨_, h⟩; exact h ▸ List.take_prefix _ _
  · intro h; exact ⟨h.length_le, (List.prefix_iff_eq_take.1 h).symm⟩
/-- The first place of t in s; s's length: it is not there. -/
def whereL (t : B) : B → Nat
  | [] => 0
  | c :: r => if t.isPrefixOf (c :: r) then 0 else whereL t r + 1
theorem whereL_le (t : B) : ∀ s : B, whereL t s ≤ s.length
  | [] => Nat.le_refl _
  | c :: r => by unfold whereL; have := whereL_le t r; split <;> simp <;> omega
def memB (c : UInt8) (l : B) : Bool := l.contains c
theorem whereL_single (c : UInt8) : ∀ s : B, decide (whereL [c] s < s.length) = memB c s
  | [] => by simp [whereL, memB]
  | d :: r => by
    have ih := whereL_single c r
    by_cases h : c = d
    · subst h; simp [whereL, memB, List.isPrefixOf]
    · have h' : ([c].isPrefixOf (d :: r)) = false := by simp [List.isPrefixOf, h]
      have : (c == d) = false := by simpa using h
      unfold memB at ih
      rw [whereL, h', memB, List.contains_cons, ← ih]
      simp [this]
/-- The kinds of bytes. -/
def marksL : B := [33, 35, 36, 37, 38, 39, 42, 43, 45, 46, 94, 95, 96, 124, 126]
def inB (a z : Int) (c : UInt8) : Bool := decide (a ≤ c.toNat) && decide ((c.toNat : Int) ≤ z)
def isB (k : Nat) (c : UInt8) : Bool :=
  if k = 1 then inB 48 57 c
  else if k = 2 then inB 65 90 c
  else if k = 3 then inB 33 126 c
  else if k = 4 then inB 48 57 c || inB 65 90 c || inB 97 122 c || memB c marksL
  else if k = 5 then (c.toNat : Int) == 32 || (c.toNat : Int) == 9
  else if k = 6 then inB 32 126 c || (c.toNat : Int) == 9
  else (c.toNat : Int) != 32
/-- How many bytes of a kind a text begins with. -/
def eatL (k : Nat) (l : B) : Nat := (l.takeWhile (isB k)).length
theorem eatL_le (k : Nat) (l : B) : eatL k l ≤ l.length := (List.takeWhile_sublist _).length_le
theorem eatL_cons (k : Nat) (c : UInt8) (l : B) : eatL k (c :: l) = if isB k c then eatL k l + 1 else 0 := by
  unfold eatL; rw [List.takeWhile_cons]; split <;> simp
def allL (l : B) (least most k : Nat) : Bool := l.all (isB k) && decide (least ≤ l.length) && decide (l.length ≤ most)
theorem eatL_all (k : Nat) : ∀ l : B, decide (eatL k l = l.length) = l.all (isB k)
  | [] => rfl
  | c :: l => by
    have ih := eatL_all k l
    rw [eatL_cons, List.all_cons, ← ih]
    cases isB k c <;> simp
end Go.Proofs.YtmhgnaemafohfaaDoor
