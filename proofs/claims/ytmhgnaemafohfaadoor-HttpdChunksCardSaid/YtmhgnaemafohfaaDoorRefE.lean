/- The reference's fields (blotterref08): a head's headers. Conditions: the texts are short. -/
import Derived.Test.YtmhgnaemafohfaaDoorRefD
namespace Go.Proofs.YtmhgnaemafohfaaDoor
open Go.RowKit
set_option linter.unusedVariables false
set_option linter.unusedSimpArgs false
set_option maxRecDepth 100000

/-- A header's line; 0: it is none. -/
def fieldOk (s : B) : Bool := decide (1 ≤ eatL 4 s) && decide (eatL 4 s ≤ 64) && decide (eatL 4 s < s.length) && decide (s.getD (eatL 4 s) 0 = 58) && allL (trimL (s.drop (eatL 4 s + 1))) 0 8192 6
def fieldOf (s : B) : B × B := (lowL (s.take (eatL 4 s)), trimL (s.drop (eatL 4 s + 1)))
def fin (d : List (B × B)) (p : List (B × B) × Nat) : List (B × B) × Nat := if p.2 = 0 then (d ++ p.1, 0) else ([], p.2)
/-- Headers of lines (behind i of them), and why they are none. -/
def fieldsL : Nat → List B → List (B × B) × Nat
  | _, [] => ([], 0)
  | i, s :: l => if 32 ≤ i then ([], 431) else if fieldOk s = false then ([], 400) else fin [fieldOf s] (fieldsL (i + 1) l)
theorem fin_fin (d : List (B × B)) (x : B × B) (p : List (B × B) × Nat) : fin d (fin [x] p) = fin (d ++ [x]) p := by unfold fin; by_cases h : p.2 = 0 <;> simp [h]
theorem fieldsL_nil : ∀ (i : Nat) (l : List B), (fieldsL i l).2 ≠ 0 → (fieldsL i l).1 = []
  | _, [], h => absurd rfl h
  | i, s :: l, h => by unfold fieldsL at h ⊢; split; rfl; split; rfl; unfold fin at h ⊢; split; (rename_i h1 h2 h3; simp [h1, h2, h3] at h); rfl
theorem fin_nil (i : Nat) (l : List B) : fin [] (fieldsL i l) = fieldsL i l := by
  unfold fin; by_cases h : (fieldsL i l).2 = 0
  · rw [if_pos h, List.nil_append, ← h]
  · rw [if_neg h, ← fieldsL_nil i l h]
def FieldsRel (l : List B) (k : Nat) (done : List (B × B)) : Prop := fieldsL 0 l = fin done (fieldsL k (l.drop k))
theorem rel_step {l : List B} {k : Nat} {done : List (B × B)} {s : B} (h : FieldsRel l k done) (hd : l.drop k = s :: l.drop (k + 1)) (hk : k < 32) (ho : fieldOk s = true) : FieldsRel l (k + 1) (done ++ [fieldOf s]) := by
  unfold FieldsRel at *; rw [h, hd, fieldsL, if_neg (by omega), if_neg (by simp [ho]), fin_fin]
theorem rel_431 {l : List B} {k : Nat} {done : List (B × B)} {s : B} (h : FieldsRel l k done) (hd : l.drop k = s :: l.drop (k + 1)) (hk : 32 ≤ k) : fieldsL 0 l = ([], 431) := by
  unfold FieldsRel at *; rw [h, hd, fieldsL, if_pos hk]; rfl
theorem rel_400 {l : List B} {k : Nat} {done : List (B × B)} {s : B} (h : FieldsRel l k done) (hd : l.drop k = s :: l.drop (k + 1)) (hk : k < 32) (ho : fieldOk s = false) : fieldsL 0 l = ([], 400) := by
  unfold FieldsRel at *; rw [h, hd, fieldsL, if_neg (by omega), if_pos ho]; rfl
theorem rel_end {l : List B} {done : List (B × B)} (h : FieldsRel l l.length done) : fieldsL 0 l = (done, 0) := by
  unfold FieldsRel at *; rw [h, List.drop_length]; simp [fieldsL, fin]
def FieldsIs (base : Nat) (l : List B) (e : Ending) (w' : World) : Prop :=
  ∃ v, e = .returned (.tuple #[v, .int .i64 (fieldsL 0 l).2]) ∧ w'.ownsRow base 54 2 v (fieldsL 0 l).1.length (pairs (fieldsL 0 l).1)
theorem fieldsIs_bad {base : Nat} {l : List B} {n : Nat} (h : fieldsL 0 l = ([], n)) (w' : World) : FieldsIs base l (.returned (.tuple #[.slice none 0 0, .int .i64 n])) w' := by
  unfold FieldsIs; rw [h]; exact ⟨_, rfl, World.ownsRow_nil _ _ _ _⟩
theorem size_from {s : ByteArray} {a n : Nat} (h : s.size ≤ n) : (s.extract a s.size).size ≤ n := by rw [ByteArray.size_extract]; omega
theorem size_to {s : ByteArray} {a n : Nat} (h : s.size ≤ n) : (s.extract 0 a).size ≤ n := by rw [ByteArray.size_extract]; omega
theorem trimL_le (l : B) : (trimL l).length ≤ l.length := by unfold trimL; simp; omega
end Go.Proofs.YtmhgnaemafohfaaDoor
