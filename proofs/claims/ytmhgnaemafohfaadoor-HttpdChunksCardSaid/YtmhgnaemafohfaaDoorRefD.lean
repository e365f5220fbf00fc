/- The reference's ends, line, fields (blotterref08). Conditions: the texts are short. -/
import Derived.Test.YtmhgnaemafohfaaDoorRefC
namespace Go.Proofs.YtmhgnaemafohfaaDoor
open Go.RowKit
set_option linter.unusedVariables false
set_option linter.unusedSimpArgs false
set_option maxRecDepth 100000

/-- Do CR LF stand ahead? 0; 400; 1: more is to come. -/
def ends1 : B → Nat
  | [] => 1
  | d :: _ => if d.toNat = 10 then 0 else 400
def endsL : B → Nat
  | [] => 1
  | c :: l => if c.toNat = 13 then ends1 l else 400
def EndsRel (l : B) (a k : Nat) : Prop := (k = 1 → endsL (l.drop a) = ends1 (l.drop (a + 1))) ∧ (k = 2 → endsL (l.drop a) = 0)
theorem getD_eq (s : ByteArray) (k : Nat) (h : k < s.size) : s.toList.getD k 0 = s[k] := by
  rw [List.getD_eq_getElem?_getD, get_eq s k h]; rfl
/-- A first line's method and target, and why there are none. -/
def bad (n : Nat) : B × B × Nat := ([], [], n)
def line3 (m t v : B) : B × B × Nat :=
  if eatL 7 v ≠ v.length ∨ allL m 1 16 2 = false ∨ [47].isPrefixOf t = false ∨ allL t 1 8192 3 = false then bad 400
  else if v.length ≠ 8 ∨ [72, 84, 84, 80, 47].isPrefixOf v = false ∨ isB 1 (v.getD 5 0) = false ∨ v.getD 6 0 ≠ 46 ∨ isB 1 (v.getD 7 0) = false then bad 400
  else if v ≠ [72, 84, 84, 80, 47, 49, 46, 49] then bad 505
  else if m ≠ [71, 69, 84] ∧ m ≠ [80, 79, 83, 84] ∧ m ≠ [80, 85, 84] ∧ m ≠ [68, 69, 76, 69, 84, 69] then bad 501
  else if 1024 < t.length then bad 414
  else (m, t, 0)
def line2 (m s : B) : B × B × Nat := if eatL 7 s = 0 ∨ eatL 7 s = s.length then bad 400 else line3 m (s.take (eatL 7 s)) (s.drop (eatL 7 s + 1))
def lineL (s : B) : B × B × Nat := if eatL 7 s = 0 ∨ eatL 7 s = s.length then bad 400 else line2 (s.take (eatL 7 s)) (s.drop (eatL 7 s + 1))
def LineIs (s : B) (e : Ending) : Prop := e = .returned (.tuple #[.string (ofL (lineL s).1), .string (ofL (lineL s).2.1), .int .i64 (lineL s).2.2])
theorem lineIs_bad {s : B} {n : Nat} (h : lineL s = bad n) : LineIs s (.returned (.tuple #[.string ⟨#[]⟩, .string ⟨#[]⟩, .int .i64 n])) := by unfold LineIs; rw [h]; rfl
theorem byte_ne {c d : UInt8} (h : c ≠ d) : ((c.toNat : Int) != (d.toNat : Int)) = true := bne_iff_ne.2 fun e => h (UInt8.toNat.inj (by omega))
end Go.Proofs.YtmhgnaemafohfaaDoor
