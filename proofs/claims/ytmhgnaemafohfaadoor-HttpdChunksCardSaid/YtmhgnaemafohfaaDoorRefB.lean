/- The reference's functions on texts, more (blotterref08): small, trim, number, hex. Conditions: none. -/
import Derived.Test.YtmhgnaemafohfaaDoorRefA
namespace Go.Proofs.YtmhgnaemafohfaaDoor
open Go.RowKit
set_option linter.unusedVariables false
set_option linter.unusedSimpArgs false
set_option maxRecDepth 100000

def lowB (c : UInt8) : UInt8 := if isB 2 c then c + 32 else c
def lowL (l : B) : B := l.map lowB
theorem big_lt {c : UInt8} (h : isB 2 c = true) : 65 ≤ (c.toNat : Int) ∧ (c.toNat : Int) ≤ 90 := by simpa [isB, inB] using h
theorem add32 {c : UInt8} (h : isB 2 c = true) : UInt8.ofNat ((c.toNat : Int) + 32).toNat = c + 32 := by
  have := big_lt h
  apply UInt8.toNat.inj
  rw [UInt8.toNat_add]
  simp
  omega
/-- A text without spaces at its ends. -/
def lastN (l : B) : Nat := (l.reverse.dropWhile (isB 5)).length
def trimL (l : B) : B := (l.drop (eatL 5 l)).take (lastN (l.drop (eatL 5 l)))
theorem lastN_snoc (l : B) (c : UInt8) : lastN (l ++ [c]) = if isB 5 c then lastN l else l.length + 1 := by
  unfold lastN; rw [List.reverse_append]; simp only [List.reverse_cons, List.reverse_nil, List.nil_append, List.singleton_append, List.dropWhile_cons]
  split <;> simp
theorem lastN_le (l : B) : lastN l ≤ l.length := by
  unfold lastN; have := (List.dropWhile_sublist (isB 5) (l := l.reverse)).length_le; simpa using this
/-- A number of 1 to 9 figures. -/
def numF (l : B) : Nat := l.foldl (fun n c => 10 * n + (c.toNat - 48)) 0
def numL (l : B) : Int := if allL l 1 9 1 then (numF l : Int) else -1
theorem numF_snoc (l : B) (c : UInt8) : numF (l ++ [c]) = 10 * numF l + (c.toNat - 48) := by simp [numF]
theorem numF_lt : ∀ (n : Nat) (l : B), l.length = n → l.all (isB 1) = true → numF l < 10 ^ n
  | 0, l, h, _ => by obtain rfl := List.eq_nil_of_length_eq_zero h; decide
  | n + 1, l, h, ha => by
    rcases List.eq_nil_or_concat l with rfl | ⟨l', c, rfl⟩
    · simp at h
    · rw [List.concat_eq_append] at *
      have h1 : l'.length = n := by simpa using h
      rw [List.all_append] at ha
      have ha' : l'.all (isB 1) = true ∧ isB 1 c = true := by simpa using ha
      have ih := numF_lt n l' h1 ha'.1
      have hc : (48:Int) ≤ c.toNat ∧ (c.toNat:Int) ≤ 57 := by simpa [isB, inB] using ha'.2
      rw [numF_snoc, Nat.pow_succ]; omega
theorem numL_lt {l : B} (h : allL l 1 9 1 = true) : numF l < 1000000000 := by
  unfold allL at h
  simp only [Bool.and_eq_true, decide_eq_true_eq] at h
  exact Nat.lt_of_lt_of_le (numF_lt _ l rfl h.1.1) (Nat.pow_le_pow_right (by decide) h.2)
/-- A hexadecimal figure's number; 16: it is none. -/
def hexL : B := [48, 49, 50, 51, 52, 53, 54, 55, 56, 57, 97, 98, 99, 100, 101, 102]
def hexN (c : UInt8) : Nat := whereL [lowB c] hexL
end Go.Proofs.YtmhgnaemafohfaaDoor
