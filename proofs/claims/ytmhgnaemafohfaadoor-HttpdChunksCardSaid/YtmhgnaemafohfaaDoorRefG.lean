/- The reference's body (blotterref08): what stands behind a head. Conditions: the texts are short. -/
import Derived.Test.YtmhgnaemafohfaaDoorRefF
namespace Go.Proofs.YtmhgnaemafohfaaDoor
open Go.RowKit
set_option linter.unusedVariables false
set_option linter.unusedSimpArgs false
set_option maxRecDepth 100000

def teL : B := [116, 114, 97, 110, 115, 102, 101, 114, 45, 101, 110, 99, 111, 100, 105, 110, 103]
def hoL : B := [104, 111, 115, 116]
def clL : B := [99, 111, 110, 116, 101, 110, 116, 45, 108, 101, 110, 103, 116, 104]
def ckL : B := [99, 104, 117, 110, 107, 101, 100]
/-- What stands behind a head: its bytes, how many these take, the status. -/
def plainL (n : Int) (s : B) : B × Nat × Nat :=
  if n < 0 then ([], 0, 400) else if 32768 < n then ([], 0, 413) else if (s.length : Int) < n then ([], 0, 1) else (s.take n.toNat, n.toNat, 0)
def bodyL (h : List (B × B)) (s : B) : B × Nat × Nat :=
  if 1 < (valuesL h teL).length ∨ ((valuesL h teL).length = 1 ∧ lowL ((valuesL h teL).getD 0 []) ≠ ckL) then ([], 0, 501)
  else if (valuesL h hoL).length ≠ 1 ∨ (valuesL h hoL).getD 0 [] = [] ∨ 1 < (valuesL h teL).length + (valuesL h clL).length then ([], 0, 400)
  else if (valuesL h teL).length = 1 then chunkL [] 0 s
  else plainL (if (valuesL h clL).length = 1 then numL ((valuesL h clL).getD 0 []) else 0) s
theorem head_str {w : World} {base : Nat} {A : Option Addr} {c m : Nat} {l : List B} (h : w.ownsRow base 9 1 (.slice A m c) l.length (strs l)) (hl : l.length = 1) :
    ∃ b o, A = some ⟨b, o, none⟩ ∧ w.cell? ⟨b, o, none⟩ = some (.string (ofL (l.getD 0 []))) := by
  obtain ⟨s, rfl⟩ := List.length_eq_one_iff.1 hl
  obtain ⟨b, o, h1, h2⟩ := (rd_of_own h).strAt (k := 0) (s := s) rfl
  exact ⟨b, o, h1, h2⟩
theorem valuesL_mem {h : List (B × B)} {nm : B} {x : B} (hx : x ∈ valuesL h nm) : ∃ y ∈ h, y.2 = x := by
  unfold valuesL at hx; obtain ⟨y, hy, rfl⟩ := List.mem_map.1 hx; exact ⟨y, (List.mem_filter.1 hy).1, rfl⟩
theorem getD0_len {h : List (B × B)} (hh : ∀ x ∈ h, x.2.length ≤ 1048576) (nm : B) : ((valuesL h nm).getD 0 []).length ≤ 1048576 := by
  cases he : valuesL h nm with
  | nil => simp
  | cons x l =>
    obtain ⟨y, hy, rfl⟩ := valuesL_mem (h := h) (nm := nm) (x := x) (by rw [he]; simp)
    simpa using hh y hy
theorem plain0 (s : B) : plainL 0 s = ([], 0, 0) := by unfold plainL; rw [if_neg (by omega), if_neg (by omega), if_neg (by omega)]; rfl
end Go.Proofs.YtmhgnaemafohfaaDoor
