/- A step that goes on leaves the machine within its bounds (httpd): plain law. Conditions: none. -/
import Derived.Test.YtmhgnaemafohfaaGreatDoorMachH
namespace Go.Proofs.YtmhgnaemafohfaaGreatDoor
open Go.RowKit
set_option linter.unusedVariables false
set_option linter.unusedSimpArgs false
set_option maxRecDepth 100000

/-- The bounds that the states keep among themselves. -/
def Bound (x : Mc) : Prop := match x.st with
  | .heads => x.head.length ≤ 8195 ∧ x.b = [] ∧ x.left = 0 ∧ x.many = 0
  | .plain => 1 ≤ x.left ∧ x.b.length + x.left ≤ 32768 ∧ x.many = 0
  | .sizes => x.b.length ≤ 32768 ∧ x.many ≤ 8 ∧ x.left < 16 ^ x.many
  | .endS => x.b.length ≤ 32768 ∧ x.many ≤ 8 ∧ x.left < 16 ^ 8
  | .chunk => 1 ≤ x.left ∧ x.b.length + x.left ≤ 32768 ∧ x.many = 0
  | .lineC => x.b.length ≤ 32768 ∧ x.left = 0 ∧ x.many = 0
  | .endC => x.b.length ≤ 32768 ∧ x.left = 0 ∧ x.many = 0
  | .lineE => x.b.length ≤ 32768 ∧ x.left = 0 ∧ x.many = 0
  | .endE => x.b.length ≤ 32768 ∧ x.left = 0 ∧ x.many = 0
theorem bound_fits {x : Mc} (h : Bound x) : Fits x := by
  have p8 : ∀ n, n ≤ 8 → 16 ^ n ≤ 4294967296 := fun n hn => Nat.le_trans (Nat.pow_le_pow_right (by decide) hn) (by decide)
  unfold Bound at h
  unfold Fits
  cases hs : x.st <;> rw [hs] at h <;> simp only at h
  case heads => obtain ⟨h1, h2, h3, h4⟩ := h; rw [h2, h3, h4]; exact ⟨fun _ => ⟨h1, rfl, rfl⟩, by decide, by decide, by decide, fun h => by rcases h with h | h <;> cases h⟩
  case sizes => have := p8 _ h.2.1; exact ⟨fun h => by (cases h), by omega, by omega, h.2.1, fun h => by rcases h with h | h <;> cases h⟩
  case endS => exact ⟨fun h => by (cases h), by omega, by omega, h.2.1, fun h => by rcases h with h | h <;> cases h⟩
  case plain => exact ⟨fun h => by (cases h), by omega, by omega, by omega, fun _ => ⟨by omega, by omega⟩⟩
  case chunk => exact ⟨fun h => by (cases h), by omega, by omega, by omega, fun _ => ⟨by omega, by omega⟩⟩
  all_goals exact ⟨fun h => by (cases h), by omega, by omega, by omega, fun h => by rcases h with h | h <;> cases h⟩
theorem measF_one {C H S : Nat} {x y z : B} (h : measF C H S x y z = 1) : C = 1 ∨ (¬ C = 1 ∧ 1 ≤ numF z ∧ numF z ≤ 32768) := by
  unfold measF at h
  repeat' split at h
  all_goals first | (exfalso; omega) | (left; assumption) | skip
  right
  refine ⟨by assumption, by omega, by omega⟩
theorem fieldsP_ge : ∀ (l : List B) (hs : List (B × B)), (fieldsP hs l).1 = 0 ∨ 400 ≤ (fieldsP hs l).1
  | [], hs => .inl rfl
  | s :: l, hs => by
    unfold fieldsP
    split
    · exact fieldsP_ge l _
    · rename_i h; rcases fSt_ge hs.length s with h2 | h2; exact absurd h2 h; exact .inr h2
theorem bound_step {x : Mc} {c : UInt8} (h : Bound x) (h1 : stepSt x c = 1) : Bound (stepX x c) := by
  unfold Bound at h
  unfold stepSt at h1
  unfold stepX
  cases hs : x.st <;> rw [hs] at h h1 <;> simp only at h h1 ⊢
  case plain =>
    unfold plainSt at h1
    split at h1
    · omega
    · simp only [Bound, plainStep, List.length_append, List.length_singleton]; omega
  case chunk =>
    unfold chunkStep
    by_cases hl : x.left = 1
    · rw [if_pos hl]; simp only [Bound, plainStep, List.length_append, List.length_singleton]; omega
    · rw [if_neg hl]; simp only [Bound, plainStep, List.length_append, List.length_singleton]; omega
  case lineC => simp only [Bound]; exact h
  case lineE => simp only [Bound]; exact h
  case endC => simp only [Bound]; exact ⟨h.1, by omega, by rw [h.2.1, h.2.2]; decide⟩
  case endE => split at h1 <;> omega
  case endS =>
    split at h1
    · unfold sizedSt at h1
      split at h1
      · omega
      · unfold sized
        by_cases hl : 0 < x.left
        · rw [if_pos hl]; simp only [Bound]; exact ⟨hl, by omega, trivial⟩
        · rw [if_neg hl]; simp only [Bound]; exact ⟨h.1, by omega, trivial⟩
    · omega
  case sizes =>
    obtain ⟨h2, h3, h4⟩ := h
    unfold sizesStep
    unfold sizesSt at h1
    by_cases hx : hexN c < 16
    · rw [if_pos hx]
      split at h1
      · rename_i hh
        simp only [Bound]
        exact ⟨h2, by omega, by rw [Nat.pow_succ]; omega⟩
      · split at h1
        · omega
        · rename_i hh; exact absurd (Or.inl hx) hh
    · rw [if_neg hx]
      simp only [Bound]
      exact ⟨h2, h3, Nat.lt_of_lt_of_le h4 (Nat.pow_le_pow_right (by decide) h3)⟩
  case heads =>
    obtain ⟨h2, h3, h4, h5⟩ := h
    unfold headsSt at h1
    unfold headsStep
    by_cases hsuf : crL.isSuffixOf (x.head ++ [c]) = true
    · rw [if_pos hsuf] at h1 ⊢
      generalize x.head ++ [c] = hd at *
      unfold headSt at h1
      unfold headX
      split at h1
      · omega
      split at h1
      · rename_i hh _; have := openL_ge ((cutL (hd.take (hd.length - 4))).headD []); omega
      split at h1
      · have := fieldsP_ge (cutL (hd.take (hd.length - 4))).tail []; omega
      · unfold measL at h1
        rcases measF_one h1 with hC | ⟨hC, hn⟩
        · rw [if_pos hC, if_pos hC]; simp only [Bound]; rw [h3, h4, h5]; exact ⟨by decide, by decide, by decide⟩
        · rw [if_neg hC, if_neg hC]; simp only [Bound]; rw [h3]; exact ⟨hn.1, by simpa using hn.2, h5⟩
    · rw [if_neg hsuf] at h1 ⊢
      split at h1
      · omega
      · rename_i hl; simp only [Bound, hs]; exact ⟨by omega, h3, h4, h5⟩
end Go.Proofs.YtmhgnaemafohfaaGreatDoor
