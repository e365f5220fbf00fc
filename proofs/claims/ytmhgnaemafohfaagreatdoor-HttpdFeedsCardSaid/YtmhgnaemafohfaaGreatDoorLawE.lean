/- Plain laws of a parser: a run goes on where it stopped; the requests of bytes. Conditions: none. -/
import Derived.Test.YtmhgnaemafohfaaGreatDoorLawD
namespace Go.Proofs.YtmhgnaemafohfaaGreatDoor
open Go.RowKit
set_option linter.unusedVariables false
set_option linter.unusedSimpArgs false
set_option maxRecDepth 100000

/-- A run goes on where it stopped. -/
theorem run_app : ∀ (l : B) (x : Mc) (r : B), (runM x l).2.1 = 1 → (runM x l).1 = l.length ∧ runM x (l ++ r) = ((runM (runM x l).2.2 r).1 + l.length, (runM (runM x l).2.2 r).2) := by
  intro l
  induction l with
  | nil => intro x r h; exact ⟨rfl, rfl⟩
  | cons c l ih =>
    intro x r h
    by_cases h1 : stepSt x c = 1
    · have e : ∀ r : B, runM x (c :: r) = ((runM (stepX x c) r).1 + 1, (runM (stepX x c) r).2) := fun r => by rw [runM, if_pos h1]
      rw [e] at h ⊢
      obtain ⟨g1, g2⟩ := ih (stepX x c) r h
      refine ⟨by simp only [List.length_cons]; omega, ?_⟩
      rw [List.cons_append, e, g2]; rfl
    · have e : ∀ r : B, runM x (c :: r) = (1, stepSt x c, stepX x c) := fun r => by rw [runM, if_neg h1]
      rw [e] at h; exact absurd h h1
/-- The machine behind some bytes of those that wait. -/
theorem next_law {m : Mc} {wait : B} {taken : Nat} (ht : taken ≤ wait.length) (h : (runM mc0 (wait.take taken)).2 = (1, m)) :
    runM mc0 wait = ((runM m (wait.drop taken)).1 + taken, (runM m (wait.drop taken)).2) := by
  obtain ⟨_, h2⟩ := run_app (wait.take taken) mc0 (wait.drop taken) (by rw [h])
  rw [List.take_append_drop, h, List.length_take, Nat.min_eq_left ht] at h2
  exact h2
/-- What refuses bytes refuses them with more behind. -/
theorem refuse_law (l r : B) (h : (progParse l).2.2 ≠ 1) : progParse (l ++ r) = progParse l := by
  have hs : (runM mc0 l).2.1 ≠ 1 := by
    intro h0
    unfold progParse finP at h; rw [if_pos (by rw [h0]; decide)] at h; exact h h0
  obtain ⟨⟨g0, g1⟩, g2, g3⟩ := run_cut l mc0 hs
  have := g2 (l.drop (runM mc0 l).1 ++ r)
  rw [← List.append_assoc, List.take_append_drop] at this
  unfold progParse; rw [this]
/-- The requests of bytes, the status behind them, what is left. -/
def seqL (l : B) : List Req × Nat × B :=
  if h : (progParse l).2.2 = 0 then ((progParse l).1 :: (seqL (l.drop (progParse l).2.1)).1, (seqL (l.drop (progParse l).2.1)).2) else ([], (progParse l).2.2, l)
termination_by l.length
decreasing_by all_goals (have := (cut_law l h).1; rw [List.length_drop]; omega)
theorem seq_ne : ∀ (n : Nat) (l : B), l.length = n → (seqL l).2.1 ≠ 0 := by
  intro n
  induction n using Nat.strongRecOn with
  | _ n ih =>
    intro l hl
    rw [seqL]
    by_cases h : (progParse l).2.2 = 0
    · have := (cut_law l h).1
      rw [dif_pos h]; exact ih (l.drop (progParse l).2.1).length (by rw [List.length_drop]; omega) _ rfl
    · rw [dif_neg h]; exact h
theorem seq_app : ∀ (n : Nat) (a b : B), a.length = n →
    ((seqL a).2.1 ≠ 1 → (seqL (a ++ b)).1 = (seqL a).1 ∧ (seqL (a ++ b)).2.1 = (seqL a).2.1) ∧
    ((seqL a).2.1 = 1 → seqL (a ++ b) = ((seqL a).1 ++ (seqL ((seqL a).2.2 ++ b)).1, (seqL ((seqL a).2.2 ++ b)).2)) := by
  intro n
  induction n using Nat.strongRecOn with
  | _ n ih =>
    intro a b hl
    by_cases h : (progParse a).2.2 = 0
    · obtain ⟨⟨c1, c2⟩, c3, _⟩ := cut_law a h
      have e : progParse (a ++ b) = progParse a := refuse_law a b (by rw [h]; decide)
      have ed : (a ++ b).drop (progParse a).2.1 = a.drop (progParse a).2.1 ++ b := by rw [List.drop_append_of_le_length c2]
      have ea : seqL a = ((progParse a).1 :: (seqL (a.drop (progParse a).2.1)).1, (seqL (a.drop (progParse a).2.1)).2) := by rw [seqL, dif_pos h]
      have eb : seqL (a ++ b) = ((progParse a).1 :: (seqL (a.drop (progParse a).2.1 ++ b)).1, (seqL (a.drop (progParse a).2.1 ++ b)).2) := by
        rw [seqL, dif_pos (by rw [e]; exact h), e, ed]
      obtain ⟨i1, i2⟩ := ih (a.drop (progParse a).2.1).length (by rw [List.length_drop]; omega) (a.drop (progParse a).2.1) b rfl
      rw [ea, eb]
      refine ⟨fun hne => ?_, fun he => ?_⟩
      · obtain ⟨j1, j2⟩ := i1 hne
        exact ⟨by simp only [j1], j2⟩
      · have := i2 he
        simp only [this, List.cons_append]
    · have ea : seqL a = ([], (progParse a).2.2, a) := by rw [seqL, dif_neg h]
      rw [ea]
      refine ⟨fun hne => ?_, fun he => rfl⟩
      have e : progParse (a ++ b) = progParse a := refuse_law a b hne
      rw [seqL, dif_neg (by rw [e]; exact h), e]; exact ⟨rfl, rfl⟩
end Go.Proofs.YtmhgnaemafohfaaGreatDoor
