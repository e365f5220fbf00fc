/- JSON: what the parser's parts leave is shorter; enough fuel is enough. Conditions: none. -/
import Derived.Test.YthkpbgpgcpkiiaaGreatDoorJsonB
namespace Go.Proofs.YthkpbgpgcpkiiaaGreatDoor
set_option linter.unusedVariables false
set_option linter.unusedSimpArgs false
set_option maxRecDepth 100000

theorem one_ok {of l r : B} {c : UInt8} (h : oneB of l = .ok c r) : l = c :: r ∧ of.contains c = true := by
  cases l with
  | nil => cases h
  | cons d l =>
    simp only [oneB] at h
    split at h
    · rename_i hc; cases h; exact ⟨rfl, hc⟩
    · cases h
theorem one_fail {of l r : B} {e : Nat} (h : oneB of l = .fail r e) : r = l ∧ e = 40 := by
  cases l with
  | nil => cases h; exact ⟨rfl, rfl⟩
  | cons d l =>
    simp only [oneB] at h
    split at h
    · cases h
    · cases h; exact ⟨rfl, rfl⟩
theorem skip_le (l : B) : (skipB l).length ≤ l.length := (List.dropWhile_sublist _).length_le
theorem word_ok : ∀ {w l r : B} {u : Unit}, wordB w l = .ok u r → l = w ++ r
  | [], l, r, u, h => by cases h; rfl
  | c :: w, l, r, u, h => by
    rw [wordB] at h
    cases h1 : oneB [c] l with
    | fail r e => rw [h1] at h; cases h
    | ok d r1 =>
      rw [h1] at h
      obtain ⟨rfl, hc⟩ := one_ok h1
      have : d = c := by simpa using hc
      subst this
      rw [word_ok h]; rfl
theorem num_ok (neg z : Bool) : ∀ {l r : B} {n m : Int}, numB neg z n l = .ok m r → r.length < l.length
  | [], r, n, m, h => by cases h
  | c :: l, r, n, m, h => by
    rw [numB.eq_def] at h
    simp only at h
    split at h
    · cases h
    · cases l with
      | nil => cases h; simp
      | cons d l =>
        simp only at h
        split at h
        · have := num_ok neg z h
          simp only [List.length_cons] at this ⊢; omega
        · split at h
          · cases h
          · cases h; simp
theorem number_ok {l r : B} {n : Int} (h : numberB l = .ok n r) : r.length < l.length := by
  cases l with
  | nil => cases h
  | cons m l =>
    simp only [numberB] at h
    split at h
    · cases h1 : oneB digitsL l with
      | fail r e => rw [h1] at h; cases h
      | ok c r1 =>
        rw [h1] at h
        have := num_ok _ _ h
        simp; omega
    · cases h1 : oneB digitsL (m :: l) with
      | fail r e => rw [h1] at h; cases h
      | ok c r1 =>
        rw [h1] at h
        exact num_ok _ _ h
theorem hexGo_ok (two : B) : ∀ {m n k : Nat} {l r : B}, hexGo two m n l = .ok k r → r.length + m = l.length
  | 0, n, k, l, r, h => by cases h; rfl
  | m + 1, n, k, l, r, h => by
    rw [hexGo] at h
    generalize (if m = 2 ∧ n = 13 then two else hexDL) = of at h
    cases h1 : oneB of l with
    | fail r e => rw [h1] at h; cases h
    | ok c r1 =>
      rw [h1] at h
      have := hexGo_ok two h
      rw [(one_ok h1).1, List.length_cons]; omega
theorem esc_ok {l r b : B} (h : escB l = .ok b r) : r.length < l.length := by
  unfold escB at h
  cases h1 : oneB escL l with
  | fail r e => rw [h1] at h; cases h
  | ok c r1 =>
    rw [h1] at h
    have hl := (one_ok h1).1
    subst hl
    simp only at h
    cases h2 : ctlB c with
    | some d => rw [h2] at h; cases h; simp
    | none =>
      rw [h2] at h
      simp only at h
      split at h
      · cases h; simp
      · cases h3 : hexB loTwo r1 with
        | fail r e => rw [h3] at h; cases h
        | ok n r2 =>
          rw [h3] at h
          have l3 := hexGo_ok _ h3
          simp only at h
          split at h
          · cases h4 : wordB [92, 117] r2 with
            | fail r e => rw [h4] at h; cases h
            | ok u r3 =>
              rw [h4] at h
              have l4 := word_ok h4
              subst l4
              simp only at h
              cases r3 with
              | nil => cases h
              | cons d r3 =>
                simp only at h
                split at h
                · cases h
                · cases h5 : hexB hiTwo (d :: r3) with
                  | fail r e => rw [h5] at h; cases h
                  | ok m r4 =>
                    rw [h5] at h
                    have l5 := hexGo_ok _ h5
                    simp only [PR.ok.injEq] at h
                    obtain ⟨_, rfl⟩ := h
                    simp at l3 l5 ⊢; omega
          · cases h
            simp; omega
theorem charF_ok : ∀ {f k : Nat} {l r b : B}, charF f k l = .ok b r → k < l.length → r.length + k < l.length ∧ l = b ++ r
  | 0, k, l, r, b, h, hk => by cases h
  | f + 1, k, l, r, b, h, hk => by
    rw [charF] at h
    split at h
    · cases h
      exact ⟨by rw [List.length_drop]; omega, (List.take_append_drop _ _).symm⟩
    · split at h
      · cases h
      · split at h
        · cases h
        · have := charF_ok h (by omega)
          exact ⟨by omega, this.2⟩
theorem char_ok {l r b : B} (hl : l ≠ []) (h : charB l = .ok b r) : r.length < l.length ∧ l = b ++ r := by
  have := charF_ok h (List.length_pos_iff.2 hl)
  exact ⟨by omega, this.2⟩
theorem textF_ok : ∀ {f : Nat} {acc l r b : B}, textF f acc l = .ok b r → r.length ≤ l.length ∧ ∃ r', r = 34 :: r'
  | 0, acc, l, r, b, h => by cases h
  | f + 1, acc, l, r, b, h => by
    rw [textF.eq_def] at h
    simp only at h
    cases l with
    | nil => cases h
    | cons c l =>
      simp only at h
      split at h
      · rename_i hc; cases h; exact ⟨Nat.le_refl _, l, by rw [hc]⟩
      · split at h
        · cases h
        · split at h
          · cases h1 : escB l with
            | fail r e => rw [h1] at h; cases h
            | ok b1 r1 =>
              rw [h1] at h
              have l1 := esc_ok h1
              obtain ⟨h2, h3⟩ := textF_ok h
              exact ⟨by simp; omega, h3⟩
          · cases h1 : charB (c :: l) with
            | fail r e => rw [h1] at h; cases h
            | ok b1 r1 =>
              rw [h1] at h
              have l1 := (char_ok (by simp) h1).1
              obtain ⟨h2, h3⟩ := textF_ok h
              exact ⟨by simp at l1 ⊢; omega, h3⟩
theorem text_ok {l r b : B} (h : textB l = .ok b r) : r.length < l.length ∧ ∃ r', r = 34 :: r' := by
  unfold textB at h
  cases h1 : oneB [34] l with
  | fail r e => rw [h1] at h; cases h
  | ok c r1 =>
    rw [h1] at h
    obtain ⟨rfl, _⟩ := one_ok h1
    obtain ⟨h2, h3⟩ := textF_ok h
    exact ⟨by simp; omega, h3⟩
theorem map_ok {α β : Type} {g : α → β} {x : PR α} {v : β} {r : B} (h : mapPR g x = .ok v r) : ∃ a, x = .ok a r ∧ v = g a := by
  cases x with
  | ok a r' => cases h; exact ⟨a, rfl, rfl⟩
  | fail r' e => cases h
theorem parts_ok : ∀ f : Nat, (∀ deep l v r, valF f deep l = .ok v r → r.length < l.length) ∧ (∀ deep acc l v r, itemsF f deep acc l = .ok v r → r.length < l.length) ∧ (∀ deep ns is l v r, memsF f deep ns is l = .ok v r → r.length < l.length) := by
  intro f
  induction f with
  | zero => exact ⟨(fun _ _ _ _ h => (by rw [valF] at h; cases h)), (fun _ _ _ _ _ h => (by rw [itemsF] at h; cases h)), (fun _ _ _ _ _ _ h => (by rw [memsF] at h; cases h))⟩
  | succ f ih =>
    obtain ⟨iv, ii, im⟩ := ih
    refine ⟨fun deep l v r h => ?_, fun deep acc l v r h => ?_, fun deep ns is l v r h => ?_⟩
    · rw [valF] at h
      have hs := skip_le l
      cases h0 : skipB l with
      | nil => rw [h0] at h; cases h
      | cons c l1 =>
        rw [h0] at h hs
        simp only [List.length_cons] at hs
        simp only at h
        split at h
        · split at h
          · cases h
          · have hs1 := skip_le l1
            split at h
            · cases h2 : skipB l1 with
              | nil => rw [h2] at h; cases h
              | cons d l2 =>
                rw [h2] at h hs1
                simp only [List.length_cons] at hs1
                simp only at h
                split at h
                · cases h; omega
                · have := ii _ _ _ _ _ h
                  simp only [List.length_cons] at this; omega
            · cases h2 : skipB l1 with
              | nil => rw [h2] at h; cases h
              | cons d l2 =>
                rw [h2] at h hs1
                simp only [List.length_cons] at hs1
                simp only at h
                split at h
                · cases h; omega
                · have := im _ _ _ _ _ _ h
                  simp only [List.length_cons] at this; omega
        · split at h
          · cases h2 : textB (c :: l1) with
            | fail r e => rw [h2] at h; cases h
            | ok s r1 =>
              rw [h2] at h
              have := (text_ok h2).1
              cases h
              rw [List.length_drop]
              simp only [List.length_cons] at this; omega
          · split at h
            · obtain ⟨_, h2, _⟩ := map_ok h
              have := congrArg List.length (word_ok h2)
              simp at this; omega
            · split at h
              · obtain ⟨_, h2, _⟩ := map_ok h
                have := congrArg List.length (word_ok h2)
                simp at this; omega
              · split at h
                · obtain ⟨_, h2, _⟩ := map_ok h
                  have := congrArg List.length (word_ok h2)
                  simp at this; omega
                · split at h
                  · obtain ⟨_, h2, _⟩ := map_ok h
                    have := number_ok h2
                    simp only [List.length_cons] at this; omega
                  · cases h
    · rw [itemsF] at h
      cases h1 : valF f deep l with
      | fail r e => rw [h1] at h; cases h
      | ok v1 r1 =>
        rw [h1] at h
        have l1 := iv _ _ _ _ h1
        have l2 := skip_le r1
        simp only at h
        cases h2 : oneB [44, 93] (skipB r1) with
        | fail r e => rw [h2] at h; cases h
        | ok c r2 =>
          rw [h2] at h
          have l3 := congrArg List.length (one_ok h2).1
          simp only [List.length_cons] at l3
          simp only at h
          split at h
          · cases h; omega
          · have := ii _ _ _ _ _ h
            omega
    · rw [memsF] at h
      have l0 := skip_le l
      cases h1 : textB (skipB l) with
      | fail r e => rw [h1] at h; cases h
      | ok s r1 =>
        rw [h1] at h
        have l1 := (text_ok h1).1
        simp only at h
        split at h
        · cases h
        · have l2 := skip_le (r1.drop 1)
          rw [List.length_drop] at l2
          cases h2 : oneB [58] (skipB (r1.drop 1)) with
          | fail r e => rw [h2] at h; cases h
          | ok c r2 =>
            rw [h2] at h
            have l3 := congrArg List.length (one_ok h2).1
            simp only [List.length_cons] at l3
            simp only at h
            cases h3 : valF f deep r2 with
            | fail r e => rw [h3] at h; cases h
            | ok v1 r3 =>
              rw [h3] at h
              have l4 := iv _ _ _ _ h3
              have l5 := skip_le r3
              simp only at h
              cases h4 : oneB [44, 125] (skipB r3) with
              | fail r e => rw [h4] at h; cases h
              | ok c2 r4 =>
                rw [h4] at h
                have l6 := congrArg List.length (one_ok h4).1
                simp only [List.length_cons] at l6
                simp only at h
                split at h
                · cases h; omega
                · have := im _ _ _ _ _ _ h
                  omega
theorem val_ok {f deep : Nat} {l r : B} {v : J} (h : valF f deep l = .ok v r) : r.length < l.length := (parts_ok f).1 _ _ _ _ h
end Go.Proofs.YthkpbgpgcpkiiaaGreatDoor
