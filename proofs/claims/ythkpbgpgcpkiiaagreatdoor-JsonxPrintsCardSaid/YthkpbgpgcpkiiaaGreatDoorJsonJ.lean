/- JSON: more bytes behind a whole text, errors of the parser. Conditions: none. -/
import Derived.Test.YthkpbgpgcpkiiaaGreatDoorJsonI
namespace Go.Proofs.YthkpbgpgcpkiiaaGreatDoor
set_option linter.unusedVariables false
set_option linter.unusedSimpArgs false
set_option maxRecDepth 100000

/-- No number: more bytes change nothing of it. -/
def NotNum (v : J) : Prop := v.kind ≠ 2
theorem skip_len_cons {l r : B} {c : UInt8} (h : skipB l = c :: r) : r.length + 1 ≤ l.length := by
  have := skip_le l; rw [h] at this; simpa using this
theorem one_nil (of : B) : oneB of [] = .fail [] 40 := rfl
theorem text_ext' {l b : B} : Ext b Any1 (textB (skipB l)) (textB (skipB (l ++ b))) := by
  cases h : skipB l with
  | nil =>
    rw [skip_nil h]
    exact ext_near fun hb => ⟨[], by rw [blank_skip hb]; rfl, Nat.zero_le _⟩
  | cons c r =>
    rw [skip_app h]
    exact text_ext (l := c :: r)
theorem one_ext' {of l b : B} {T : UInt8 → Prop} (hof : ∀ d ∈ of, blankB d = false) : Ext b T (oneB of (skipB l)) (oneB of (skipB (l ++ b))) := by
  cases h : skipB l with
  | nil =>
    rw [skip_nil h]
    exact ext_near fun hb => ⟨[], by rw [blank_skip hb]; rfl, Nat.zero_le _⟩
  | cons c r =>
    rw [skip_app h]
    exact one_ext (l := c :: r) hof
theorem parts_ext {b : B} : ∀ f : Nat,
    (∀ deep l f', 2 * l.length + 1 ≤ f → 2 * (l.length + b.length) + 1 ≤ f' → Ext b NotNum (valF f deep l) (valF f' deep (l ++ b))) ∧
    (∀ deep acc l f', 2 * l.length + 2 ≤ f → 2 * (l.length + b.length) + 2 ≤ f' → Ext b NotNum (itemsF f deep acc l) (itemsF f' deep acc (l ++ b))) ∧
    (∀ deep ns is l f', 2 * l.length + 2 ≤ f → 2 * (l.length + b.length) + 2 ≤ f' → Ext b NotNum (memsF f deep ns is l) (memsF f' deep ns is (l ++ b))) := by
  intro f
  induction f with
  | zero => exact ⟨fun _ _ _ h _ => by omega, fun _ _ _ _ h _ => by omega, fun _ _ _ _ _ h _ => by omega⟩
  | succ f ih =>
    obtain ⟨iv, ii, im⟩ := ih
    refine ⟨fun deep l f' h1 h2 => ?_, fun deep acc l f' h1 h2 => ?_, fun deep ns is l f' h1 h2 => ?_⟩
    · obtain ⟨f', rfl⟩ : ∃ g, f' = g + 1 := ⟨f' - 1, by omega⟩
      rw [valF, valF]
      cases h0 : skipB l with
      | nil =>
        rw [skip_nil h0]
        exact ext_near fun hb => ⟨[], by rw [blank_skip hb], Nat.zero_le _⟩
      | cons c r =>
        have hlen := skip_len_cons h0
        rw [skip_app h0]
        simp only
        split
        · split
          · exact ext_far (by simp)
          · split
            · cases h3 : skipB r with
              | nil =>
                rw [skip_nil h3]
                exact ext_near fun hb => ⟨[], by rw [blank_skip hb], Nat.zero_le _⟩
              | cons d q =>
                have hlen2 := skip_len_cons h3
                rw [skip_app h3]
                simp only
                split
                · exact ext_ok
                · exact ii (deep + 1) [] (d :: q) f' (by simp; omega) (by simp; omega)
            · cases h3 : skipB r with
              | nil =>
                rw [skip_nil h3]
                exact ext_near fun hb => ⟨[], by rw [blank_skip hb], Nat.zero_le _⟩
              | cons d q =>
                have hlen2 := skip_len_cons h3
                rw [skip_app h3]
                simp only
                split
                · exact ext_ok
                · exact im (deep + 1) [] [] (d :: q) f' (by simp; omega) (by simp; omega)
        · split
          · have h3 := text_ext (l := c :: r) (b := b)
            rw [List.cons_append] at h3
            cases h4 : textB (c :: r) with
            | fail r e => exact h3.fails h4 fun r e hy => by rw [hy]
            | ok s q =>
              rw [h3.ok _ _ h4 (.inl trivial)]
              obtain ⟨q', rfl⟩ := (text_ok h4).2
              exact ext_ok
          · split
            · have h3 := word_ext (b := b) (T := Any1) (w := [110, 117, 108, 108]) (l := c :: r) (by decide)
              exact h3.map _ fun _ _ => trivial
            · split
              · have h3 := word_ext (b := b) (T := Any1) (w := [116, 114, 117, 101]) (l := c :: r) (by decide)
                exact h3.map _ fun _ _ => trivial
              · split
                · have h3 := word_ext (b := b) (T := Any1) (w := [102, 97, 108, 115, 101]) (l := c :: r) (by decide)
                  exact h3.map _ fun _ _ => trivial
                · split
                  · have h3 := number_ext (l := c :: r) (b := b) (by simp)
                    exact h3.map _ fun _ h => h rfl
                  · exact ext_far (by simp)
    · obtain ⟨f', rfl⟩ : ∃ g, f' = g + 1 := ⟨f' - 1, by omega⟩
      rw [itemsF, itemsF]
      have h3 := iv deep l f' (by omega) (by omega)
      cases h4 : valF f deep l with
      | fail r e => exact h3.fails h4 fun r e hy => by rw [hy]
      | ok v r =>
        have hlen := val_ok h4
        by_cases hT : NotNum v ∨ r ≠ []
        · rw [h3.ok _ _ h4 (hT.imp id .inl)]
          simp only
          have h5 := one_ext' (of := [44, 93]) (l := r) (b := b) (T := Any1) (by decide)
          cases h6 : oneB [44, 93] (skipB r) with
          | fail r e => exact h5.fails h6 fun r e hy => by rw [hy]
          | ok c q =>
            rw [h5.ok _ _ h6 (.inl trivial)]
            simp only
            have h7 := congrArg List.length (one_ok h6).1
            have h8 := skip_le r
            simp only [List.length_cons] at h7
            split
            · exact ext_ok
            · exact ii _ _ _ _ (by omega) (by omega)
        · have hr : r = [] := by
            cases r with
            | nil => rfl
            | cons c q => exact absurd (.inr (by simp)) hT
          subst hr
          simp only
          refine ext_near fun hb => ?_
          rw [h3.ok _ _ h4 (.inr (.inr (blank_stop hb))), List.nil_append]
          simp only
          rw [blank_skip hb]
          exact ⟨[], rfl, Nat.zero_le _⟩
    · obtain ⟨f', rfl⟩ : ∃ g, f' = g + 1 := ⟨f' - 1, by omega⟩
      rw [memsF, memsF]
      have h3 := text_ext' (l := l) (b := b)
      cases h4 : textB (skipB l) with
      | fail r e => exact h3.fails h4 fun r e hy => by rw [hy]
      | ok s r =>
        have hlen := (text_ok h4).1
        have hle := skip_le l
        rw [h3.ok _ _ h4 (.inl trivial)]
        obtain ⟨r', rfl⟩ := (text_ok h4).2
        simp only [List.cons_append, List.drop_succ_cons, List.drop_zero]
        simp only [List.length_cons] at hlen
        split
        · exact ext_far (by simp)
        · have h5 := one_ext' (of := [58]) (l := r') (b := b) (T := Any1) (by decide)
          cases h6 : oneB [58] (skipB r') with
          | fail r e => exact h5.fails h6 fun r e hy => by rw [hy]
          | ok c q =>
            rw [h5.ok _ _ h6 (.inl trivial)]
            simp only
            have h7 := congrArg List.length (one_ok h6).1
            have h8 := skip_le r'
            simp only [List.length_cons] at h7
            have h9 := iv deep q f' (by omega) (by omega)
            cases h10 : valF f deep q with
            | fail r e => exact h9.fails h10 fun r e hy => by rw [hy]
            | ok v r =>
              have hlen3 := val_ok h10
              by_cases hT : NotNum v ∨ r ≠ []
              · rw [h9.ok _ _ h10 (hT.imp id .inl)]
                simp only
                have h11 := one_ext' (of := [44, 125]) (l := r) (b := b) (T := Any1) (by decide)
                cases h12 : oneB [44, 125] (skipB r) with
                | fail r e => exact h11.fails h12 fun r e hy => by rw [hy]
                | ok c q2 =>
                  rw [h11.ok _ _ h12 (.inl trivial)]
                  simp only
                  have h13 := congrArg List.length (one_ok h12).1
                  have h14 := skip_le r
                  simp only [List.length_cons] at h13
                  split
                  · exact ext_ok
                  · exact im _ _ _ _ _ (by omega) (by omega)
              · have hr : r = [] := by
                  cases r with
                  | nil => rfl
                  | cons c q => exact absurd (.inr (by simp)) hT
                subst hr
                simp only
                refine ext_near fun hb => ?_
                rw [h9.ok _ _ h10 (.inr (.inr (blank_stop hb))), List.nil_append]
                simp only
                rw [blank_skip hb]
                exact ⟨[], rfl, Nat.zero_le _⟩
/-- How much is enough: more changes nothing. -/
theorem val_fuel {f f' deep : Nat} {l : B} (h : 2 * l.length + 1 ≤ f) (h' : 2 * l.length + 1 ≤ f') : valF f deep l = valF f' deep l := by
  have h1 := (parts_ext (b := []) f).1 deep l f' h (by simpa using h')
  rw [List.append_nil] at h1
  cases h2 : valF f deep l with
  | ok v r =>
    have := h1.ok _ _ h2 (.inr (.inr (fun c r e => by cases e)))
    rw [List.append_nil] at this; exact this.symm
  | fail r e =>
    by_cases hr : r = []
    · subst hr
      obtain ⟨rfl, h3⟩ := h1.near _ h2
      obtain ⟨r', h4, h5⟩ := h3 (fun c h => by cases h)
      rw [h4, List.eq_nil_of_length_eq_zero (Nat.le_zero.1 h5)]
    · have := h1.far _ _ h2 hr
      rw [List.append_nil] at this; exact this.symm

/-! No part gives up with error 0, nor with more left than there was. -/
def NZ {α : Type} (n : Nat) (x : PR α) : Prop := ∀ r e, x = .fail r e → e ≠ 0 ∧ r.length ≤ n
theorem nz_ok {α : Type} {n : Nat} {a : α} {r : B} : NZ n (.ok a r) := fun _ _ h => by cases h
theorem nz_fail {α : Type} {n : Nat} {r : B} {e : Nat} (h : e ≠ 0) (hl : r.length ≤ n) : NZ n (.fail r e : PR α) := fun _ _ h' => by cases h'; exact ⟨h, hl⟩
theorem NZ.fails {α β : Type} {n m : Nat} {x : PR α} {r : B} {e : Nat} (h : NZ n x) (hx : x = .fail r e) (hm : n ≤ m) : NZ m (.fail r e : PR β) := nz_fail (h _ _ hx).1 (Nat.le_trans (h _ _ hx).2 hm)
theorem NZ.mono {α : Type} {n m : Nat} {x : PR α} (h : NZ n x) (hm : n ≤ m) : NZ m x := fun r e hx => ⟨(h _ _ hx).1, Nat.le_trans (h _ _ hx).2 hm⟩
theorem NZ.map {α β : Type} {n : Nat} {x : PR α} (g : α → β) (h : NZ n x) : NZ n (mapPR g x) := by
  cases x with
  | ok a r => exact nz_ok
  | fail r e => exact nz_fail (h _ _ rfl).1 (h _ _ rfl).2
theorem one_nz (of l : B) : NZ l.length (oneB of l) := fun r e h => by rw [(one_fail h).2, (one_fail h).1]; exact ⟨by decide, Nat.le_refl _⟩
theorem word_nz : ∀ w l : B, NZ l.length (wordB w l)
  | [], l => nz_ok
  | c :: w, l => by
    rw [wordB]
    cases h : oneB [c] l with
    | fail r e => exact (one_nz _ _).fails h (Nat.le_refl _)
    | ok d r =>
      have := congrArg List.length (one_ok h).1
      simp only [List.length_cons] at this
      exact (word_nz w r).mono (by omega)
theorem num_nz (neg z : Bool) : ∀ (l : B) (n : Int), NZ l.length (numB neg z n l)
  | [], n => by rw [numB]; exact nz_fail (by decide) (Nat.le_refl _)
  | c :: l, n => by
    rw [numB.eq_def]
    simp only
    split
    · exact nz_fail (by decide) (Nat.le_refl _)
    · cases l with
      | nil => exact nz_ok
      | cons d r =>
        simp only
        split
        · exact (num_nz neg z _ _).mono (by simp)
        · split
          · exact nz_fail (by decide) (by simp)
          · exact nz_ok
theorem number_nz (l : B) : NZ l.length (numberB l) := by
  cases l with
  | nil => rw [numberB]; exact nz_fail (by decide) (Nat.le_refl _)
  | cons m l =>
    rw [numberB]
    split
    · cases h : oneB digitsL l with
      | fail r e => exact (one_nz _ _).fails h (by simp)
      | ok c r => exact (num_nz _ _ _ _).mono (by simp)
    · cases h : oneB digitsL (m :: l) with
      | fail r e => exact (one_nz _ _).fails h (Nat.le_refl _)
      | ok c r => exact num_nz _ _ _ _
theorem hexGo_nz (two : B) : ∀ (m n : Nat) (l : B), NZ l.length (hexGo two m n l)
  | 0, n, l => by rw [hexGo]; exact nz_ok
  | m + 1, n, l => by
    rw [hexGo_step]
    cases h : oneB (hexOf two m n) l with
    | fail r e => exact (one_nz _ _).fails h (Nat.le_refl _)
    | ok c r =>
      have := congrArg List.length (one_ok h).1
      simp only [List.length_cons] at this
      exact (hexGo_nz two m _ r).mono (by omega)
theorem esc_nz (l : B) : NZ l.length (escB l) := by
  cases h1 : oneB escL l with
  | fail r e => unfold escB; rw [h1]; exact (one_nz _ _).fails h1 (Nat.le_refl _)
  | ok c q =>
    have l1 := congrArg List.length (one_ok h1).1
    simp only [List.length_cons] at l1
    rw [escB_eq h1, escR]
    cases ctlB c with
    | some d => exact nz_ok
    | none =>
      simp only
      split
      · exact nz_ok
      · cases h3 : hexB loTwo q with
        | fail r e => exact (hexGo_nz _ _ _ _).fails h3 (by omega)
        | ok n r2 =>
          have l2 := hexGo_ok _ h3
          simp only
          unfold escS
          split
          · cases h4 : wordB [92, 117] r2 with
            | fail r e => exact (word_nz _ _).fails h4 (by omega)
            | ok u r3 =>
              have l3 := congrArg List.length (word_ok h4)
              rw [List.length_append] at l3
              simp only
              cases r3 with
              | nil => exact nz_fail (by decide) (by simp)
              | cons d q2 =>
                rw [escT]
                split
                · exact nz_fail (by decide) (by omega)
                · cases h5 : hexB hiTwo (d :: q2) with
                  | fail r e => exact (hexGo_nz _ _ _ _).fails h5 (by omega)
                  | ok m r4 => exact nz_ok
          · exact nz_ok
theorem charF_nz : ∀ (f k : Nat) (l : B), k < l.length → l.length < f + k → NZ l.length (charF f k l)
  | 0, k, l, h1, h2 => by omega
  | f + 1, k, l, h1, h2 => by
    rw [charF]
    split
    · exact nz_ok
    · split
      · exact nz_fail (by decide) (by rw [List.length_drop]; omega)
      · split
        · exact nz_fail (by decide) (by simp)
        · exact charF_nz f (k + 1) l (by omega) (by omega)
theorem textF_nz : ∀ (f : Nat) (acc l : B), l.length < f → NZ l.length (textF f acc l)
  | 0, acc, l, h => by omega
  | f + 1, acc, l, h => by
    rw [textF.eq_def]
    simp only
    cases l with
    | nil => exact nz_fail (by decide) (Nat.le_refl _)
    | cons c r =>
      simp only
      split
      · exact nz_ok
      · split
        · exact nz_fail (by decide) (Nat.le_refl _)
        · split
          · cases h1 : escB r with
            | fail r e => exact (esc_nz _).fails h1 (by simp)
            | ok d q =>
              have := esc_ok h1
              simp only [List.length_cons] at h
              exact (textF_nz f _ _ (by omega)).mono (by simp; omega)
          · cases h1 : charB (c :: r) with
            | fail r' e => exact (charF_nz _ 0 _ (by simp) (by omega)).fails h1 (Nat.le_refl _)
            | ok d q =>
              have := (char_ok (by simp) h1).1
              simp only [List.length_cons] at h this
              exact (textF_nz f _ _ (by omega)).mono (by simp; omega)
theorem text_nz (l : B) : NZ l.length (textB l) := by
  unfold textB
  cases h : oneB [34] l with
  | fail r e => exact (one_nz _ _).fails h (Nat.le_refl _)
  | ok c r =>
    have := congrArg List.length (one_ok h).1
    simp only [List.length_cons] at this
    exact (textF_nz _ _ _ (by omega)).mono (by omega)
theorem parts_nz : ∀ f : Nat,
    (∀ deep l, 2 * l.length + 1 ≤ f → NZ l.length (valF f deep l)) ∧ (∀ deep acc l, 2 * l.length + 2 ≤ f → NZ l.length (itemsF f deep acc l)) ∧ (∀ deep ns is l, 2 * l.length + 2 ≤ f → NZ l.length (memsF f deep ns is l)) := by
  intro f
  induction f with
  | zero => exact ⟨fun _ _ h => by omega, fun _ _ _ h => by omega, fun _ _ _ _ h => by omega⟩
  | succ f ih =>
    obtain ⟨iv, ii, im⟩ := ih
    refine ⟨fun deep l h1 => ?_, fun deep acc l h1 => ?_, fun deep ns is l h1 => ?_⟩
    · rw [valF]
      cases h0 : skipB l with
      | nil => exact nz_fail (by decide) (by simp)
      | cons c r =>
        have hlen := skip_len_cons h0
        simp only
        split
        · split
          · exact nz_fail (by decide) (by simpa using hlen)
          · split
            · cases h3 : skipB r with
              | nil => exact nz_fail (by decide) (by simp)
              | cons d q =>
                have hlen2 := skip_len_cons h3
                simp only
                split
                · exact nz_ok
                · exact (ii _ _ _ (by simp; omega)).mono (by simp; omega)
            · cases h3 : skipB r with
              | nil => exact nz_fail (by decide) (by simp)
              | cons d q =>
                have hlen2 := skip_len_cons h3
                simp only
                split
                · exact nz_ok
                · exact (im _ _ _ _ (by simp; omega)).mono (by simp; omega)
        · split
          · cases h4 : textB (c :: r) with
            | fail r e => exact (text_nz _).fails h4 (by simpa using hlen)
            | ok s q => exact nz_ok
          · split
            · exact ((word_nz _ _).map _).mono (by simpa using hlen)
            · split
              · exact ((word_nz _ _).map _).mono (by simpa using hlen)
              · split
                · exact ((word_nz _ _).map _).mono (by simpa using hlen)
                · split
                  · exact ((number_nz _).map _).mono (by simpa using hlen)
                  · exact nz_fail (by decide) (by simpa using hlen)
    · rw [itemsF]
      cases h4 : valF f deep l with
      | fail r e => exact (iv _ _ (by omega)).fails h4 (Nat.le_refl _)
      | ok v r =>
        have hlen := val_ok h4
        have h8 := skip_le r
        simp only
        cases h6 : oneB [44, 93] (skipB r) with
        | fail r e => exact (one_nz _ _).fails h6 (by omega)
        | ok c q =>
          simp only
          have h7 := congrArg List.length (one_ok h6).1
          simp only [List.length_cons] at h7
          split
          · exact nz_ok
          · exact (ii _ _ _ (by omega)).mono (by omega)
    · rw [memsF]
      have hle := skip_le l
      cases h4 : textB (skipB l) with
      | fail r e => exact (text_nz _).fails h4 hle
      | ok s r =>
        have hlen := (text_ok h4).1
        simp only
        split
        · rename_i hc
          exact nz_fail (by decide) (by omega)
        · have h8 := skip_le (r.drop 1)
          rw [List.length_drop] at h8
          cases h6 : oneB [58] (skipB (r.drop 1)) with
          | fail r e => exact (one_nz _ _).fails h6 (by omega)
          | ok c q =>
            simp only
            have h7 := congrArg List.length (one_ok h6).1
            simp only [List.length_cons] at h7
            cases h10 : valF f deep q with
            | fail r e => exact (iv _ _ (by omega)).fails h10 (by omega)
            | ok v r3 =>
              have hlen3 := val_ok h10
              have h14 := skip_le r3
              simp only
              cases h12 : oneB [44, 125] (skipB r3) with
              | fail r e => exact (one_nz _ _).fails h12 (by omega)
              | ok c q2 =>
                simp only
                have h13 := congrArg List.length (one_ok h12).1
                simp only [List.length_cons] at h13
                split
                · exact nz_ok
                · exact (im _ _ _ _ (by omega)).mono (by omega)
theorem whole_nz (l : B) : NZ l.length (wholeP l) := by
  unfold wholeP
  cases h : valF (fuelB l) 0 l with
  | fail r e => exact ((parts_nz _).1 _ _ (by unfold fuelB; omega)).fails h (Nat.le_refl _)
  | ok v r =>
    have h1 := val_ok h
    simp only
    cases h2 : skipB r with
    | nil => exact nz_ok
    | cons c q =>
      have := skip_len_cons h2
      exact nz_fail (by decide) (by simp; omega)
theorem parse_can {s : B} {v : J} {at' : Nat} (h : parseJ s = (v, at', 0)) : Can 0 v ∧ at' = 0 ∧ wholeP s = .ok v [] ∧ s.length ≤ 65536 := by
  unfold parseJ at h
  split at h
  · simp at h
  · cases h1 : wholeP s with
    | fail r e =>
      rw [h1] at h
      simp only [Prod.mk.injEq] at h
      exact absurd h.2.2 (whole_nz s _ _ h1).1
    | ok u r =>
      rw [h1] at h
      simp only [Prod.mk.injEq] at h
      obtain ⟨rfl, h2, -⟩ := h
      have hr : r = [] := by
        unfold wholeP at h1
        cases h3 : valF (fuelB s) 0 s with
        | fail r e => rw [h3] at h1; cases h1
        | ok v r =>
          rw [h3] at h1
          simp only at h1
          cases h4 : skipB r with
          | nil => rw [h4] at h1; simp only [PR.ok.injEq] at h1; exact h1.2.symm
          | cons c q => rw [h4] at h1; cases h1
      subst hr
      exact ⟨whole_can h1, h2.symm, rfl, by omega⟩
end Go.Proofs.YthkpbgpgcpkiiaaGreatDoor
