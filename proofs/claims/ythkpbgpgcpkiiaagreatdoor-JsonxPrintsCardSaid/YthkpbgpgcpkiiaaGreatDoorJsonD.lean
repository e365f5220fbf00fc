/- JSON: what more bytes behind a text do to the parser. Conditions: none. -/
import Derived.Test.YthkpbgpgcpkiiaaGreatDoorJsonC
namespace Go.Proofs.YthkpbgpgcpkiiaaGreatDoor
set_option linter.unusedVariables false
set_option linter.unusedSimpArgs false
set_option maxRecDepth 100000

/-- No byte that goes on with a number. -/
def Stop (b : B) : Prop := ∀ c r, b = c :: r → digB c = false ∧ c ≠ 46 ∧ c ≠ 101 ∧ c ≠ 69
def Blank (b : B) : Prop := ∀ c ∈ b, blankB c = true
/-- What stands behind the text does this. T: what was read may be followed by anything. -/
structure Ext {α : Type} (b : B) (T : α → Prop) (x y : PR α) : Prop where
  ok : ∀ v r, x = .ok v r → T v ∨ r ≠ [] ∨ Stop b → y = .ok v (r ++ b)
  far : ∀ r e, x = .fail r e → r ≠ [] → y = .fail (r ++ b) e
  near : ∀ e, x = .fail [] e → e = 40 ∧ (Blank b → ∃ r', y = .fail r' 40 ∧ r'.length ≤ b.length)
def Any1 {α : Type} : α → Prop := fun _ => True
theorem ext_ok {α : Type} {b : B} {T : α → Prop} {v : α} {r : B} : Ext b T (.ok v r) (.ok v (r ++ b)) := ⟨(fun _ _ h _ => (by cases h; rfl)), (fun _ _ h => (by cases h)), (fun _ h => (by cases h))⟩
theorem ext_far {α : Type} {b : B} {T : α → Prop} {r : B} {e : Nat} (hr : r ≠ []) : Ext b T (.fail r e : PR α) (.fail (r ++ b) e) := ⟨(fun _ _ h => (by cases h)), (fun _ _ h _ => (by cases h; rfl)), (fun _ h => (by cases h; exact absurd rfl hr))⟩
theorem ext_near {α : Type} {b : B} {T : α → Prop} {y : PR α} (h : Blank b → ∃ r', y = .fail r' 40 ∧ r'.length ≤ b.length) : Ext b T (.fail [] 40 : PR α) y := ⟨(fun _ _ h => (by cases h)), (fun _ _ h hr => (by cases h; exact absurd rfl hr)), (fun _ h' => (by cases h'; exact ⟨rfl, h⟩))⟩
/-- A part that failed: so did the whole. -/
theorem Ext.fails {α β : Type} {b : B} {T : α → Prop} {T' : β → Prop} {r : B} {e : Nat} {x y : PR α} {z : PR β} (h : Ext b T x y) (hx : x = .fail r e) (hz : ∀ r e, y = .fail r e → z = .fail r e) : Ext b T' (.fail r e : PR β) z := by
  cases r with
  | nil =>
    obtain ⟨he, hn⟩ := h.near e hx
    subst he
    exact ext_near fun hb => by obtain ⟨r', h3, h4⟩ := hn hb; exact ⟨r', hz _ _ h3, h4⟩
  | cons d r => rw [hz _ _ (h.far _ _ hx (by simp))]; exact ext_far (by simp)
theorem Ext.map {α β : Type} {b : B} {T : α → Prop} {T' : β → Prop} {x y : PR α} (h : Ext b T x y) (g : α → β) (ht : ∀ a, T' (g a) → T a) : Ext b T' (mapPR g x) (mapPR g y) := by
  cases x with
  | ok a r =>
    refine ⟨(fun v r' hv hc => ?_), (fun _ _ h => (by cases h)), (fun _ h => (by cases h))⟩
    cases hv
    rw [h.ok _ _ rfl (hc.imp (ht a) id)]; rfl
  | fail r e => exact h.fails rfl fun r e hy => by rw [hy]; rfl
theorem blank_skip {b : B} (h : Blank b) : skipB b = [] := by
  unfold skipB
  induction b with
  | nil => rfl
  | cons c b ih =>
    rw [List.dropWhile_cons, h c (by simp), if_pos rfl]
    exact ih fun d hd => h d (by simp [hd])
theorem skip_app {l b : B} {c : UInt8} {r : B} (h : skipB l = c :: r) : skipB (l ++ b) = c :: (r ++ b) := by
  unfold skipB at h ⊢
  induction l with
  | nil => cases h
  | cons d l ih =>
    rw [List.cons_append, List.dropWhile_cons]
    rw [List.dropWhile_cons] at h
    split
    · rename_i hd; rw [if_pos hd] at h; exact ih h
    · rename_i hd
      rw [if_neg hd] at h
      cases h; rfl
theorem skip_nil {l b : B} (h : skipB l = []) : skipB (l ++ b) = skipB b := by
  unfold skipB at h ⊢
  induction l with
  | nil => rfl
  | cons d l ih =>
    rw [List.dropWhile_cons] at h
    split at h
    · rename_i hd; rw [List.cons_append, List.dropWhile_cons, if_pos hd]; exact ih h
    · cases h
theorem blank_head {c : UInt8} {r : B} (h : Blank (c :: r)) : blankB c = true := h c (by simp)
/-- Blanks are none of these. -/
theorem blank_not {c d : UInt8} (h : blankB c = true) (hd : blankB d = false) : c ≠ d := fun e => by rw [e, hd] at h; cases h
theorem one_blank {of b : B} (hof : ∀ d ∈ of, blankB d = false) (hb : Blank b) : oneB of b = .fail b 40 := by
  cases b with
  | nil => rfl
  | cons c r =>
    simp only [oneB]
    rw [if_neg]
    intro hc
    have hm : c ∈ of := by simpa using hc
    have := hof c hm
    rw [blank_head hb] at this
    cases this
theorem one_ext {of l b : B} {T : UInt8 → Prop} (hof : ∀ d ∈ of, blankB d = false) : Ext b T (oneB of l) (oneB of (l ++ b)) := by
  cases l with
  | nil => exact ext_near fun hb => ⟨b, one_blank hof hb, Nat.le_refl _⟩
  | cons c r =>
    rw [List.cons_append]
    simp only [oneB]
    split
    · exact ext_ok
    · exact ext_far (by simp)
theorem word_ext {b : B} {T : Unit → Prop} : ∀ {w l : B}, (∀ d ∈ w, blankB d = false) → Ext b T (wordB w l) (wordB w (l ++ b))
  | [], l, _ => ext_ok
  | c :: w, l, hw => by
    rw [wordB, wordB]
    have h1 := one_ext (of := [c]) (l := l) (b := b) (T := Any1) (fun d hd => hw d (by simp at hd; simp [hd]))
    cases h2 : oneB [c] l with
    | fail r e => exact h1.fails h2 fun r e hy => by rw [hy]
    | ok d r =>
      rw [h1.ok _ _ h2 (.inl trivial)]
      exact word_ext fun d hd => hw d (by simp [hd])
theorem blank_cases {c : UInt8} (h : blankB c = true) : digB c = false ∧ c ≠ 46 ∧ c ≠ 101 ∧ c ≠ 69 ∧ c < 0x80 := by
  unfold blankB at h
  simp only [Bool.or_eq_true, beq_iff_eq] at h
  rcases h with ((rfl | rfl) | rfl) | rfl <;> decide
theorem blank_stop {b : B} (h : Blank b) : Stop b := fun c r e => by
  subst e
  obtain ⟨h1, h2, h3, h4, _⟩ := blank_cases (blank_head h)
  exact ⟨h1, h2, h3, h4⟩
theorem num_ext (neg z : Bool) {b : B} : ∀ {l : B} {n : Int}, l ≠ [] → Ext b (fun _ => False) (numB neg z n l) (numB neg z n (l ++ b))
  | [], n, h => absurd rfl h
  | c :: l, n, _ => by
    rw [numB.eq_def, numB.eq_def]
    simp only [List.cons_append]
    split
    · exact ext_far (by simp)
    · cases l with
      | nil =>
        simp only [List.nil_append]
        refine ⟨fun v r hv hc => ?_, (fun _ _ h => (by cases h)), (fun _ h => (by cases h))⟩
        cases hv
        have hs : Stop b := by rcases hc with h | h | h; exact h.elim; exact absurd rfl h; exact h
        cases b with
        | nil => rfl
        | cons d b =>
          obtain ⟨h1, h2, h3, h4⟩ := hs d b rfl
          simp [h1, h2, h3, h4]
      | cons d l =>
        simp only [List.cons_append]
        split
        · exact num_ext neg z (by simp)
        · split
          · exact ext_far (by simp)
          · exact ext_ok
theorem digits_not : ∀ d ∈ digitsL, blankB d = false := by decide
theorem number_ext {l b : B} (hl : l ≠ []) : Ext b (fun _ => False) (numberB l) (numberB (l ++ b)) := by
  cases l with
  | nil => exact absurd rfl hl
  | cons m l =>
    rw [List.cons_append]
    simp only [numberB]
    split
    · have h1 := one_ext (of := digitsL) (l := l) (b := b) (T := Any1) digits_not
      cases h2 : oneB digitsL l with
      | fail r e => exact h1.fails h2 fun r e hy => by rw [hy]
      | ok d r =>
        rw [h1.ok _ _ h2 (.inl trivial)]
        exact num_ext _ _ (by rw [(one_ok h2).1]; simp)
    · have h1 := one_ext (of := digitsL) (l := m :: l) (b := b) (T := Any1) digits_not
      rw [List.cons_append] at h1
      cases h2 : oneB digitsL (m :: l) with
      | fail r e => exact h1.fails h2 fun r e hy => by rw [hy]
      | ok d r =>
        rw [h1.ok _ _ h2 (.inl trivial)]
        exact num_ext (l := m :: l) _ _ (by simp)
theorem hexGo_ext {two b : B} (ht : ∀ d ∈ two, blankB d = false) : ∀ {m n : Nat} {l : B}, Ext b Any1 (hexGo two m n l) (hexGo two m n (l ++ b))
  | 0, n, l => by rw [hexGo, hexGo]; exact ext_ok
  | m + 1, n, l => by
    rw [hexGo, hexGo]
    have h0 : ∀ d ∈ (if m = 2 ∧ n = 13 then two else hexDL), blankB d = false := by
      split
      · exact ht
      · decide
    generalize (if m = 2 ∧ n = 13 then two else hexDL) = of at *
    have h1 := one_ext (l := l) (b := b) (T := Any1) h0
    cases h2 : oneB of l with
    | fail r e => exact h1.fails h2 fun r e hy => by rw [hy]
    | ok d r =>
      rw [h1.ok _ _ h2 (.inl trivial)]
      exact hexGo_ext ht
theorem hexB_ext {two l b : B} (ht : ∀ d ∈ two, blankB d = false) : Ext b Any1 (hexB two l) (hexB two (l ++ b)) := hexGo_ext ht
theorem esc_ext {l b : B} : Ext b Any1 (escB l) (escB (l ++ b)) := by
  unfold escB
  have h1 := one_ext (of := escL) (l := l) (b := b) (T := Any1) (by decide)
  cases h2 : oneB escL l with
  | fail r e => exact h1.fails h2 fun r e hy => by rw [hy]
  | ok c r =>
    rw [h1.ok _ _ h2 (.inl trivial)]
    simp only
    cases ctlB c with
    | some d => exact ext_ok
    | none =>
      simp only
      split
      · exact ext_ok
      · have h3 := hexB_ext (two := loTwo) (l := r) (b := b) (by decide)
        cases h4 : hexB loTwo r with
        | fail r e => exact h3.fails h4 fun r e hy => by rw [hy]
        | ok n r =>
          rw [h3.ok _ _ h4 (.inl trivial)]
          simp only
          split
          · have h5 := word_ext (w := [92, 117]) (l := r) (b := b) (T := Any1) (by decide)
            cases h6 : wordB [92, 117] r with
            | fail r e => exact h5.fails h6 fun r e hy => by rw [hy]
            | ok u r =>
              rw [h5.ok _ _ h6 (.inl trivial)]
              simp only
              cases r with
              | nil =>
                refine ext_near fun hb => ?_
                simp only [List.nil_append]
                cases b with
                | nil => exact ⟨[], rfl, Nat.le_refl _⟩
                | cons d b =>
                  have hd := blank_head hb
                  refine ⟨d :: b, ?_, Nat.le_refl _⟩
                  simp only
                  rw [if_pos ⟨blank_not hd (by decide), blank_not hd (by decide)⟩]
              | cons d r =>
                simp only [List.cons_append]
                split
                · exact ext_far (by simp)
                · have h7 := hexB_ext (two := hiTwo) (l := d :: r) (b := b) (by decide)
                  rw [List.cons_append] at h7
                  cases h8 : hexB hiTwo (d :: r) with
                  | fail r e => exact h7.fails h8 fun r e hy => by rw [hy]
                  | ok m r =>
                    rw [h7.ok _ _ h8 (.inl trivial)]
                    exact ext_ok
          · exact ext_ok

/-- Characters: an ASCII byte is none's continuation. -/
theorem tail_ascii {c : UInt8} {r : B} (hc : c < 0x80) : ∀ {n : Nat} {lo hi : UInt8} {l : B}, 0x80 ≤ lo → tailB n lo hi (l ++ c :: r) = true → tailB n lo hi l = true
  | 0, lo, hi, l, _, _ => by rw [tailB]
  | n + 1, lo, hi, [], hlo, h => by
    rw [List.nil_append, tailB] at h
    simp only [Bool.and_eq_true] at h
    have h1 := h.1
    unfold contB at h1
    simp only [Bool.and_eq_true, decide_eq_true_eq] at h1
    have a1 := UInt8.lt_iff_toNat_lt.1 hc
    have a2 := UInt8.le_iff_toNat_le.1 hlo
    have a3 := UInt8.le_iff_toNat_le.1 h1.1
    simp at a1 a2
    omega
  | n + 1, lo, hi, d :: l, hlo, h => by
    rw [List.cons_append, tailB] at h
    rw [tailB]
    simp only [Bool.and_eq_true] at h ⊢
    exact ⟨h.1, tail_ascii hc (by decide) h.2⟩
theorem tail_len : ∀ {n : Nat} {lo hi : UInt8} {l : B}, tailB n lo hi l = true → n ≤ l.length
  | 0, lo, hi, l, _ => Nat.zero_le _
  | n + 1, lo, hi, [], h => by rw [tailB] at h; cases h
  | n + 1, lo, hi, d :: l, h => by
    rw [tailB] at h
    simp only [Bool.and_eq_true] at h
    have := tail_len h.2
    simp; omega
theorem longB_lo (c : UInt8) : (longB c).1 = 0 ∨ (0x80 ≤ (longB c).2.1 ∧ (longB c).1 ≤ 4 ∧ 1 ≤ (longB c).1) := by
  unfold longB
  split
  · right; decide
  split
  · right; decide
  split
  · right; decide
  split
  · right; decide
  split
  · right; decide
  split
  · right; decide
  split
  · right; decide
  split
  · right; decide
  · left; rfl
theorem first_len_le (l : B) : firstB l ≤ l.length := by
  cases l with
  | nil => exact Nat.le_refl _
  | cons c r =>
    rw [firstB]
    split
    · exact Nat.zero_le _
    · split
      · rename_i h
        have := tail_len h
        simp; omega
      · exact Nat.zero_le _
theorem first_ascii {c : UInt8} {r : B} (hc : c < 0x80) {l : B} (hl : l ≠ []) (h : firstB (l ++ c :: r) ≠ 0) : firstB l = firstB (l ++ c :: r) := by
  cases l with
  | nil => exact absurd rfl hl
  | cons d l =>
    rw [List.cons_append, firstB] at h ⊢
    rw [firstB]
    by_cases h0 : (longB d).1 = 0
    · rw [if_pos h0, if_pos h0]
    · rw [if_neg h0] at h ⊢
      rw [if_neg h0]
      by_cases h1 : tailB ((longB d).1 - 1) (longB d).2.1 (longB d).2.2 (l ++ c :: r) = true
      · rw [if_pos h1, if_pos (tail_ascii hc ((longB_lo d).resolve_left h0).1 h1)]
      · rw [if_neg h1] at h; exact absurd rfl h
theorem wholeF_mono : ∀ {n m : Nat} {l : B}, l.length ≤ n → l.length ≤ m → wholeF n l = wholeF m l
  | 0, m, l, h, _ => by
    have hl : l = [] := List.eq_nil_of_length_eq_zero (by omega)
    subst hl
    cases m with
    | zero => rfl
    | succ m => rw [wholeF, wholeF]; rfl
  | n + 1, 0, l, _, h => by
    have hl : l = [] := List.eq_nil_of_length_eq_zero (by omega)
    subst hl
    rw [wholeF, wholeF]; rfl
  | n + 1, m + 1, l, h1, h2 => by
    rw [wholeF, wholeF]
    split
    · rfl
    · split
      · rfl
      · have : (l.drop (firstB l)).length ≤ l.length - 1 := by rw [List.length_drop]; omega
        exact wholeF_mono (by omega) (by omega)
theorem whole_step {l : B} (hl : l ≠ []) : wholeL l = if firstB l = 0 then false else wholeL (l.drop (firstB l)) := by
  unfold wholeL
  cases l with
  | nil => exact absurd rfl hl
  | cons c r =>
    rw [List.length_cons, wholeF, if_neg (by simp)]
    split
    · rfl
    · refine wholeF_mono ?_ (Nat.le_refl _)
      rw [List.length_drop, List.length_cons]; omega
theorem whole_ascii {c : UInt8} {r : B} (hc : c < 0x80) : ∀ {n : Nat} {l : B}, l.length ≤ n → wholeL (l ++ c :: r) = true → wholeL l = true
  | n, [], _, _ => rfl
  | 0, d :: l, h, _ => by simp at h
  | n + 1, d :: l, h, hw => by
    rw [whole_step (by simp)] at hw
    rw [whole_step (by simp)]
    by_cases h0 : firstB ((d :: l) ++ c :: r) = 0
    · rw [if_pos h0] at hw; cases hw
    · rw [if_neg h0] at hw
      have hf := first_ascii hc (l := d :: l) (by simp) h0
      rw [hf, if_neg h0]
      have hle := first_len_le (d :: l)
      rw [hf] at hle
      rw [List.drop_append_of_le_length hle] at hw
      refine whole_ascii hc (n := n) ?_ hw
      rw [List.length_drop]
      simp only [List.length_cons] at h ⊢
      omega
theorem char_ext {b : B} : ∀ {f f' k : Nat} {l : B}, k < l.length → l.length < f + k → l.length + b.length < f' + k → Ext b Any1 (charF f k l) (charF f' k (l ++ b))
  | 0, f', k, l, hk, hf, _ => by omega
  | f + 1, 0, k, l, hk, _, hf => by omega
  | f + 1, f' + 1, k, l, hk, h1, h2 => by
    rw [charF, charF]
    have ht : (l ++ b).take (k + 1) = l.take (k + 1) := by rw [List.take_append_of_le_length (by omega)]
    have hd : (l ++ b).drop (k + 1) = l.drop (k + 1) ++ b := List.drop_append_of_le_length (by omega)
    have hd0 : (l ++ b).drop k = l.drop k ++ b := List.drop_append_of_le_length (by omega)
    rw [ht, hd, hd0]
    by_cases hw : wholeL (l.take (k + 1)) = true
    · rw [if_pos hw, if_pos hw]; exact ext_ok
    rw [if_neg hw, if_neg hw]
    by_cases hg : growsB (l.take (k + 1)) = false
    · rw [if_pos hg, if_pos hg]
      exact ext_far (fun e => by have := congrArg List.length e; rw [List.length_drop] at this; simp at this; omega)
    rw [if_neg hg, if_neg hg]
    by_cases hl : l.length ≤ k + 1
    · rw [if_pos hl]
      refine ext_near fun hb => ?_
      cases b with
      | nil =>
        rw [List.append_nil, if_pos hl]
        exact ⟨[], rfl, Nat.le_refl _⟩
      | cons c r =>
        have hc := (blank_cases (blank_head hb)).2.2.2.2
        rw [if_neg (by rw [List.length_append, List.length_cons]; omega)]
        have hle : l.take (k + 1) = l := List.take_of_length_le hl
        rw [hle] at hw
        cases f' with
        | zero => simp at h2; omega
        | succ f' =>
          rw [charF]
          have hk1 : l.length = k + 1 := by omega
          have ht2 : (l ++ c :: r).take (k + 1 + 1) = l ++ [c] := by
            rw [List.take_append, List.take_of_length_le (by omega), hk1]
            simp
          have hn : ∀ e, wholeL (l ++ c :: e) = false := fun e => by
            cases h : wholeL (l ++ c :: e)
            · rfl
            · exact absurd (whole_ascii hc (Nat.le_refl _) h) hw
          rw [ht2, hn []]
          rw [if_neg (by simp)]
          have hg2 : growsB (l ++ [c]) = false := by
            unfold growsB
            rw [List.any_eq_false]
            intro e he
            rw [List.append_assoc, List.cons_append, List.nil_append, hn e]
            simp
          rw [if_pos hg2, List.drop_append_of_le_length (by omega), List.drop_of_length_le (by omega)]
          exact ⟨c :: r, rfl, Nat.le_refl _⟩
    · rw [if_neg hl, if_neg (by rw [List.length_append]; omega)]
      exact char_ext (by omega) (by omega) (by omega)
theorem charB_ext {l b : B} (hl : l ≠ []) : Ext b Any1 (charB l) (charB (l ++ b)) := by
  unfold charB
  exact char_ext (List.length_pos_iff.2 hl) (by omega) (by rw [List.length_append]; omega)
theorem text_blank : ∀ {f : Nat} {acc b : B}, Blank b → b.length < f → ∃ r', textF f acc b = .fail r' 40 ∧ r'.length ≤ b.length
  | 0, acc, b, _, h => by omega
  | f + 1, acc, [], _, _ => by rw [textF.eq_def]; exact ⟨[], rfl, Nat.le_refl _⟩
  | f + 1, acc, c :: b, hb, h => by
    have hc := blank_head hb
    rw [textF.eq_def]
    simp only
    rw [if_neg (blank_not hc (by decide))]
    by_cases h32 : c < 32
    · rw [if_pos h32]; exact ⟨_, rfl, Nat.le_refl _⟩
    · rw [if_neg h32, if_neg (blank_not hc (by decide))]
      have hc32 : c = 32 := by
        unfold blankB at hc
        simp only [Bool.or_eq_true, beq_iff_eq] at hc
        rcases hc with ((rfl | rfl) | rfl) | rfl
        · rfl
        · exact absurd (by decide) h32
        · exact absurd (by decide) h32
        · exact absurd (by decide) h32
      subst hc32
      have hch : charB (32 :: b) = .ok [32] b := by
        unfold charB
        rw [charF]
        have : (32 :: b : B).take (0 + 1) = [32] := rfl
        rw [this, if_pos (by decide)]; rfl
      rw [hch]
      simp only
      obtain ⟨r', h1, h2⟩ := text_blank (f := f) (acc := acc ++ [32]) (b := b) (fun d hd => hb d (by simp [hd])) (by simp at h; omega)
      exact ⟨r', h1, by simp; omega⟩
theorem textF_ext {b : B} : ∀ {f f' : Nat} {acc l : B}, l.length < f → l.length + b.length < f' → Ext b Any1 (textF f acc l) (textF f' acc (l ++ b))
  | 0, f', acc, l, h, _ => by omega
  | f + 1, 0, acc, l, _, h => by omega
  | f + 1, f' + 1, acc, l, h1, h2 => by
    cases l with
    | nil =>
      rw [textF.eq_def]
      simp only
      refine ext_near fun hb => ?_
      rw [List.nil_append]
      exact text_blank hb (by simp at h2; omega)
    | cons c r =>
      rw [textF.eq_def, textF.eq_def]
      simp only [List.cons_append, List.length_cons] at h1 h2 ⊢
      split
      · exact ext_ok
      · split
        · exact ext_far (by simp)
        · split
          · have h3 := esc_ext (l := r) (b := b)
            cases h4 : escB r with
            | fail r e => exact h3.fails h4 fun r e hy => by rw [hy]
            | ok d r1 =>
              rw [h3.ok _ _ h4 (.inl trivial)]
              have := esc_ok h4
              exact textF_ext (by omega) (by omega)
          · have h3 := charB_ext (l := c :: r) (b := b) (by simp)
            rw [List.cons_append] at h3
            cases h4 : charB (c :: r) with
            | fail r e => exact h3.fails h4 fun r e hy => by rw [hy]
            | ok d r1 =>
              rw [h3.ok _ _ h4 (.inl trivial)]
              have := (char_ok (by simp) h4).1
              simp only [List.length_cons] at this
              exact textF_ext (by omega) (by omega)
theorem text_ext {l b : B} : Ext b Any1 (textB l) (textB (l ++ b)) := by
  unfold textB
  have h1 := one_ext (of := [34]) (l := l) (b := b) (T := Any1) (by decide)
  cases h2 : oneB [34] l with
  | fail r e => exact h1.fails h2 fun r e hy => by rw [hy]
  | ok d r =>
    rw [h1.ok _ _ h2 (.inl trivial)]
    exact textF_ext (by omega) (by rw [List.length_append]; omega)
end Go.Proofs.YthkpbgpgcpkiiaaGreatDoor
