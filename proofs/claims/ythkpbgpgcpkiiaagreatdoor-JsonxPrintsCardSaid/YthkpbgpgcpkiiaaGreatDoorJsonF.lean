/- JSON: a printed text is read as it was. Conditions: none. -/
import Derived.Test.YthkpbgpgcpkiiaaGreatDoorJsonE
namespace Go.Proofs.YthkpbgpgcpkiiaaGreatDoor
set_option linter.unusedVariables false
set_option linter.unusedSimpArgs false
set_option maxRecDepth 100000

theorem tail_app : ∀ {n : Nat} {lo hi : UInt8} {t u : B}, tailB n lo hi t = true → tailB n lo hi (t ++ u) = true
  | 0, lo, hi, t, u, _ => by rw [tailB]
  | n + 1, lo, hi, [], u, h => by rw [tailB] at h; cases h
  | n + 1, lo, hi, d :: t, u, h => by
    rw [tailB] at h
    rw [List.cons_append, tailB]
    simp only [Bool.and_eq_true] at h ⊢
    exact ⟨h.1, tail_app h.2⟩
theorem tail_take : ∀ {n : Nat} {lo hi : UInt8} {t : B}, tailB n lo hi t = true → tailB n lo hi (t.take n) = true
  | 0, lo, hi, t, _ => by rw [tailB]
  | n + 1, lo, hi, [], h => by rw [tailB] at h; cases h
  | n + 1, lo, hi, d :: t, h => by
    rw [tailB] at h
    rw [List.take_succ_cons, tailB]
    simp only [Bool.and_eq_true] at h ⊢
    exact ⟨h.1, tail_take h.2⟩
theorem tail_rep (x : UInt8) : ∀ {n : Nat} {lo hi : UInt8}, contB lo hi x = true → contB 0x80 0xbf x = true → tailB n lo hi (List.replicate n x) = true
  | 0, lo, hi, _, _ => by rw [tailB]
  | n + 1, lo, hi, h1, h2 => by
    rw [List.replicate_succ, tailB, h1, Bool.true_and]
    exact tail_rep x h2 h2
theorem tail_grow : ∀ {n : Nat} {lo hi : UInt8} {t u : B}, t ≠ [] → t.length ≤ n → tailB n lo hi (t ++ u) = true → tailB n lo hi (t ++ List.replicate (n - t.length) 0x80) = true
  | 0, lo, hi, t, u, _, _, _ => by rw [tailB]
  | n + 1, lo, hi, [], u, h, _, _ => absurd rfl h
  | n + 1, lo, hi, d :: t, u, _, hl, h => by
    rw [List.cons_append, tailB] at h
    rw [List.cons_append, tailB]
    simp only [Bool.and_eq_true, List.length_cons] at h hl ⊢
    refine ⟨h.1, ?_⟩
    rw [show n + 1 - (t.length + 1) = n - t.length by omega]
    cases t with
    | nil => exact tail_rep 0x80 (by decide) (by decide)
    | cons e t => exact tail_grow (by simp) (by omega) h.2
theorem longB_ends (c : UInt8) : (longB c).1 ≤ 1 ∨ contB (longB c).2.1 (longB c).2.2 0x80 = true ∨ contB (longB c).2.1 (longB c).2.2 0xbf = true := by
  unfold longB
  repeat' split
  all_goals decide
theorem longB_le4 (c : UInt8) : (longB c).1 ≤ 4 := by
  unfold longB
  repeat' split
  all_goals decide
theorem longB_ascii {c : UInt8} : (longB c).1 = 1 ↔ c < 0x80 := by
  unfold longB
  by_cases h : c < 0x80
  · rw [if_pos h]; simp [h]
  · rw [if_neg h]
    refine ⟨fun k => ?_, fun k => absurd k h⟩
    repeat' split at k
    all_goals cases k
theorem whole_char {c : UInt8} {t : B} (h0 : (longB c).1 = t.length + 1) (ht : tailB t.length (longB c).2.1 (longB c).2.2 t = true) : wholeL (c :: t) = true := by
  have hf : firstB (c :: t) = t.length + 1 := by
    rw [firstB, if_neg (by omega), h0, Nat.add_sub_cancel, if_pos ht]
  rw [whole_step (by simp), hf, if_neg (by omega)]
  rw [List.drop_of_length_le (by simp)]; rfl
theorem rep_ends {j : Nat} (h1 : 1 ≤ j) (h3 : j ≤ 3) : List.replicate j 0x80 ∈ endsB ∧ List.replicate j 0xbf ∈ endsB := by
  have : j = 1 ∨ j = 2 ∨ j = 3 := by omega
  rcases this with rfl | rfl | rfl <;> decide
theorem grows_part {c : UInt8} {t u : B} (hu : u ≠ []) (h0 : (longB c).1 = (t ++ u).length + 1) (ht : tailB (t ++ u).length (longB c).2.1 (longB c).2.2 (t ++ u) = true) : growsB (c :: t) = true ∧ wholeL (c :: t) = false := by
  have h4 := longB_le4 c
  have hul : 1 ≤ u.length := List.length_pos_iff.2 hu
  rw [List.length_append] at h0 ht
  constructor
  · unfold growsB
    rw [List.any_eq_true]
    by_cases hte : t = []
    · subst hte
      simp only [List.length_nil, List.nil_append, Nat.zero_add] at h0 ht
      rcases longB_ends c with h | h | h
      · omega
      · refine ⟨_, (rep_ends (j := u.length) hul (by omega)).1, whole_char (t := List.replicate u.length 0x80) (by simpa using h0) ?_⟩
        rw [List.length_replicate]; exact tail_rep _ h (by decide)
      · refine ⟨_, (rep_ends (j := u.length) hul (by omega)).2, whole_char (t := List.replicate u.length 0xbf) (by simpa using h0) ?_⟩
        rw [List.length_replicate]; exact tail_rep _ h (by decide)
    · have this0 := tail_grow hte (by omega) ht
      rw [show t.length + u.length - t.length = u.length by omega] at this0
      refine ⟨_, (rep_ends (j := u.length) hul (by omega)).1, by rw [List.cons_append]; exact whole_char (t := t ++ List.replicate u.length 0x80) (by simpa using h0) (by
        rw [List.length_append, List.length_replicate]; exact this0)⟩
  · rw [whole_step (by simp)]
    have hf : firstB (c :: t) = 0 := by
      rw [firstB, if_neg (by omega), if_neg]
      intro h
      have := tail_len h
      omega
    rw [hf, if_pos rfl]
theorem charF_one {c : UInt8} {t R : B} (h0 : (longB c).1 = t.length + 1) (ht : tailB t.length (longB c).2.1 (longB c).2.2 t = true) :
    ∀ (j k f : Nat), k + j = t.length → j < f → charF f k (c :: t ++ R) = .ok (c :: t) R := by
  intro j
  induction j with
  | zero =>
    intro k f hk hf
    obtain ⟨f, rfl⟩ : ∃ g, f = g + 1 := ⟨f - 1, by omega⟩
    have e : (c :: t ++ R).take (k + 1) = c :: t := by
      rw [List.take_append_of_le_length (by simp; omega), List.take_of_length_le (by simp; omega)]
    have e2 : (c :: t ++ R).drop (k + 1) = R := by
      rw [List.drop_append_of_le_length (by simp; omega), List.drop_of_length_le (by simp; omega)]; rfl
    rw [charF, e, e2, if_pos (whole_char h0 ht)]
  | succ j ih =>
    intro k f hk hf
    obtain ⟨f, rfl⟩ : ∃ g, f = g + 1 := ⟨f - 1, by omega⟩
    have e : (c :: t ++ R).take (k + 1) = c :: t.take k := by
      rw [List.cons_append, List.take_succ_cons, List.take_append_of_le_length (by omega)]
    have hd : t.drop k ≠ [] := by
      intro h; have := congrArg List.length h; rw [List.length_drop] at this; simp at this; omega
    have htt : t.take k ++ t.drop k = t := List.take_append_drop k t
    obtain ⟨h1, h2⟩ := grows_part (c := c) (t := t.take k) (u := t.drop k) hd (by rw [htt]; exact h0) (by rw [htt]; exact ht)
    rw [charF, e, h1, h2]
    simp only [Bool.false_eq_true, if_false]
    rw [if_neg (by simp), if_neg (by simp; omega)]
    exact ih (k + 1) f (by omega) (by omega)
theorem charB_one {c : UInt8} {t R : B} (h0 : (longB c).1 = t.length + 1) (ht : tailB t.length (longB c).2.1 (longB c).2.2 t = true) : charB (c :: t ++ R) = .ok (c :: t) R :=
  charF_one h0 ht t.length 0 _ (by omega) (by simp; omega)
theorem tail_high : ∀ {n : Nat} {lo hi : UInt8} {t : B}, 0x80 ≤ lo → t.length = n → tailB n lo hi t = true → ∀ d ∈ t, 0x80 ≤ d
  | 0, lo, hi, t, _, hn, _ => by
    have := List.eq_nil_of_length_eq_zero hn
    subst this; simp
  | n + 1, lo, hi, [], _, hn, _ => by cases hn
  | n + 1, lo, hi, d :: t, hlo, hn, h => by
    rw [tailB] at h
    simp only [Bool.and_eq_true] at h
    have h1 := h.1
    unfold contB at h1
    simp only [Bool.and_eq_true, decide_eq_true_eq] at h1
    intro e he
    rcases List.mem_cons.1 he with rfl | he
    · exact UInt8.le_trans hlo h1.1
    · exact tail_high (by decide) (by simpa using hn) h.2 e he
theorem quote_high {c : UInt8} (h : 0x80 ≤ c) : quoteC c = [c] := by
  have : ∀ n : Nat, n < 256 → 0x80 ≤ UInt8.ofNat n → quoteC (UInt8.ofNat n) = [UInt8.ofNat n] := by decide
  have := this c.toNat c.toNat_lt; rw [UInt8.ofNat_toNat] at this; exact this h
theorem flat_high : ∀ {t : B}, (∀ d ∈ t, 0x80 ≤ d) → t.flatMap quoteC = t
  | [], _ => rfl
  | d :: t, h => by rw [List.flatMap_cons, quote_high (h d (by simp)), flat_high fun e he => h e (by simp [he])]; rfl
/-- What begins a text is a character; what is behind it is whole again. -/
theorem whole_split {c : UInt8} {r : B} (h : wholeL (c :: r) = true) : ∃ t q, r = t ++ q ∧ (longB c).1 = t.length + 1 ∧ tailB t.length (longB c).2.1 (longB c).2.2 t = true ∧ wholeL q = true := by
  rw [whole_step (by simp)] at h
  by_cases h0 : firstB (c :: r) = 0
  · rw [if_pos h0] at h; cases h
  · rw [if_neg h0] at h
    have hf := h0
    rw [firstB] at hf h
    by_cases h1 : (longB c).1 = 0
    · rw [if_pos h1] at hf; exact absurd rfl hf
    rw [if_neg h1] at hf h
    by_cases h2 : tailB ((longB c).1 - 1) (longB c).2.1 (longB c).2.2 r = true
    · rw [if_pos h2] at h
      have hl := tail_len h2
      obtain ⟨n, hn⟩ : ∃ n, (longB c).1 = n + 1 := ⟨(longB c).1 - 1, by omega⟩
      rw [hn] at h h2 hl
      simp only [Nat.add_sub_cancel] at h2 hl
      have hlen : (r.take n).length = n := by rw [List.length_take]; omega
      refine ⟨r.take n, r.drop n, (List.take_append_drop n r).symm, ?_, ?_, ?_⟩
      · rw [hlen]; exact hn
      · rw [hlen]; exact tail_take h2
      · rw [List.drop_succ_cons] at h; exact h
    · rw [if_neg h2] at hf; exact absurd rfl hf
theorem whole_join {c : UInt8} {t q : B} (h0 : (longB c).1 = t.length + 1) (ht : tailB t.length (longB c).2.1 (longB c).2.2 t = true) : wholeL (c :: t ++ q) = wholeL q := by
  have hf : firstB (c :: t ++ q) = t.length + 1 := by
    rw [List.cons_append, firstB, if_neg (by omega), h0, Nat.add_sub_cancel, if_pos (tail_app ht)]
  rw [whole_step (by simp), hf, if_neg (by omega), List.cons_append, List.drop_succ_cons, List.drop_append_of_le_length (Nat.le_refl _), List.drop_length]; rfl
theorem whole_app : ∀ {n : Nat} {a b : B}, a.length ≤ n → wholeL a = true → wholeL (a ++ b) = wholeL b
  | n, [], b, _, _ => rfl
  | 0, c :: r, b, h, _ => by simp at h
  | n + 1, c :: r, b, hn, h => by
    obtain ⟨t, q, rfl, h0, ht, hq⟩ := whole_split h
    rw [← List.cons_append, List.append_assoc, whole_join h0 ht]
    exact whole_app (n := n) (by simp at hn; omega) hq

/-- A byte below 32, as it is printed. -/
theorem esc_low {c : UInt8} (h : c < 32) (R : B) : escB (117 :: 48 :: 48 :: hexc (c.toNat / 16) :: hexc (c.toNat % 16) :: R) = .ok [c] R := by
  have key : ∀ n : Nat, n < 32 → hexDL.contains (hexc (n / 16)) = true ∧ hexDL.contains (hexc (n % 16)) = true ∧ 16 * hexVal (hexc (n / 16)) + hexVal (hexc (n % 16)) = n ∧ utf8B n = [UInt8.ofNat n] ∧ ¬ (0xd800 ≤ n ∧ n < 0xdc00) := by decide
  have hn : c.toNat < 32 := UInt8.lt_iff_toNat_lt.1 h
  obtain ⟨k1, k2, k3, k4, k5⟩ := key c.toNat hn
  have e1 : oneB escL (117 :: 48 :: 48 :: hexc (c.toNat / 16) :: hexc (c.toNat % 16) :: R) = .ok 117 (48 :: 48 :: hexc (c.toNat / 16) :: hexc (c.toNat % 16) :: R) := rfl
  have e2 : hexB loTwo (48 :: 48 :: hexc (c.toNat / 16) :: hexc (c.toNat % 16) :: R) = .ok c.toNat R := by
    have h1 : ∀ l : B, oneB hexDL (48 :: l) = .ok 48 l := fun _ => rfl
    have h2 : hexVal 48 = 0 := rfl
    have h3 : hexVal (hexc (c.toNat / 16)) ≤ 1 := by
      have : ∀ n : Nat, n < 32 → hexVal (hexc (n / 16)) ≤ 1 := by decide
      exact this _ hn
    rw [hexB, hexGo, if_neg (by decide), h1]
    simp only
    rw [hexGo, if_neg (by decide), h1]
    simp only
    rw [h2, hexGo, if_neg (fun h => absurd h.2 (by decide)), oneB, k1, if_pos rfl]
    simp only
    rw [hexGo, if_neg (fun h => absurd h.1 (by decide)), oneB, k2, if_pos rfl]
    simp only
    rw [hexGo]
    congr 1
    omega
  rw [escB, e1]
  simp only
  rw [show ctlB 117 = none from rfl]
  simp only
  rw [if_neg (by decide), e2]
  simp only
  rw [if_neg k5, k4, UInt8.ofNat_toNat]
theorem esc_self {c : UInt8} (h : c = 34 ∨ c = 92) (R : B) : escB (c :: R) = .ok [c] R := by
  rcases h with rfl | rfl <;> rfl
theorem textF_quote {b : B} : ∀ {n f : Nat} {acc s : B}, s.length ≤ n → n < f → wholeL s = true → textF f acc (s.flatMap quoteC ++ 34 :: b) = .ok (acc ++ s) (34 :: b)
  | n, 0, acc, s, _, h, _ => by omega
  | n, f + 1, acc, [], _, _, _ => by rw [textF.eq_def]; simp
  | 0, f + 1, acc, c :: r, h, _, _ => by simp at h
  | n + 1, f + 1, acc, c :: r, hn, hf, hw => by
    obtain ⟨t, q, rfl, h0, ht, hq⟩ := whole_split hw
    have hql : q.length ≤ n := by simp at hn; omega
    by_cases hc : c < 0x80
    · have ht0 : t = [] := by
        have := longB_ascii.2 hc
        exact List.eq_nil_of_length_eq_zero (by omega)
      subst ht0
      rw [List.nil_append, List.flatMap_cons, quoteC]
      by_cases h1 : c = 34 ∨ c = 92
      · rw [if_pos h1]
        simp only [List.cons_append, List.nil_append]
        rw [textF.eq_def]
        simp only
        rw [if_neg (by decide), if_neg (by decide), if_pos trivial, esc_self h1]
        simp only
        rw [textF_quote (n := n) hql (by omega) hq, List.append_assoc]; rfl
      · rw [if_neg h1]
        by_cases h2 : c < 32
        · rw [if_pos h2]
          simp only [List.cons_append, List.nil_append]
          rw [textF.eq_def]
          simp only
          rw [if_neg (by decide), if_neg (by decide), if_pos trivial, esc_low h2]
          simp only
          rw [textF_quote (n := n) hql (by omega) hq, List.append_assoc]; rfl
        · rw [if_neg h2]
          simp only [List.cons_append, List.nil_append]
          rw [textF.eq_def]
          simp only
          have hch := charB_one (c := c) (t := []) (R := q.flatMap quoteC ++ 34 :: b) h0 ht
          simp only [List.cons_append, List.nil_append] at hch
          rw [if_neg (fun e => h1 (.inl e)), if_neg h2, if_neg (fun e => h1 (.inr e)), hch]
          simp only
          rw [textF_quote (n := n) hql (by omega) hq, List.append_assoc]; rfl
    · have hlo := (longB_lo c).resolve_left (by omega)
      have hhi : ∀ d ∈ c :: t, 0x80 ≤ d := by
        intro d hd
        rcases List.mem_cons.1 hd with rfl | hd
        · exact UInt8.not_lt.1 hc
        · exact tail_high hlo.1 rfl ht d hd
      rw [← List.cons_append, List.flatMap_append, flat_high hhi, List.append_assoc]
      have hch := charB_one (c := c) (t := t) (R := q.flatMap quoteC ++ 34 :: b) h0 ht
      have hc34 : c ≠ 34 := fun e => hc (by rw [e]; decide)
      have hc32 : ¬ c < 32 := fun e => hc (UInt8.lt_trans e (by decide))
      have hc92 : c ≠ 92 := fun e => hc (by rw [e]; decide)
      rw [List.cons_append, textF.eq_def]
      rw [List.cons_append] at hch
      simp only
      rw [if_neg hc34, if_neg hc32, if_neg hc92, hch]
      simp only
      rw [textF_quote (n := n) hql (by omega) hq, List.append_assoc]
theorem flat_len : ∀ s : B, s.length ≤ (s.flatMap quoteC).length
  | [] => Nat.le_refl _
  | c :: s => by
    rw [List.flatMap_cons, List.length_append, List.length_cons]
    have := flat_len s
    have : 1 ≤ (quoteC c).length := by
      unfold quoteC
      repeat' split
      all_goals simp
    omega
theorem text_quote {s : B} (h : wholeL s = true) (b : B) : textB (quoteB s ++ b) = .ok s (34 :: b) := by
  have e : quoteB s ++ b = 34 :: (s.flatMap quoteC ++ 34 :: b) := by simp [quoteB]
  rw [e, textB, show oneB [34] (34 :: (s.flatMap quoteC ++ 34 :: b)) = .ok 34 (s.flatMap quoteC ++ 34 :: b) from rfl]
  simp only
  have := flat_len s
  rw [textF_quote (n := s.length) (Nat.le_refl _) (by rw [List.length_append, List.length_cons]; omega) h]; rfl
end Go.Proofs.YthkpbgpgcpkiiaaGreatDoor
