/- The plain law of a head: its first line and its fields. Conditions: the lines are no longer than 8192 bytes. -/
import Derived.Test.YtmhgnaemafohfaaGreatDoorLawA
namespace Go.Proofs.YtmhgnaemafohfaaGreatDoor
open Go.RowKit
set_option linter.unusedVariables false
set_option linter.unusedSimpArgs false
set_option maxRecDepth 100000

theorem whereL_at (t : B) : ∀ s : B, whereL t s < s.length → t <+: s.drop (whereL t s) := by
  intro s
  induction s with
  | nil => intro h; simp [whereL] at h
  | cons c r ih =>
    intro h
    by_cases hp : t.isPrefixOf (c :: r)
    · have e : whereL t (c :: r) = 0 := by rw [whereL, if_pos hp]
      rw [e]; exact List.isPrefixOf_iff_prefix.1 hp
    · have e : whereL t (c :: r) = whereL t r + 1 := by rw [whereL, if_neg hp]
      rw [e] at h ⊢
      rw [List.drop_succ_cons]; exact ih (by simpa using h)
theorem whereL_not (t : B) : ∀ (s : B) (k : Nat), k < whereL t s → ¬ t <+: s.drop k := by
  intro s
  induction s with
  | nil => intro k h; simp [whereL] at h
  | cons c r ih =>
    intro k h
    by_cases hp : t.isPrefixOf (c :: r)
    · rw [whereL, if_pos hp] at h; omega
    · rw [whereL, if_neg hp] at h
      cases k with
      | zero => intro hh; exact hp (List.isPrefixOf_iff_prefix.2 hh)
      | succ k => rw [List.drop_succ_cons]; exact ih k (by omega)
theorem suffix_at (s : B) (k : Nat) (hk : k + 1 ≤ s.length) : crL.isSuffixOf (s.take (k + 1)) = true ↔ 4 ≤ k + 1 ∧ crL <+: s.drop (k + 1 - 4) := by
  have hl : (s.take (k + 1)).length = k + 1 := by rw [List.length_take]; omega
  rw [List.isSuffixOf_iff_suffix]
  by_cases h4 : 4 ≤ k + 1
  · rw [List.suffix_iff_eq_drop, List.prefix_iff_eq_take, hl, List.drop_take]
    have : k + 1 - (k + 1 - crL.length) = crL.length := by show k + 1 - (k + 1 - 4) = 4; omega
    rw [this]; simp only [h4, true_and]; rfl
  · constructor
    · intro h; have := h.length_le; rw [hl] at this; have h5 : crL.length = 4 := rfl; omega
    · intro h; omega
theorem where_eat : ∀ s : B, whereL [32] s = eatL 7 s := by
  intro s
  induction s with
  | nil => rfl
  | cons c r ih =>
    rw [eatL_cons, whereL, ih]
    by_cases h : c = 32
    · subst h; simp [List.isPrefixOf, isB]
    · have h2 : ¬ (c.toNat : Int) = 32 := fun e => h (UInt8.toNat_inj.1 (by show c.toNat = 32; omega))
      have h3 : ([32] : B).isPrefixOf (c :: r) = false := by simp [List.isPrefixOf]; exact fun e => h e.symm
      have h4 : isB 7 c = true := by show ((c.toNat : Int) != 32) = true; simpa using h2
      rw [h3, h4]; rfl
theorem allL_false (l : B) (a b k : Nat) : allL l a b k = false ↔ l.all (isB k) = false ∨ l.length < a ∨ b < l.length := by
  unfold allL
  cases l.all (isB k)
  · simp
  · simp only [Bool.true_and, Bool.and_eq_false_iff, decide_eq_false_iff_not, Bool.true_eq_false, false_or]; omega
theorem line3_law (m t v : B) (hm : m ≠ []) (ht : t ≠ []) (hl : t.length ≤ 8192) :
    open3 m t v = (line3 m t v).2.2 ∧ (open3 m t v = 0 → line3 m t v = (m, t, 0)) := by
  have hm1 : 1 ≤ m.length := by cases m with | nil => exact absurd rfl hm | cons c r => simp
  have ht1 : 1 ≤ t.length := by cases t with | nil => exact absurd rfl ht | cons c r => simp
  have hpf : ([47] : B).isPrefixOf t = false ↔ t.getD 0 0 ≠ 47 := by
    cases t with
    | nil => exact absurd rfl ht
    | cons c r => simp [List.isPrefixOf]; exact ⟨fun h e => h e.symm, fun h e => h e.symm⟩
  have c1 : (eatL 7 v ≠ v.length ∨ allL m 1 16 2 = false ∨ [47].isPrefixOf t = false ∨ allL t 1 8192 3 = false) ↔
      (eatL 7 v < v.length ∨ (16 < m.length ∨ m.all (isB 2) = false ∨ t.getD 0 0 ≠ 47 ∨ t.all (isB 3) = false)) := by
    rw [allL_false, allL_false, hpf]
    have := eatL_le 7 v
    constructor
    · rintro (h | (h | h | h) | h | (h | h | h))
      · exact .inl (by omega)
      · exact .inr (.inr (.inl h))
      · omega
      · exact .inr (.inl h)
      · exact .inr (.inr (.inr (.inl h)))
      · exact .inr (.inr (.inr (.inr h)))
      · omega
      · omega
    · rintro (h | h | h | h | h)
      · exact .inl (by omega)
      · exact .inr (.inl (.inr (.inr h)))
      · exact .inr (.inl (.inl h))
      · exact .inr (.inr (.inl h))
      · exact .inr (.inr (.inr (.inl h)))
  unfold open3 line3
  rw [where_eat]
  by_cases k1 : eatL 7 v < v.length
  · rw [if_pos (.inr (.inr (.inr k1))), if_pos (c1.2 (.inl k1))]; exact ⟨rfl, fun h => by cases h⟩
  by_cases k2 : (16 < m.length ∨ m.all (isB 2) = false ∨ t.getD 0 0 ≠ 47 ∨ t.all (isB 3) = false)
  · rw [if_pos (c1.2 (.inr k2)), if_pos k2]
    split <;> exact ⟨rfl, fun h => by cases h⟩
  rw [if_neg (fun h => (c1.1 h).elim k1 k2), if_neg k2]
  by_cases k3 : v = []
  · subst k3; rw [if_pos (.inr (.inr (.inl rfl))), if_pos (.inl (by simp))]; exact ⟨rfl, fun h => by cases h⟩
  rw [if_neg (by rintro (h | h | h | h); exact hm h; exact ht h; exact k3 h; exact k1 h)]
  by_cases k4 : ([72, 84, 84, 80, 47] : B).isPrefixOf v = false
  · rw [if_pos (show Lib.hasPrefix v [72, 84, 84, 80, 47] = false from k4), if_pos (.inr (.inl k4))]; exact ⟨rfl, fun h => by cases h⟩
  have k4' : ([72, 84, 84, 80, 47] : B).isPrefixOf v = true := by simpa using k4
  obtain ⟨n, rfl⟩ := List.isPrefixOf_iff_prefix.1 k4'
  have en : Lib.trimPrefix ([72, 84, 84, 80, 47] ++ n) [72, 84, 84, 80, 47] = n := by unfold Lib.trimPrefix Lib.hasPrefix; rw [if_pos k4']; rfl
  have k4'' : ¬ Lib.hasPrefix ([72, 84, 84, 80, 47] ++ n) [72, 84, 84, 80, 47] = false := k4
  rw [if_neg k4'', en]
  have c2 : (([72, 84, 84, 80, 47] ++ n).length ≠ 8 ∨ ([72, 84, 84, 80, 47] : B).isPrefixOf ([72, 84, 84, 80, 47] ++ n) = false ∨ isB 1 (([72, 84, 84, 80, 47] ++ n).getD 5 0) = false ∨ ([72, 84, 84, 80, 47] ++ n).getD 6 0 ≠ 46 ∨ isB 1 (([72, 84, 84, 80, 47] ++ n).getD 7 0) = false) ↔
      (n.length ≠ 3 ∨ isB 1 (n.getD 0 0) = false ∨ n.getD 1 0 ≠ 46 ∨ isB 1 (n.getD 2 0) = false) := by
    have e : ([72, 84, 84, 80, 47] ++ n).length = n.length + 5 := by simp
    rw [e]
    have g5 : ([72, 84, 84, 80, 47] ++ n).getD 5 0 = n.getD 0 0 := rfl
    have g6 : ([72, 84, 84, 80, 47] ++ n).getD 6 0 = n.getD 1 0 := rfl
    have g7 : ([72, 84, 84, 80, 47] ++ n).getD 7 0 = n.getD 2 0 := rfl
    rw [g5, g6, g7, k4']
    constructor
    · rintro (h | h | h)
      · exact .inl (by omega)
      · cases h
      · exact .inr h
    · rintro (h | h)
      · exact .inl (by omega)
      · exact .inr (.inr h)
  unfold open4
  by_cases k5 : (n.length ≠ 3 ∨ isB 1 (n.getD 0 0) = false ∨ n.getD 1 0 ≠ 46 ∨ isB 1 (n.getD 2 0) = false)
  · rw [if_pos k5, if_pos (c2.2 k5)]; exact ⟨rfl, fun h => by cases h⟩
  rw [if_neg k5, if_neg (fun h => k5 (c2.1 h))]
  by_cases k6 : n = [49, 46, 49]
  · subst k6
    rw [if_neg (show ¬ ([49, 46, 49] : B) ≠ [49, 46, 49] from fun h => h rfl), if_neg (show ¬ ([72, 84, 84, 80, 47] ++ [49, 46, 49] : B) ≠ [72, 84, 84, 80, 47, 49, 46, 49] from fun h => h rfl)]
    by_cases k7 : m ≠ [71, 69, 84] ∧ m ≠ [80, 79, 83, 84] ∧ m ≠ [80, 85, 84] ∧ m ≠ [68, 69, 76, 69, 84, 69]
    · rw [if_pos ⟨k7.1, k7.2.2.1, k7.2.1, k7.2.2.2⟩, if_pos k7]; exact ⟨rfl, fun h => by cases h⟩
    rw [if_neg (fun h => k7 ⟨h.1, h.2.2.1, h.2.1, h.2.2.2⟩), if_neg k7]
    by_cases k8 : 1024 < t.length
    · rw [if_pos k8, if_pos k8]; exact ⟨rfl, fun h => by cases h⟩
    · rw [if_neg k8, if_neg k8]; exact ⟨rfl, fun _ => rfl⟩
  · rw [if_pos k6, if_pos (by intro h; exact k6 (by simpa using h))]; exact ⟨rfl, fun h => by cases h⟩
theorem line_law (s : B) (hs : s.length ≤ 8192) : openL s = (lineL s).2.2 ∧ (openL s = 0 → lineL s = (openM s, openM (openR s), 0)) := by
  have b4 : ∀ n, (bad n).2.2 = n := fun _ => rfl
  have ha := eatL_le 7 s
  have h8 := eatL_le 7 (s.drop (eatL 7 s + 1))
  unfold openL lineL openM openR
  rw [where_eat, where_eat]
  by_cases k1 : eatL 7 s = s.length
  · rw [if_neg (by omega), if_pos (.inr k1)]; exact ⟨rfl, fun h => by cases h⟩
  by_cases k0 : eatL 7 s = 0
  · rw [if_pos (show eatL 7 s = 0 ∨ eatL 7 s = s.length from .inl k0)]
    split
    · unfold open3; rw [if_pos (.inl (by rw [k0]; rfl))]; exact ⟨rfl, fun h => by cases h⟩
    · exact ⟨rfl, fun h => by cases h⟩
  rw [if_neg (show ¬ (eatL 7 s = 0 ∨ eatL 7 s = s.length) by omega)]
  unfold line2
  have hd : (s.drop (eatL 7 s + 1)).length = s.length - (eatL 7 s + 1) := List.length_drop ..
  generalize he : s.drop (eatL 7 s + 1) = r at *
  by_cases k2 : eatL 7 r = r.length
  · rw [if_neg (by omega), if_pos (.inr k2)]; exact ⟨rfl, fun h => by cases h⟩
  by_cases k3 : eatL 7 r = 0
  · rw [if_pos (show eatL 7 r = 0 ∨ eatL 7 r = r.length from .inl k3)]
    split
    · unfold open3; rw [if_pos (.inr (.inl (by rw [k3]; rfl)))]; exact ⟨rfl, fun h => by cases h⟩
    · exact ⟨rfl, fun h => by cases h⟩
  rw [if_neg (show ¬ (eatL 7 r = 0 ∨ eatL 7 r = r.length) by omega), if_pos (by omega)]
  refine line3_law _ _ _ ?_ ?_ ?_
  · intro h; have := congrArg List.length h; rw [List.length_take, List.length_nil] at this; omega
  · intro h; have := congrArg List.length h; rw [List.length_take, List.length_nil] at this; omega
  · rw [List.length_take]; omega
theorem drop_eat (k : Nat) : ∀ s : B, s.drop (eatL k s) = s.dropWhile (isB k) := by
  intro s
  induction s with
  | nil => rfl
  | cons c r ih =>
    rw [eatL_cons, List.dropWhile_cons]
    by_cases h : isB k c = true
    · rw [if_pos h, if_pos h, List.drop_succ_cons, ih]
    · rw [if_neg h, if_neg h]; rfl
theorem trim_bare (s : B) : trimL s = bareL s := by
  unfold trimL bareL lastN
  rw [drop_eat]
  have hp : (List.dropWhile (isB 5) (s.dropWhile (isB 5)).reverse).reverse <+: s.dropWhile (isB 5) := by
    have h := List.dropWhile_suffix (isB 5) (l := (s.dropWhile (isB 5)).reverse)
    rw [← List.reverse_prefix, List.reverse_reverse] at h; exact h
  have := List.prefix_iff_eq_take.1 hp
  rw [List.length_reverse] at this
  exact this.symm
theorem dropWhile_twice (p : UInt8 → Bool) : ∀ s : B, (s.dropWhile p).dropWhile p = s.dropWhile p := by
  intro s
  induction s with
  | nil => rfl
  | cons c r ih =>
    rw [List.dropWhile_cons]
    by_cases h : p c = true
    · rw [if_pos h, ih]
    · rw [if_neg h, List.dropWhile_cons, if_neg h]
theorem bare_bare (s : B) : bareL (bareL s) = bareL s := by
  have h1 : (bareL s).dropWhile (isB 5) = bareL s := by
    have hp : bareL s <+: s.dropWhile (isB 5) := by
      have h := List.dropWhile_suffix (isB 5) (l := (s.dropWhile (isB 5)).reverse)
      rw [← List.reverse_prefix, List.reverse_reverse] at h; exact h
    obtain ⟨r, hr⟩ := hp
    cases hb : bareL s with
    | nil => rfl
    | cons c t =>
      rw [hb] at hr
      have h2 := dropWhile_twice (isB 5) s
      rw [← hr, List.cons_append, List.dropWhile_cons] at h2
      rw [List.dropWhile_cons]
      by_cases h : isB 5 c = true
      · rw [if_pos h] at h2
        have := congrArg List.length h2
        have l2 := (List.dropWhile_suffix (isB 5) (l := t ++ r)).length_le
        rw [this, List.length_cons] at l2; omega
      · rw [if_neg h]
  show ((List.dropWhile (isB 5) (bareL s)).reverse.dropWhile (isB 5)).reverse = bareL s
  rw [h1]
  unfold bareL
  rw [List.reverse_reverse, dropWhile_twice]
theorem colon_law : ∀ s : B, (eatL 4 s < s.length ∧ s.getD (eatL 4 s) 0 = 58 ↔ whereL [58] s < s.length ∧ (s.take (whereL [58] s)).all (isB 4) = true) ∧
    (whereL [58] s < s.length ∧ (s.take (whereL [58] s)).all (isB 4) = true → eatL 4 s = whereL [58] s) := by
  intro s
  induction s with
  | nil => simp [whereL]
  | cons c r ih =>
    rw [eatL_cons]
    by_cases h : c = 58
    · subst h
      have h3 : ([58] : B).isPrefixOf (58 :: r) = true := by simp [List.isPrefixOf]
      have h4 : isB 4 58 = false := by decide
      have e : whereL [58] (58 :: r) = 0 := by rw [whereL, if_pos h3]
      rw [e, h4]; simp
    · have h3 : ([58] : B).isPrefixOf (c :: r) = false := by simp [List.isPrefixOf]; exact fun e => h e.symm
      have e : whereL [58] (c :: r) = whereL [58] r + 1 := by rw [whereL, h3]; rfl
      rw [e, List.take_succ_cons, List.all_cons]
      by_cases h4 : isB 4 c = true
      · rw [h4, if_pos rfl, Bool.true_and, List.getD_cons_succ, List.length_cons]
        exact ⟨⟨fun q => ⟨by have := (ih.1.1 ⟨by omega, q.2⟩).1; omega, (ih.1.1 ⟨by omega, q.2⟩).2⟩, fun q => ⟨by have := (ih.1.2 ⟨by omega, q.2⟩).1; omega, (ih.1.2 ⟨by omega, q.2⟩).2⟩⟩,
          fun q => by rw [ih.2 ⟨by omega, q.2⟩]⟩
      · have h5 : isB 4 c = false := by simpa using h4
        rw [h5]; simp [h]
theorem field_law (s : B) (hs : s.length ≤ 8192) : fieldOk s = fOk s ∧ (fOk s = true → fieldOf s = fOf s) := by
  obtain ⟨h1, h2⟩ := colon_law s
  by_cases k : whereL [58] s < s.length ∧ (s.take (whereL [58] s)).all (isB 4) = true
  · have e := h2 k
    obtain ⟨k1, k2⟩ := h1.2 k
    have hl : (bareL (s.drop (whereL [58] s + 1))).length ≤ 8192 := by
      rw [← trim_bare]; unfold trimL; rw [List.length_take, List.length_drop, List.length_drop]; omega
    refine ⟨?_, fun _ => ?_⟩
    · rw [Bool.eq_iff_iff]
      unfold fieldOk fOk tokenL valueL fName fRest allL
      simp only [trim_bare, bare_bare, Bool.and_eq_true, decide_eq_true_eq, k1, k2, and_true, List.length_take]
      rw [e] at k1 k2 ⊢
      simp only [k1, k2, k.2, true_and, and_true, Nat.zero_le, hl]
      constructor
      · rintro ⟨⟨h1, h2⟩, h3⟩; exact ⟨⟨by omega, by omega⟩, h3⟩
      · rintro ⟨⟨h1, h2⟩, h3⟩; exact ⟨⟨by omega, by omega⟩, h3⟩
    · unfold fieldOf fOf fName fRest
      rw [trim_bare, e]
  · have n1 : fieldOk s = false := by
      cases hh : fieldOk s with
      | false => rfl
      | true =>
        unfold fieldOk at hh
        simp only [Bool.and_eq_true, decide_eq_true_eq] at hh
        exact absurd (h1.1 ⟨hh.1.1.2, hh.1.2⟩) k
    have n2 : fOk s = false := by
      cases hh : fOk s with
      | false => rfl
      | true =>
        unfold fOk tokenL fName at hh
        simp only [Bool.and_eq_true, decide_eq_true_eq] at hh
        exact absurd ⟨hh.1.1, hh.1.2.2⟩ k
    rw [n1, n2]; exact ⟨rfl, fun h => by cases h⟩
theorem fields_law : ∀ (l : List B) (hs : List (B × B)), (∀ s ∈ l, s.length ≤ 8192) → hs.length ≤ 32 →
    fieldsP hs l = if (fieldsL hs.length l).2 = 0 then (0, hs ++ (fieldsL hs.length l).1) else ((fieldsL hs.length l).2, []) := by
  intro l
  induction l with
  | nil => intro hs _ _; simp [fieldsP, fieldsL]
  | cons s l ih =>
    intro hs hl hn
    obtain ⟨f1, f2⟩ := field_law s (hl s (by simp))
    rw [fieldsP]
    by_cases h : hs.length = 32
    · have e : fSt hs.length s = 431 := by rw [fSt, if_pos h]
      have eL : fieldsL hs.length (s :: l) = ([], 431) := by rw [fieldsL, if_pos (by omega)]
      rw [e, eL]; rfl
    · by_cases hf : fOk s = true
      · have e : fSt hs.length s = 0 := by rw [fSt, if_neg h, if_pos hf]
        have eL : fieldsL hs.length (s :: l) = fin [fOf s] (fieldsL (hs.length + 1) l) := by
          rw [fieldsL, if_neg (by omega), if_neg (by simp [f1, hf]), f2 hf]
        rw [e, if_pos rfl, eL, ih _ (fun x hx => hl x (by simp [hx])) (by simp; omega)]
        have e2 : (hs ++ [fOf s]).length = hs.length + 1 := by simp
        rw [e2]
        unfold fin
        by_cases hz : (fieldsL (hs.length + 1) l).2 = 0
        · simp only [hz, if_true]; simp
        · simp only [hz, if_false]
      · have e : fSt hs.length s = 400 := by rw [fSt, if_neg h, if_neg hf]
        have eL : fieldsL hs.length (s :: l) = ([], 400) := by
          rw [fieldsL, if_neg (by omega), if_pos (by rw [f1]; simpa using hf)]
        rw [e, eL]; rfl
end Go.Proofs.YtmhgnaemafohfaaGreatDoor
