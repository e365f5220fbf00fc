/- JSON: what is printed is read as the same value. Conditions: none. JSON: a printed text is read as it was. Conditions: none. JSON: a printed value is read as it was. Conditions: none. -/
import Derived.Test.YtigdjnfnkjfkmaaGreatDoorJsonB
namespace Go.Proofs.YtigdjnfnkjfkmaaGreatDoor
set_option linter.unusedVariables false
set_option linter.unusedSimpArgs false
set_option maxRecDepth 100000

/-- By a value's parts. -/
theorem J.ind_le {P : J → Prop} (h : ∀ k n t ns is, (∀ v ∈ is, P v) → P (.mk k n t ns is)) : ∀ (m : Nat) (v : J), SizeOf.sizeOf v ≤ m → P v := by
  intro m
  induction m with
  | zero => intro v hv; cases v; simp only [J.mk.sizeOf_spec] at hv; omega
  | succ m ih =>
    intro v hv
    cases v with
    | mk k n t ns is =>
      refine h k n t ns is fun u hu => ih u ?_
      have := List.sizeOf_lt_of_mem hu
      simp only [J.mk.sizeOf_spec] at hv
      omega
theorem J.ind {P : J → Prop} (h : ∀ k n t ns is, (∀ v ∈ is, P v) → P (.mk k n t ns is)) (v : J) : P v := J.ind_le h _ v (Nat.le_refl _)
theorem texts_map : ∀ l : List J, textsJ l = l.map textJ
  | [] => by rw [textsJ]; rfl
  | v :: l => by rw [textsJ, texts_map l]; rfl
theorem canons_map : ∀ l : List J, canonsJ l = l.map canonJ
  | [] => by rw [canonsJ]; rfl
  | v :: l => by rw [canonsJ, canons_map l]; rfl
theorem checks_all {deep : Nat} : ∀ {l : List J}, checksJ deep l = 0 ↔ ∀ v ∈ l, checkJ deep v = 0
  | [] => by rw [checksJ]; simp
  | v :: l => by
    rw [checksJ]
    have ih := checks_all (deep := deep) (l := l)
    by_cases h : checkJ deep v = 0
    · rw [if_pos h, ih]; simp [h]
    · rw [if_neg h]; simp [h]

/-- Sorting pairs whose second parts are turned. -/
theorem ins_map {α β : Type} (g : α → β) (p : B × α) : ∀ l : List (B × α), insP (p.1, g p.2) (l.map fun q => (q.1, g q.2)) = (insP p l).map fun q => (q.1, g q.2)
  | [] => rfl
  | q :: l => by
    rw [List.map_cons, insP, insP]
    simp only
    split
    · rfl
    · rw [ins_map g p l]; rfl
theorem sort_map {α β : Type} (g : α → β) : ∀ l : List (B × α), sortP (l.map fun q => (q.1, g q.2)) = (sortP l).map fun q => (q.1, g q.2)
  | [] => rfl
  | p :: l => by
    have ih := sort_map g l
    unfold sortP at ih ⊢
    rw [List.map_cons, List.foldr_cons, List.foldr_cons, ih]
    exact ins_map g p _
theorem zip_map_snd {α β : Type} (g : α → β) : ∀ (ns : List B) (is : List α), ns.zip (is.map g) = (ns.zip is).map fun q => (q.1, g q.2)
  | [], _ => rfl
  | _ :: _, [] => rfl
  | n :: ns, i :: is => by simp [zip_map_snd g ns is]
theorem ins_perm {α : Type} (p : B × α) : ∀ l : List (B × α), (insP p l).Perm (p :: l)
  | [] => .refl _
  | q :: l => by
    rw [insP]
    split
    · exact .refl _
    · exact ((ins_perm p l).cons q).trans (List.Perm.swap _ _ _)
theorem sort_perm {α : Type} : ∀ l : List (B × α), (sortP l).Perm l
  | [] => .refl _
  | p :: l => by
    have ih := sort_perm l
    unfold sortP at ih ⊢
    rw [List.foldr_cons]
    exact (ins_perm p _).trans (ih.cons p)

/-- Bytes of which no character's part is one of few. -/
theorem dec_cons (u : Nat) : ∃ c r, Lib.decDigits u = c :: r ∧ digB c = true := by
  induction u using Nat.strongRecOn with
  | _ u ih =>
    rw [Lib.decDigits]
    split
    · rename_i h
      refine ⟨_, _, rfl, ?_⟩
      have : ∀ u : Nat, u < 10 → digB (UInt8.ofNat (48 + u)) = true := by decide
      exact this u h
    · obtain ⟨c, r, e, h⟩ := ih (u / 10) (by omega)
      rw [e]; exact ⟨c, _, rfl, h⟩
theorem dec_first (u : Nat) (hu : 1 ≤ u) : ∃ c r, Lib.decDigits u = c :: r ∧ digB c = true ∧ c ≠ 48 := by
  induction u using Nat.strongRecOn with
  | _ u ih =>
    rw [Lib.decDigits]
    split
    · rename_i h
      refine ⟨_, _, rfl, ?_⟩
      have : ∀ u : Nat, u < 10 → 1 ≤ u → digB (UInt8.ofNat (48 + u)) = true ∧ UInt8.ofNat (48 + u) ≠ 48 := by decide
      exact this u h hu
    · obtain ⟨c, r, e, h⟩ := ih (u / 10) (by omega) (by omega)
      rw [e]; exact ⟨c, _, rfl, h⟩
theorem dig_val {u : Nat} (h : u < 10) : digB (UInt8.ofNat (48 + u)) = true ∧ ((UInt8.ofNat (48 + u)).toNat : Int) - 48 = u := by
  have : ∀ u : Nat, u < 10 → digB (UInt8.ofNat (48 + u)) = true ∧ ((UInt8.ofNat (48 + u)).toNat : Int) - 48 = u := by decide
  exact this u h
/-- A number's digits stand behind n. -/
def goN (neg : Bool) (n : Int) (d : Int) : Int := if neg then 10 * n - d else 10 * n + d
theorem num_stop {neg z : Bool} {n : Int} {c : UInt8} {b : B} (hb : Stop b)
    (hr : ¬ ((neg = false ∧ n > (9223372036854775807 - ((c.toNat : Int) - 48)) / 10) ∨ (neg = true ∧ n < (-9223372036854775808 + ((c.toNat : Int) - 48)).tdiv 10))) :
    numB neg z n (c :: b) = .ok (goN neg n ((c.toNat : Int) - 48)) b := by
  rw [numB.eq_def]
  simp only
  rw [if_neg hr]
  cases b with
  | nil => rfl
  | cons d r =>
    obtain ⟨h1, h2, h3, h4⟩ := hb d r rfl
    simp only [h1, Bool.false_and, Bool.false_eq_true, if_false]
    have e2 : (d == 46) = false := by simpa using h2
    have e3 : (d == 101) = false := by simpa using h3
    have e4 : (d == 69) = false := by simpa using h4
    simp only [e2, e3, e4, Bool.or_false, Bool.false_eq_true, if_false]
    rfl
theorem num_more {neg : Bool} {n : Int} {c d : UInt8} {b : B} (hd : digB d = true)
    (hr : ¬ ((neg = false ∧ n > (9223372036854775807 - ((c.toNat : Int) - 48)) / 10) ∨ (neg = true ∧ n < (-9223372036854775808 + ((c.toNat : Int) - 48)).tdiv 10))) :
    numB neg false n (c :: d :: b) = numB neg false (goN neg n ((c.toNat : Int) - 48)) (d :: b) := by
  rw [numB.eq_def]
  simp only
  rw [if_neg hr]
  simp only [hd, Bool.not_false, Bool.and_self, if_true]
  rfl
def sgn (neg : Bool) (u : Nat) : Int := if neg then -(u : Int) else u
theorem sgn_step (neg : Bool) (u d : Nat) : goN neg (sgn neg u) d = sgn neg (10 * u + d) := by
  cases neg <;> simp [goN, sgn] <;> omega
theorem sgn_fits {neg : Bool} {u d : Nat} (h : 10 * u + d ≤ if neg then 9223372036854775808 else 9223372036854775807) (hd : d < 10) :
    ¬ ((neg = false ∧ sgn neg u > (9223372036854775807 - (d : Int)) / 10) ∨ (neg = true ∧ sgn neg u < (-9223372036854775808 + (d : Int)).tdiv 10)) := by
  cases neg with
  | false =>
    simp only [Bool.false_eq_true, if_false] at h
    simp [sgn]; omega
  | true =>
    simp only [if_true] at h
    simp only [Bool.true_eq_false, false_and, false_or, sgn, if_true, true_and]
    have e : (-9223372036854775808 + (d : Int)).tdiv 10 = -((9223372036854775808 - (d : Int)) / 10) := by
      rw [show (-9223372036854775808 + (d : Int)) = -(9223372036854775808 - (d : Int)) by omega, Int.neg_tdiv, Int.tdiv_eq_ediv_of_nonneg (by omega)]
    rw [e]; omega

theorem num_upto (neg : Bool) (d : UInt8) (r : B) (hd : digB d = true) : ∀ u : Nat, 10 * u ≤ (if neg then 9223372036854775808 else 9223372036854775807) → numB neg false 0 (Lib.decDigits u ++ d :: r) = numB neg false (sgn neg u) (d :: r) := by
  intro u
  induction u using Nat.strongRecOn generalizing d r with
  | _ u ih =>
    intro hu
    rw [Lib.decDigits]
    split
    · rename_i h
      obtain ⟨h1, h2⟩ := dig_val h
      have hf := sgn_fits (neg := neg) (u := 0) (d := u) (by split <;> omega) h
      rw [show sgn neg 0 = 0 by cases neg <;> rfl] at hf
      rw [← h2] at hf
      rw [List.singleton_append, num_more hd hf, h2]
      have := sgn_step neg 0 u
      rw [show sgn neg 0 = 0 by cases neg <;> rfl] at this
      rw [this]; simp
    · rename_i h
      obtain ⟨h1, h2⟩ := dig_val (u := u % 10) (by omega)
      rw [List.append_assoc, List.singleton_append, ih (u / 10) (by omega) _ _ h1 (by split at hu <;> split <;> omega)]
      have hf := sgn_fits (neg := neg) (u := u / 10) (d := u % 10) (by split at hu <;> split <;> omega) (by omega)
      rw [← h2] at hf
      rw [num_more hd hf, h2, sgn_step, show 10 * (u / 10) + u % 10 = u by omega]
theorem num_all (neg : Bool) {b : B} (hb : Stop b) (u : Nat) (hu : u ≤ if neg then 9223372036854775808 else 9223372036854775807) :
    ∃ c r, Lib.decDigits u = c :: r ∧ digB c = true ∧ numB neg (c == 48) 0 (Lib.decDigits u ++ b) = .ok (sgn neg u) b := by
  by_cases h : u < 10
  · obtain ⟨h1, h2⟩ := dig_val h
    rw [Lib.decDigits, dif_pos h]
    refine ⟨_, [], rfl, h1, ?_⟩
    have hf := sgn_fits (neg := neg) (u := 0) (d := u) (by split <;> omega) h
    rw [show sgn neg 0 = 0 by cases neg <;> rfl] at hf
    rw [← h2] at hf
    rw [List.singleton_append, num_stop hb hf, h2]
    have := sgn_step neg 0 u
    rw [show sgn neg 0 = 0 by cases neg <;> rfl] at this
    rw [this]; simp
  · obtain ⟨c, r, e, h1, h2⟩ := dec_first u (by omega)
    refine ⟨c, r, e, h1, ?_⟩
    have hz : (c == 48) = false := by simpa using h2
    obtain ⟨h3, h4⟩ := dig_val (u := u % 10) (by omega)
    rw [hz, Lib.decDigits, dif_neg h, List.append_assoc, List.singleton_append, num_upto neg _ _ h3 (u / 10) (by split at hu <;> split <;> omega)]
    have hf := sgn_fits (neg := neg) (u := u / 10) (d := u % 10) (by split at hu <;> split <;> omega) (by omega)
    rw [← h4] at hf
    rw [num_stop hb hf, h4, sgn_step, show 10 * (u / 10) + u % 10 = u by omega]
theorem dig_digits {c : UInt8} (h : digB c = true) : digitsL.contains c = true ∧ c ≠ 45 := by
  have : ∀ n : Nat, n < 256 → digB (UInt8.ofNat n) = true → digitsL.contains (UInt8.ofNat n) = true ∧ UInt8.ofNat n ≠ 45 := by decide
  have := this c.toNat c.toNat_lt; rw [UInt8.ofNat_toNat] at this; exact this h
theorem number_itoa {n : Int} {b : B} (hb : Stop b) (h1 : -9223372036854775808 ≤ n) (h2 : n ≤ 9223372036854775807) : numberB (Lib.itoa n ++ b) = .ok n b := by
  unfold Lib.itoa
  split
  · rename_i h
    obtain ⟨c, r, e, hd, hn⟩ := num_all true hb n.natAbs (by simp; omega)
    rw [List.cons_append, numberB, if_pos rfl]
    have ho : oneB digitsL (Lib.decDigits n.natAbs ++ b) = .ok c (r ++ b) := by rw [e, List.cons_append, oneB, (dig_digits hd).1, if_pos rfl]
    rw [ho]
    simp only
    rw [hn]
    simp only [sgn, if_true]
    congr 1; omega
  · rename_i h
    obtain ⟨c, r, e, hd, hn⟩ := num_all false hb n.toNat (by simp; omega)
    have ho : oneB digitsL (c :: (r ++ b)) = .ok c (r ++ b) := by rw [oneB, (dig_digits hd).1, if_pos rfl]
    rw [e, List.cons_append, numberB, if_neg (dig_digits hd).2, ho]
    simp only
    rw [e, List.cons_append] at hn
    rw [hn]
    simp only [sgn, Bool.false_eq_true, if_false]
    congr 1; omega
theorem itoa_cons (n : Int) : ∃ c r, Lib.itoa n = c :: r ∧ (c = 45 ∨ digB c = true) := by
  unfold Lib.itoa
  split
  · exact ⟨_, _, rfl, .inl rfl⟩
  · obtain ⟨c, r, e, h⟩ := dec_cons n.toNat
    exact ⟨c, r, e, .inr h⟩
end Go.Proofs.YtigdjnfnkjfkmaaGreatDoor
namespace Go.Proofs.YtigdjnfnkjfkmaaGreatDoor
set_option linter.unusedVariables false
set_option linter.unusedSimpArgs false
set_option maxRecDepth 100000

theorem tail_app : ∀ {n : Nat} {lo hi : UInt8} {t u : B}, tailB n lo hi t = true → tailB n lo hi (t ++ u) = true
  | 0, lo, hi, t, u, _ => by rw [tailB]
  | n + 1, lo, hi, [], u, h => by rw [tailB] at h; cases h
  | n + 1, lo, hi, d :: t, u, h => by
    rw [tailB] at h
    rw [List.cons_append, tailB]
    simp only [Bool.and_eq_true] at h ⊢
    exact ⟨h.1, tail_app h.2⟩
theorem tail_take : ∀ {n : Nat} {lo hi : UInt8} {t : B}, tailB n lo hi t = true → tailB n lo hi (t.take n) = true
  | 0, lo, hi, t, _ => by rw [tailB]
  | n + 1, lo, hi, [], h => by rw [tailB] at h; cases h
  | n + 1, lo, hi, d :: t, h => by
    rw [tailB] at h
    rw [List.take_succ_cons, tailB]
    simp only [Bool.and_eq_true] at h ⊢
    exact ⟨h.1, tail_take h.2⟩
theorem tail_rep (x : UInt8) : ∀ {n : Nat} {lo hi : UInt8}, contB lo hi x = true → contB 0x80 0xbf x = true → tailB n lo hi (List.replicate n x) = true
  | 0, lo, hi, _, _ => by rw [tailB]
  | n + 1, lo, hi, h1, h2 => by
    rw [List.replicate_succ, tailB, h1, Bool.true_and]
    exact tail_rep x h2 h2
theorem tail_grow : ∀ {n : Nat} {lo hi : UInt8} {t u : B}, t ≠ [] → t.length ≤ n → tailB n lo hi (t ++ u) = true → tailB n lo hi (t ++ List.replicate (n - t.length) 0x80) = true
  | 0, lo, hi, t, u, _, _, _ => by rw [tailB]
  | n + 1, lo, hi, [], u, h, _, _ => absurd rfl h
  | n + 1, lo, hi, d :: t, u, _, hl, h => by
    rw [List.cons_append, tailB] at h
    rw [List.cons_append, tailB]
    simp only [Bool.and_eq_true, List.length_cons] at h hl ⊢
    refine ⟨h.1, ?_⟩
    rw [show n + 1 - (t.length + 1) = n - t.length by omega]
    cases t with
    | nil => exact tail_rep 0x80 (by decide) (by decide)
    | cons e t => exact tail_grow (by simp) (by omega) h.2
theorem longB_ends (c : UInt8) : (longB c).1 ≤ 1 ∨ contB (longB c).2.1 (longB c).2.2 0x80 = true ∨ contB (longB c).2.1 (longB c).2.2 0xbf = true := by
  unfold longB
  repeat' split
  all_goals decide
theorem longB_le4 (c : UInt8) : (longB c).1 ≤ 4 := by
  unfold longB
  repeat' split
  all_goals decide
theorem longB_ascii {c : UInt8} : (longB c).1 = 1 ↔ c < 0x80 := by
  unfold longB
  by_cases h : c < 0x80
  · rw [if_pos h]; simp [h]
  · rw [if_neg h]
    refine ⟨fun k => ?_, fun k => absurd k h⟩
    repeat' split at k
    all_goals cases k
theorem whole_char {c : UInt8} {t : B} (h0 : (longB c).1 = t.length + 1) (ht : tailB t.length (longB c).2.1 (longB c).2.2 t = true) : wholeL (c :: t) = true := by
  have hf : firstB (c :: t) = t.length + 1 := by
    rw [firstB, if_neg (by omega), h0, Nat.add_sub_cancel, if_pos ht]
  rw [whole_step (by simp), hf, if_neg (by omega)]
  rw [List.drop_of_length_le (by simp)]; rfl
theorem rep_ends {j : Nat} (h1 : 1 ≤ j) (h3 : j ≤ 3) : List.replicate j 0x80 ∈ endsB ∧ List.replicate j 0xbf ∈ endsB := by
  have : j = 1 ∨ j = 2 ∨ j = 3 := by omega
  rcases this with rfl | rfl | rfl <;> decide
theorem grows_part {c : UInt8} {t u : B} (hu : u ≠ []) (h0 : (longB c).1 = (t ++ u).length + 1) (ht : tailB (t ++ u).length (longB c).2.1 (longB c).2.2 (t ++ u) = true) : growsB (c :: t) = true ∧ wholeL (c :: t) = false := by
  have h4 := longB_le4 c
  have hul : 1 ≤ u.length := List.length_pos_iff.2 hu
  rw [List.length_append] at h0 ht
  constructor
  · unfold growsB
    rw [List.any_eq_true]
    by_cases hte : t = []
    · subst hte
      simp only [List.length_nil, List.nil_append, Nat.zero_add] at h0 ht
      rcases longB_ends c with h | h | h
      · omega
      · refine ⟨_, (rep_ends (j := u.length) hul (by omega)).1, whole_char (t := List.replicate u.length 0x80) (by simpa using h0) ?_⟩
        rw [List.length_replicate]; exact tail_rep _ h (by decide)
      · refine ⟨_, (rep_ends (j := u.length) hul (by omega)).2, whole_char (t := List.replicate u.length 0xbf) (by simpa using h0) ?_⟩
        rw [List.length_replicate]; exact tail_rep _ h (by decide)
    · have this0 := tail_grow hte (by omega) ht
      rw [show t.length + u.length - t.length = u.length by omega] at this0
      refine ⟨_, (rep_ends (j := u.length) hul (by omega)).1, by rw [List.cons_append]; exact whole_char (t := t ++ List.replicate u.length 0x80) (by simpa using h0) (by
        rw [List.length_append, List.length_replicate]; exact this0)⟩
  · rw [whole_step (by simp)]
    have hf : firstB (c :: t) = 0 := by
      rw [firstB, if_neg (by omega), if_neg]
      intro h
      have := tail_len h
      omega
    rw [hf, if_pos rfl]
theorem charF_one {c : UInt8} {t R : B} (h0 : (longB c).1 = t.length + 1) (ht : tailB t.length (longB c).2.1 (longB c).2.2 t = true) :
    ∀ (j k f : Nat), k + j = t.length → j < f → charF f k (c :: t ++ R) = .ok (c :: t) R := by
  intro j
  induction j with
  | zero =>
    intro k f hk hf
    obtain ⟨f, rfl⟩ : ∃ g, f = g + 1 := ⟨f - 1, by omega⟩
    have e : (c :: t ++ R).take (k + 1) = c :: t := by
      rw [List.take_append_of_le_length (by simp; omega), List.take_of_length_le (by simp; omega)]
    have e2 : (c :: t ++ R).drop (k + 1) = R := by
      rw [List.drop_append_of_le_length (by simp; omega), List.drop_of_length_le (by simp; omega)]; rfl
    rw [charF, e, e2, if_pos (whole_char h0 ht)]
  | succ j ih =>
    intro k f hk hf
    obtain ⟨f, rfl⟩ : ∃ g, f = g + 1 := ⟨f - 1, by omega⟩
    have e : (c :: t ++ R).take (k + 1) = c :: t.take k := by
      rw [List.cons_append, List.take_succ_cons, List.take_append_of_le_length (by omega)]
    have hd : t.drop k ≠ [] := by
      intro h; have := congrArg List.length h; rw [List.length_drop] at this; simp at this; omega
    have htt : t.take k ++ t.drop k = t := List.take_append_drop k t
    obtain ⟨h1, h2⟩ := grows_part (c := c) (t := t.take k) (u := t.drop k) hd (by rw [htt]; exact h0) (by rw [htt]; exact ht)
    rw [charF, e, h1, h2]
    simp only [Bool.false_eq_true, if_false]
    rw [if_neg (by simp), if_neg (by simp; omega)]
    exact ih (k + 1) f (by omega) (by omega)
theorem charB_one {c : UInt8} {t R : B} (h0 : (longB c).1 = t.length + 1) (ht : tailB t.length (longB c).2.1 (longB c).2.2 t = true) : charB (c :: t ++ R) = .ok (c :: t) R :=
  charF_one h0 ht t.length 0 _ (by omega) (by simp; omega)
theorem tail_high : ∀ {n : Nat} {lo hi : UInt8} {t : B}, 0x80 ≤ lo → t.length = n → tailB n lo hi t = true → ∀ d ∈ t, 0x80 ≤ d
  | 0, lo, hi, t, _, hn, _ => by
    have := List.eq_nil_of_length_eq_zero hn
    subst this; simp
  | n + 1, lo, hi, [], _, hn, _ => by cases hn
  | n + 1, lo, hi, d :: t, hlo, hn, h => by
    rw [tailB] at h
    simp only [Bool.and_eq_true] at h
    have h1 := h.1
    unfold contB at h1
    simp only [Bool.and_eq_true, decide_eq_true_eq] at h1
    intro e he
    rcases List.mem_cons.1 he with rfl | he
    · exact UInt8.le_trans hlo h1.1
    · exact tail_high (by decide) (by simpa using hn) h.2 e he
theorem quote_high {c : UInt8} (h : 0x80 ≤ c) : quoteC c = [c] := by
  have : ∀ n : Nat, n < 256 → 0x80 ≤ UInt8.ofNat n → quoteC (UInt8.ofNat n) = [UInt8.ofNat n] := by decide
  have := this c.toNat c.toNat_lt; rw [UInt8.ofNat_toNat] at this; exact this h
theorem flat_high : ∀ {t : B}, (∀ d ∈ t, 0x80 ≤ d) → t.flatMap quoteC = t
  | [], _ => rfl
  | d :: t, h => by rw [List.flatMap_cons, quote_high (h d (by simp)), flat_high fun e he => h e (by simp [he])]; rfl
/-- What begins a text is a character; what is behind it is whole again. -/
theorem whole_split {c : UInt8} {r : B} (h : wholeL (c :: r) = true) : ∃ t q, r = t ++ q ∧ (longB c).1 = t.length + 1 ∧ tailB t.length (longB c).2.1 (longB c).2.2 t = true ∧ wholeL q = true := by
  rw [whole_step (by simp)] at h
  by_cases h0 : firstB (c :: r) = 0
  · rw [if_pos h0] at h; cases h
  · rw [if_neg h0] at h
    have hf := h0
    rw [firstB] at hf h
    by_cases h1 : (longB c).1 = 0
    · rw [if_pos h1] at hf; exact absurd rfl hf
    rw [if_neg h1] at hf h
    by_cases h2 : tailB ((longB c).1 - 1) (longB c).2.1 (longB c).2.2 r = true
    · rw [if_pos h2] at h
      have hl := tail_len h2
      obtain ⟨n, hn⟩ : ∃ n, (longB c).1 = n + 1 := ⟨(longB c).1 - 1, by omega⟩
      rw [hn] at h h2 hl
      simp only [Nat.add_sub_cancel] at h2 hl
      have hlen : (r.take n).length = n := by rw [List.length_take]; omega
      refine ⟨r.take n, r.drop n, (List.take_append_drop n r).symm, ?_, ?_, ?_⟩
      · rw [hlen]; exact hn
      · rw [hlen]; exact tail_take h2
      · rw [List.drop_succ_cons] at h; exact h
    · rw [if_neg h2] at hf; exact absurd rfl hf
theorem whole_join {c : UInt8} {t q : B} (h0 : (longB c).1 = t.length + 1) (ht : tailB t.length (longB c).2.1 (longB c).2.2 t = true) : wholeL (c :: t ++ q) = wholeL q := by
  have hf : firstB (c :: t ++ q) = t.length + 1 := by
    rw [List.cons_append, firstB, if_neg (by omega), h0, Nat.add_sub_cancel, if_pos (tail_app ht)]
  rw [whole_step (by simp), hf, if_neg (by omega), List.cons_append, List.drop_succ_cons, List.drop_append_of_le_length (Nat.le_refl _), List.drop_length]; rfl
theorem whole_app : ∀ {n : Nat} {a b : B}, a.length ≤ n → wholeL a = true → wholeL (a ++ b) = wholeL b
  | n, [], b, _, _ => rfl
  | 0, c :: r, b, h, _ => by simp at h
  | n + 1, c :: r, b, hn, h => by
    obtain ⟨t, q, rfl, h0, ht, hq⟩ := whole_split h
    rw [← List.cons_append, List.append_assoc, whole_join h0 ht]
    exact whole_app (n := n) (by simp at hn; omega) hq

/-- A byte below 32, as it is printed. -/
theorem esc_low {c : UInt8} (h : c < 32) (R : B) : escB (117 :: 48 :: 48 :: hexc (c.toNat / 16) :: hexc (c.toNat % 16) :: R) = .ok [c] R := by
  have key : ∀ n : Nat, n < 32 → hexDL.contains (hexc (n / 16)) = true ∧ hexDL.contains (hexc (n % 16)) = true ∧ 16 * hexVal (hexc (n / 16)) + hexVal (hexc (n % 16)) = n ∧ utf8B n = [UInt8.ofNat n] ∧ ¬ (0xd800 ≤ n ∧ n < 0xdc00) := by decide
  have hn : c.toNat < 32 := UInt8.lt_iff_toNat_lt.1 h
  obtain ⟨k1, k2, k3, k4, k5⟩ := key c.toNat hn
  have e1 : oneB escL (117 :: 48 :: 48 :: hexc (c.toNat / 16) :: hexc (c.toNat % 16) :: R) = .ok 117 (48 :: 48 :: hexc (c.toNat / 16) :: hexc (c.toNat % 16) :: R) := rfl
  have e2 : hexB loTwo (48 :: 48 :: hexc (c.toNat / 16) :: hexc (c.toNat % 16) :: R) = .ok c.toNat R := by
    have h1 : ∀ l : B, oneB hexDL (48 :: l) = .ok 48 l := fun _ => rfl
    have h2 : hexVal 48 = 0 := rfl
    have h3 : hexVal (hexc (c.toNat / 16)) ≤ 1 := by
      have : ∀ n : Nat, n < 32 → hexVal (hexc (n / 16)) ≤ 1 := by decide
      exact this _ hn
    rw [hexB, hexGo, if_neg (by decide), h1]
    simp only
    rw [hexGo, if_neg (by decide), h1]
    simp only
    rw [h2, hexGo, if_neg (fun h => absurd h.2 (by decide)), oneB, k1, if_pos rfl]
    simp only
    rw [hexGo, if_neg (fun h => absurd h.1 (by decide)), oneB, k2, if_pos rfl]
    simp only
    rw [hexGo]
    congr 1
    omega
  rw [escB, e1]
  simp only
  rw [show ctlB 117 = none from rfl]
  simp only
  rw [if_neg (by decide), e2]
  simp only
  rw [if_neg k5, k4, UInt8.ofNat_toNat]
theorem esc_self {c : UInt8} (h : c = 34 ∨ c = 92) (R : B) : escB (c :: R) = .ok [c] R := by
  rcases h with rfl | rfl <;> rfl
theorem textF_quote {b : B} : ∀ {n f : Nat} {acc s : B}, s.length ≤ n → n < f → wholeL s = true → textF f acc (s.flatMap quoteC ++ 34 :: b) = .ok (acc ++ s) (34 :: b)
  | n, 0, acc, s, _, h, _ => by omega
  | n, f + 1, acc, [], _, _, _ => by rw [textF.eq_def]; simp
  | 0, f + 1, acc, c :: r, h, _, _ => by simp at h
  | n + 1, f + 1, acc, c :: r, hn, hf, hw => by
    obtain ⟨t, q, rfl, h0, ht, hq⟩ := whole_split hw
    have hql : q.length ≤ n := by simp at hn; omega
    by_cases hc : c < 0x80
    · have ht0 : t = [] := by
        have := longB_ascii.2 hc
        exact List.eq_nil_of_length_eq_zero (by omega)
      subst ht0
      rw [List.nil_append, List.flatMap_cons, quoteC]
      by_cases h1 : c = 34 ∨ c = 92
      · rw [if_pos h1]
        simp only [List.cons_append, List.nil_append]
        rw [textF.eq_def]
        simp only
        rw [if_neg (by decide), if_neg (by decide), if_pos trivial, esc_self h1]
        simp only
        rw [textF_quote (n := n) hql (by omega) hq, List.append_assoc]; rfl
      · rw [if_neg h1]
        by_cases h2 : c < 32
        · rw [if_pos h2]
          simp only [List.cons_append, List.nil_append]
          rw [textF.eq_def]
          simp only
          rw [if_neg (by decide), if_neg (by decide), if_pos trivial, esc_low h2]
          simp only
          rw [textF_quote (n := n) hql (by omega) hq, List.append_assoc]; rfl
        · rw [if_neg h2]
          simp only [List.cons_append, List.nil_append]
          rw [textF.eq_def]
          simp only
          have hch := charB_one (c := c) (t := []) (R := q.flatMap quoteC ++ 34 :: b) h0 ht
          simp only [List.cons_append, List.nil_append] at hch
          rw [if_neg (fun e => h1 (.inl e)), if_neg h2, if_neg (fun e => h1 (.inr e)), hch]
          simp only
          rw [textF_quote (n := n) hql (by omega) hq, List.append_assoc]; rfl
    · have hlo := (longB_lo c).resolve_left (by omega)
      have hhi : ∀ d ∈ c :: t, 0x80 ≤ d := by
        intro d hd
        rcases List.mem_cons.1 hd with rfl | hd
        · exact UInt8.not_lt.1 hc
        · exact tail_high hlo.1 rfl ht d hd
      rw [← List.cons_append, List.flatMap_append, flat_high hhi, List.append_assoc]
      have hch := charB_one (c := c) (t := t) (R := q.flatMap quoteC ++ 34 :: b) h0 ht
      have hc34 : c ≠ 34 := fun e => hc (by rw [e]; decide)
      have hc32 : ¬ c < 32 := fun e => hc (UInt8.lt_trans e (by decide))
      have hc92 : c ≠ 92 := fun e => hc (by rw [e]; decide)
      rw [List.cons_append, textF.eq_def]
      rw [List.cons_append] at hch
      simp only
      rw [if_neg hc34, if_neg hc32, if_neg hc92, hch]
      simp only
      rw [textF_quote (n := n) hql (by omega) hq, List.append_assoc]
theorem flat_len : ∀ s : B, s.length ≤ (s.flatMap quoteC).length
  | [] => Nat.le_refl _
  | c :: s => by
    rw [List.flatMap_cons, List.length_append, List.length_cons]
    have := flat_len s
    have : 1 ≤ (quoteC c).length := by
      unfold quoteC
      repeat' split
      all_goals simp
    omega
theorem text_quote {s : B} (h : wholeL s = true) (b : B) : textB (quoteB s ++ b) = .ok s (34 :: b) := by
  have e : quoteB s ++ b = 34 :: (s.flatMap quoteC ++ 34 :: b) := by simp [quoteB]
  rw [e, textB, show oneB [34] (34 :: (s.flatMap quoteC ++ 34 :: b)) = .ok 34 (s.flatMap quoteC ++ 34 :: b) from rfl]
  simp only
  have := flat_len s
  rw [textF_quote (n := s.length) (Nat.le_refl _) (by rw [List.length_append, List.length_cons]; omega) h]; rfl
end Go.Proofs.YtigdjnfnkjfkmaaGreatDoor
namespace Go.Proofs.YtigdjnfnkjfkmaaGreatDoor
set_option linter.unusedVariables false
set_option linter.unusedSimpArgs false
set_option maxRecDepth 100000

mutual
/-- All numbers are of 64 bits. -/
def wfJ : J → Bool
  | .mk k n t ns is => decide (-9223372036854775808 ≤ n) && decide (n ≤ 9223372036854775807) && wfsJ is
def wfsJ : List J → Bool
  | [] => true
  | v :: l => wfJ v && wfsJ l
end
theorem wfs_all : ∀ {l : List J}, wfsJ l = true ↔ ∀ v ∈ l, wfJ v = true
  | [] => by rw [wfsJ]; simp
  | v :: l => by rw [wfsJ, Bool.and_eq_true, wfs_all]; simp
theorem twice_nodup : ∀ {l : List B}, twiceL l = false ↔ l.Nodup
  | [] => by rw [twiceL]; simp
  | s :: l => by
    rw [twiceL, Bool.or_eq_false_iff, twice_nodup, List.nodup_cons]
    simp
theorem stop_cons {c : UInt8} {b : B} (h : digB c = false ∧ c ≠ 46 ∧ c ≠ 101 ∧ c ≠ 69) : Stop (c :: b) := fun d r e => by cases e; exact h
/-- The parts of what can be. -/
theorem check_parts {deep : Nat} {k n : Int} {t : B} {ns : List B} {is : List J} (h : checkJ deep (.mk k n t ns is) = 0) :
    deeper k deep ≤ 16 ∧ blankJ (.mk k n t ns is) = true ∧ ns.Nodup ∧ ∀ v ∈ is, checkJ (deeper k deep) v = 0 := by
  rw [checkJ] at h
  split at h
  · cases h
  · split at h
    · cases h
    · split at h
      · cases h
      · rename_i h1 h2 h3
        exact ⟨by omega, by simpa using h2, twice_nodup.1 (by simpa using h3), checks_all.1 h⟩
theorem blank_kinds {k n : Int} {t : B} {ns : List B} {is : List J} (h : blankJ (.mk k n t ns is) = true) :
    (k = 0 ∧ n = 0 ∧ t = [] ∧ ns = [] ∧ is = []) ∨ (k = 1 ∧ (n = 0 ∨ n = 1) ∧ t = [] ∧ ns = [] ∧ is = []) ∨ (k = 2 ∧ t = [] ∧ ns = [] ∧ is = []) ∨
    (k = 3 ∧ n = 0 ∧ ns = [] ∧ is = [] ∧ wholeL t = true) ∨ (k = 4 ∧ n = 0 ∧ t = [] ∧ ns = []) ∨
    (k = 5 ∧ n = 0 ∧ t = [] ∧ ns.length = is.length ∧ wholeL ns.flatten = true ∧ ∀ s ∈ ns, wholeL s = true) := by
  rw [blankJ] at h
  split at h
  · simp at h; simp_all
  split at h
  · simp at h; simp_all
  split at h
  · simp at h; simp_all
  split at h
  · simp at h; simp_all
  split at h
  · simp at h; simp_all
  split at h
  · simp at h; simp_all
  · cases h
def Head (l : B) : Prop := ∃ c r, l = c :: r ∧ blankB c = false ∧ c ≠ 93 ∧ c ≠ 125
theorem dig_head {c : UInt8} (h : c = 45 ∨ digB c = true) : blankB c = false ∧ c ≠ 93 ∧ c ≠ 125 ∧ c ≠ 91 ∧ c ≠ 123 ∧ c ≠ 34 ∧ c ≠ 110 ∧ c ≠ 116 ∧ c ≠ 102 := by
  have : ∀ n : Nat, n < 256 → (UInt8.ofNat n = 45 ∨ digB (UInt8.ofNat n) = true) → blankB (UInt8.ofNat n) = false ∧ UInt8.ofNat n ≠ 93 ∧ UInt8.ofNat n ≠ 125 ∧ UInt8.ofNat n ≠ 91 ∧ UInt8.ofNat n ≠ 123 ∧ UInt8.ofNat n ≠ 34 ∧ UInt8.ofNat n ≠ 110 ∧ UInt8.ofNat n ≠ 116 ∧ UInt8.ofNat n ≠ 102 := by decide
  have := this c.toNat c.toNat_lt; rw [UInt8.ofNat_toNat] at this; exact this h
theorem text_head {deep : Nat} {v : J} (h : checkJ deep v = 0) : Head (textJ v) := by
  cases v with
  | mk k n t ns is =>
    obtain ⟨-, hb, -, -⟩ := check_parts h
    rw [textJ]
    rcases blank_kinds hb with ⟨rfl, -⟩ | ⟨rfl, -⟩ | ⟨rfl, -⟩ | ⟨rfl, -⟩ | ⟨rfl, -⟩ | ⟨rfl, -⟩
    · rw [if_pos rfl]; exact ⟨_, _, rfl, by decide, by decide, by decide⟩
    · rw [if_neg (by decide), if_pos rfl]
      split <;> exact ⟨_, _, rfl, by decide, by decide, by decide⟩
    · rw [if_neg (by decide), if_neg (by decide), if_pos rfl]
      obtain ⟨c, r, e, hc⟩ := itoa_cons n
      obtain ⟨h1, h2, h3, -⟩ := dig_head hc
      exact ⟨c, r, e, h1, h2, h3⟩
    · rw [if_neg (by decide), if_neg (by decide), if_neg (by decide), if_pos rfl]
      exact ⟨_, _, rfl, by decide, by decide, by decide⟩
    · rw [if_neg (by decide), if_neg (by decide), if_neg (by decide), if_neg (by decide), if_pos rfl]
      exact ⟨_, _, rfl, by decide, by decide, by decide⟩
    · rw [if_neg (by decide), if_neg (by decide), if_neg (by decide), if_neg (by decide), if_neg (by decide)]
      exact ⟨_, _, rfl, by decide, by decide, by decide⟩
theorem skip_head {c : UInt8} {r : B} (h : blankB c = false) : skipB (c :: r) = c :: r := by
  unfold skipB; rw [List.dropWhile_cons, if_neg (by rw [h]; decide)]
/-- A value's print is read, whatever stands behind. -/
def Reads (deep : Nat) (v : J) : Prop := ∀ (f : Nat) (b : B), Stop b → (textJ v).length ≤ f → valF f deep (textJ v ++ b) = .ok (canonJ v) b
theorem join_cons (x y : B) (l : List B) : joinB (x :: y :: l) = x ++ 44 :: joinB (y :: l) := by rw [joinB]
theorem items_reads {deep : Nat} {b : B} : ∀ {is : List J} {acc : List J} {f : Nat}, is ≠ [] → (∀ v ∈ is, Reads deep v) → (joinB (is.map textJ)).length < f →
    itemsF f deep acc (joinB (is.map textJ) ++ 93 :: b) = .ok (.mk 4 0 [] [] (acc ++ is.map canonJ)) b
  | [], _, _, h, _, _ => absurd rfl h
  | v :: l, acc, 0, _, _, h => by omega
  | [v], acc, f + 1, _, hr, hf => by
    simp only [List.map_cons, List.map_nil, joinB] at hf ⊢
    rw [itemsF, hr v (by simp) f _ (stop_cons (by decide)) (by omega)]
    simp only
    rw [skip_head (by decide), show oneB [44, 93] (93 :: b) = .ok 93 b from rfl]
    simp
  | v :: w :: l, acc, f + 1, _, hr, hf => by
    have ih := items_reads (deep := deep) (b := b) (is := w :: l) (acc := acc ++ [canonJ v]) (f := f) (by simp) (fun u hu => hr u (by simp [List.mem_cons.1 hu])) (by
      rw [List.map_cons, List.map_cons, join_cons, List.length_append, List.length_cons, ← List.map_cons] at hf; omega)
    rw [List.map_cons, List.map_cons, join_cons, List.length_append, List.length_cons] at hf
    rw [List.map_cons, List.map_cons, join_cons, List.append_assoc, List.cons_append, itemsF, hr v (by simp) f _ (stop_cons (by decide)) (by omega)]
    simp only
    rw [skip_head (by decide), show ∀ x, oneB [44, 93] (44 :: x) = .ok 44 x from fun _ => rfl]
    simp only
    rw [if_neg (by decide), ← List.map_cons, ih]
    simp
def memT (q : B × J) : B := memB (q.1, textJ q.2)
theorem mems_reads {deep : Nat} {b : B} : ∀ {S : List (B × J)} {ns : List B} {is : List J} {f : Nat}, S ≠ [] → (∀ q ∈ S, wholeL q.1 = true ∧ Reads deep q.2) → (ns ++ S.map (·.1)).Nodup → (joinB (S.map memT)).length < f →
    memsF f deep ns is (joinB (S.map memT) ++ 125 :: b) = .ok (.mk 5 0 [] (ns ++ S.map (·.1)) (is ++ S.map fun q => canonJ q.2)) b
  | [], _, _, _, h, _, _, _ => absurd rfl h
  | v :: l, ns, is, 0, _, _, _, h => by omega
  | [q], ns, is, f + 1, _, hr, hn, hf => by
    obtain ⟨h1, h2⟩ := hr q (by simp)
    have hns : ns.contains q.1 = false := by
      rw [List.map_cons, List.nodup_append] at hn
      simp only [List.contains_eq_mem, decide_eq_false_iff_not]
      intro h
      exact hn.2.2 _ h _ (by simp) rfl
    have e : joinB ([q].map memT) ++ 125 :: b = quoteB q.1 ++ 58 :: (textJ q.2 ++ 125 :: b) := by simp [joinB, memT, memB]
    have hl : (joinB ([q].map memT)).length = (quoteB q.1).length + 1 + (textJ q.2).length := by simp [joinB, memT, memB]; omega
    have hs : skipB (quoteB q.1 ++ 58 :: (textJ q.2 ++ 125 :: b)) = quoteB q.1 ++ 58 :: (textJ q.2 ++ 125 :: b) := by unfold quoteB; rw [List.cons_append]; exact skip_head (by decide)
    rw [e, memsF, hs, text_quote h1]
    simp only
    rw [hns]
    simp only [Bool.false_eq_true, if_false, List.drop_succ_cons, List.drop_zero]
    rw [skip_head (by decide), show ∀ x, oneB [58] (58 :: x) = .ok 58 x from fun _ => rfl]
    simp only
    rw [h2 f _ (stop_cons (by decide)) (by omega)]
    simp only
    rw [skip_head (by decide), show ∀ x, oneB [44, 125] (125 :: x) = .ok 125 x from fun _ => rfl]
    simp
  | q :: p :: l, ns, is, f + 1, _, hr, hn, hf => by
    obtain ⟨h1, h2⟩ := hr q (by simp)
    have hns : ns.contains q.1 = false := by
      rw [List.map_cons, List.nodup_append] at hn
      simp only [List.contains_eq_mem, decide_eq_false_iff_not]
      intro h
      exact hn.2.2 _ h _ (by simp) rfl
    have hl : (joinB ((q :: p :: l).map memT)).length = (quoteB q.1).length + 1 + (textJ q.2).length + 1 + (joinB ((p :: l).map memT)).length := by
      rw [List.map_cons, List.map_cons, join_cons, List.length_append, List.length_cons, ← List.map_cons]
      have : (memT q).length = (quoteB q.1).length + 1 + (textJ q.2).length := by simp [memT, memB]; omega
      omega
    have ih := mems_reads (deep := deep) (b := b) (S := p :: l) (ns := ns ++ [q.1]) (is := is ++ [canonJ q.2]) (f := f) (by simp) (fun u hu => hr u (by simp [List.mem_cons.1 hu])) (by simpa using hn) (by omega)
    have e : joinB ((q :: p :: l).map memT) ++ 125 :: b = quoteB q.1 ++ 58 :: (textJ q.2 ++ 44 :: (joinB ((p :: l).map memT) ++ 125 :: b)) := by
      rw [List.map_cons, List.map_cons, join_cons, ← List.map_cons]; simp [memT, memB]
    have hs : skipB (quoteB q.1 ++ 58 :: (textJ q.2 ++ 44 :: (joinB ((p :: l).map memT) ++ 125 :: b))) = quoteB q.1 ++ 58 :: (textJ q.2 ++ 44 :: (joinB ((p :: l).map memT) ++ 125 :: b)) := by
      unfold quoteB; rw [List.cons_append]; exact skip_head (by decide)
    rw [e, memsF, hs, text_quote h1]
    simp only
    rw [hns]
    simp only [Bool.false_eq_true, if_false, List.drop_succ_cons, List.drop_zero]
    rw [skip_head (by decide), show ∀ x, oneB [58] (58 :: x) = .ok 58 x from fun _ => rfl]
    simp only
    rw [h2 f _ (stop_cons (by decide)) (by omega)]
    simp only
    rw [skip_head (by decide), show ∀ x, oneB [44, 125] (44 :: x) = .ok 44 x from fun _ => rfl]
    simp only
    rw [if_neg (by decide), ih]
    simp
theorem join_head {l : List B} (hl : l ≠ []) (h : ∀ x ∈ l, Head x) (b : B) : Head (joinB l ++ b) := by
  cases l with
  | nil => exact absurd rfl hl
  | cons x l =>
    obtain ⟨c, r, e, h1⟩ := h x (by simp)
    cases l with
    | nil => rw [joinB, e]; exact ⟨c, _, rfl, h1⟩
    | cons y l => rw [join_cons, e]; exact ⟨c, _, rfl, h1⟩
theorem sort_mem {α : Type} {l : List (B × α)} {q : B × α} : q ∈ sortP l ↔ q ∈ l := (sort_perm l).mem_iff
theorem sort_nil {α : Type} {l : List (B × α)} : sortP l = [] ↔ l = [] := by
  constructor
  · intro h; have := sort_perm l; rw [h] at this; exact this.nil_eq.symm
  · intro h; subst h; rfl
theorem zip_fst {α : Type} : ∀ {ns : List B} {is : List α}, ns.length = is.length → (ns.zip is).map (·.1) = ns
  | [], [], _ => rfl
  | [], _ :: _, h => by simp at h
  | _ :: _, [], h => by simp at h
  | n :: ns, i :: is, h => by simp [zip_fst (ns := ns) (is := is) (by simpa using h)]
theorem zip_snd {α : Type} : ∀ {ns : List B} {is : List α}, ns.length = is.length → (ns.zip is).map (·.2) = is
  | [], [], _ => rfl
  | [], _ :: _, h => by simp at h
  | _ :: _, [], h => by simp at h
  | n :: ns, i :: is, h => by simp [zip_snd (ns := ns) (is := is) (by simpa using h)]
theorem reads_all : ∀ v : J, ∀ deep, checkJ deep v = 0 → wfJ v = true → Reads deep v := by
  intro v
  induction v using J.ind with
  | h k n t ns is ih =>
    intro deep hc hw f b hb hf
    obtain ⟨h1, h2, h3, h4⟩ := check_parts hc
    rw [wfJ] at hw
    simp only [Bool.and_eq_true, decide_eq_true_eq] at hw
    obtain ⟨⟨w1, w2⟩, w3⟩ := hw
    obtain ⟨c0, r0, hhead, -⟩ := text_head hc
    obtain ⟨f, rfl⟩ : ∃ g, f = g + 1 := ⟨f - 1, by rw [hhead] at hf; simp at hf; omega⟩
    clear hhead
    rw [textJ] at hf ⊢
    rw [canonJ]
    rcases blank_kinds h2 with ⟨rfl, rfl, rfl, rfl, rfl⟩ | ⟨rfl, hn, rfl, rfl, rfl⟩ | ⟨rfl, rfl, rfl, rfl⟩ | ⟨rfl, rfl, rfl, rfl, ht⟩ | ⟨rfl, rfl, rfl, rfl⟩ | ⟨rfl, rfl, rfl, hl, hwf, hws⟩
    · rw [if_pos rfl, if_neg (by decide), canonsJ]; rfl
    · rcases hn with rfl | rfl
      · rw [if_neg (by decide), if_pos rfl, if_neg (by decide), if_neg (by decide), canonsJ]; rfl
      · rw [if_neg (by decide), if_pos rfl, if_pos rfl, if_neg (by decide), canonsJ]; rfl
    · rw [if_neg (by decide), if_neg (by decide), if_pos rfl, if_neg (by decide), canonsJ]
      obtain ⟨c, r, e, hcc⟩ := itoa_cons n
      obtain ⟨d1, d2, d3, d4, d5, d6, d7, d8, d9⟩ := dig_head hcc
      have hnum := number_itoa hb w1 w2
      rw [e, List.cons_append] at hnum ⊢
      rw [valF, skip_head d1]
      simp only
      rw [if_neg (by simp [d4, d5]), if_neg d6, if_neg d7, if_neg d8, if_neg d9, if_pos hcc, hnum]; rfl
    · rw [if_neg (by decide), if_neg (by decide), if_neg (by decide), if_pos rfl, if_neg (by decide), canonsJ]
      have htx := text_quote ht b
      have e : quoteB t ++ b = 34 :: (t.flatMap quoteC ++ [34] ++ b) := by simp [quoteB]
      rw [e] at htx ⊢
      rw [valF, skip_head (by decide)]
      simp only
      rw [if_neg (by decide), if_pos trivial, htx]; rfl
    · rw [if_neg (by decide), if_neg (by decide), if_neg (by decide), if_neg (by decide), if_pos rfl] at hf ⊢
      rw [if_neg (by decide), canons_map]
      rw [texts_map] at hf ⊢
      have hd : deeper 4 deep = deep + 1 := by unfold deeper; rw [if_pos (.inl rfl)]
      rw [hd] at h1 h4
      rw [List.cons_append, valF, skip_head (by decide)]
      simp only
      rw [if_pos (.inl trivial), if_neg (by omega), if_pos trivial]
      by_cases he : is = []
      · subst he; rfl
      · have hh := join_head (l := is.map textJ) (by simpa using he) (fun x hx => by obtain ⟨v, hv, rfl⟩ := List.mem_map.1 hx; exact text_head (h4 v hv)) ([93] ++ b)
        rw [← List.append_assoc] at hh
        obtain ⟨c, r, e, g1, g2, g3⟩ := hh
        rw [e, skip_head g1]
        simp only
        rw [if_neg g2, ← e, List.append_assoc]
        have := items_reads (deep := deep + 1) (b := b) (is := is) (acc := []) (f := f) he (fun v hv => ih v hv _ (h4 v hv) (wfs_all.1 w3 v hv)) (by simp at hf; omega)
        rw [List.singleton_append, this]; rfl
    · rw [if_neg (by decide), if_neg (by decide), if_neg (by decide), if_neg (by decide), if_neg (by decide)] at hf ⊢
      rw [if_pos rfl, canons_map]
      rw [texts_map] at hf ⊢
      have hd : deeper 5 deep = deep + 1 := by unfold deeper; rw [if_pos (.inr rfl)]
      rw [hd] at h1 h4
      rw [zip_map_snd, sort_map, List.map_map] at hf ⊢
      rw [zip_map_snd, sort_map, List.map_map, List.map_map]
      have hz : ∀ q ∈ sortP (ns.zip is), q.1 ∈ ns ∧ q.2 ∈ is := fun q hq => ⟨(List.of_mem_zip (sort_mem.1 hq)).1, (List.of_mem_zip (sort_mem.1 hq)).2⟩
      have hnd : ((sortP (ns.zip is)).map (·.1)).Nodup := by
        have := ((sort_perm (ns.zip is)).map (·.1)).nodup_iff
        rw [this, zip_fst hl]; exact h3
      have hnil : sortP (ns.zip is) = [] ↔ is = [] := by
        rw [sort_nil]
        constructor
        · intro h; have := zip_snd hl; rw [h] at this; exact this.symm
        · intro h; subst h; simp
      generalize sortP (ns.zip is) = S at *
      have ef : (memB ∘ fun q : B × J => (q.1, textJ q.2)) = memT := rfl
      rw [ef] at hf ⊢
      rw [List.cons_append, valF, skip_head (by decide)]
      simp only
      rw [if_pos (.inr trivial), if_neg (by omega), if_neg (by decide)]
      by_cases he : S = []
      · subst he; rfl
      · have hh := join_head (l := S.map memT) (by simpa using he) (fun x hx => by obtain ⟨v, hv, rfl⟩ := List.mem_map.1 hx; exact ⟨_, _, rfl, by decide, by decide, by decide⟩) ([125] ++ b)
        rw [← List.append_assoc] at hh
        obtain ⟨c, r, e, g1, g2, g3⟩ := hh
        rw [e, skip_head g1]
        simp only
        rw [if_neg g3, ← e, List.append_assoc]
        have := mems_reads (deep := deep + 1) (b := b) (S := S) (ns := []) (is := []) (f := f) he (fun q hq => ⟨hws _ (hz q hq).1, ih _ (hz q hq).2 _ (h4 _ (hz q hq).2) (wfs_all.1 w3 _ (hz q hq).2)⟩) (by simpa using hnd) (by simp at hf; omega)
        rw [List.singleton_append, this]; rfl
/-- What is printed is read. -/
theorem whole_reads {v : J} (hc : checkJ 0 v = 0) (hw : wfJ v = true) : wholeP (textJ v) = .ok (canonJ v) [] := by
  have := reads_all v 0 hc hw (fuelB (textJ v)) [] (fun c r e => by cases e) (by unfold fuelB; omega)
  rw [List.append_nil] at this
  rw [wholeP, this]; rfl
theorem parse_print {v : J} (hc : checkJ 0 v = 0) (hw : wfJ v = true) (hl : (textJ v).length ≤ 65536) : parseJ (textJ v) = (canonJ v, 0, 0) := by
  rw [parseJ, if_neg (by omega), whole_reads hc hw]
end Go.Proofs.YtigdjnfnkjfkmaaGreatDoor
