/- JSON: what is printed is read as the same value. Conditions: none. -/
import Derived.Test.YthkpbgpgcpkiiaaGreatDoorJsonD
import Derived.Test.YthkpbgpgcpkiiaaGreatDoorJsonB
namespace Go.Proofs.YthkpbgpgcpkiiaaGreatDoor
set_option linter.unusedVariables false
set_option linter.unusedSimpArgs false
set_option maxRecDepth 100000

/-- By a value's parts. -/
theorem J.ind_le {P : J → Prop} (h : ∀ k n t ns is, (∀ v ∈ is, P v) → P (.mk k n t ns is)) : ∀ (m : Nat) (v : J), SizeOf.sizeOf v ≤ m → P v := by
  intro m
  induction m with
  | zero => intro v hv; cases v; simp only [J.mk.sizeOf_spec] at hv; omega
  | succ m ih =>
    intro v hv
    cases v with
    | mk k n t ns is =>
      refine h k n t ns is fun u hu => ih u ?_
      have := List.sizeOf_lt_of_mem hu
      simp only [J.mk.sizeOf_spec] at hv
      omega
theorem J.ind {P : J → Prop} (h : ∀ k n t ns is, (∀ v ∈ is, P v) → P (.mk k n t ns is)) (v : J) : P v := J.ind_le h _ v (Nat.le_refl _)
theorem texts_map : ∀ l : List J, textsJ l = l.map textJ
  | [] => by rw [textsJ]; rfl
  | v :: l => by rw [textsJ, texts_map l]; rfl
theorem canons_map : ∀ l : List J, canonsJ l = l.map canonJ
  | [] => by rw [canonsJ]; rfl
  | v :: l => by rw [canonsJ, canons_map l]; rfl
theorem checks_all {deep : Nat} : ∀ {l : List J}, checksJ deep l = 0 ↔ ∀ v ∈ l, checkJ deep v = 0
  | [] => by rw [checksJ]; simp
  | v :: l => by
    rw [checksJ]
    have ih := checks_all (deep := deep) (l := l)
    by_cases h : checkJ deep v = 0
    · rw [if_pos h, ih]; simp [h]
    · rw [if_neg h]; simp [h]

/-- Sorting pairs whose second parts are turned. -/
theorem ins_map {α β : Type} (g : α → β) (p : B × α) : ∀ l : List (B × α), insP (p.1, g p.2) (l.map fun q => (q.1, g q.2)) = (insP p l).map fun q => (q.1, g q.2)
  | [] => rfl
  | q :: l => by
    rw [List.map_cons, insP, insP]
    simp only
    split
    · rfl
    · rw [ins_map g p l]; rfl
theorem sort_map {α β : Type} (g : α → β) : ∀ l : List (B × α), sortP (l.map fun q => (q.1, g q.2)) = (sortP l).map fun q => (q.1, g q.2)
  | [] => rfl
  | p :: l => by
    have ih := sort_map g l
    unfold sortP at ih ⊢
    rw [List.map_cons, List.foldr_cons, List.foldr_cons, ih]
    exact ins_map g p _
theorem zip_map_snd {α β : Type} (g : α → β) : ∀ (ns : List B) (is : List α), ns.zip (is.map g) = (ns.zip is).map fun q => (q.1, g q.2)
  | [], _ => rfl
  | _ :: _, [] => rfl
  | n :: ns, i :: is => by simp [zip_map_snd g ns is]
theorem ins_perm {α : Type} (p : B × α) : ∀ l : List (B × α), (insP p l).Perm (p :: l)
  | [] => .refl _
  | q :: l => by
    rw [insP]
    split
    · exact .refl _
    · exact ((ins_perm p l).cons q).trans (List.Perm.swap _ _ _)
theorem sort_perm {α : Type} : ∀ l : List (B × α), (sortP l).Perm l
  | [] => .refl _
  | p :: l => by
    have ih := sort_perm l
    unfold sortP at ih ⊢
    rw [List.foldr_cons]
    exact (ins_perm p _).trans (ih.cons p)

/-- Bytes of which no character's part is one of few. -/
theorem dec_cons (u : Nat) : ∃ c r, Lib.decDigits u = c :: r ∧ digB c = true := by
  induction u using Nat.strongRecOn with
  | _ u ih =>
    rw [Lib.decDigits]
    split
    · rename_i h
      refine ⟨_, _, rfl, ?_⟩
      have : ∀ u : Nat, u < 10 → digB (UInt8.ofNat (48 + u)) = true := by decide
      exact this u h
    · obtain ⟨c, r, e, h⟩ := ih (u / 10) (by omega)
      rw [e]; exact ⟨c, _, rfl, h⟩
theorem dec_first (u : Nat) (hu : 1 ≤ u) : ∃ c r, Lib.decDigits u = c :: r ∧ digB c = true ∧ c ≠ 48 := by
  induction u using Nat.strongRecOn with
  | _ u ih =>
    rw [Lib.decDigits]
    split
    · rename_i h
      refine ⟨_, _, rfl, ?_⟩
      have : ∀ u : Nat, u < 10 → 1 ≤ u → digB (UInt8.ofNat (48 + u)) = true ∧ UInt8.ofNat (48 + u) ≠ 48 := by decide
      exact this u h hu
    · obtain ⟨c, r, e, h⟩ := ih (u / 10) (by omega) (by omega)
      rw [e]; exact ⟨c, _, rfl, h⟩
theorem dig_val {u : Nat} (h : u < 10) : digB (UInt8.ofNat (48 + u)) = true ∧ ((UInt8.ofNat (48 + u)).toNat : Int) - 48 = u := by
  have : ∀ u : Nat, u < 10 → digB (UInt8.ofNat (48 + u)) = true ∧ ((UInt8.ofNat (48 + u)).toNat : Int) - 48 = u := by decide
  exact this u h
/-- A number's digits stand behind n. -/
def goN (neg : Bool) (n : Int) (d : Int) : Int := if neg then 10 * n - d else 10 * n + d
theorem num_stop {neg z : Bool} {n : Int} {c : UInt8} {b : B} (hb : Stop b)
    (hr : ¬ ((neg = false ∧ n > (9223372036854775807 - ((c.toNat : Int) - 48)) / 10) ∨ (neg = true ∧ n < (-9223372036854775808 + ((c.toNat : Int) - 48)).tdiv 10))) :
    numB neg z n (c :: b) = .ok (goN neg n ((c.toNat : Int) - 48)) b := by
  rw [numB.eq_def]
  simp only
  rw [if_neg hr]
  cases b with
  | nil => rfl
  | cons d r =>
    obtain ⟨h1, h2, h3, h4⟩ := hb d r rfl
    simp only [h1, Bool.false_and, Bool.false_eq_true, if_false]
    have e2 : (d == 46) = false := by simpa using h2
    have e3 : (d == 101) = false := by simpa using h3
    have e4 : (d == 69) = false := by simpa using h4
    simp only [e2, e3, e4, Bool.or_false, Bool.false_eq_true, if_false]
    rfl
theorem num_more {neg : Bool} {n : Int} {c d : UInt8} {b : B} (hd : digB d = true)
    (hr : ¬ ((neg = false ∧ n > (9223372036854775807 - ((c.toNat : Int) - 48)) / 10) ∨ (neg = true ∧ n < (-9223372036854775808 + ((c.toNat : Int) - 48)).tdiv 10))) :
    numB neg false n (c :: d :: b) = numB neg false (goN neg n ((c.toNat : Int) - 48)) (d :: b) := by
  rw [numB.eq_def]
  simp only
  rw [if_neg hr]
  simp only [hd, Bool.not_false, Bool.and_self, if_true]
  rfl
def sgn (neg : Bool) (u : Nat) : Int := if neg then -(u : Int) else u
theorem sgn_step (neg : Bool) (u d : Nat) : goN neg (sgn neg u) d = sgn neg (10 * u + d) := by
  cases neg <;> simp [goN, sgn] <;> omega
theorem sgn_fits {neg : Bool} {u d : Nat} (h : 10 * u + d ≤ if neg then 9223372036854775808 else 9223372036854775807) (hd : d < 10) :
    ¬ ((neg = false ∧ sgn neg u > (9223372036854775807 - (d : Int)) / 10) ∨ (neg = true ∧ sgn neg u < (-9223372036854775808 + (d : Int)).tdiv 10)) := by
  cases neg with
  | false =>
    simp only [Bool.false_eq_true, if_false] at h
    simp [sgn]; omega
  | true =>
    simp only [if_true] at h
    simp only [Bool.true_eq_false, false_and, false_or, sgn, if_true, true_and]
    have e : (-9223372036854775808 + (d : Int)).tdiv 10 = -((9223372036854775808 - (d : Int)) / 10) := by
      rw [show (-9223372036854775808 + (d : Int)) = -(9223372036854775808 - (d : Int)) by omega, Int.neg_tdiv, Int.tdiv_eq_ediv_of_nonneg (by omega)]
    rw [e]; omega

theorem num_upto (neg : Bool) (d : UInt8) (r : B) (hd : digB d = true) : ∀ u : Nat, 10 * u ≤ (if neg then 9223372036854775808 else 9223372036854775807) → numB neg false 0 (Lib.decDigits u ++ d :: r) = numB neg false (sgn neg u) (d :: r) := by
  intro u
  induction u using Nat.strongRecOn generalizing d r with
  | _ u ih =>
    intro hu
    rw [Lib.decDigits]
    split
    · rename_i h
      obtain ⟨h1, h2⟩ := dig_val h
      have hf := sgn_fits (neg := neg) (u := 0) (d := u) (by split <;> omega) h
      rw [show sgn neg 0 = 0 by cases neg <;> rfl] at hf
      rw [← h2] at hf
      rw [List.singleton_append, num_more hd hf, h2]
      have := sgn_step neg 0 u
      rw [show sgn neg 0 = 0 by cases neg <;> rfl] at this
      rw [this]; simp
    · rename_i h
      obtain ⟨h1, h2⟩ := dig_val (u := u % 10) (by omega)
      rw [List.append_assoc, List.singleton_append, ih (u / 10) (by omega) _ _ h1 (by split at hu <;> split <;> omega)]
      have hf := sgn_fits (neg := neg) (u := u / 10) (d := u % 10) (by split at hu <;> split <;> omega) (by omega)
      rw [← h2] at hf
      rw [num_more hd hf, h2, sgn_step, show 10 * (u / 10) + u % 10 = u by omega]
theorem num_all (neg : Bool) {b : B} (hb : Stop b) (u : Nat) (hu : u ≤ if neg then 9223372036854775808 else 9223372036854775807) :
    ∃ c r, Lib.decDigits u = c :: r ∧ digB c = true ∧ numB neg (c == 48) 0 (Lib.decDigits u ++ b) = .ok (sgn neg u) b := by
  by_cases h : u < 10
  · obtain ⟨h1, h2⟩ := dig_val h
    rw [Lib.decDigits, dif_pos h]
    refine ⟨_, [], rfl, h1, ?_⟩
    have hf := sgn_fits (neg := neg) (u := 0) (d := u) (by split <;> omega) h
    rw [show sgn neg 0 = 0 by cases neg <;> rfl] at hf
    rw [← h2] at hf
    rw [List.singleton_append, num_stop hb hf, h2]
    have := sgn_step neg 0 u
    rw [show sgn neg 0 = 0 by cases neg <;> rfl] at this
    rw [this]; simp
  · obtain ⟨c, r, e, h1, h2⟩ := dec_first u (by omega)
    refine ⟨c, r, e, h1, ?_⟩
    have hz : (c == 48) = false := by simpa using h2
    obtain ⟨h3, h4⟩ := dig_val (u := u % 10) (by omega)
    rw [hz, Lib.decDigits, dif_neg h, List.append_assoc, List.singleton_append, num_upto neg _ _ h3 (u / 10) (by split at hu <;> split <;> omega)]
    have hf := sgn_fits (neg := neg) (u := u / 10) (d := u % 10) (by split at hu <;> split <;> omega) (by omega)
    rw [← h4] at hf
    rw [num_stop hb hf, h4, sgn_step, show 10 * (u / 10) + u % 10 = u by omega]
theorem dig_digits {c : UInt8} (h : digB c = true) : digitsL.contains c = true ∧ c ≠ 45 := by
  have : ∀ n : Nat, n < 256 → digB (UInt8.ofNat n) = true → digitsL.contains (UInt8.ofNat n) = true ∧ UInt8.ofNat n ≠ 45 := by decide
  have := this c.toNat c.toNat_lt; rw [UInt8.ofNat_toNat] at this; exact this h
theorem number_itoa {n : Int} {b : B} (hb : Stop b) (h1 : -9223372036854775808 ≤ n) (h2 : n ≤ 9223372036854775807) : numberB (Lib.itoa n ++ b) = .ok n b := by
  unfold Lib.itoa
  split
  · rename_i h
    obtain ⟨c, r, e, hd, hn⟩ := num_all true hb n.natAbs (by simp; omega)
    rw [List.cons_append, numberB, if_pos rfl]
    have ho : oneB digitsL (Lib.decDigits n.natAbs ++ b) = .ok c (r ++ b) := by rw [e, List.cons_append, oneB, (dig_digits hd).1, if_pos rfl]
    rw [ho]
    simp only
    rw [hn]
    simp only [sgn, if_true]
    congr 1; omega
  · rename_i h
    obtain ⟨c, r, e, hd, hn⟩ := num_all false hb n.toNat (by simp; omega)
    have ho : oneB digitsL (c :: (r ++ b)) = .ok c (r ++ b) := by rw [oneB, (dig_digits hd).1, if_pos rfl]
    rw [e, List.cons_append, numberB, if_neg (dig_digits hd).2, ho]
    simp only
    rw [e, List.cons_append] at hn
    rw [hn]
    simp only [sgn, Bool.false_eq_true, if_false]
    congr 1; omega
theorem itoa_cons (n : Int) : ∃ c r, Lib.itoa n = c :: r ∧ (c = 45 ∨ digB c = true) := by
  unfold Lib.itoa
  split
  · exact ⟨_, _, rfl, .inl rfl⟩
  · obtain ⟨c, r, e, h⟩ := dec_cons n.toNat
    exact ⟨c, r, e, .inr h⟩
end Go.Proofs.YthkpbgpgcpkiiaaGreatDoor
