/- The reference's Print, Check and what they call; the law JsonxPrints. Conditions: the values are small. -/
import Derived.Test.YthkpbgpgcpkiiaaGreatDoorJsonO
import Derived.Test.YthkpbgpgcpkiiaaGreatDoorJLawC
import Derived.Deep.RegionHeld3
import Derived.IntWalk
import Derived.StillTailTactics
import Derived.OwnWalk
import Derived.Laws.OwnMore
namespace Go.Proofs.YthkpbgpgcpkiiaaGreatDoor
set_option linter.unusedVariables false
set_option linter.unusedSimpArgs false
set_option maxRecDepth 100000

/-- The number that i bytes of k would tell. -/
def numG (k : Nat) (b : B) : Nat → Nat
  | 0 => 0
  | 1 => if 1 < k then (b.getD 0 0).toNat % 2 ^ (7 - k) else (b.getD 0 0).toNat
  | i + 2 => 64 * numG k b (i + 1) + (b.getD (i + 1) 0).toNat % 64
def okN (n : Nat) : Bool := decide (n ≤ 1114111) && !(decide (55296 ≤ n) && decide (n < 57344))
/-- Do k bytes tell a character? -/
def hitB (k : Nat) (b : B) : Bool := okN (numG k b k) && utf8B (numG k b k) == b.take k
theorem uB_of {n : Nat} {c : UInt8} (hn : n < 256) : UInt8.ofNat n = c ↔ n = c.toNat := by
  constructor
  · intro h; rw [← h, UInt8.toNat_ofNat']; omega
  · intro h; rw [h, UInt8.ofNat_toNat]
theorem hit1 (c : UInt8) (r : B) : hitB 1 (c :: r) = true ↔ c.toNat < 128 := by
  have hc := c.toNat_lt
  unfold hitB okN
  simp only [numG, List.getD_cons_zero, if_neg (show ¬ 1 < 1 by omega), List.take_succ_cons, List.take_zero, Bool.and_eq_true, Bool.not_eq_true', Bool.and_eq_false_iff, decide_eq_true_eq, decide_eq_false_iff_not, beq_iff_eq]
  constructor
  · rintro ⟨-, h⟩
    unfold utf8B at h
    split at h
    · assumption
    · split at h
      · simp at h
      · omega
  · intro h
    refine ⟨⟨by omega, by omega⟩, ?_⟩
    unfold utf8B; rw [if_pos h, UInt8.ofNat_toNat]
theorem hit2 (c d : UInt8) (r : B) : hitB 2 (c :: d :: r) = true ↔ (194 ≤ c.toNat ∧ c.toNat < 224 ∧ 128 ≤ d.toNat ∧ d.toNat < 192) := by
  have hc := c.toNat_lt
  have hd := d.toNat_lt
  unfold hitB okN
  simp only [numG, List.getD_cons_zero, List.getD_cons_succ, if_pos (show 1 < 2 by omega), List.take_succ_cons, List.take_zero, Bool.and_eq_true, Bool.not_eq_true', Bool.and_eq_false_iff, decide_eq_true_eq, decide_eq_false_iff_not, beq_iff_eq, Nat.reduceSub, Nat.reducePow]
  generalize hn : 64 * (c.toNat % 32) + d.toNat % 64 = n
  constructor
  · rintro ⟨-, h⟩
    unfold utf8B at h
    split at h
    · simp at h
    split at h
    · simp only [List.cons.injEq, and_true] at h
      rw [uB_of (by omega), uB_of (by omega)] at h
      omega
    · omega
  · intro h
    refine ⟨⟨by omega, by omega⟩, ?_⟩
    unfold utf8B
    rw [if_neg (by omega), if_pos (by omega)]
    simp only [List.cons.injEq, and_true]
    rw [uB_of (by omega), uB_of (by omega)]
    omega
theorem hit3 (c d e : UInt8) (r : B) : hitB 3 (c :: d :: e :: r) = true ↔ (224 ≤ c.toNat ∧ c.toNat < 240 ∧ 128 ≤ d.toNat ∧ d.toNat < 192 ∧ 128 ≤ e.toNat ∧ e.toNat < 192 ∧ (c.toNat = 224 → 160 ≤ d.toNat) ∧ (c.toNat = 237 → d.toNat < 160)) := by
  have hc := c.toNat_lt
  have hd := d.toNat_lt
  have he := e.toNat_lt
  unfold hitB okN
  simp only [numG, List.getD_cons_zero, List.getD_cons_succ, if_pos (show 1 < 3 by omega), List.take_succ_cons, List.take_zero, Bool.and_eq_true, Bool.not_eq_true', Bool.and_eq_false_iff, decide_eq_true_eq, decide_eq_false_iff_not, beq_iff_eq, Nat.reduceSub, Nat.reducePow]
  generalize hn : 64 * (64 * (c.toNat % 16) + d.toNat % 64) + e.toNat % 64 = n
  constructor
  · rintro ⟨hk, h⟩
    unfold utf8B at h
    split at h
    · simp at h
    split at h
    · simp at h
    split at h
    · simp only [List.cons.injEq, and_true] at h
      rw [uB_of (by omega), uB_of (by omega), uB_of (by omega)] at h
      omega
    · omega
  · intro h
    refine ⟨⟨by omega, by omega⟩, ?_⟩
    unfold utf8B
    rw [if_neg (by omega), if_neg (by omega), if_pos (by omega)]
    simp only [List.cons.injEq, and_true]
    rw [uB_of (by omega), uB_of (by omega), uB_of (by omega)]
    omega
theorem hit4 (c d e f : UInt8) (r : B) : hitB 4 (c :: d :: e :: f :: r) = true ↔ (240 ≤ c.toNat ∧ c.toNat < 245 ∧ 128 ≤ d.toNat ∧ d.toNat < 192 ∧ 128 ≤ e.toNat ∧ e.toNat < 192 ∧ 128 ≤ f.toNat ∧ f.toNat < 192 ∧ (c.toNat = 240 → 144 ≤ d.toNat) ∧ (c.toNat = 244 → d.toNat < 144)) := by
  have hc := c.toNat_lt
  have hd := d.toNat_lt
  have he := e.toNat_lt
  have hf := f.toNat_lt
  unfold hitB okN
  simp only [numG, List.getD_cons_zero, List.getD_cons_succ, if_pos (show 1 < 4 by omega), List.take_succ_cons, List.take_zero, Bool.and_eq_true, Bool.not_eq_true', Bool.and_eq_false_iff, decide_eq_true_eq, decide_eq_false_iff_not, beq_iff_eq, Nat.reduceSub, Nat.reducePow]
  generalize hn : 64 * (64 * (64 * (c.toNat % 8) + d.toNat % 64) + e.toNat % 64) + f.toNat % 64 = n
  constructor
  · rintro ⟨hk, h⟩
    unfold utf8B at h
    split at h
    · simp at h
    split at h
    · simp at h
    split at h
    · simp at h
    · simp only [List.cons.injEq, and_true] at h
      rw [uB_of (by omega), uB_of (by omega), uB_of (by omega), uB_of (by omega)] at h
      omega
  · intro h
    refine ⟨⟨by omega, by omega⟩, ?_⟩
    unfold utf8B
    rw [if_neg (by omega), if_neg (by omega), if_neg (by omega)]
    simp only [List.cons.injEq, and_true]
    rw [uB_of (by omega), uB_of (by omega), uB_of (by omega), uB_of (by omega)]
    omega
theorem uB_le {a b : UInt8} : a ≤ b ↔ a.toNat ≤ b.toNat := UInt8.le_iff_toNat_le
theorem uB_lt {a b : UInt8} : a < b ↔ a.toNat < b.toNat := UInt8.lt_iff_toNat_lt
theorem uB_eq {a b : UInt8} : a = b ↔ a.toNat = b.toNat := UInt8.toNat_inj.symm
theorem long_kinds (c : UInt8) : (c.toNat < 128 ∧ longB c = (1, 128, 191)) ∨ (194 ≤ c.toNat ∧ c.toNat ≤ 223 ∧ longB c = (2, 128, 191)) ∨ (c.toNat = 224 ∧ longB c = (3, 160, 191)) ∨ (c.toNat = 237 ∧ longB c = (3, 128, 159)) ∨
    (225 ≤ c.toNat ∧ c.toNat ≤ 239 ∧ c.toNat ≠ 237 ∧ longB c = (3, 128, 191)) ∨ (c.toNat = 240 ∧ longB c = (4, 144, 191)) ∨ (c.toNat = 244 ∧ longB c = (4, 128, 143)) ∨ (241 ≤ c.toNat ∧ c.toNat ≤ 243 ∧ longB c = (4, 128, 191)) ∨
    ((128 ≤ c.toNat ∧ c.toNat < 194 ∨ 245 ≤ c.toNat) ∧ longB c = (0, 0, 0)) := by
  have h1 : ∀ n : Nat, n < 256 → n < 128 → longB (UInt8.ofNat n) = (1, 128, 191) := by decide +kernel
  have h2 : ∀ n : Nat, n < 256 → 194 ≤ n ∧ n ≤ 223 → longB (UInt8.ofNat n) = (2, 128, 191) := by decide +kernel
  have h3 : ∀ n : Nat, n < 256 → n = 224 → longB (UInt8.ofNat n) = (3, 160, 191) := by decide +kernel
  have h4 : ∀ n : Nat, n < 256 → n = 237 → longB (UInt8.ofNat n) = (3, 128, 159) := by decide +kernel
  have h5 : ∀ n : Nat, n < 256 → 225 ≤ n ∧ n ≤ 239 ∧ n ≠ 237 → longB (UInt8.ofNat n) = (3, 128, 191) := by decide +kernel
  have h6 : ∀ n : Nat, n < 256 → n = 240 → longB (UInt8.ofNat n) = (4, 144, 191) := by decide +kernel
  have h7 : ∀ n : Nat, n < 256 → n = 244 → longB (UInt8.ofNat n) = (4, 128, 143) := by decide +kernel
  have h8 : ∀ n : Nat, n < 256 → 241 ≤ n ∧ n ≤ 243 → longB (UInt8.ofNat n) = (4, 128, 191) := by decide +kernel
  have h9 : ∀ n : Nat, n < 256 → (128 ≤ n ∧ n < 194 ∨ 245 ≤ n) → longB (UInt8.ofNat n) = (0, 0, 0) := by decide +kernel
  have hc := c.toNat_lt
  have hc' : c.toNat < 256 := hc
  have h1 := h1 _ hc'
  have h2 := h2 _ hc'
  have h3 := h3 _ hc'
  have h4 := h4 _ hc'
  have h5 := h5 _ hc'
  have h6 := h6 _ hc'
  have h7 := h7 _ hc'
  have h8 := h8 _ hc'
  have h9 := h9 _ hc'
  rw [UInt8.ofNat_toNat] at h1 h2 h3 h4 h5 h6 h7 h8 h9
  by_cases q1 : c.toNat < 128
  · exact .inl ⟨q1, h1 q1⟩
  by_cases q2 : 194 ≤ c.toNat ∧ c.toNat ≤ 223
  · exact .inr (.inl ⟨q2.1, q2.2, h2 q2⟩)
  by_cases q3 : c.toNat = 224
  · exact .inr (.inr (.inl ⟨q3, h3 q3⟩))
  by_cases q4 : c.toNat = 237
  · exact .inr (.inr (.inr (.inl ⟨q4, h4 q4⟩)))
  by_cases q5 : 225 ≤ c.toNat ∧ c.toNat ≤ 239 ∧ c.toNat ≠ 237
  · exact .inr (.inr (.inr (.inr (.inl ⟨q5.1, q5.2.1, q5.2.2, h5 q5⟩))))
  by_cases q6 : c.toNat = 240
  · exact .inr (.inr (.inr (.inr (.inr (.inl ⟨q6, h6 q6⟩)))))
  by_cases q7 : c.toNat = 244
  · exact .inr (.inr (.inr (.inr (.inr (.inr (.inl ⟨q7, h7 q7⟩))))))
  by_cases q8 : 241 ≤ c.toNat ∧ c.toNat ≤ 243
  · exact .inr (.inr (.inr (.inr (.inr (.inr (.inr (.inl ⟨q8.1, q8.2, h8 q8⟩)))))))
  have q9 : 128 ≤ c.toNat ∧ c.toNat < 194 ∨ 245 ≤ c.toNat := by omega
  exact .inr (.inr (.inr (.inr (.inr (.inr (.inr (.inr ⟨q9, h9 q9⟩)))))))
/-- What begins a text tells how long its first character is. -/
theorem first_hit (b : B) (k : Nat) (h1 : 1 ≤ k) (h2 : k ≤ 4) (h3 : k ≤ b.length) : (hitB k b = true ↔ firstB b = k) := by
  have hk : k = 1 ∨ k = 2 ∨ k = 3 ∨ k = 4 := by omega
  match b with
  | [] => simp at h3; omega
  | [c] =>
    rcases hk with rfl | rfl | rfl | rfl
    · rw [hit1]
      rcases long_kinds c with ⟨q, e⟩ | ⟨q, q', e⟩ | ⟨q, e⟩ | ⟨q, e⟩ | ⟨q, q', q'', e⟩ | ⟨q, e⟩ | ⟨q, e⟩ | ⟨q, q', e⟩ | ⟨q, e⟩ <;> simp [firstB, e, tailB, contB, uB_le] <;> omega
    all_goals simp at h3
  | [c, d] =>
    rcases hk with rfl | rfl | rfl | rfl
    · rw [hit1]
      rcases long_kinds c with ⟨q, e⟩ | ⟨q, q', e⟩ | ⟨q, e⟩ | ⟨q, e⟩ | ⟨q, q', q'', e⟩ | ⟨q, e⟩ | ⟨q, e⟩ | ⟨q, q', e⟩ | ⟨q, e⟩ <;> simp [firstB, e, tailB, contB, uB_le] <;> (try split) <;> omega
    · rw [hit2]
      rcases long_kinds c with ⟨q, e⟩ | ⟨q, q', e⟩ | ⟨q, e⟩ | ⟨q, e⟩ | ⟨q, q', q'', e⟩ | ⟨q, e⟩ | ⟨q, e⟩ | ⟨q, q', e⟩ | ⟨q, e⟩ <;> simp [firstB, e, tailB, contB, uB_le] <;> (try split) <;> omega
    all_goals simp at h3
  | [c, d, f] =>
    rcases hk with rfl | rfl | rfl | rfl
    · rw [hit1]
      rcases long_kinds c with ⟨q, e⟩ | ⟨q, q', e⟩ | ⟨q, e⟩ | ⟨q, e⟩ | ⟨q, q', q'', e⟩ | ⟨q, e⟩ | ⟨q, e⟩ | ⟨q, q', e⟩ | ⟨q, e⟩ <;> simp [firstB, e, tailB, contB, uB_le] <;> (try split) <;> omega
    · rw [hit2]
      rcases long_kinds c with ⟨q, e⟩ | ⟨q, q', e⟩ | ⟨q, e⟩ | ⟨q, e⟩ | ⟨q, q', q'', e⟩ | ⟨q, e⟩ | ⟨q, e⟩ | ⟨q, q', e⟩ | ⟨q, e⟩ <;> simp [firstB, e, tailB, contB, uB_le] <;> (try split) <;> omega
    · rw [hit3]
      rcases long_kinds c with ⟨q, e⟩ | ⟨q, q', e⟩ | ⟨q, e⟩ | ⟨q, e⟩ | ⟨q, q', q'', e⟩ | ⟨q, e⟩ | ⟨q, e⟩ | ⟨q, q', e⟩ | ⟨q, e⟩ <;> simp [firstB, e, tailB, contB, uB_le] <;> (try split) <;> omega
    · simp at h3
  | c :: d :: f :: g :: r =>
    rcases hk with rfl | rfl | rfl | rfl
    · rw [hit1]
      rcases long_kinds c with ⟨q, e⟩ | ⟨q, q', e⟩ | ⟨q, e⟩ | ⟨q, e⟩ | ⟨q, q', q'', e⟩ | ⟨q, e⟩ | ⟨q, e⟩ | ⟨q, q', e⟩ | ⟨q, e⟩ <;> simp [firstB, e, tailB, contB, uB_le] <;> (try split) <;> omega
    · rw [hit2]
      rcases long_kinds c with ⟨q, e⟩ | ⟨q, q', e⟩ | ⟨q, e⟩ | ⟨q, e⟩ | ⟨q, q', q'', e⟩ | ⟨q, e⟩ | ⟨q, e⟩ | ⟨q, q', e⟩ | ⟨q, e⟩ <;> simp [firstB, e, tailB, contB, uB_le] <;> (try split) <;> omega
    · rw [hit3]
      rcases long_kinds c with ⟨q, e⟩ | ⟨q, q', e⟩ | ⟨q, e⟩ | ⟨q, e⟩ | ⟨q, q', q'', e⟩ | ⟨q, e⟩ | ⟨q, e⟩ | ⟨q, q', e⟩ | ⟨q, e⟩ <;> simp [firstB, e, tailB, contB, uB_le] <;> (try split) <;> omega
    · rw [hit4]
      rcases long_kinds c with ⟨q, e⟩ | ⟨q, q', e⟩ | ⟨q, e⟩ | ⟨q, e⟩ | ⟨q, q', q'', e⟩ | ⟨q, e⟩ | ⟨q, e⟩ | ⟨q, q', e⟩ | ⟨q, e⟩ <;> simp [firstB, e, tailB, contB, uB_le] <;> (try split) <;> omega
theorem first_le (b : B) : firstB b ≤ 4 ∧ firstB b ≤ b.length := by
  cases b with
  | nil => simp [firstB]
  | cons c r =>
    rw [firstB]
    have h4 := longB_le4 c
    split
    · simp
    · split
      · rename_i h
        have := tail_len h
        rw [List.length_cons]
        omega
      · simp
end Go.Proofs.YthkpbgpgcpkiiaaGreatDoor
namespace Go.Proofs.YthkpbgpgcpkiiaaGreatDoor
set_option linter.unusedVariables false
set_option linter.unusedSimpArgs false
set_option maxRecDepth 100000

theorem join_snoc (l : List B) (x : B) : joinB (l ++ [x]) = if l = [] then x else joinB l ++ 44 :: x := by
  cases l with
  | nil => rfl
  | cons y l => rw [List.cons_append, join_run, join_run, if_neg (by simp)]; simp
/-- Has the place been taken? -/
def doneB (idx : List Nat) (r i : Nat) : Bool := (idx.take r).contains i
/-- The least place so far of those that are not taken; -1: none. -/
def Lst (ns : List B) (idx : List Nat) (r q : Nat) (m : Int) : Prop :=
  (m = -1 ∧ ∀ i, i < q → doneB idx r i = true) ∨ ∃ j : Nat, m = j ∧ j < q ∧ doneB idx r j = false ∧ ∀ i, i < q → doneB idx r i = false → i ≠ j → ltB (ns.getD j []) (ns.getD i []) = true
theorem Lst.start (ns : List B) (idx : List Nat) (r : Nat) : Lst ns idx r 0 (-1) := .inl ⟨rfl, fun i h => by omega⟩
theorem Lst.skip {ns : List B} {idx : List Nat} {r q : Nat} {m : Int} (h : Lst ns idx r q m) (hd : doneB idx r q = true) : Lst ns idx r (q + 1) m := by
  rcases h with ⟨rfl, h⟩ | ⟨j, rfl, h1, h2, h3⟩
  · refine .inl ⟨rfl, fun i hi => ?_⟩
    by_cases e : i = q
    · rw [e]; exact hd
    · exact h i (by omega)
  · refine .inr ⟨j, rfl, by omega, h2, fun i hi hn hne => ?_⟩
    by_cases e : i = q
    · rw [e, hd] at hn; cases hn
    · exact h3 i (by omega) hn hne
theorem Lst.first {ns : List B} {idx : List Nat} {r q : Nat} (h : Lst ns idx r q (-1)) (hd : doneB idx r q = false) : Lst ns idx r (q + 1) q := by
  rcases h with ⟨_, h⟩ | ⟨j, e, _⟩
  · refine .inr ⟨q, rfl, by omega, hd, fun i hi hn hne => ?_⟩
    rw [h i (by omega)] at hn; cases hn
  · omega
theorem Lst.less {ns : List B} {idx : List Nat} {r q j : Nat} (h : Lst ns idx r q j) (hd : doneB idx r q = false) (hl : ltB (ns.getD q []) (ns.getD j []) = true) : Lst ns idx r (q + 1) q := by
  rcases h with ⟨e, _⟩ | ⟨j', e, h1, h2, h3⟩
  · omega
  · have ej : j = j' := by omega
    subst ej
    refine .inr ⟨q, rfl, by omega, hd, fun i hi hn hne => ?_⟩
    by_cases e : i = j
    · rw [e]; exact hl
    · exact lt_trans hl (h3 i (by omega) hn e)
theorem getD_ne {ns : List B} (hn : ns.Nodup) {i j : Nat} (hi : i < ns.length) (hj : j < ns.length) (h : i ≠ j) : ns.getD i [] ≠ ns.getD j [] := fun e => by
  rw [List.getD_eq_getElem?_getD, List.getD_eq_getElem?_getD, List.getElem?_eq_getElem hi, List.getElem?_eq_getElem hj] at e
  exact h ((List.getElem_inj hn).1 e)
theorem Lst.keep {ns : List B} {idx : List Nat} {r q j : Nat} (h : Lst ns idx r q j) (hn : ns.Nodup) (hq : q < ns.length) (hl : ltB (ns.getD q []) (ns.getD j []) = false) : Lst ns idx r (q + 1) j := by
  rcases h with ⟨e, _⟩ | ⟨j', e, h1, h2, h3⟩
  · omega
  · have ej : j = j' := by omega
    subst ej
    refine .inr ⟨j, rfl, by omega, h2, fun i hi hd hne => ?_⟩
    by_cases e : i = q
    · subst e
      cases h4 : ltB (ns.getD j []) (ns.getD i []) with
      | true => rfl
      | false => exact absurd (lt_total h4 hl).symm (getD_ne hn hq (by omega) hne)
    · exact h3 i (by omega) hd hne
theorem done_at {ns : List B} {idx : List Nat} (h : Ordered ns idx) {r k : Nat} (hk : idx[r]? = some k) : doneB idx r k = false := by
  have hnd : idx.Nodup := h.1.nodup_iff.2 List.nodup_range
  obtain ⟨hr, rfl⟩ := List.getElem?_eq_some_iff.1 hk
  unfold doneB
  cases hc : (idx.take r).contains idx[r] with
  | false => rfl
  | true =>
    have hm : idx[r] ∈ idx.take r := by simpa using hc
    obtain ⟨i, hi, e⟩ := List.getElem_of_mem hm
    rw [List.getElem_take] at e
    have hil : i < r := by rw [List.length_take] at hi; omega
    have := (List.getElem_inj hnd).1 e
    omega
theorem idx_lt {ns : List B} {idx : List Nat} (h : Ordered ns idx) {r k : Nat} (hk : idx[r]? = some k) : k < ns.length := List.mem_range.1 ((h.1.mem_iff).1 (List.mem_of_getElem? hk))
/-- What has been found when all places have been gone through. -/
theorem Lst.found {ns : List B} {idx : List Nat} (h : Ordered ns idx) (hn : ns.Nodup) {r k : Nat} (hk : idx[r]? = some k) {m : Int} (hl : Lst ns idx r ns.length m) : m = k := by
  have hd := done_at h hk
  have hkl := idx_lt h hk
  rcases hl with ⟨_, h1⟩ | ⟨j, rfl, h1, h2, h3⟩
  · rw [h1 k hkl] at hd; cases hd
  · by_cases e : k = j
    · rw [e]
    · have h4 := h3 k hkl hd e
      have hjm : j ∈ idx := (h.1.mem_iff).2 (List.mem_range.2 h1)
      obtain ⟨b, hb, e2⟩ := List.getElem_of_mem hjm
      have hrb : r < b := by
        by_cases hbr : b < r
        · exfalso
          have : doneB idx r j = true := by
            unfold doneB
            have : idx[b] ∈ idx.take r := List.mem_take_iff_getElem.2 ⟨b, by omega, rfl⟩
            rw [e2] at this
            simpa using this
          rw [this] at h2; cases h2
        · by_cases hbe : b = r
          · subst hbe
            rw [List.getElem?_eq_getElem hb] at hk
            have : k = j := by rw [← e2]; exact (Option.some.inj hk).symm
            exact absurd this e
          · omega
      have h5 := ordered_lt h hn hk (List.getElem?_eq_some_iff.2 ⟨hb, e2⟩) hrb
      rw [lt_asymm h4] at h5; cases h5
/-- The marks. -/
def doneL (idx : List Nat) (r n : Nat) : List Bool := (List.range n).map (doneB idx r)
theorem done_len (idx : List Nat) (r n : Nat) : (doneL idx r n).length = n := by simp [doneL]
theorem done_get (idx : List Nat) (r n i : Nat) (h : i < n) : (doneL idx r n)[i]? = some (doneB idx r i) := by simp [doneL, h]
theorem done_none (idx : List Nat) (n : Nat) : doneL idx 0 n = List.replicate n false := by
  refine List.ext_getElem? fun i => ?_
  by_cases h : i < n
  · rw [done_get _ _ _ _ h]; simp [doneB, h]
  · rw [List.getElem?_eq_none (by rw [done_len]; omega), List.getElem?_eq_none (by simp; omega)]
theorem done_set {idx : List Nat} {r k n : Nat} (hk : idx[r]? = some k) : (doneL idx r n).set k true = doneL idx (r + 1) n := by
  refine List.ext_getElem? fun i => ?_
  rw [List.getElem?_set]
  by_cases hi : i < n
  · rw [done_get _ _ _ _ hi, done_get _ _ _ _ hi, done_len]
    have ht : idx.take (r + 1) = idx.take r ++ [k] := by rw [List.take_add_one, hk]; rfl
    by_cases e : k = i
    · subst e
      rw [if_pos rfl, if_pos hi]; simp [doneB, ht]
    · rw [if_neg e]
      unfold doneB
      rw [ht]
      have e' : ¬ i = k := fun h => e h.symm
      simp [e']
  · rw [List.getElem?_eq_none (l := doneL idx r n) (by rw [done_len]; omega), List.getElem?_eq_none (l := doneL idx (r + 1) n) (by rw [done_len]; omega)]
    split
    · rw [if_neg (by rw [done_len]; omega)]
    · rfl
/-- An object's members, so many, by rising names. -/
def membsL (ns : List B) (xs : List B) (idx : List Nat) (r : Nat) : B := joinB ((idx.take r).map fun i => memB (ns.getD i [], xs.getD i []))
theorem membs_zero (ns xs : List B) (idx : List Nat) : membsL ns xs idx 0 = [] := rfl
theorem membs_step {ns xs : List B} {idx : List Nat} {r k : Nat} (hk : idx[r]? = some k) : membsL ns xs idx (r + 1) = (if r = 0 then [] else membsL ns xs idx r ++ [44]) ++ memB (ns.getD k [], xs.getD k []) := by
  have ht : idx.take (r + 1) = idx.take r ++ [k] := by rw [List.take_add_one, hk]; rfl
  unfold membsL
  rw [ht, List.map_append, List.map_singleton, join_snoc]
  have hr : r < idx.length := (List.getElem?_eq_some_iff.1 hk).1
  by_cases h0 : r = 0
  · subst h0; simp
  · have hne : (idx.take r).map (fun i => memB (ns.getD i [], xs.getD i [])) ≠ [] := fun e => by
      have := congrArg List.length e
      rw [List.length_map, List.length_take, List.length_nil] at this; omega
    rw [if_neg h0, if_neg hne]; simp
theorem membs_all {ns : List B} {xs : List B} {idx : List Nat} (h : Ordered ns idx) (hl : ns.length = xs.length) (hn : ns.Nodup) : membsL ns xs idx ns.length = joinB ((sortP (ns.zip xs)).map memB) := by
  have hlen : idx.length = ns.length := by rw [h.1.length_eq, List.length_range]
  unfold membsL
  rw [List.take_of_length_le (by omega), ← ordered_sort [] xs h hl hn, List.map_map]
  rfl
theorem joins_step {xs : List B} {m : Nat} {x : B} (hx : xs[m]? = some x) : joinB (xs.take (m + 1)) = (if m = 0 then [] else joinB (xs.take m) ++ [44]) ++ x := by
  have hm : m < xs.length := (List.getElem?_eq_some_iff.1 hx).1
  rw [List.take_add_one, hx]
  show joinB (xs.take m ++ [x]) = _
  rw [join_snoc]
  by_cases h0 : m = 0
  · subst h0; simp
  · have hne : xs.take m ≠ [] := fun e => by
      have := congrArg List.length e
      rw [List.length_take, List.length_nil] at this; omega
    rw [if_neg h0, if_neg hne]; simp
theorem join_mono (l : List B) (m : Nat) : ∀ d, (joinB (l.take m)).length ≤ (joinB (l.take (m + d))).length
  | 0 => Nat.le_refl _
  | d + 1 => by
    refine Nat.le_trans (join_mono l m d) ?_
    by_cases h : m + d < l.length
    · obtain ⟨x, hx⟩ : ∃ x, l[m + d]? = some x := ⟨_, List.getElem?_eq_getElem h⟩
      rw [← Nat.add_assoc, joins_step hx]
      by_cases h0 : m + d = 0
      · rw [h0]; exact Nat.zero_le _
      · rw [if_neg h0, List.length_append, List.length_append]; omega
    · rw [List.take_of_length_le (by omega), List.take_of_length_le (by omega)]; exact Nat.le_refl _
theorem join_le (l : List B) (m : Nat) : (joinB (l.take m)).length ≤ (joinB l).length := by
  by_cases h : m ≤ l.length
  · have := join_mono l m (l.length - m)
    rw [Nat.add_sub_cancel' h, List.take_length] at this
    exact this
  · rw [List.take_of_length_le (by omega)]; exact Nat.le_refl _
theorem membs_le {ns xs : List B} {idx : List Nat} (r : Nat) : (membsL ns xs idx r).length ≤ (joinB (idx.map fun i => memB (ns.getD i [], xs.getD i []))).length := by
  unfold membsL
  rw [List.map_take]; exact join_le _ r
end Go.Proofs.YthkpbgpgcpkiiaaGreatDoor
namespace Go.Proofs.YthkpbgpgcpkiiaaGreatDoor
open Go.RowKit
set_option linter.unusedVariables false
set_option linter.unusedSimpArgs false
set_option maxRecDepth 100000

/-- Bytes that a slice literal lays. -/
theorem rd_lit (w : World) (l : B) (vs : Array Value) (k : Nat) (hv : vs = (bytesV l).toArray) (hk : k = l.length) (hl : l.length ≤ 1048576) : Rd (w.alloc (.cells vs 5)) 1 (.slice (some ⟨w.heap.size, 0, none⟩) k k) l.length (bytesV l) := by
  subst hv; subst hk
  have h := World.ownsRow_lit (base := w.heap.size) (e := 5) (size := 1) w (bytesV l).toArray l.length (Nat.le_refl _) (by unfold maxLen; omega) (by simp [bytesV_len])
  exact rd_of_own h
theorem rd_take {w : World} {A : Option Addr} {n c k : Nat} {l : B} (h : Rd w 1 (.slice A n c) l.length (bytesV l)) (hk : k ≤ l.length) : Rd w 1 (.slice A k c) (l.take k).length (bytesV (l.take k)) := by
  obtain ⟨h1, A', c', h2, h3, h4, h5, h6⟩ := h
  simp only [Value.slice.injEq] at h2
  obtain ⟨rfl, rfl, rfl⟩ := h2
  have hl : (l.take k).length = k := by simp; omega
  refine ⟨by rw [bytesV_len]; omega, A, c, by rw [hl], by omega, h4, fun e => by rw [hl]; have := h5 e; omega, fun a ha => ⟨(h6 a ha).1, fun j u hj => (h6 a ha).2 j u ?_⟩⟩
  unfold bytesV at hj ⊢
  rw [List.map_take, List.getElem?_take] at hj
  split at hj
  · exact hj
  · cases hj
def CharP (n : Nat) (w : World) (e : Ending) (w' : World) : Prop := ∃ A c, e = .returned (.slice A (utf8B n).length c) ∧ Rd w' 1 (.slice A (utf8B n).length c) (utf8B n).length (bytesV (utf8B n)) ∧ Below w.heap.size w w'
theorem CharP.lit {n : Nat} {w : World} {l : B} {vs : Array Value} {k : Nat} (hl : utf8B n = l) (hv : vs = (bytesV l).toArray) (hk : k = l.length) (h4 : l.length ≤ 4) :
    CharP n w (.returned (.slice (some ⟨w.heap.size, 0, none⟩) k k)) (w.alloc (.cells vs 5)) := by
  have h := rd_lit w l vs k hv hk (by omega)
  subst hk
  unfold CharP
  rw [hl]
  exact ⟨_, _, rfl, h, (Below.refl _ w).alloc (Nat.le_refl _) _⟩
theorem u8_cell {n : Nat} (h : n < 256) : (UInt8.ofNat n).toNat = n := by rw [UInt8.toNat_ofNat']; omega
set_option maxHeartbeats 4000000 in
theorem uchar_any (n : Nat) (hn : n ≤ 1114111) (w : World) : Calls Tryz.prog 115 #[.int .i64 n] w (CharP n w) := by
  by_cases h1 : n < 128
  · have h1' : (n : Int) < 128 := by omega
    have HN := Lib.hid hn
    go_enter Tryz.func115, Tryz.ntmps115
    go_wp2_with fail
    go_ret
    refine CharP.lit (l := [UInt8.ofNat n]) (by unfold utf8B; rw [if_pos h1]) ?_ rfl (by simp)
    simp [bytesV, u8_cell (show n < 256 by omega)]
  have h1' : ¬ (n : Int) < 128 := by omega
  by_cases h2 : n < 2048
  · have h2' : (n : Int) < 2048 := by omega
    go_enter Tryz.func115, Tryz.ntmps115
    go_wp2_with fail
    go_ret
    refine CharP.lit (l := [UInt8.ofNat (192 + n / 64), UInt8.ofNat (128 + n % 64)]) (by unfold utf8B; rw [if_neg h1, if_pos h2]) ?_ rfl (by simp)
    simp [bytesV, u8_cell (show 192 + n / 64 < 256 by omega), u8_cell (show 128 + n % 64 < 256 by omega)]
    omega
  have h2' : ¬ (n : Int) < 2048 := by omega
  by_cases h3 : n < 65536
  · have h3' : (n : Int) < 65536 := by omega
    go_enter Tryz.func115, Tryz.ntmps115
    go_wp2_with fail
    go_ret
    refine CharP.lit (l := [UInt8.ofNat (224 + n / 4096), UInt8.ofNat (128 + n / 64 % 64), UInt8.ofNat (128 + n % 64)]) (by unfold utf8B; rw [if_neg h1, if_neg h2, if_pos h3]) ?_ rfl (by simp)
    simp [bytesV, u8_cell (show 224 + n / 4096 < 256 by omega), u8_cell (show 128 + n / 64 % 64 < 256 by omega), u8_cell (show 128 + n % 64 < 256 by omega)]
    omega
  have h3' : ¬ (n : Int) < 65536 := by omega
  go_enter Tryz.func115, Tryz.ntmps115
  go_wp2_with fail
  go_ret
  refine CharP.lit (l := [UInt8.ofNat (240 + n / 262144), UInt8.ofNat (128 + n / 4096 % 64), UInt8.ofNat (128 + n / 64 % 64), UInt8.ofNat (128 + n % 64)]) (by unfold utf8B; rw [if_neg h1, if_neg h2, if_neg h3]) ?_ rfl (by simp)
  simp [bytesV, u8_cell (show 240 + n / 262144 < 256 by omega), u8_cell (show 128 + n / 4096 % 64 < 256 by omega), u8_cell (show 128 + n / 64 % 64 < 256 by omega), u8_cell (show 128 + n % 64 < 256 by omega)]
  omega
theorem num_lt (k : Nat) (b : B) : ∀ q, numG k b q < 256 * 64 ^ q
  | 0 => by simp [numG]
  | 1 => by
    have := (b.getD 0 0).toNat_lt
    have := Nat.mod_le (b.getD 0 0).toNat (2 ^ (7 - k))
    rw [numG]; split <;> omega
  | q + 2 => by
    have := num_lt k b (q + 1)
    rw [numG, Nat.pow_succ]
    omega
theorem num_step (k : Nat) (b : B) {q : Nat} (h : 1 ≤ q) : numG k b (q + 1) = 64 * numG k b q + (b.getD q 0).toNat % 64 := by
  obtain ⟨p, rfl⟩ : ∃ p, q = p + 1 := ⟨q - 1, by omega⟩
  rfl
theorem num_one (k : Nat) (b : B) : numG k b 1 = if 1 < k then (b.getD 0 0).toNat % 2 ^ (7 - k) else (b.getD 0 0).toNat := rfl
set_option maxHeartbeats 8000000 in
theorem rfirst_any (v : Value) (b : B) (w : World) (hR : Rd w 1 v b.length (bytesV b)) (hbl : b.length ≤ 140737488355328) :
    Calls Tryz.prog 103 #[v] w fun e w' => e = .returned (.int .i64 (firstB b : Nat)) ∧ Below w.heap.size w w' := by
  have hfit := fun k h1 h2 h3 => first_hit b k h1 h2 h3
  have hle := first_le b
  have hnum := num_lt
  obtain ⟨A, c, rfl⟩ := hR.shape
  obtain ⟨L, hL⟩ : ∃ L, L = b.length := ⟨_, rfl⟩
  rw [← hL] at hbl ⊢
  have HFit := Lib.hid hfit
  have HLe := Lib.hid hle
  have HR := Lib.hid hR
  have HL := Lib.hid hL
  generalize hF : firstB b = F at *
  clear hfit hle hR hF hL
  have HNum := Lib.hid hnum
  clear hnum
  go_enter Tryz.func103, Tryz.ntmps103
  go_upto_region 2 with fail
  go_loopw [3] (fun i wr => ∃ k : Nat, 1 ≤ k ∧ k ≤ 5 ∧ k ≤ L + 1 ∧ i = .int .i64 k ∧ Hid (∀ j, 1 ≤ j → j < k → ¬ F = j) ∧ Hid (Below w.heap.size w wr)) (fun i _ => 5 - (intOf i).toNat)
  case atStart => exact ⟨1, by omega, by omega, by omega, rfl, fun j h1 h2 => by omega, Below.refl _ _⟩
  case round =>
    obtain ⟨k, hk1, hk5, hkl, rfl, hno, hB⟩ := hrel
    have hfin : ¬ (k ≤ 4 ∧ k ≤ L) → F = 0 := fun h => by
      by_cases h0 : F = 0
      · exact h0
      · obtain ⟨h1, h2⟩ := HLe.out
        rw [← HL.out] at h2
        exact absurd rfl (hno.out F (by omega) (by omega))
    by_cases hk4 : k ≤ 4
    · have hk4' : (k : Int) ≤ 4 := by omega
      by_cases hkL : k ≤ L
      · have hkL' : (k : Int) ≤ (L : Int) := by omega
        obtain ⟨wo, hwo⟩ : ∃ x, x = wr := ⟨_, rfl⟩
        subst hwo
        have hL1 : 0 < L := by omega
        obtain ⟨c0, hc0⟩ : ∃ c, b[0]? = some c := ⟨_, List.getElem?_eq_getElem (by have := HL.out; omega)⟩
        obtain ⟨ba, oa, rfl, hcell⟩ := ((show Rd w 1 (.slice A L c) b.length (bytesV b) by have := HR.out; rw [← HL.out] at this ⊢; exact this).below hB.out).byteAt hc0
        have hcell0 : wo.cell? ⟨ba, oa, none⟩ = some (.int .u8 (c0.toNat : Nat)) := hcell
        have hg0 : b.getD 0 0 = c0 := by rw [List.getD_eq_getElem?_getD, hc0]; rfl
        have hcb := c0.toNat_lt
        have hcb' : (c0.toNat : Int) < 256 := by omega
        have hn1 := num_one k b
        rw [hg0] at hn1
        have Hn1 := Lib.hid hn1
        clear hcell hg0 hn1 hc0
        have hRo : Rd wo 1 (.slice (some ⟨ba, oa, none⟩) L c) b.length (bytesV b) := by have := HR.out.below hB.out; rw [← HL.out] at this ⊢; exact this
        have HRo := Lib.hid hRo
        clear hRo
        have hstep : ∀ wx, Below w.heap.size w wx → ¬ F = k → 1 ≤ k + 1 ∧ k + 1 ≤ 5 ∧ k + 1 ≤ L + 1 ∧ (∀ j, 1 ≤ j → j < k + 1 → ¬ F = j) := fun wx _ h => ⟨by omega, by omega, by omega, fun j h1 h2 => by
          by_cases hj : j = k
          · rw [hj]; exact h
          · exact hno.out j h1 (by omega)⟩
        have HStep := Lib.hid hstep
        have HB := Lib.hid hB.out
        clear hstep hB hno hfin
        go_upto_if 21 with fail
        go_cut [4] (fun x wx => x = .int .i64 (numG k b 1 : Nat) ∧ wo = wx)
        case first =>
          have hk : k = 1 ∨ k = 2 ∨ k = 3 ∨ k = 4 := by omega
          rcases hk with rfl | rfl | rfl | rfl
          · go_wp2_with fail
            go_meet
            exact ⟨by rw [Hn1.out]; rfl, rfl⟩
          · go_wp2_with fail
            go_meet
            exact ⟨by rw [Hn1.out]; simp, rfl⟩
          · go_wp2_with fail
            go_meet
            exact ⟨by rw [Hn1.out]; simp, rfl⟩
          · go_wp2_with fail
            go_meet
            exact ⟨by rw [Hn1.out]; simp, rfl⟩
        case rest =>
          obtain ⟨rfl, rfl⟩ := hcut
          clear Hn1 hcell0
          go_upto_region 8 with fail
          go_loopw [4, 5] (fun o i wr => ∃ q : Nat, 1 ≤ q ∧ q ≤ k ∧ i = .int .i64 q ∧ o = .int .i64 (numG k b q : Nat) ∧ wo = wr) (fun _ i _ => k - (intOf i).toNat)
          case atStart => exact ⟨1, by omega, by omega, rfl, rfl, rfl⟩
          case round =>
            obtain ⟨q, hq1, hqk, rfl, rfl, rfl⟩ := hrel
            by_cases hqlt : q < k
            · have hqlt' : (q : Int) < (k : Int) := by omega
              obtain ⟨d, hd⟩ : ∃ d, b[q]? = some d := ⟨_, List.getElem?_eq_getElem (by have := HL.out; omega)⟩
              obtain ⟨b', o', e1, hcell⟩ := HRo.out.byteAt hd
              simp only [Option.some.injEq, Addr.mk.injEq, and_true] at e1
              obtain ⟨rfl, rfl⟩ := e1
              have hg : b.getD q 0 = d := by rw [List.getD_eq_getElem?_getD, hd]; rfl
              have hdb := d.toNat_lt
              have hst := num_step k b hq1
              rw [hg] at hst
              have Hst := Lib.hid hst
              have hlt : numG k b q < 256 * 64 ^ 3 := Nat.lt_of_lt_of_le (HNum.out k b q) (Nat.mul_le_mul_left _ (Nat.pow_le_pow_right (by omega) (by omega)))
              generalize numG k b q = g at *
              have hg1 : g < 67108864 := hlt
              have hqL : q < L := by omega
              clear hd hg hst hlt
              go_wp2_with fail
              exact ⟨⟨q + 1, by omega, by omega, by go_num, by rw [Hst.out]; go_num, trivial⟩, by simp [intOf]; omega⟩
            · have hqe : q = k := by omega
              subst hqe
              have hqlt' : ¬ (q : Int) < (q : Int) := by omega
              have hh := HFit.out q hq1 (by omega) (by rw [← HL.out]; exact hkL)
              unfold hitB okN at hh
              generalize numG q b q = g at *
              have Hh := Lib.hid hh
              clear hh
              by_cases hbig : g > 1114111
              · have hbig' : (g : Int) > 1114111 := by omega
                have hne : ¬ F = q := fun e => by
                  have h1 := Hh.out.2 e
                  rw [decide_eq_false (by omega : ¬ g ≤ 1114111)] at h1
                  simp at h1
                obtain ⟨s1, s2, s3, s4⟩ := HStep.out wo HB.out hne
                have HS := Lib.hid s4
                clear s4 hne
                go_wp2_with fail
                exact ⟨⟨q + 1, s1, s2, s3, by go_num, HS.out, HB.out⟩, by simp [intOf]; omega⟩
              by_cases hsur : 55296 ≤ g ∧ g < 57344
              · have hbig' : ¬ (g : Int) > 1114111 := by omega
                have hs1 : (g : Int) ≥ 55296 := by omega
                have hs2 : (g : Int) < 57344 := by omega
                have hne : ¬ F = q := fun e => by
                  have h1 := Hh.out.2 e
                  rw [decide_eq_true hsur.1, decide_eq_true hsur.2] at h1
                  simp at h1
                obtain ⟨s1, s2, s3, s4⟩ := HStep.out wo HB.out hne
                have HS := Lib.hid s4
                clear s4 hne
                go_wp2_with fail
                exact ⟨⟨q + 1, s1, s2, s3, by go_num, HS.out, HB.out⟩, by simp [intOf]; omega⟩
              have hbig' : ¬ (g : Int) > 1114111 := by omega
              have hok : (decide (g ≤ 1114111) && !(decide (55296 ≤ g) && decide (g < 57344))) = true := by
                simp only [Bool.and_eq_true, Bool.not_eq_true', Bool.and_eq_false_iff, decide_eq_true_eq, decide_eq_false_iff_not]
                omega
              have hh := Hh.out
              rw [hok, Bool.true_and, beq_iff_eq] at hh
              have hd := (Below.refl wo.heap.size wo).drew
              have hT := rd_take (k := q) (show Rd wo 1 (.slice (some ⟨ba, oa, none⟩) L c) b.length (bytesV b) from HRo.out) (by rw [← HL.out]; omega)
              have KC := Lib.hid (uchar_any g (by omega) wo.drew)
              unfold CharP at KC
              generalize utf8B g = U at *
              generalize b.take q = T at *
              have HT := Lib.hid hT
              have Hh := Lib.hid hh
              have kc0 := conv_rd (P := Tryz.prog) 46 9 5 Tryz.underlying46 Tryz.underlying5 Tryz.underlying9 (hT.below hd)
              have hcs : g < 55296 ∨ 57344 ≤ g := by omega
              clear hok hh hT hsur
              have hLc : L ≤ c := by
                obtain ⟨_, _, _, e9, h9, _⟩ := HRo.out
                simp only [Value.slice.injEq] at e9
                obtain ⟨_, e8, e7⟩ := e9
                rw [e7, HL.out]; exact h9
              have y2 : (0 : Int) ≤ (q : Int) := by omega
              have y3 : ((q : Int)).toNat = q := by omega
              have y4 : (q : Int) ≤ (c : Int) := by omega
              rcases hcs with hc | hc
              all_goals
                first
                  | have hs1 : ¬ (g : Int) ≥ 55296 := by omega
                  | (have hs1 : (g : Int) ≥ 55296 := by omega
                     have hs2 : ¬ (g : Int) < 57344 := by omega)
                go_upto_region 12 with fail
                refine wp_region_held_drew (S := (fun w' => (convert 46 9 (.slice (some ⟨ba, oa, none⟩) q c)).run Tryz.prog w' = .ok (.string (ofL T)) w')) (by kernel_rfl) kc0 (fun hHeld => ?_)
                ((refine wpAnyH_take (i := 0) (v := ?_) rfl (by kernel_rfl) (by kernel_rfl) (by kernel_rfl) (fun _ _ _ h => h) (Or.inl ⟨by rfl, ?_⟩) hHeld ?_); (rotate_left 1); (next => (intro w hSw; (try dsimp only at hSw); go_simp; with_reducible rfl)); (try simp only [Act.put, List.setIfInBounds_toArray, List.set_cons_zero, List.set_cons_succ]))
                ((refine wpAnyH_take (i := 3) (v := ?_) rfl (by kernel_rfl) (by kernel_rfl) (by kernel_rfl) (fun _ _ _ h => h) (Or.inl ⟨by rfl, ?_⟩) hHeld ?_); (rotate_left 1); (next => (intro w hSw; (try dsimp only at hSw); go_simp; with_reducible rfl)); (try simp only [Act.put, List.setIfInBounds_toArray, List.set_cons_zero, List.set_cons_succ]))
                ((refine wpAnyH_take (i := 4) (v := ?_) rfl (by kernel_rfl) (by kernel_rfl) (by kernel_rfl) (fun _ _ _ h => h) (Or.inl ⟨by rfl, ?_⟩) hHeld ?_); (rotate_left 1); (next => (intro w hSw; (try dsimp only at hSw); go_simp; with_reducible rfl)); (try simp only [Act.put, List.setIfInBounds_toArray, List.set_cons_zero, List.set_cons_succ]))
                ((refine wpAnyH_take (i := 5) (v := ?_) rfl (by kernel_rfl) (by kernel_rfl) (by kernel_rfl) (fun _ _ _ h => h) (Or.inl ⟨by rfl, ?_⟩) hHeld ?_); (rotate_left 1); (next => (intro w hSw; (try dsimp only at hSw); go_simp; with_reducible rfl)); (try simp only [Act.put, List.setIfInBounds_toArray, List.set_cons_zero, List.set_cons_succ]))
                ((refine wpAnyH_take (i := 6) (v := ?_) rfl (by kernel_rfl) (by kernel_rfl) (by kernel_rfl) (fun _ _ _ h => h) (Or.inl ⟨by rfl, ?_⟩) hHeld ?_); (rotate_left 1); (next => (intro w hSw; (try dsimp only at hSw); go_simp; with_reducible rfl)); (try simp only [Act.put, List.setIfInBounds_toArray, List.set_cons_zero, List.set_cons_succ]))
                (refine wpAnyH_ready (rs := [1]) (by kernel_rfl) (by simp) (AllReadyH.cons rfl (fun K hK => ?_) AllReadyH.nil))
                go_simp
                (with_reducible refine KC.out.mono ?_); rintro e w5 ⟨A5, c5, rfl, hR5, hb5⟩
                have kc5 := conv_rd (P := Tryz.prog) 46 9 5 Tryz.underlying46 Tryz.underlying5 Tryz.underlying9 (HT.out.below (hd.next hb5))
                have kd5 := conv_rd (P := Tryz.prog) 46 9 5 Tryz.underlying46 Tryz.underlying5 Tryz.underlying9 hR5
                (try go_wp2_with fail)
                (refine hK.out _ _ ?_ (fun hHeld => ?_))
                next => exact kc5
                clear hK K
                (try simp only [Act.put, List.setIfInBounds_toArray, List.set_cons_zero, List.set_cons_succ])
                (refine wpAnyH_ready (rs := [2]) (by kernel_rfl) (by simp) (AllReadyH.cons rfl (fun K hK => ?_) AllReadyH.nil))
                go_simp
                (refine hK.out _ _ ?_ (fun hHeld => ?_))
                next => exact kc5
                clear hK K
                (try simp only [Act.put, List.setIfInBounds_toArray, List.set_cons_zero, List.set_cons_succ])
                ((refine wpAnyH_take (i := 7) (oi := { dst := some 58, op := Op.binOp BinOp.eql 9 (Operand.tmp 53) (Operand.tmp 57) 9, type := 4, pos := _, after := _, guard := none }) (v := ?_) rfl (by kernel_rfl) (by kernel_rfl) (by kernel_rfl) (fun _ _ _ h => h) (Or.inl ⟨by rfl, ?_⟩) hHeld ?_); (rotate_left 1); (next => (intro w hSw; (try dsimp only at hSw); go_simp; with_reducible rfl)); (try simp only [Act.put, List.setIfInBounds_toArray, List.set_cons_zero, List.set_cons_succ]))
                (refine wpAnyH_done (by kernel_rfl) ?_ _)
                have HB5 := Lib.hid (HB.out.next (hd.next hb5))
                clear kc5 kd5 kc0 hR5 hb5 hHeld hd y2 y3 y4 hc hLc hbig' hbig hs1
                try clear hs2
                by_cases hUT : U = T
                · have hF := Hh.out.1 hUT
                  have hub : ((ofL U).toList == (ofL T).toList) = true := by rw [hUT]; exact beq_self_eq_true _
                  rw [hub]
                  clear hub hUT
                  have HF := Lib.hid hF
                  clear hF
                  go_wp2_with fail
                  go_ret
                  exact ⟨by rw [HF.out]; rfl, HB5.out⟩
                · have hne : ¬ F = q := fun e => hUT (Hh.out.2 e)
                  have hub : ((ofL U).toList == (ofL T).toList) = false := by rw [beq_eq_false_iff_ne, toL_ofL, toL_ofL]; exact hUT
                  rw [hub]
                  clear hub hUT
                  obtain ⟨s1, s2, s3, s4⟩ := HStep.out w5 HB5.out hne
                  have HS := Lib.hid s4
                  clear s4 hne
                  go_wp2_with fail
                  exact ⟨⟨q + 1, s1, s2, s3, by go_num, HS.out, HB5.out⟩, by simp [intOf]; omega⟩
      · have hkL' : ¬ (k : Int) ≤ (L : Int) := by omega
        have hF0 := hfin (by omega)
        have HB := Lib.hid hB.out
        clear hfin hB hno
        subst hF0
        go_wp2_with fail
        go_ret
        exact ⟨rfl, HB.out⟩
    · have hk4' : ¬ (k : Int) ≤ 4 := by omega
      have hF0 := hfin (by omega)
      have HB := Lib.hid hB.out
      clear hfin hB hno
      subst hF0
      go_wp2_with fail
      go_ret
      exact ⟨rfl, HB.out⟩
end Go.Proofs.YthkpbgpgcpkiiaaGreatDoor
namespace Go.Proofs.YthkpbgpgcpkiiaaGreatDoor
open Go.RowKit
set_option linter.unusedVariables false
set_option linter.unusedSimpArgs false
set_option maxRecDepth 100000

theorem rd_drop {w : World} {g o n c t : Nat} {l : B} (h : Rd w 1 (.slice (some ⟨g, o, none⟩) n c) l.length (bytesV l)) (ht : t ≤ l.length) :
    Rd w 1 (.slice (some ⟨g, o + t, none⟩) (n - t) (c - t)) (l.drop t).length (bytesV (l.drop t)) := by
  obtain ⟨_, A, c', h2, h3, h4, h5, h6⟩ := h
  cases h2
  have hl : (l.drop t).length = l.length - t := List.length_drop ..
  refine ⟨by rw [bytesV_len]; omega, _, _, by rw [hl], by omega, by omega, (fun h => by cases h), fun a ha => ?_⟩
  cases ha
  refine ⟨rfl, fun j u hj => ?_⟩
  have := (h6 ⟨g, o, none⟩ rfl).2 (t + j) u (by unfold bytesV at hj ⊢; rw [List.getElem?_map] at hj ⊢; rwa [List.getElem?_drop] at hj)
  simpa [Nat.add_assoc] using this
def CharsP (b : B) (w : World) (e : Ending) (w' : World) : Prop := ∃ r : Int, e = .returned (.int .i64 r) ∧ decide (r < 0) = wholeL b ∧ Below w.heap.size w w'
theorem CharsP.at {b : B} {w w' : World} {e : Ending} {k : Nat} (he : e = .returned (.int .i64 (k : Int))) (h : wholeL b = false) (hb : Below w.heap.size w w') : CharsP b w e w' := ⟨k, he, by rw [h]; exact decide_eq_false (by omega), hb⟩
theorem CharsP.all {b : B} {w w' : World} {e : Ending} (he : e = .returned (.int .i64 (-1))) (h : wholeL b = true) (hb : Below w.heap.size w w') : CharsP b w e w' := ⟨-1, he, by rw [h]; rfl, hb⟩
set_option maxHeartbeats 4000000 in
theorem rchars_any (v : Value) (b : B) (w : World) (hR : Rd w 1 v b.length (bytesV b)) (hbl : b.length ≤ 140737488355328) :
    Calls Tryz.prog 81 #[v] w (CharsP b w) := by
  obtain ⟨A, c, rfl⟩ := hR.shape
  obtain ⟨L, hL⟩ : ∃ L, L = b.length := ⟨_, rfl⟩
  rw [← hL] at hbl ⊢
  have HR := Lib.hid hR
  have HL := Lib.hid hL
  clear hR hL
  go_enter Tryz.func81, Tryz.ntmps81
  go_upto_region 2 with fail
  go_loopw [3] (fun i wr => ∃ k : Nat, k ≤ L ∧ i = .int .i64 k ∧ Hid (wholeL (b.drop k) = wholeL b) ∧ Hid (Below w.heap.size w wr)) (fun i _ => L - (intOf i).toNat)
  case atStart => exact ⟨0, Nat.zero_le _, rfl, by show _ = _; rw [List.drop_zero], Below.refl _ _⟩
  case round =>
    obtain ⟨k, hk, rfl, hw, hB⟩ := hrel
    by_cases hlt : k < L
    · have hlt' : (k : Int) < (L : Int) := by omega
      have hlL : k < b.length := by rw [← HL.out]; exact hlt
      have hRw := HR.out.below hB.out
      rw [← HL.out] at hRw
      have hRw : Rd wr 1 (.slice A L c) b.length (bytesV b) := by rw [HL.out] at hRw ⊢; exact hRw
      obtain ⟨d, hd⟩ : ∃ d, b[k]? = some d := ⟨_, List.getElem?_eq_getElem hlL⟩
      obtain ⟨ba, oa, rfl, _⟩ := hRw.byteAt hd
      have hLc : L ≤ c := by
        obtain ⟨_, _, _, e9, h9, _⟩ := hRw
        simp only [Value.slice.injEq] at e9
        obtain ⟨_, e8, e7⟩ := e9
        rw [e7, HL.out]; exact h9
      have hf := first_le (b.drop k)
      have hst := whole_step (l := b.drop k) (by intro e; have := congrArg List.length e; simp at this; omega)
      rw [List.drop_drop] at hst
      have hdl : (b.drop k).length = L - k := by rw [HL.out]; exact List.length_drop ..
      have K := Lib.hid (rfirst_any (.slice (some ⟨ba, oa + k, none⟩) (L - k) (c - k)) (b.drop k) wr (rd_drop hRw (by omega)) (by omega))
      rw [hdl] at hf
      obtain ⟨F, hF⟩ : ∃ F, F = firstB (b.drop k) := ⟨_, rfl⟩
      rw [← hF] at hf hst K
      have Hst := Lib.hid hst
      have HB := Lib.hid hB.out
      have Hw := Lib.hid hw.out
      have hck : ¬ c = k := by omega
      have y2 : (0 : Int) ≤ (k : Int) := by omega
      have y3 : ((k : Int)).toNat = k := by omega
      have y4 : (k : Int) ≤ (c : Int) := by omega
      clear hd hst hdl hF hw hB hRw hlL
      go_wp2_with fail
      (with_reducible refine K.out.mono ?_); rintro e w4 ⟨rfl, hb4⟩
      have HB4 := Lib.hid (HB.out.next hb4)
      clear hb4 K
      by_cases hF0 : F = 0
      · subst hF0
        have hno : wholeL b = false := by rw [← Hw.out, Hst.out, if_pos rfl]
        have Hno := Lib.hid hno
        have e00 : ((0 : Nat) : Int) = 0 := rfl
        clear hno
        go_wp2_with fail
        go_ret
        exact CharsP.at rfl Hno.out HB4.out
      · have hF1 : ¬ (F : Int) = 0 := by omega
        have hno : wholeL (b.drop (k + F)) = wholeL b := by rw [← Hw.out, Hst.out, if_neg hF0]
        have Hno := Lib.hid hno
        clear hno
        go_wp2_with fail
        exact ⟨⟨k + F, by omega, by go_num, Hno.out, HB4.out⟩, by simp [intOf]; omega⟩
    · have hlt' : ¬ (k : Int) < (L : Int) := by omega
      have hall : wholeL b = true := by
        rw [← hw.out, List.drop_of_length_le (by have := HL.out; omega)]; rfl
      have Hall := Lib.hid hall
      have HB := Lib.hid hB.out
      clear hall hw hB
      go_wp2_with fail
      go_ret
      exact CharsP.all rfl Hall.out HB.out
set_option maxHeartbeats 4000000 in
theorem rwhole_any (t : B) (w : World) (ht : t.length ≤ 1099511627776) :
    Calls Tryz.prog 58 #[.string (ofL t)] w fun e w' => e = .returned (.bool (wholeL t)) ∧ Below w.heap.size w w' := by
  have kb := fun wx => run_bytes_of_string (P := Tryz.prog) wx 9 46 5 (ofL t) Tryz.underlying9 Tryz.underlying46 Tryz.underlying5
  have hn : (ofL t).size = t.length := size_ofL t
  rw [hn] at kb
  clear hn
  go_enter Tryz.func58, Tryz.ntmps58
  go_wp2_with fail
  have hR := rd_bytes' (w := w) (wc := w) (s := ofL t) (n := t.length) (e := 5) (fr := ((bytesRow (ofL t) (grownCap w t.length 0 5)).size, (bytesRow (ofL t) (grownCap w t.length 0 5)).size + 1)) (size_ofL t) ht
  rw [toL_ofL] at hR
  have hb := ((Below.refl w.heap.size w).alloc (Nat.le_refl _) (.cells (bytesRow (ofL t) (grownCap w t.length 0 5)) 5 ((bytesRow (ofL t) (grownCap w t.length 0 5)).size, (bytesRow (ofL t) (grownCap w t.length 0 5)).size + 1))).drew
  generalize (w.alloc (.cells (bytesRow (ofL t) (grownCap w t.length 0 5)) 5 ((bytesRow (ofL t) (grownCap w t.length 0 5)).size, (bytesRow (ofL t) (grownCap w t.length 0 5)).size + 1))).drew = w1 at hR hb ⊢
  generalize grownCap w t.length 0 5 = cap at hR ⊢
  have K := rchars_any _ t w1 hR (by omega)
  clear kb
  (with_reducible refine K.mono ?_); rintro e w2 ⟨r, rfl, hr, hb2⟩
  have HB := Lib.hid (hb.next hb2)
  have Hr := Lib.hid hr
  clear hr hb hb2 K hR
  cases hbt : wholeL t with
  | true =>
    have h0 : r < 0 := by have := Hr.out; rw [hbt] at this; exact of_decide_eq_true this
    have Hbt := Lib.hid hbt
    clear hbt
    go_wp2_with fail
    go_ret
    exact ⟨ret_bool (by simp [h0, Hbt.out]), HB.out⟩
  | false =>
    have h0 : ¬ r < 0 := by have := Hr.out; rw [hbt] at this; exact of_decide_eq_false this
    have Hbt := Lib.hid hbt
    clear hbt
    go_wp2_with fail
    go_ret
    exact ⟨ret_bool (by simp [h0, Hbt.out]), HB.out⟩
end Go.Proofs.YthkpbgpgcpkiiaaGreatDoor
namespace Go.Proofs.YthkpbgpgcpkiiaaGreatDoor
open Go.RowKit
set_option linter.unusedVariables false
set_option linter.unusedSimpArgs false
set_option maxRecDepth 100000

theorem cast_beq (a b : Nat) : ((a : Int) == (b : Int)) = (a == b) := by
  rw [Bool.eq_iff_iff]; simp; omega
theorem whole0 : wholeL [] = true := rfl
set_option maxHeartbeats 16000000 in
theorem may_any (k n : Int) (s : ByteArray) (ns : List B) (is : List J) (N I : Value) (w : World) (hR : RJ (fun b => b < w.heap.size) w (.mk k n s.toList ns is) [.int .i64 k, .int .i64 n, .string s, N, I]) (hwt : wtJ (.mk k n s.toList ns is) ≤ 1048576) :
    Calls Tryz.prog 40 #[.agg #[.int .i64 k, .int .i64 n, .string s, N, I]] w fun e w' => e = .returned (.bool (mayJ (.mk k n s.toList ns is))) ∧ Below w.heap.size w w' := by
  rw [RJ, ofL_toL] at hR
  obtain ⟨N', I', e, hN, xs, hI, hxs⟩ := hR
  have e1 : N = N' ∧ I = I' := by simp at e; exact e
  obtain ⟨rfl, rfl⟩ := e1
  clear e hxs
  obtain ⟨A1, c1, rfl⟩ := hN.shape
  obtain ⟨A2, c2, rfl⟩ := hI.shape
  rw [wtJ] at hwt
  have hil : is.length ≤ 1048576 := by have := wts_len is; omega
  have hnl : ns.length ≤ 1048576 := by omega
  have htl : s.toList.length ≤ 1048576 := by omega
  have hsl : ∀ s ∈ ns, s.length ≤ 1048576 := fun s hs => by have := sum_mem hs; omega
  have kw := fun w' => rwhole_any s.toList w' (by omega)
  rw [ofL_toL] at kw
  have KW := Lib.hid kw
  have HN := Lib.hid hN
  have HSl := Lib.hid hsl
  clear hN hI hsl kw
  have hb1 := (Below.refl w.heap.size w).alloc (Nat.le_refl _) (.cells #[.int .i64 k, .int .i64 n, .string s, .slice A1 ns.length c1, .slice A2 is.length c2] 25)
  have hk1 : (w.alloc (.cells #[.int .i64 k, .int .i64 n, .string s, .slice A1 ns.length c1, .slice A2 is.length c2] 25)).heap[w.heap.size]? = some (.cells #[.int .i64 k, .int .i64 n, .string s, .slice A1 ns.length c1, .slice A2 is.length c2] 25 (0, 0)) := heap_alloc_new w _
  go_enter Tryz.func40, Tryz.ntmps40
  go_upto_region 1 with fail
  generalize w.alloc (.cells #[.int .i64 k, .int .i64 n, .string s, .slice A1 ns.length c1, .slice A2 is.length c2] 25) = w1 at *
  obtain ⟨d0, d1, d2, d3, d4, hz1⟩ := box5 hk1
  have HB := Lib.hid hb1
  clear hb1 hk1 hwt
  have HTE := Lib.hid (True.intro)
  by_cases hk0 : k = 0
  · subst hk0
    by_cases hn : n = 0
    · cases htb : s.toList.isEmpty with
      | true =>
        have HTE := Lib.hid (show s.toList = [] by simpa using htb)
        go_wp2_with fail
        all_goals (first | (go_ret; exact ⟨ret_bool (by simp [mayJ, HTE.out, whole0, *]), HB.out⟩) | ((with_reducible refine (KW.out _).mono ?_); (rintro e w2 ⟨rfl, hb2⟩); (have HB2 := Lib.hid (HB.out.next hb2)); (have e0 := Below.keeps hb2 d0); (have e1 := Below.keeps hb2 d1); (have e2 := Below.keeps hb2 d2); (have e3 := Below.keeps hb2 d3); (have e4 := Below.keeps hb2 d4); (clear hb2); (cases hw : wholeL s.toList with | false => (first | (exfalso; rw [HTE.out] at hw; exact absurd hw (by decide)) | ((go_wp2_with fail); go_ret; exact ⟨ret_bool (by simp [mayJ, HTE.out, whole0, *]), HB2.out⟩)) | true => (by_cases hil : 0 < is.length; ((have hil' : (is.length : Int) > 0 := (by omega)); (go_wp2_with fail); go_ret; exact ⟨ret_bool (by simp [mayJ, len0, HTE.out, whole0, *]), HB2.out⟩); ((have hil' : ¬ (is.length : Int) > 0 := (by omega)); (have hil2 : is = [] := (List.length_eq_zero_iff.1 (by omega))); (go_wp2_with fail); go_ret; exact ⟨ret_bool (by simp [mayJ, len0, HTE.out, whole0, *]), HB2.out⟩)))))
      | false =>
        have HTE := Lib.hid (show ¬ s.toList = [] by intro h; rw [h] at htb; cases htb)
        go_wp2_with fail
        all_goals (first | (go_ret; exact ⟨ret_bool (by simp [mayJ, HTE.out, whole0, *]), HB.out⟩) | ((with_reducible refine (KW.out _).mono ?_); (rintro e w2 ⟨rfl, hb2⟩); (have HB2 := Lib.hid (HB.out.next hb2)); (have e0 := Below.keeps hb2 d0); (have e1 := Below.keeps hb2 d1); (have e2 := Below.keeps hb2 d2); (have e3 := Below.keeps hb2 d3); (have e4 := Below.keeps hb2 d4); (clear hb2); (cases hw : wholeL s.toList with | false => (first | (exfalso; rw [HTE.out] at hw; exact absurd hw (by decide)) | ((go_wp2_with fail); go_ret; exact ⟨ret_bool (by simp [mayJ, HTE.out, whole0, *]), HB2.out⟩)) | true => (by_cases hil : 0 < is.length; ((have hil' : (is.length : Int) > 0 := (by omega)); (go_wp2_with fail); go_ret; exact ⟨ret_bool (by simp [mayJ, len0, HTE.out, whole0, *]), HB2.out⟩); ((have hil' : ¬ (is.length : Int) > 0 := (by omega)); (have hil2 : is = [] := (List.length_eq_zero_iff.1 (by omega))); (go_wp2_with fail); go_ret; exact ⟨ret_bool (by simp [mayJ, len0, HTE.out, whole0, *]), HB2.out⟩)))))
    · go_wp2_with fail
      all_goals (go_ret; exact ⟨ret_bool (by simp [mayJ, HTE.out, whole0, *]), HB.out⟩)
  by_cases hk1 : k = 1
  · subst hk1
    by_cases hn : n = 0
    · have hn1 : ¬ n = 1 := by omega
      cases htb : s.toList.isEmpty with
      | true =>
        have HTE := Lib.hid (show s.toList = [] by simpa using htb)
        go_wp2_with fail
        all_goals (first | (go_ret; exact ⟨ret_bool (by simp [mayJ, HTE.out, whole0, *]), HB.out⟩) | ((with_reducible refine (KW.out _).mono ?_); (rintro e w2 ⟨rfl, hb2⟩); (have HB2 := Lib.hid (HB.out.next hb2)); (have e0 := Below.keeps hb2 d0); (have e1 := Below.keeps hb2 d1); (have e2 := Below.keeps hb2 d2); (have e3 := Below.keeps hb2 d3); (have e4 := Below.keeps hb2 d4); (clear hb2); (cases hw : wholeL s.toList with | false => (first | (exfalso; rw [HTE.out] at hw; exact absurd hw (by decide)) | ((go_wp2_with fail); go_ret; exact ⟨ret_bool (by simp [mayJ, HTE.out, whole0, *]), HB2.out⟩)) | true => (by_cases hil : 0 < is.length; ((have hil' : (is.length : Int) > 0 := (by omega)); (go_wp2_with fail); go_ret; exact ⟨ret_bool (by simp [mayJ, len0, HTE.out, whole0, *]), HB2.out⟩); ((have hil' : ¬ (is.length : Int) > 0 := (by omega)); (have hil2 : is = [] := (List.length_eq_zero_iff.1 (by omega))); (go_wp2_with fail); go_ret; exact ⟨ret_bool (by simp [mayJ, len0, HTE.out, whole0, *]), HB2.out⟩)))))
      | false =>
        have HTE := Lib.hid (show ¬ s.toList = [] by intro h; rw [h] at htb; cases htb)
        go_wp2_with fail
        all_goals (first | (go_ret; exact ⟨ret_bool (by simp [mayJ, HTE.out, whole0, *]), HB.out⟩) | ((with_reducible refine (KW.out _).mono ?_); (rintro e w2 ⟨rfl, hb2⟩); (have HB2 := Lib.hid (HB.out.next hb2)); (have e0 := Below.keeps hb2 d0); (have e1 := Below.keeps hb2 d1); (have e2 := Below.keeps hb2 d2); (have e3 := Below.keeps hb2 d3); (have e4 := Below.keeps hb2 d4); (clear hb2); (cases hw : wholeL s.toList with | false => (first | (exfalso; rw [HTE.out] at hw; exact absurd hw (by decide)) | ((go_wp2_with fail); go_ret; exact ⟨ret_bool (by simp [mayJ, HTE.out, whole0, *]), HB2.out⟩)) | true => (by_cases hil : 0 < is.length; ((have hil' : (is.length : Int) > 0 := (by omega)); (go_wp2_with fail); go_ret; exact ⟨ret_bool (by simp [mayJ, len0, HTE.out, whole0, *]), HB2.out⟩); ((have hil' : ¬ (is.length : Int) > 0 := (by omega)); (have hil2 : is = [] := (List.length_eq_zero_iff.1 (by omega))); (go_wp2_with fail); go_ret; exact ⟨ret_bool (by simp [mayJ, len0, HTE.out, whole0, *]), HB2.out⟩)))))
    · by_cases hn1 : n = 1
      · cases htb : s.toList.isEmpty with
        | true =>
          have HTE := Lib.hid (show s.toList = [] by simpa using htb)
          go_wp2_with fail
          all_goals (first | (go_ret; exact ⟨ret_bool (by simp [mayJ, HTE.out, whole0, *]), HB.out⟩) | ((with_reducible refine (KW.out _).mono ?_); (rintro e w2 ⟨rfl, hb2⟩); (have HB2 := Lib.hid (HB.out.next hb2)); (have e0 := Below.keeps hb2 d0); (have e1 := Below.keeps hb2 d1); (have e2 := Below.keeps hb2 d2); (have e3 := Below.keeps hb2 d3); (have e4 := Below.keeps hb2 d4); (clear hb2); (cases hw : wholeL s.toList with | false => (first | (exfalso; rw [HTE.out] at hw; exact absurd hw (by decide)) | ((go_wp2_with fail); go_ret; exact ⟨ret_bool (by simp [mayJ, HTE.out, whole0, *]), HB2.out⟩)) | true => (by_cases hil : 0 < is.length; ((have hil' : (is.length : Int) > 0 := (by omega)); (go_wp2_with fail); go_ret; exact ⟨ret_bool (by simp [mayJ, len0, HTE.out, whole0, *]), HB2.out⟩); ((have hil' : ¬ (is.length : Int) > 0 := (by omega)); (have hil2 : is = [] := (List.length_eq_zero_iff.1 (by omega))); (go_wp2_with fail); go_ret; exact ⟨ret_bool (by simp [mayJ, len0, HTE.out, whole0, *]), HB2.out⟩)))))
        | false =>
          have HTE := Lib.hid (show ¬ s.toList = [] by intro h; rw [h] at htb; cases htb)
          go_wp2_with fail
          all_goals (first | (go_ret; exact ⟨ret_bool (by simp [mayJ, HTE.out, whole0, *]), HB.out⟩) | ((with_reducible refine (KW.out _).mono ?_); (rintro e w2 ⟨rfl, hb2⟩); (have HB2 := Lib.hid (HB.out.next hb2)); (have e0 := Below.keeps hb2 d0); (have e1 := Below.keeps hb2 d1); (have e2 := Below.keeps hb2 d2); (have e3 := Below.keeps hb2 d3); (have e4 := Below.keeps hb2 d4); (clear hb2); (cases hw : wholeL s.toList with | false => (first | (exfalso; rw [HTE.out] at hw; exact absurd hw (by decide)) | ((go_wp2_with fail); go_ret; exact ⟨ret_bool (by simp [mayJ, HTE.out, whole0, *]), HB2.out⟩)) | true => (by_cases hil : 0 < is.length; ((have hil' : (is.length : Int) > 0 := (by omega)); (go_wp2_with fail); go_ret; exact ⟨ret_bool (by simp [mayJ, len0, HTE.out, whole0, *]), HB2.out⟩); ((have hil' : ¬ (is.length : Int) > 0 := (by omega)); (have hil2 : is = [] := (List.length_eq_zero_iff.1 (by omega))); (go_wp2_with fail); go_ret; exact ⟨ret_bool (by simp [mayJ, len0, HTE.out, whole0, *]), HB2.out⟩)))))
      · cases htb : s.toList.isEmpty with
        | true =>
          have HTE := Lib.hid (show s.toList = [] by simpa using htb)
          go_wp2_with fail
          all_goals (first | (go_ret; exact ⟨ret_bool (by simp [mayJ, HTE.out, whole0, *]), HB.out⟩) | ((with_reducible refine (KW.out _).mono ?_); (rintro e w2 ⟨rfl, hb2⟩); (have HB2 := Lib.hid (HB.out.next hb2)); (have e0 := Below.keeps hb2 d0); (have e1 := Below.keeps hb2 d1); (have e2 := Below.keeps hb2 d2); (have e3 := Below.keeps hb2 d3); (have e4 := Below.keeps hb2 d4); (clear hb2); (cases hw : wholeL s.toList with | false => (first | (exfalso; rw [HTE.out] at hw; exact absurd hw (by decide)) | ((go_wp2_with fail); go_ret; exact ⟨ret_bool (by simp [mayJ, HTE.out, whole0, *]), HB2.out⟩)) | true => (by_cases hil : 0 < is.length; ((have hil' : (is.length : Int) > 0 := (by omega)); (go_wp2_with fail); go_ret; exact ⟨ret_bool (by simp [mayJ, len0, HTE.out, whole0, *]), HB2.out⟩); ((have hil' : ¬ (is.length : Int) > 0 := (by omega)); (have hil2 : is = [] := (List.length_eq_zero_iff.1 (by omega))); (go_wp2_with fail); go_ret; exact ⟨ret_bool (by simp [mayJ, len0, HTE.out, whole0, *]), HB2.out⟩)))))
        | false =>
          have HTE := Lib.hid (show ¬ s.toList = [] by intro h; rw [h] at htb; cases htb)
          go_wp2_with fail
          all_goals (first | (go_ret; exact ⟨ret_bool (by simp [mayJ, HTE.out, whole0, *]), HB.out⟩) | ((with_reducible refine (KW.out _).mono ?_); (rintro e w2 ⟨rfl, hb2⟩); (have HB2 := Lib.hid (HB.out.next hb2)); (have e0 := Below.keeps hb2 d0); (have e1 := Below.keeps hb2 d1); (have e2 := Below.keeps hb2 d2); (have e3 := Below.keeps hb2 d3); (have e4 := Below.keeps hb2 d4); (clear hb2); (cases hw : wholeL s.toList with | false => (first | (exfalso; rw [HTE.out] at hw; exact absurd hw (by decide)) | ((go_wp2_with fail); go_ret; exact ⟨ret_bool (by simp [mayJ, HTE.out, whole0, *]), HB2.out⟩)) | true => (by_cases hil : 0 < is.length; ((have hil' : (is.length : Int) > 0 := (by omega)); (go_wp2_with fail); go_ret; exact ⟨ret_bool (by simp [mayJ, len0, HTE.out, whole0, *]), HB2.out⟩); ((have hil' : ¬ (is.length : Int) > 0 := (by omega)); (have hil2 : is = [] := (List.length_eq_zero_iff.1 (by omega))); (go_wp2_with fail); go_ret; exact ⟨ret_bool (by simp [mayJ, len0, HTE.out, whole0, *]), HB2.out⟩)))))
  by_cases hk2 : k = 2
  · subst hk2
    cases htb : s.toList.isEmpty with
    | true =>
      have HTE := Lib.hid (show s.toList = [] by simpa using htb)
      go_wp2_with fail
      all_goals (first | (go_ret; exact ⟨ret_bool (by simp [mayJ, HTE.out, whole0, *]), HB.out⟩) | ((with_reducible refine (KW.out _).mono ?_); (rintro e w2 ⟨rfl, hb2⟩); (have HB2 := Lib.hid (HB.out.next hb2)); (have e0 := Below.keeps hb2 d0); (have e1 := Below.keeps hb2 d1); (have e2 := Below.keeps hb2 d2); (have e3 := Below.keeps hb2 d3); (have e4 := Below.keeps hb2 d4); (clear hb2); (cases hw : wholeL s.toList with | false => (first | (exfalso; rw [HTE.out] at hw; exact absurd hw (by decide)) | ((go_wp2_with fail); go_ret; exact ⟨ret_bool (by simp [mayJ, HTE.out, whole0, *]), HB2.out⟩)) | true => (by_cases hil : 0 < is.length; ((have hil' : (is.length : Int) > 0 := (by omega)); (go_wp2_with fail); go_ret; exact ⟨ret_bool (by simp [mayJ, len0, HTE.out, whole0, *]), HB2.out⟩); ((have hil' : ¬ (is.length : Int) > 0 := (by omega)); (have hil2 : is = [] := (List.length_eq_zero_iff.1 (by omega))); (go_wp2_with fail); go_ret; exact ⟨ret_bool (by simp [mayJ, len0, HTE.out, whole0, *]), HB2.out⟩)))))
    | false =>
      have HTE := Lib.hid (show ¬ s.toList = [] by intro h; rw [h] at htb; cases htb)
      go_wp2_with fail
      all_goals (first | (go_ret; exact ⟨ret_bool (by simp [mayJ, HTE.out, whole0, *]), HB.out⟩) | ((with_reducible refine (KW.out _).mono ?_); (rintro e w2 ⟨rfl, hb2⟩); (have HB2 := Lib.hid (HB.out.next hb2)); (have e0 := Below.keeps hb2 d0); (have e1 := Below.keeps hb2 d1); (have e2 := Below.keeps hb2 d2); (have e3 := Below.keeps hb2 d3); (have e4 := Below.keeps hb2 d4); (clear hb2); (cases hw : wholeL s.toList with | false => (first | (exfalso; rw [HTE.out] at hw; exact absurd hw (by decide)) | ((go_wp2_with fail); go_ret; exact ⟨ret_bool (by simp [mayJ, HTE.out, whole0, *]), HB2.out⟩)) | true => (by_cases hil : 0 < is.length; ((have hil' : (is.length : Int) > 0 := (by omega)); (go_wp2_with fail); go_ret; exact ⟨ret_bool (by simp [mayJ, len0, HTE.out, whole0, *]), HB2.out⟩); ((have hil' : ¬ (is.length : Int) > 0 := (by omega)); (have hil2 : is = [] := (List.length_eq_zero_iff.1 (by omega))); (go_wp2_with fail); go_ret; exact ⟨ret_bool (by simp [mayJ, len0, HTE.out, whole0, *]), HB2.out⟩)))))
  by_cases hk3 : k = 3
  · subst hk3
    by_cases hn : n = 0
    · cases htb : s.toList.isEmpty with
      | true =>
        have HTE := Lib.hid (show s.toList = [] by simpa using htb)
        go_wp2_with fail
        all_goals (first | (go_ret; exact ⟨ret_bool (by simp [mayJ, HTE.out, whole0, *]), HB.out⟩) | ((with_reducible refine (KW.out _).mono ?_); (rintro e w2 ⟨rfl, hb2⟩); (have HB2 := Lib.hid (HB.out.next hb2)); (have e0 := Below.keeps hb2 d0); (have e1 := Below.keeps hb2 d1); (have e2 := Below.keeps hb2 d2); (have e3 := Below.keeps hb2 d3); (have e4 := Below.keeps hb2 d4); (clear hb2); (cases hw : wholeL s.toList with | false => (first | (exfalso; rw [HTE.out] at hw; exact absurd hw (by decide)) | ((go_wp2_with fail); go_ret; exact ⟨ret_bool (by simp [mayJ, HTE.out, whole0, *]), HB2.out⟩)) | true => (by_cases hil : 0 < is.length; ((have hil' : (is.length : Int) > 0 := (by omega)); (go_wp2_with fail); go_ret; exact ⟨ret_bool (by simp [mayJ, len0, HTE.out, whole0, *]), HB2.out⟩); ((have hil' : ¬ (is.length : Int) > 0 := (by omega)); (have hil2 : is = [] := (List.length_eq_zero_iff.1 (by omega))); (go_wp2_with fail); go_ret; exact ⟨ret_bool (by simp [mayJ, len0, HTE.out, whole0, *]), HB2.out⟩)))))
      | false =>
        have HTE := Lib.hid (show ¬ s.toList = [] by intro h; rw [h] at htb; cases htb)
        go_wp2_with fail
        all_goals (first | (go_ret; exact ⟨ret_bool (by simp [mayJ, HTE.out, whole0, *]), HB.out⟩) | ((with_reducible refine (KW.out _).mono ?_); (rintro e w2 ⟨rfl, hb2⟩); (have HB2 := Lib.hid (HB.out.next hb2)); (have e0 := Below.keeps hb2 d0); (have e1 := Below.keeps hb2 d1); (have e2 := Below.keeps hb2 d2); (have e3 := Below.keeps hb2 d3); (have e4 := Below.keeps hb2 d4); (clear hb2); (cases hw : wholeL s.toList with | false => (first | (exfalso; rw [HTE.out] at hw; exact absurd hw (by decide)) | ((go_wp2_with fail); go_ret; exact ⟨ret_bool (by simp [mayJ, HTE.out, whole0, *]), HB2.out⟩)) | true => (by_cases hil : 0 < is.length; ((have hil' : (is.length : Int) > 0 := (by omega)); (go_wp2_with fail); go_ret; exact ⟨ret_bool (by simp [mayJ, len0, HTE.out, whole0, *]), HB2.out⟩); ((have hil' : ¬ (is.length : Int) > 0 := (by omega)); (have hil2 : is = [] := (List.length_eq_zero_iff.1 (by omega))); (go_wp2_with fail); go_ret; exact ⟨ret_bool (by simp [mayJ, len0, HTE.out, whole0, *]), HB2.out⟩)))))
    · go_wp2_with fail
      all_goals (go_ret; exact ⟨ret_bool (by simp [mayJ, HTE.out, whole0, *]), HB.out⟩)
  by_cases hk4 : k = 4
  · subst hk4
    by_cases hn : n = 0
    · cases htb : s.toList.isEmpty with
      | true =>
        have HTE := Lib.hid (show s.toList = [] by simpa using htb)
        go_wp2_with fail
        all_goals (first | (go_ret; exact ⟨ret_bool (by simp [mayJ, HTE.out, whole0, *]), HB.out⟩) | ((with_reducible refine (KW.out _).mono ?_); (rintro e w2 ⟨rfl, hb2⟩); (have HB2 := Lib.hid (HB.out.next hb2)); (have e0 := Below.keeps hb2 d0); (have e1 := Below.keeps hb2 d1); (have e2 := Below.keeps hb2 d2); (have e3 := Below.keeps hb2 d3); (have e4 := Below.keeps hb2 d4); (clear hb2); (cases hw : wholeL s.toList with | false => (first | (exfalso; rw [HTE.out] at hw; exact absurd hw (by decide)) | ((go_wp2_with fail); go_ret; exact ⟨ret_bool (by simp [mayJ, HTE.out, whole0, *]), HB2.out⟩)) | true => (by_cases hil : 0 < is.length; ((have hil' : (is.length : Int) > 0 := (by omega)); (go_wp2_with fail); go_ret; exact ⟨ret_bool (by simp [mayJ, len0, HTE.out, whole0, *]), HB2.out⟩); ((have hil' : ¬ (is.length : Int) > 0 := (by omega)); (have hil2 : is = [] := (List.length_eq_zero_iff.1 (by omega))); (go_wp2_with fail); go_ret; exact ⟨ret_bool (by simp [mayJ, len0, HTE.out, whole0, *]), HB2.out⟩)))))
      | false =>
        have HTE := Lib.hid (show ¬ s.toList = [] by intro h; rw [h] at htb; cases htb)
        go_wp2_with fail
        all_goals (first | (go_ret; exact ⟨ret_bool (by simp [mayJ, HTE.out, whole0, *]), HB.out⟩) | ((with_reducible refine (KW.out _).mono ?_); (rintro e w2 ⟨rfl, hb2⟩); (have HB2 := Lib.hid (HB.out.next hb2)); (have e0 := Below.keeps hb2 d0); (have e1 := Below.keeps hb2 d1); (have e2 := Below.keeps hb2 d2); (have e3 := Below.keeps hb2 d3); (have e4 := Below.keeps hb2 d4); (clear hb2); (cases hw : wholeL s.toList with | false => (first | (exfalso; rw [HTE.out] at hw; exact absurd hw (by decide)) | ((go_wp2_with fail); go_ret; exact ⟨ret_bool (by simp [mayJ, HTE.out, whole0, *]), HB2.out⟩)) | true => (by_cases hil : 0 < is.length; ((have hil' : (is.length : Int) > 0 := (by omega)); (go_wp2_with fail); go_ret; exact ⟨ret_bool (by simp [mayJ, len0, HTE.out, whole0, *]), HB2.out⟩); ((have hil' : ¬ (is.length : Int) > 0 := (by omega)); (have hil2 : is = [] := (List.length_eq_zero_iff.1 (by omega))); (go_wp2_with fail); go_ret; exact ⟨ret_bool (by simp [mayJ, len0, HTE.out, whole0, *]), HB2.out⟩)))))
    · go_wp2_with fail
      all_goals (go_ret; exact ⟨ret_bool (by simp [mayJ, HTE.out, whole0, *]), HB.out⟩)
  skip
  by_cases hk5 : k = 5
  · subst hk5
    by_cases hn : n = 0
    · cases htb : s.toList.isEmpty with
      | true =>
        have HTE := Lib.hid (show s.toList = [] by simpa using htb)
        go_wp2_with fail
        (with_reducible refine (KW.out _).mono ?_); rintro e w2 ⟨rfl, hb2⟩
        have HB2 := Lib.hid (HB.out.next hb2)
        have d0 := Below.keeps hb2 d0
        have d1 := Below.keeps hb2 d1
        have d2 := Below.keeps hb2 d2
        have d3 := Below.keeps hb2 d3
        have d4 := Below.keeps hb2 d4
        clear hb2
        have hw : wholeL s.toList = true := by rw [HTE.out]; rfl
        obtain ⟨L, hL⟩ : ∃ L, L = ns.length := ⟨_, rfl⟩
        obtain ⟨M, hM⟩ : ∃ M, M = is.length := ⟨_, rfl⟩
        rw [← hL] at d3 hnl ⊢
        rw [← hM] at d4 hil ⊢
        have HL := Lib.hid hL
        have HM := Lib.hid hM
        clear hL hM
        go_upto_region 8 with fail
        go_loopw [78] (fun i wr => ∃ m : Nat, m ≤ L ∧ i = .int .i64 m ∧ Hid ((ns.take m).all wholeL = true) ∧ Hid (Below w2.heap.size w2 wr)) (fun i _ => L - (intOf i).toNat)
        case atStart => exact ⟨0, Nat.zero_le _, rfl, by show _ = _; simp, Below.refl _ _⟩
        case round =>
          obtain ⟨m, hm, rfl, hal, hBr⟩ := hrel
          have hBw := HB2.out.next hBr.out
          have d0 := Below.keeps hBr.out d0
          have d1 := Below.keeps hBr.out d1
          have d2 := Below.keeps hBr.out d2
          have d3 := Below.keeps hBr.out d3
          have d4 := Below.keeps hBr.out d4
          by_cases hlt : m < L
          · have hlt' : (m : Int) < (L : Int) := by omega
            obtain ⟨u, hu⟩ : ∃ u, ns[m]? = some u := ⟨_, List.getElem?_eq_getElem (by rw [← HL.out]; exact hlt)⟩
            obtain ⟨bn, on, rfl, _, hcell⟩ := (show RdP (fun b => b < w.heap.size) wr 1 (.slice A1 L c1) ns.length (strs ns) by have := HN.out.keep (below_keeps hBw); rw [← HL.out] at this ⊢; exact this).strAt hu
            have hul := HSl.out u (List.mem_of_getElem? hu)
            have htk : ns.take (m + 1) = ns.take m ++ [u] := by rw [List.take_add_one, hu]; rfl
            have K := Lib.hid (rwhole_any u wr (by omega))
            have Hmem := Lib.hid (List.mem_of_getElem? hu)
            have Htk := Lib.hid htk
            have HBr := Lib.hid hBr.out
            have HBw := Lib.hid hBw
            have Hal := Lib.hid hal.out
            clear hu hul htk hBr hBw hal
            go_wp2_with fail
            (with_reducible refine K.out.mono ?_); rintro e w4 ⟨rfl, hb4⟩
            have HB4 := Lib.hid (HBr.out.next hb4)
            have HB4w := Lib.hid (HBw.out.next hb4)
            clear hb4 K
            cases hwu : wholeL u with
            | true =>
              have hal2 : (ns.take (m + 1)).all wholeL = true := by rw [Htk.out, List.all_append, Hal.out]; simp [hwu]
              have Hal2 := Lib.hid hal2
              clear hal2
              go_wp2_with fail
              exact ⟨⟨m + 1, by omega, by go_num, Hal2.out, HB4.out⟩, by simp [intOf]; omega⟩
            | false =>
              have hno : ns.all wholeL = false := by
                rw [List.all_eq_false]
                exact ⟨u, Hmem.out, by rw [hwu]; decide⟩
              have Hno := Lib.hid hno
              clear hno
              go_wp2_with fail
              go_ret
              exact ⟨ret_bool (by simp [mayJ, HTE.out, whole0, Hno.out, hn]), HB4w.out⟩
          · have hmn : m = L := by omega
            have hal2 : ns.all wholeL = true := by have := hal.out; rwa [List.take_of_length_le (by rw [hmn, HL.out]; exact Nat.le_refl _)] at this
            have Hal2 := Lib.hid hal2
            have HBw := Lib.hid hBw
            have hlt' : ¬ (m : Int) < (L : Int) := by omega
            clear hal2 hBw hBr hal
            go_wp2_with fail
            go_ret
            refine ⟨ret_bool ?_, HBw.out⟩
            simp [mayJ, HTE.out, whole0, Hal2.out, hn]
            rw [← HL.out, ← HM.out]
            exact cast_beq L M
      | false =>
        have HTE := Lib.hid (show ¬ s.toList = [] by intro h; rw [h] at htb; cases htb)
        go_wp2_with fail
        all_goals (go_ret; exact ⟨ret_bool (by simp [mayJ, HTE.out, whole0, *]), HB.out⟩)
    · go_wp2_with fail
      all_goals (go_ret; exact ⟨ret_bool (by simp [mayJ, HTE.out, whole0, *]), HB.out⟩)
  by_cases hkn : k < 0
  · go_wp2_with fail
    all_goals (go_ret; exact ⟨ret_bool (by simp [mayJ, HTE.out, whole0, *]), HB.out⟩)
  · have hkp : k > 5 := by omega
    go_wp2_with fail
    all_goals (go_ret; exact ⟨ret_bool (by simp [mayJ, HTE.out, whole0, *]), HB.out⟩)
end Go.Proofs.YthkpbgpgcpkiiaaGreatDoor
namespace Go.Proofs.YthkpbgpgcpkiiaaGreatDoor
open Go.RowKit
set_option linter.unusedVariables false
set_option linter.unusedSimpArgs false
set_option maxRecDepth 100000

def RChk (x : J) : Prop := ∀ (deep : Nat) (N I : Value) (w : World), deep ≤ 16 → RJ (fun b => b < w.heap.size) w x [.int .i64 x.kind, .int .i64 x.int, .string (ofL x.text), N, I] → wtJ x ≤ 1048576 →
  Calls Tryz.prog 28 #[.agg #[.int .i64 x.kind, .int .i64 x.int, .string (ofL x.text), N, I], .int .i64 deep] w fun e w' => e = .returned (.int .i64 (checkJ deep x : Nat)) ∧ Below w.heap.size w w'
theorem checks_deep {k n : Int} {t : B} {ns : List B} {is : List J} {d : Nat} (hb : blankJ (.mk k n t ns is) = true) : checksJ (deeper k d) is = checksJ (d + 1) is := by
  rcases blank_kinds hb with ⟨_, _, _, _, h⟩ | ⟨_, _, _, _, h⟩ | ⟨_, _, _, h⟩ | ⟨_, _, _, h, _⟩ | ⟨h, _⟩ | ⟨h, _⟩
  · rw [h, checksJ, checksJ]
  · rw [h, checksJ, checksJ]
  · rw [h, checksJ, checksJ]
  · rw [h, checksJ, checksJ]
  · rw [h]; rfl
  · rw [h]; rfl
set_option maxHeartbeats 16000000 in
theorem rchk_step (k n : Int) (t : B) (ns : List B) (is : List J) (ih : ∀ x ∈ is, RChk x) : RChk (.mk k n t ns is) := by
  intro deep N I w hdp hR hwt
  simp only [J.kind, J.int, J.text] at hR ⊢
  have hbl := may_any k n (ofL t) ns is N I
  rw [toL_ofL, may_blank] at hbl
  rw [RJ] at hR
  obtain ⟨N', I', e, hN, xs, hI, hxs⟩ := hR
  have e1 : N = N' ∧ I = I' := by simp at e; exact e
  obtain ⟨rfl, rfl⟩ := e1
  clear e
  obtain ⟨A1, c1, rfl⟩ := hN.shape
  obtain ⟨A2, c2, rfl⟩ := hI.shape
  have hws : ∀ x ∈ is, wtJ x ≤ 1048576 := fun x hx => by rw [wtJ] at hwt; have := wts_mem hx; omega
  have hil : is.length ≤ 1048576 := by rw [wtJ] at hwt; have := wts_len is; omega
  have hnl : ns.length ≤ 1048576 := by rw [wtJ] at hwt; omega
  have hsl : ∀ s ∈ ns, s.length ≤ 1048576 := fun s hs => by rw [wtJ] at hwt; have := sum_mem hs; omega
  have KB := Lib.hid (fun (w' : World) (hb : Below w.heap.size w w') => hbl w' (by
    rw [RJ]
    refine ⟨_, _, rfl, (hN.keep (below_keeps hb)).mono (by omega) (fun b h _ => Nat.lt_of_lt_of_le h hb.size), xs, (hI.keep (below_keeps hb)).mono (by omega) (fun b h _ => Nat.lt_of_lt_of_le h hb.size), ?_⟩
    exact RJs.mono (fun b h _ => Nat.lt_of_lt_of_le h hb.size) (RJs.keep (below_keeps hb) hxs)) hwt)
  obtain ⟨nn, hnn⟩ : ∃ nn, nn = ns.length := ⟨_, rfl⟩
  obtain ⟨nm, hnm⟩ : ∃ nm, nm = is.length := ⟨_, rfl⟩
  rw [← hnn] at hN KB hnl ⊢
  rw [← hnm] at hI KB hil ⊢
  have HNN := Lib.hid hnn
  have HNM := Lib.hid hnm
  have hb1 := (Below.refl w.heap.size w).alloc (Nat.le_refl _) (.cells #[.int .i64 k, .int .i64 n, .string (ofL t), .slice A1 nn c1, .slice A2 nm c2] 25)
  have hk1 : (w.alloc (.cells #[.int .i64 k, .int .i64 n, .string (ofL t), .slice A1 nn c1, .slice A2 nm c2] 25)).heap[w.heap.size]? = some (.cells #[.int .i64 k, .int .i64 n, .string (ofL t), .slice A1 nn c1, .slice A2 nm c2] 25 (0, 0)) := heap_alloc_new w _
  have HN := Lib.hid hN
  have HI := Lib.hid hI
  have HX := Lib.hid hxs
  have HW := Lib.hid hws
  have HSL := Lib.hid hsl
  clear hN hI hxs hnn hnm hbl hwt hws hsl
  go_enter Tryz.func28, Tryz.ntmps28
  go_upto_region 1 with fail
  generalize w.alloc (.cells #[.int .i64 k, .int .i64 n, .string (ofL t), .slice A1 nn c1, .slice A2 nm c2] 25) = w1 at *
  have d0 : w1.cell? ⟨w.heap.size, 0, none⟩ = some (.int .i64 k) := by rw [Lib.cell_of_heap hk1]; rfl
  have d1 : w1.cell? ⟨w.heap.size, 1, none⟩ = some (.int .i64 n) := by rw [Lib.cell_of_heap hk1]; rfl
  have d2 : w1.cell? ⟨w.heap.size, 2, none⟩ = some (.string (ofL t)) := by rw [Lib.cell_of_heap hk1]; rfl
  have d3 : w1.cell? ⟨w.heap.size, 3, none⟩ = some (.slice A1 nn c1) := by rw [Lib.cell_of_heap hk1]; rfl
  have d4 : w1.cell? ⟨w.heap.size, 4, none⟩ = some (.slice A2 nm c2) := by rw [Lib.cell_of_heap hk1]; rfl
  have hz1 : w.heap.size < w1.heap.size := (Array.getElem?_eq_some_iff.1 hk1).1
  have HB := Lib.hid hb1
  clear hb1 hk1
  obtain ⟨bt, hbt⟩ : ∃ bt, bt = decide ((k = 4 ∨ k = 5) ∧ 16 ≤ deep) := ⟨_, rfl⟩
  have hde : (16 < deeper k deep) ↔ bt = true := by
    rw [hbt, deeper, decide_eq_true_iff]
    split <;> rename_i h
    · simp [h]; omega
    · simp [h]; omega
  have HDe := Lib.hid hde
  have HBt := Lib.hid hbt
  clear hde hbt
  go_cut [21] (fun a wx => a = .bool bt ∧ w1 = wx)
  case first =>
    by_cases h4 : k = 4
    · by_cases h16 : 16 ≤ deep
      · have h16' : (deep : Int) ≥ 16 := by omega
        have e : bt = true := by rw [HBt.out]; simp [h16, h4]
        subst h4
        go_wp2_with fail
        go_meet
        exact ⟨by simp [e], rfl⟩
      · have h16' : ¬ (deep : Int) ≥ 16 := by omega
        have e : bt = false := by rw [HBt.out]; simp [h16]
        subst h4
        go_wp2_with fail
        go_meet
        exact ⟨by simp [e], rfl⟩
    · by_cases h5 : k = 5
      · by_cases h16 : 16 ≤ deep
        · have h16' : (deep : Int) ≥ 16 := by omega
          have e : bt = true := by rw [HBt.out]; simp [h16, h5]
          subst h5
          go_wp2_with fail
          go_meet
          exact ⟨by simp [e], rfl⟩
        · have h16' : ¬ (deep : Int) ≥ 16 := by omega
          have e : bt = false := by rw [HBt.out]; simp [h16]
          subst h5
          go_wp2_with fail
          go_meet
          exact ⟨by simp [e], rfl⟩
      · by_cases h16 : 16 ≤ deep
        · have h16' : (deep : Int) ≥ 16 := by omega
          have e : bt = false := by rw [HBt.out]; simp [h16, h4, h5]
          go_wp2_with fail
          go_meet
          exact ⟨by simp [e, h4, h5], rfl⟩
        · have h16' : ¬ (deep : Int) ≥ 16 := by omega
          have e : bt = false := by rw [HBt.out]; simp [h16]
          go_wp2_with fail
          go_meet
          exact ⟨by simp [e, h4, h5], rfl⟩
  case rest =>
      obtain ⟨rfl, rfl⟩ := hcut
      by_cases hbt : bt = true
      · have hc : checkJ deep (.mk k n t ns is) = 41 := by rw [checkJ, if_pos (HDe.out.2 hbt)]
        have Hc := Lib.hid hc
        clear hc
        subst hbt
        go_wp2_with fail
        go_ret
        exact ⟨by rw [Hc.out]; rfl, HB.out⟩
      have h16 : ¬ 16 < deeper k deep := fun h => hbt (HDe.out.1 h)
      have hbf : bt = false := by simpa using hbt
      subst hbf
      have H16 := Lib.hid h16
      clear hbt h16
      cases hbl : blankJ (.mk k n t ns is) with
      | false =>
        have hc : checkJ deep (.mk k n t ns is) = 1 := by rw [checkJ, if_neg H16.out, if_pos hbl]
        rw [hbl] at KB
        go_wp2_with fail
        (with_reducible refine (KB.out _ HB.out).mono ?_); rintro e w2 ⟨rfl, hb2⟩
        have HB2 := Lib.hid (HB.out.next hb2)
        clear hb2 KB
        go_wp2_with fail
        go_ret
        exact ⟨by rw [hc]; rfl, HB2.out⟩
      | true =>
        rw [hbl] at KB
        go_wp2_with fail
        (with_reducible refine (KB.out _ HB.out).mono ?_); rintro e w2 ⟨rfl, hb2⟩
        have HB2 := Lib.hid (HB.out.next hb2)
        have e3 := Below.keeps hb2 d3
        have e4 := Below.keeps hb2 d4
        have hz2 := hb2.size
        have HBl := Lib.hid hbl
        have d3 := e3
        have d4 := e4
        clear hb2 KB d0 d1 d2 hbl e3 e4
        go_upto_region 6 with fail
        go_loopw [28] (fun i wr => ∃ m : Nat, m ≤ nn ∧ i = .int .i64 m ∧ Hid ((ns.take m).Nodup) ∧ Hid (Below w2.heap.size w2 wr)) (fun i _ => nn - (intOf i).toNat)
        case atStart => exact ⟨0, Nat.zero_le _, rfl, .nil, Below.refl _ _⟩
        case round =>
          obtain ⟨m, hm, rfl, hD, hBr⟩ := hrel
          have d3 := Below.keeps hBr.out d3
          have d4 := Below.keeps hBr.out d4
          have hBw := HB2.out.next hBr.out
          by_cases hlt : m < nn
          · have hlt' : (m : Int) < (nn : Int) := by omega
            obtain ⟨s, hs⟩ : ∃ s, ns[m]? = some s := ⟨_, List.getElem?_eq_getElem (by rw [← HNN.out]; exact hlt)⟩
            have htk : ns.take (m + 1) = ns.take m ++ [s] := by rw [List.take_add_one, hs]; rfl
            obtain ⟨bn, on, rfl, hbn, hcm⟩ := (show RdP (fun b => b < w.heap.size) wr 1 (.slice A1 nn c1) ns.length (strs ns) by have := HN.out.keep (below_keeps hBw); rw [HNN.out] at this ⊢; exact this).strAt hs
            obtain ⟨wo, hwo⟩ : ∃ x, x = wr := ⟨_, rfl⟩
            subst hwo
            have HBo := Lib.hid hBr.out
            have HBw := Lib.hid hBw
            have Htk := Lib.hid htk
            have HD := Lib.hid hD.out
            have Hs := Lib.hid hs
            clear hBr hBw htk hD hs hbn
            go_upto_region 9 with fail
            go_loopw [32] (fun i wr => ∃ q : Nat, q ≤ m ∧ i = .int .i64 q ∧ Hid (∀ u ∈ ns.take q, ¬ s = u) ∧ Hid (Below wo.heap.size wo wr)) (fun i _ => m - (intOf i).toNat)
            case atStart => exact ⟨0, Nat.zero_le _, rfl, fun u hu => by simp at hu, Below.refl _ _⟩
            case round =>
              obtain ⟨q, hq, rfl, hne, hBq⟩ := hrel
              have d3 := Below.keeps hBq.out d3
              have d4 := Below.keeps hBq.out d4
              have hcm := Below.keeps hBq.out hcm
              by_cases hql : q < m
              · have hql' : (q : Int) < (m : Int) := by omega
                obtain ⟨u, hu⟩ : ∃ u, ns[q]? = some u := ⟨_, List.getElem?_eq_getElem (by rw [← HNN.out]; omega)⟩
                have htq : ns.take (q + 1) = ns.take q ++ [u] := by rw [List.take_add_one, hu]; rfl
                obtain ⟨bn', on', e1, _, hcq⟩ := (show RdP (fun b => b < w.heap.size) wr 1 (.slice (some ⟨bn, on, none⟩) nn c1) ns.length (strs ns) by have := HN.out.keep (below_keeps (HBw.out.next hBq.out)); rw [HNN.out] at this ⊢; exact this).strAt hu
                simp only [Option.some.injEq, Addr.mk.injEq, and_true] at e1
                obtain ⟨rfl, rfl⟩ := e1
                have hqn : (q : Int) < (nn : Int) := by omega
                have y1 : (0 : Int) ≤ (q : Int) := by omega
                have y2 : (0 : Int) ≤ (m : Int) := by omega
                have y3 : ((q : Int)).toNat = q := by omega
                have y4 : ((m : Int)).toNat = m := by omega
                have HBq := Lib.hid hBq.out
                have Hne := Lib.hid hne.out
                have Htq := Lib.hid htq
                have Hu := Lib.hid hu
                clear hu htq hBq hne
                by_cases hsu : s = u
                · have hc : checkJ deep (.mk k n t ns is) = 43 := by
                    rw [checkJ, if_neg H16.out, if_neg (by rw [HBl.out]; decide), if_pos]
                    cases h2 : twiceL ns with
                    | true => rfl
                    | false =>
                      have hnd := (twice_nodup.1 h2).sublist (List.take_sublist (m + 1) ns)
                      rw [Htk.out, List.nodup_append] at hnd
                      have hmem : u ∈ ns.take m := List.mem_of_getElem? (i := q) (by rw [List.getElem?_take, if_pos hql]; exact Hu.out)
                      exact absurd hsu.symm (hnd.2.2 u hmem s (by simp))
                  have Hc := Lib.hid hc
                  have hub : ((ofL s).toList == (ofL u).toList) = true := by rw [hsu]; exact beq_self_eq_true _
                  clear hc
                  go_upto_region 11 with fail
                  go_quiet (fail)
                  have hbn := below_drewN wr.heap.size wr nq
                  have HBz := Lib.hid ((HBw.out.next HBq.out).next hbn)
                  generalize wr.drewN nq = wz at *
                  go_wp2_with fail
                  go_ret
                  exact ⟨by rw [Hc.out]; rfl, HBz.out⟩
                · have hub : ((ofL s).toList == (ofL u).toList) = false := by rw [beq_eq_false_iff_ne, toL_ofL, toL_ofL]; exact hsu
                  have hne2 : ∀ v ∈ ns.take (q + 1), ¬ s = v := fun v hv => by
                    rw [Htq.out] at hv
                    rcases List.mem_append.1 hv with h | h
                    · exact Hne.out v h
                    · rw [List.mem_singleton.1 h]; exact hsu
                  have Hne2 := Lib.hid hne2
                  clear hne2 hsu
                  go_upto_region 11 with fail
                  go_quiet (fail)
                  have hbn := below_drewN wr.heap.size wr nq
                  have HBz := Lib.hid (HBq.out.next hbn)
                  generalize wr.drewN nq = wz at *
                  go_wp2_with fail
                  exact ⟨⟨q + 1, by omega, by go_num, Hne2.out, HBz.out⟩, by simp [intOf]; omega⟩
              · have hqm : q = m := by omega
                have hnd : (ns.take (m + 1)).Nodup := by
                  rw [Htk.out, List.nodup_append]
                  refine ⟨HD.out, by simp, fun a ha b hb e => ?_⟩
                  rw [List.mem_singleton] at hb
                  subst hb
                  subst e
                  exact hne.out _ (by rw [hqm]; exact ha) rfl
                have Hnd := Lib.hid hnd
                have HBz := Lib.hid (HBo.out.next hBq.out)
                have hql' : ¬ (q : Int) < (m : Int) := by omega
                clear hnd hne hBq hqm
                go_wp2_with fail
                exact ⟨⟨m + 1, by omega, by go_num, Hnd.out, HBz.out⟩, by simp [intOf]; omega⟩
          · have hnd : ns.Nodup := by have := hD.out; rw [List.take_of_length_le (by rw [← HNN.out]; omega)] at this; exact this
            have hcc : checkJ deep (.mk k n t ns is) = checksJ (deep + 1) is := by
              rw [checkJ, if_neg H16.out, if_neg (by rw [HBl.out]; decide), if_neg (by rw [twice_nodup.2 hnd]; decide), checks_deep HBl.out]
            have Hcc := Lib.hid hcc
            have HBr := Lib.hid hBw
            have hzr : w.heap.size ≤ wr.heap.size := HBr.out.size
            have hdl : is = [] ∨ deep + 1 ≤ 16 := by
              have h := H16.out
              unfold deeper at h
              rcases blank_kinds HBl.out with ⟨_, _, _, _, h⟩ | ⟨_, _, _, _, h⟩ | ⟨_, _, _, h⟩ | ⟨_, _, _, h, _⟩ | ⟨h', _⟩ | ⟨h', _⟩
              · exact .inl h
              · exact .inl h
              · exact .inl h
              · exact .inl h
              · rw [if_pos (.inl h')] at h; right; omega
              · rw [if_pos (.inr h')] at h; right; omega
            have HDl := Lib.hid hdl
            obtain ⟨d, hd⟩ : ∃ d, d = deep + 1 := ⟨_, rfl⟩
            rw [← hd] at Hcc HDl
            have hd1 : d ≤ 17 := by omega
            clear hnd hcc hdl hD hBr hBw
            obtain ⟨wo, hwo⟩ : ∃ x, x = wr := ⟨_, rfl⟩
            subst hwo
            go_upto_region 16 with fail
            go_loopw [51] (fun i wx => ∃ m : Nat, m ≤ nm ∧ i = .int .i64 m ∧ Hid (checksJ d (is.drop m) = checksJ d is) ∧ Hid (Below wo.heap.size wo wx)) (fun i _ => nm - (intOf i).toNat)
            case atStart => exact ⟨0, Nat.zero_le _, rfl, rfl, Below.refl _ _⟩
            case round =>
              obtain ⟨m, hm, rfl, hC, hB⟩ := hrel
              have HBx := Lib.hid (HBr.out.trans (hB.out.mono hzr))
              by_cases hlt : m < nm
              · have hlt' : m < is.length := by rw [← HNM.out]; exact hlt
                obtain ⟨x, hx⟩ : ∃ x, is[m]? = some x := ⟨_, List.getElem?_eq_getElem hlt'⟩
                have hxm : x ∈ is := List.mem_of_getElem? hx
                have hdr : is.drop m = x :: is.drop (m + 1) := by rw [List.drop_eq_getElem_cons hlt']; rw [List.getElem?_eq_getElem hlt'] at hx; cases hx; rfl
                have hkp : ∀ (q o : Nat) (u : Value), q < w.heap.size → w.cell? ⟨q, o, none⟩ = some u → wr.cell? ⟨q, o, none⟩ = some u := below_keeps HBx.out
                obtain ⟨ba, oa, ca, Nx, Qx, eI, hPa, hRx, e0, e1, e2, e3, e4⟩ := (show RdP (fun b => b < w.heap.size) wr 5 (.slice A2 nm c2) is.length xs by have := HI.out.keep hkp; rw [HNM.out] at this ⊢; exact this).jsonAt (RJs.keep hkp HX.out) hx
                simp only [Value.slice.injEq] at eI
                obtain ⟨rfl, hjunk, rfl⟩ := eI
                clear hjunk hkp
                have hcs : checksJ d is = if checkJ d x = 0 then checksJ d (is.drop (m + 1)) else checkJ d x := by rw [← hC.out, hdr, checksJ]
                have Hcs := Lib.hid hcs
                clear hcs hdr hx hlt'
                have hJ := hRx
                obtain ⟨xk, xn, xt, xns, xis⟩ := x
                rw [RJ] at hJ
                obtain ⟨_, _, ex, r1, _, r2, _⟩ := hJ
                have ex1 := ex
                simp only [List.cons.injEq] at ex1
                obtain ⟨_, _, _, rfl, rfl, _⟩ := ex1
                obtain ⟨A5, c5, rfl⟩ := r1.shape
                obtain ⟨A6, c6, rfl⟩ := r2.shape
                clear ex r1 r2
                simp only [J.kind, J.int, J.text] at e0 e1 e2 hRx
                have hb3 := (Below.refl wr.heap.size wr).alloc (Nat.le_refl _) (.cells #[.int .i64 xk, .int .i64 xn, .string (ofL xt), .slice A5 xns.length c5, .slice A6 xis.length c6] 25)
                have hk3 : (wr.alloc (.cells #[.int .i64 xk, .int .i64 xn, .string (ofL xt), .slice A5 xns.length c5, .slice A6 xis.length c6] 25)).heap[wr.heap.size]? = some (.cells #[.int .i64 xk, .int .i64 xn, .string (ofL xt), .slice A5 xns.length c5, .slice A6 xis.length c6] 25 (0, 0)) := heap_alloc_new wr _
                have HRx := Lib.hid hRx
                clear hRx
                go_upto_region 18 with fail
                generalize wr.alloc (.cells #[.int .i64 xk, .int .i64 xn, .string (ofL xt), .slice A5 xns.length c5, .slice A6 xis.length c6] 25) = w5 at *
                have f0 : w5.cell? ⟨wr.heap.size, 0, none⟩ = some (.int .i64 xk) := by rw [Lib.cell_of_heap hk3]; rfl
                have f1 : w5.cell? ⟨wr.heap.size, 1, none⟩ = some (.int .i64 xn) := by rw [Lib.cell_of_heap hk3]; rfl
                have f2 : w5.cell? ⟨wr.heap.size, 2, none⟩ = some (.string (ofL xt)) := by rw [Lib.cell_of_heap hk3]; rfl
                have f3 : w5.cell? ⟨wr.heap.size, 3, none⟩ = some (.slice A5 xns.length c5) := by rw [Lib.cell_of_heap hk3]; rfl
                have f4 : w5.cell? ⟨wr.heap.size, 4, none⟩ = some (.slice A6 xis.length c6) := by rw [Lib.cell_of_heap hk3]; rfl
                have hzx := HBx.out.size
                have hdd : d ≤ 16 := by
                  rcases HDl.out with h | h
                  · rw [h] at hxm; cases hxm
                  · exact h
                have K := ih _ hxm d _ _ w5 hdd (RJ.mono (Q := fun b => b < w5.heap.size) (fun b h _ => by have := hb3.size; have h' : b < w.heap.size := h; show b < w5.heap.size; omega) _ _ (HRx.out.below hb3)) (HW.out _ hxm)
                simp only [J.kind, J.int, J.text] at K
                have hdi : (d : Int) = (deep : Int) + 1 := by omega
                rw [hdi] at K
                clear hdi
                have HB5 := Lib.hid (hB.out.next hb3)
                have HB6 := Lib.hid (HBx.out.next hb3)
                clear hb3 hk3 e0 e1 e2 e3 e4
                generalize checkJ d (.mk xk xn xt xns xis) = cd at *
                have K := Lib.hid K
                by_cases hz : cd = 0
                · have hrest : checksJ d (is.drop (m + 1)) = checksJ d is := by have := Hcs.out; rw [if_pos hz] at this; exact this.symm
                  have Hrest := Lib.hid hrest
                  clear hrest Hcs
                  subst hz
                  go_wp2_with fail
                  (with_reducible refine K.out.mono ?_); rintro e w6 ⟨rfl, hb6⟩
                  have HB7 := Lib.hid (HB5.out.next hb6)
                  clear hb6 K
                  go_wp2_with fail
                  exact ⟨⟨m + 1, by omega, by go_num, Hrest, HB7⟩, by simp [intOf]; omega⟩
                · have hzi : ¬ (cd : Int) = 0 := by omega
                  go_wp2_with fail
                  (with_reducible refine K.out.mono ?_); rintro e w6 ⟨rfl, hb6⟩
                  have HB7 := Lib.hid (HB6.out.next hb6)
                  clear hb6 K
                  go_wp2_with fail
                  go_ret
                  exact ⟨by rw [Hcc.out, Hcs.out, if_neg hz]; rfl, HB7.out⟩
              · have hz : checksJ d is = 0 := by rw [← hC.out, List.drop_eq_nil_of_le (by rw [← HNM.out]; omega), checksJ]
                have Hz := Lib.hid hz
                clear hz
                go_wp2_with fail
                go_ret
                exact ⟨by rw [Hcc.out, Hz.out]; rfl, HBx.out⟩
theorem rcheck_any (x : J) : RChk x := J.ind (P := RChk) (fun k n t ns is ih => rchk_step k n t ns is ih) x
set_option maxHeartbeats 2000000 in
theorem RCheck_any (x : J) (N I : Value) (w : World) (hR : RJ (fun b => b < w.heap.size) w x [.int .i64 x.kind, .int .i64 x.int, .string (ofL x.text), N, I]) (hwt : wtJ x ≤ 1048576) :
    Calls Tryz.prog 16 #[.agg #[.int .i64 x.kind, .int .i64 x.int, .string (ofL x.text), N, I]] w fun e w' => e = .returned (.int .i64 (checkJ 0 x : Nat)) ∧ Below w.heap.size w w' := by
  obtain ⟨⟨A1, m1, c1, rfl⟩, A2, m2, c2, rfl⟩ := rj_slices hR
  have hb := (Below.refl w.heap.size w).alloc (Nat.le_refl _) (.cells #[.int .i64 x.kind, .int .i64 x.int, .string (ofL x.text), .slice A1 m1 c1, .slice A2 m2 c2] 25)
  have hk : (w.alloc (.cells #[.int .i64 x.kind, .int .i64 x.int, .string (ofL x.text), .slice A1 m1 c1, .slice A2 m2 c2] 25)).heap[w.heap.size]? = some (.cells #[.int .i64 x.kind, .int .i64 x.int, .string (ofL x.text), .slice A1 m1 c1, .slice A2 m2 c2] 25 (0, 0)) := heap_alloc_new w _
  have K := (fun (w1 : World) (hb : Below w.heap.size w w1) => rcheck_any x 0 _ _ w1 (by omega) (RJ.mono (Q := fun b => b < w1.heap.size) (fun b h _ => Nat.lt_of_lt_of_le h hb.size) _ _ (hR.below hb)) hwt)
  have e0 : ((0 : Nat) : Int) = 0 := rfl
  rw [e0] at K
  have K := Lib.hid K
  clear hR e0
  generalize x.kind = xk at *
  generalize x.int = xn at *
  generalize x.text = xt at *
  generalize checkJ 0 x = cd at *
  go_enter Tryz.func16, Tryz.ntmps16
  go_upto_region 1 with fail
  generalize w.alloc (.cells #[.int .i64 xk, .int .i64 xn, .string (ofL xt), .slice A1 m1 c1, .slice A2 m2 c2] 25) = w1 at *
  obtain ⟨d0, d1, d2, d3, d4, hz1⟩ := box5 hk
  have HB := Lib.hid hb
  have K := Lib.hid (K.out _ hb)
  clear hb hk
  go_wp2_with fail
  (with_reducible refine K.out.mono ?_); rintro e w2 ⟨rfl, hb2⟩
  have HB2 := Lib.hid (HB.out.next hb2)
  clear hb2 K
  go_wp2_with fail
  go_ret
  exact ⟨rfl, HB2.out⟩
end Go.Proofs.YthkpbgpgcpkiiaaGreatDoor
namespace Go.Proofs.YthkpbgpgcpkiiaaGreatDoor
open Go.RowKit
set_option linter.unusedVariables false
set_option linter.unusedSimpArgs false
set_option maxRecDepth 100000

theorem dec_lenZ : ∀ n k, n < 10 ^ (k + 1) → (Lib.decDigits n).length ≤ k + 1 := by
  intro n
  induction n using Nat.strongRecOn with
  | _ n ih =>
    intro k hk
    rw [Lib.decDigits]
    by_cases h : n < 10
    · rw [dif_pos h]; simp
    · rw [dif_neg h]
      cases k with
      | zero => omega
      | succ k =>
        have := ih (n / 10) (by omega) k (by rw [Nat.pow_succ] at hk; omega)
        rw [List.length_append, List.length_singleton]; omega
/-- What stands ahead of the digits that are written. -/
def aheadZ (m : Nat) : B := if m = 0 then [] else Lib.decDigits m
theorem aheadZ_step {m : Nat} (h : 0 < m) : aheadZ m = aheadZ (m / 10) ++ [UInt8.ofNat (48 + m % 10)] := by
  unfold aheadZ
  rw [if_neg (by omega), Lib.decDigits]
  by_cases h10 : m < 10
  · rw [dif_pos h10, if_pos (by omega)]
    have : m % 10 = m := Nat.mod_eq_of_lt h10
    rw [this]; rfl
  · rw [dif_neg h10, if_neg (by omega)]
theorem tmod_abs (z : Int) : (z.tmod 10).natAbs = z.natAbs % 10 := by rw [Int.natAbs_tmod]; rfl
theorem tdiv_abs (z : Int) : (z.tdiv 10).natAbs = z.natAbs / 10 := by rw [Int.natAbs_tdiv]; rfl
set_option maxHeartbeats 4000000 in
theorem rdigits_any (n : Int) (h1 : -9223372036854775808 ≤ n) (h2 : n ≤ 9223372036854775807) (w : World) :
    Calls Tryz.prog 37 #[.int .i64 n] w fun e w' => e = .returned (.string (ofL (Lib.itoa n))) ∧ Below w.heap.size w w' := by
  by_cases h0 : n = 0
  · subst h0
    have HZ := Lib.hid (show Lib.itoa 0 = [48] by unfold Lib.itoa; rw [if_neg (by decide), show (0 : Int).toNat = 0 from rfl, Lib.decDigits]; rfl)
    go_enter Tryz.func37, Tryz.ntmps37
    go_wp2_with fail
    go_ret
    exact ⟨by rw [HZ.out]; rfl, Below.refl _ _⟩
  have HL := Lib.hid (dec_lenZ n.natAbs 18 (by omega))
  obtain ⟨sg, hsg⟩ : ∃ sg, sg = decide (n < 0) := ⟨_, rfl⟩
  have HSg := Lib.hid hsg
  have HIt := Lib.hid (show sg = true → Lib.itoa n = 45 :: Lib.decDigits n.natAbs from fun h => by
    rw [hsg] at h
    unfold Lib.itoa
    rw [if_pos (of_decide_eq_true h)])
  have HIf := Lib.hid (show sg = false → Lib.itoa n = Lib.decDigits n.natAbs from fun h => by
    rw [hsg] at h
    unfold Lib.itoa
    have h9 := of_decide_eq_false h
    rw [if_neg h9, show n.toNat = n.natAbs by omega])
  have hb0 : (n == 0) = false := by simpa using h0
  go_enter Tryz.func37, Tryz.ntmps37
  go_upto_region 4 with fail
  rw [← hsg]
  clear hsg hb0
  go_loopw [0, 3] (fun i o wr => ∃ (z : Int) (q : B), -9223372036854775808 ≤ z ∧ z ≤ 9223372036854775807 ∧ i = .int .i64 z ∧ o = .string (ofL q) ∧ Hid (Lib.decDigits n.natAbs = aheadZ z.natAbs ++ q) ∧ Hid (Below w.heap.size w wr)) (fun i _ _ => (intOf i).natAbs)
  case atStart => exact ⟨n, [], h1, h2, rfl, rfl, (show _ = _ by unfold aheadZ; rw [if_neg (by omega), List.append_nil]), Below.refl _ _⟩
  case round =>
    obtain ⟨z, q, hz1, hz2, rfl, rfl, He, Hb⟩ := hrel
    by_cases hm0 : z = 0
    · subst hm0
      have hb := Hb.out
      have HE := Lib.hid (show Lib.decDigits n.natAbs = q from He.out)
      have hq : q.length ≤ 19 := by have := HL.out; rw [HE.out] at this; exact this
      have hz1 : (ofL q).size ≤ 19 := by rw [size_ofL]; exact hq
      clear Hb He
      cases sg with
      | true =>
        have HI := Lib.hid (HIt.out rfl)
        clear HIt HIf
        go_wp2_with fail
        go_ret
        exact ⟨by rw [HI.out, HE.out]; exact congrArg (fun b => Ending.returned (.string b)) (show _ = ofL (45 :: q) by rw [show (45 :: q) = [45] ++ q from rfl, ofL_append]; rfl), hb⟩
      | false =>
        have HI := Lib.hid (HIf.out rfl)
        clear HIt HIf
        go_wp2_with fail
        go_ret
        exact ⟨by rw [HI.out, HE.out]; rfl, hb⟩
    · have g1 : (z != 0) = true := by simp; omega
      have g2 : ¬ z = 0 := hm0
      have hq : q.length ≤ 19 := by have := HL.out; rw [He.out, List.length_append] at this; omega
      have hzq : (ofL q).size ≤ 19 := by rw [size_ofL]; exact hq
      have HS := Lib.hid (aheadZ_step (m := z.natAbs) (by omega))
      obtain ⟨dd, hdd⟩ : ∃ dd, dd = z.tmod 10 := ⟨_, rfl⟩
      obtain ⟨z', hz'⟩ : ∃ z', z' = z.tdiv 10 := ⟨_, rfl⟩
      have hda := tmod_abs z
      have hza := tdiv_abs z
      rw [← hdd] at hda
      rw [← hz'] at hza
      obtain ⟨m, hm⟩ : ∃ m, m = z.natAbs := ⟨_, rfl⟩
      rw [← hm] at hda hza HS He
      have hm1 : m ≤ 9223372036854775808 := by omega
      have hm2 : 0 < m := by omega
      have HM := Lib.hid hm
      have HZA := Lib.hid hza
      have hzb : -9223372036854775808 ≤ z' ∧ z' ≤ 9223372036854775807 := by omega
      obtain ⟨r, hr⟩ : ∃ r, r = m % 10 := ⟨_, rfl⟩
      rw [← hr] at hda HS
      have hr10 : r < 10 := by omega
      have hmod : z.tmod 10 = dd := hdd.symm
      have hdiv : z.tdiv 10 = z' := hz'.symm
      clear hm hza hdd hz' hr g2
      obtain ⟨hzb1, hzb2⟩ := hzb
      have e10 : (48 + (r : Int)).toNat = 48 + r := by omega
      have kc : ∀ wx : World, (convert 46 9 (.slice (some ⟨wx.heap.size, 0, none⟩) 1 1)).run Tryz.prog (wx.alloc (.cells #[.int .u8 (48 + (r : Int))] 5)) = .ok (.string (ofL [UInt8.ofNat (48 + r)])) (wx.alloc (.cells #[.int .u8 (48 + (r : Int))] 5)) := fun wx => by
        have := conv_int (P := Tryz.prog) 46 9 5 Tryz.underlying46 Tryz.underlying5 Tryz.underlying9 (48 + (r : Int)) (by omega) (by omega) wx
        rwa [e10] at this
      generalize hc : UInt8.ofNat (48 + r) = c at *
      have hzc : (ofL [c]).size ≤ 1 := by rw [size_ofL]; simp
      clear e10 hc
      have hb2 := Hb.out.alloc Hb.out.size (.cells #[.int .u8 (48 + (r : Int))] 5)
      have HB2 := Lib.hid hb2
      clear hb2
      go_upto_if 15 with fail
      go_cut [5] (fun a wx => a = .int .i64 r ∧ wr = wx)
      case first =>
        by_cases hd0 : dd < 0
        · have hdr : -dd = (r : Int) := by omega
          have hdw : IntKind.i64.wrap (-dd) = (r : Int) := by rw [hdr]; exact IntWalk.i64_in _ (by omega)
          go_wp2_with fail
          go_meet
          exact ⟨rfl, rfl⟩
        · have hdr : dd = (r : Int) := by omega
          go_wp2_with fail
          go_meet
          exact ⟨rfl, rfl⟩
      case rest =>
        obtain ⟨rfl, rfl⟩ := hcut
        have hwz : IntKind.i64.wrap z' = z' := IntWalk.i64_in _ (by omega)
        go_wp2_with fail
        go_roundw
        case rel => exact ⟨z', c :: q, hzb1, hzb2, rfl, (show Value.string _ = Value.string _ by rw [← ofL_append]; rfl), (show _ = _ by rw [He.out, HS.out, HZA.out, List.append_assoc]; rfl), HB2.out⟩
        case measure => simp only [intOf]; rw [HZA.out, ← HM.out]; omega
end Go.Proofs.YthkpbgpgcpkiiaaGreatDoor
namespace Go.Proofs.YthkpbgpgcpkiiaaGreatDoor
open Go.RowKit
set_option linter.unusedVariables false
set_option linter.unusedSimpArgs false
set_option maxRecDepth 100000

theorem wpList_newB {P : Program} (w0 : World) {ops : Array Oper} {rest : List Oper} {o : Oper} {a : Act} {Q : Exit → Act → World → Prop} (hgd : o.guard = none) (sl x : Operand) (t : TypeId)
    (ho : o.op = .call { callee := .builtin .append, args := #[sl, x], argTypes := #[t, t] })
    (base : Nat) (hrow : Row P t 5 (.int .u8 0) 1 1)
    (v : Value) (l : B) (hs : a.eval sl = v) (hown : OwnB w0 base v l) (m : B) (g n : Nat) (hx : a.eval x = .slice (some ⟨g, 0, none⟩) n n) (hg : g = w0.heap.size) (hn : n = m.length)
    (hbytes : l.length + m.length ≤ 140737488355328) (hbase : base ≤ w0.heap.size)
    (h : ∀ v' w', OwnB w' base v' (l ++ m) → Touch (fun k => v.ownBlock = some k) w0 w' → Below base w0 w' → wpList P ops Q rest (a.put o.dst v') w') :
    wpList P ops Q (o :: rest) a (w0.alloc (.cells (bytesV m).toArray 5)) := by
  obtain ⟨ht, ⟨i, hi, hz, hsize, hby⟩, hzs, hsz, hbz⟩ := hrow
  subst hg hn
  refine wpList_append_own _ hgd sl x t ho base 5 i _ 1 1 ht hi hz hsize hby hzs hsz v l.length (bytesV l) hs ((show w0.ownsRow _ _ _ _ _ _ from hown).alloc _) ⟨w0.heap.size, 0, none⟩ m.length m.length (bytesV m) hx (by rw [bytesV_len, Nat.mul_one]) cells_new (oneCell_bytes m)
    (by unfold maxLen; omega) (by omega) (by simp; omega) fun v' w' h2 h3 h4 => ?_
  refine h v' w' ?_ ((Touch.of_below ((Below.refl w0.heap.size w0).alloc (Nat.le_refl _) _)).grown h3 (fun k hk => hk)) (((Below.refl base w0).alloc hbase _).grown h3 (by simp; omega) fun k hk => ((show w0.ownsRow _ _ _ _ _ _ from hown).lt k hk).1)
  show w'.ownsRow _ _ _ _ _ _
  rw [List.length_append, bytesV_append]; exact h2
/-- The same, as one step of a region that draws its order. -/
theorem step_newB {P : Program} {w0 : World} {ops : Array Oper} {o : Oper} {a : Act} {K : Act → World → Prop} {Q : Exit → Act → World → Prop} {E : Prop} (hgd : o.guard = none) (sl x : Operand) (t : TypeId)
    (ho : o.op = .call { callee := .builtin .append, args := #[sl, x], argTypes := #[t, t] })
    (base : Nat) (hrow : Row P t 5 (.int .u8 0) 1 1)
    (v : Value) (l : B) (hs : a.eval sl = v) (hown : OwnB w0 base v l) (m : B) (g n : Nat) (hx : a.eval x = .slice (some ⟨g, 0, none⟩) n n) (hg : g = w0.heap.size) (hn : n = m.length)
    (hbytes : l.length + m.length ≤ 140737488355328) (hbase : base ≤ w0.heap.size)
    (h : ∀ v' w', OwnB w' base v' (l ++ m) → Below base w0 w' → K (a.put o.dst v') w') :
    if Region.wanted o (yielded ops a.tmps) = true then Oper.wp P o a (w0.alloc (.cells (bytesV m).toArray 5)) K Q else E := by
  have hw : Region.wanted o (yielded ops a.tmps) = true := by simp [Region.wanted, hgd]
  rw [if_pos hw]
  obtain ⟨ht, ⟨i, hi, hz, hsize, hby⟩, hzs, hsz, hbz⟩ := hrow
  subst hg hn
  refine wp_append_own _ sl x t ho base 5 i _ 1 1 ht hi hz hsize hby hzs hsz v l.length (bytesV l) hs ((show w0.ownsRow _ _ _ _ _ _ from hown).alloc _) ⟨w0.heap.size, 0, none⟩ m.length m.length (bytesV m) hx (by rw [bytesV_len, Nat.mul_one]) cells_new (oneCell_bytes m)
    (by unfold maxLen; omega) (by omega) (by simp; omega) fun v' w' h2 h3 h4 => ?_
  refine h v' w' ?_ (((Below.refl base w0).alloc hbase _).grown h3 (by simp; omega) fun k hk => ((show w0.ownsRow _ _ _ _ _ _ from hown).lt k hk).1)
  show w'.ownsRow _ _ _ _ _ _
  rw [List.length_append, bytesV_append]; exact h2
theorem hexX (x : Nat) (h : x < (⟨#[48, 49, 50, 51, 52, 53, 54, 55, 56, 57, 97, 98, 99, 100, 101, 102]⟩ : ByteArray).size) : (⟨#[48, 49, 50, 51, 52, 53, 54, 55, 56, 57, 97, 98, 99, 100, 101, 102]⟩ : ByteArray)[x]'h = hexc x :=
  getI [48, 49, 50, 51, 52, 53, 54, 55, 56, 57, 97, 98, 99, 100, 101, 102] x h
set_option maxHeartbeats 8000000 in
theorem rquote_any (s : ByteArray) (w : World) (hs : s.size ≤ 1099511627776) :
    Calls Tryz.prog 38 #[.string s] w fun e w' => e = .returned (.string (ofL (quoteB s.toList))) ∧ Below w.heap.size w w' := by
  have hld := len_toL s
  have hO := World.ownsRow_lit (base := w.heap.size) (e := 5) (size := 1) w #[.int .u8 34] 1 (Nat.le_refl _) (by unfold maxLen; omega) (by simp)
  have hO1 : OwnB (w.alloc (.cells #[.int .u8 34] 5)) w.heap.size (.slice (some ⟨w.heap.size, 0, none⟩) 1 1) [34] := hO
  have hb1 := (Below.refl w.heap.size w).alloc (Nat.le_refl _) (.cells #[.int .u8 34] 5)
  clear hO
  go_enter Tryz.func38, Tryz.ntmps38
  go_upto_region 2 with fail
  generalize w.alloc (.cells #[.int .u8 34] 5) = w1 at *
  have HO1 := Lib.hid hO1
  have HB1 := Lib.hid hb1
  clear hO1 hb1
  go_upto_region 3 with fail
  go_loopw [3, 9] (fun o i wr => ∃ n : Nat, n ≤ s.size ∧ i = .int .i64 n ∧ OwnB wr w.heap.size o (34 :: (s.toList.take n).flatMap quoteC) ∧ (((s.toList.take n).flatMap quoteC).length ≤ 6 * n) ∧ Hid (Below w.heap.size w wr)) (fun _ i _ => s.size - (intOf i).toNat)
  case atStart => exact ⟨0, Nat.zero_le _, rfl, by simpa using HO1.out, by simp, HB1.out⟩
  case round =>
    obtain ⟨n, hn, rfl, hO, hq, hB⟩ := hrel
    obtain ⟨A, c0, rfl⟩ := (rd_of_own (show wr.ownsRow _ _ _ _ _ _ from hO)).shape
    have HO := Lib.hid hO
    have HB := Lib.hid hB.out
    have hzw := HB.out.size
    clear hO hB
    by_cases hlt : n < s.size
    · have hat : s.toList[n]? = some (s[n]'hlt) := get_eq s n hlt
      have Ht := Lib.hid (take_eq s n hlt)
      have hlt' : (n : Int) < (s.size : Int) := by omega
      go_upto_region 6 with fail
      generalize s[n]'hlt = c at *
      clear hat
      generalize hT : (s.toList.take n).flatMap quoteC = T at *
      have Hstep : Hid ((s.toList.take (n + 1)).flatMap quoteC = T ++ quoteC c) := by show _ = _; rw [Ht.out, List.flatMap_append, hT]; simp
      clear hT Ht
      obtain ⟨P, hP⟩ : ∃ P, P = 34 :: T := ⟨_, rfl⟩
      have hPl : P.length ≤ 6 * n + 1 := by rw [hP, List.length_cons]; omega
      rw [← hP] at HO ⊢
      have HPt := Lib.hid hP
      clear hP
      have hbase : w.heap.size ≤ wr.heap.size := hzw
      by_cases h32 : c < 32
      · have hc32 : c.toNat < 32 := UInt8.lt_iff_toNat_lt.1 h32
        have hqa : ((c.toNat : Int) == 34) = false ∧ ((c.toNat : Int) == 92) = false := by
          exact ⟨by rw [beq_eq_false_iff_ne]; omega, by rw [beq_eq_false_iff_ne]; omega⟩
        obtain ⟨q1, q2⟩ := hqa
        have q3 : (c.toNat : Int) < 32 := by omega
        have HQ := Lib.hid (show quoteC c = [92, 117, 48, 48, hexc (c.toNat / 16), hexc (c.toNat % 16)] by
          rw [quoteC, if_neg (by rintro (rfl | rfl); revert q1; decide; revert q2; decide), if_pos h32])
        clear h32
        go_upto_region 10 with (at_builtin; refine wpList_strB wr rfl (.tmp 27) (.const (.string ⟨#[92, 117, 48, 48]⟩)) 46 9 rfl w.heap.size rowB Tryz.underlying9 _ P rfl HO.out ⟨#[92, 117, 48, 48]⟩ rfl (by show P.length + 4 ≤ _; omega) hbase ?_; intro v5 w5 ho5 ht5 hb5)
        rw [show (⟨#[92, 117, 48, 48]⟩ : ByteArray).toList = [92, 117, 48, 48] from toL_ofL [92, 117, 48, 48]] at ho5
        have hbase5 : w.heap.size ≤ w5.heap.size := Nat.le_trans hbase hb5.size
        obtain ⟨A5, c5, rfl⟩ := (rd_of_own (show w5.ownsRow _ _ _ _ _ _ from ho5)).shape
        obtain ⟨P5, hP5⟩ : ∃ P5, P5 = P ++ [92, 117, 48, 48] := ⟨_, rfl⟩
        have hPl5 : P5.length ≤ 6 * n + 5 := by rw [hP5, List.length_append]; simp; omega
        rw [← hP5] at ho5 ⊢
        have HP5 := Lib.hid hP5
        have HB5 := Lib.hid (HB.out.trans hb5)
        have hd5 := (Below.refl w5.heap.size w5).drew
        have HO5 := Lib.hid (OwnB.below ho5 hd5)
        have hbase6 : w.heap.size ≤ w5.drew.heap.size := Nat.le_trans hbase5 hd5.size
        clear hP5 ho5 ht5 hb5
        obtain ⟨a, ha⟩ : ∃ a, a = c.toNat / 16 := ⟨_, rfl⟩
        obtain ⟨b, hb⟩ : ∃ b, b = c.toNat % 16 := ⟨_, rfl⟩
        have y1 : IntKind.u8.wrap ((c.toNat : Int) / 16) = (a : Int) := by rw [IntWalk.u8_in _ (by omega)]; omega
        have y2 : (c.toNat : Int) % 16 = (b : Int) := by omega
        have y9 : (c.toNat : Int).tmod 16 = (b : Int) := by rw [Int.tmod_eq_emod_of_nonneg (by omega)]; exact y2
        have y3 : (a : Int) < 16 := by omega
        have y4 : (b : Int) < 16 := by omega
        have y5 : a < 16 := by omega
        have y6 : b < 16 := by omega
        have y7 : (0 : Int) ≤ (a : Int) := by omega
        have y8 : (0 : Int) ≤ (b : Int) := by omega
        rw [← ha, ← hb] at HQ
        obtain ⟨xa, hxa⟩ : ∃ xa, xa = hexc a := ⟨_, rfl⟩
        obtain ⟨xb, hxb⟩ : ∃ xb, xb = hexc b := ⟨_, rfl⟩
        rw [← hxa, ← hxb] at HQ
        have hya : (⟨#[48, 49, 50, 51, 52, 53, 54, 55, 56, 57, 97, 98, 99, 100, 101, 102]⟩ : ByteArray)[a]'y5 = xa := by rw [hexX, hxa]
        have hyb : (⟨#[48, 49, 50, 51, 52, 53, 54, 55, 56, 57, 97, 98, 99, 100, 101, 102]⟩ : ByteArray)[b]'y6 = xb := by rw [hexX, hxb]
        clear ha hb hxa hxb
        have HB6 := Lib.hid (HB5.out.trans (hd5.mono hbase5))
        clear hd5
        go_region_held3 (fun w' => True) (trivial) (first | (refine step_newB (by rfl) _ _ _ (by rfl) w.heap.size rowB (.slice A5 P5.length c5) P5 (by rfl) HO5.out [xa, xb] _ _ (by rfl) rfl rfl (by simp; omega) hbase6 ?_; intro v7 w7 ho7 hb7))
        all_goals
          have HB7 := Lib.hid (HB6.out.trans hb7)
          have HO7 := Lib.hid ho7
          clear ho7 hb7
          go_wp2_with fail
          refine ⟨⟨n + 1, by omega, by go_num, ?_, ?_, HB7.out⟩, by simp [intOf]; omega⟩
          · rw [Hstep.out, HQ.out]
            have e : 34 :: (T ++ [92, 117, 48, 48, xa, xb]) = P5 ++ [xa, xb] := by rw [HP5.out, HPt.out]; simp
            rw [e]; exact HO7.out
          · rw [Hstep.out, HQ.out]; simp; omega
      · have q3 : ¬ (c.toNat : Int) < 32 := by
          intro h; apply h32; rw [UInt8.lt_iff_toNat_lt]; exact Int.ofNat_lt.1 h
        by_cases hsp : c = 34 ∨ c = 92
        · have HQ := Lib.hid (show quoteC c = [92, c] by rw [quoteC, if_pos hsp])
          have hq2 : ((c.toNat : Int) == 34) = true ∨ (((c.toNat : Int) == 34) = false ∧ ((c.toNat : Int) == 92) = true) := by
            rcases hsp with rfl | rfl
            · exact .inl rfl
            · exact .inr ⟨rfl, rfl⟩
          clear hsp h32
          rcases hq2 with q1 | ⟨q1, q2⟩
          all_goals
            go_wp2_with (at_builtin; refine wpList_newB wr (by rfl) (.tmp 21) (.tmp 23) 46 (by rfl) w.heap.size rowB (.slice A P.length c0) P (by rfl) HO.out [92, c] wr.heap.size 2 (by rfl) rfl rfl (by simp; omega) hbase ?_; intro v5 w5 ho5 ht5 hb5)
            have HB5 := Lib.hid (HB.out.trans hb5)
            refine ⟨⟨n + 1, by omega, by go_num, ?_, ?_, HB5.out⟩, by simp [intOf]; omega⟩
            · rw [Hstep.out, HQ.out]
              have e : 34 :: (T ++ [92, c]) = P ++ [92, c] := by rw [HPt.out]; rfl
              rw [e]; exact ho5
            · rw [Hstep.out, HQ.out]; simp; omega
        · have HQ := Lib.hid (show quoteC c = [c] by rw [quoteC, if_neg hsp, if_neg h32])
          have q1 : ((c.toNat : Int) == 34) = false := by rw [show (34 : Int) = ((34 : Nat) : Int) from rfl, u8_eq c 34 (by decide)]; simpa using fun e => hsp (.inl e)
          have q2 : ((c.toNat : Int) == 92) = false := by rw [show (92 : Int) = ((92 : Nat) : Int) from rfl, u8_eq c 92 (by decide)]; simpa using fun e => hsp (.inr e)
          clear hsp h32
          go_wp2_with (at_builtin; refine wpList_newB wr (by rfl) (.tmp 38) (.tmp 40) 46 (by rfl) w.heap.size rowB (.slice A P.length c0) P (by rfl) HO.out [c] wr.heap.size 1 (by rfl) rfl rfl (by simp; omega) hbase ?_; intro v5 w5 ho5 ht5 hb5)
          have HB5 := Lib.hid (HB.out.trans hb5)
          refine ⟨⟨n + 1, by omega, by go_num, ?_, ?_, HB5.out⟩, by simp [intOf]; omega⟩
          · rw [Hstep.out, HQ.out]
            have e : 34 :: (T ++ [c]) = P ++ [c] := by rw [HPt.out]; rfl
            rw [e]; exact ho5
          · rw [Hstep.out, HQ.out]; simp; omega
    · have hne : n = s.size := by omega
      have hlt' : ¬ (n : Int) < (s.size : Int) := by omega
      have hall : s.toList.take n = s.toList := List.take_of_length_le (by rw [hld]; omega)
      rw [hall] at HO hq ⊢
      obtain ⟨P, hP⟩ : ∃ P, P = 34 :: s.toList.flatMap quoteC := ⟨_, rfl⟩
      have hPl : P.length ≤ 6 * n + 1 := by rw [hP, List.length_cons]; omega
      rw [← hP] at HO ⊢
      have HPt := Lib.hid hP
      have hbase : w.heap.size ≤ wr.heap.size := hzw
      have HQt := Lib.hid (show quoteB s.toList = P ++ [34] by rw [hP]; rfl)
      clear hP hall hq
      go_wp2_with (at_builtin; refine wpList_newB wr (by rfl) (.tmp 43) (.tmp 44) 46 (by rfl) w.heap.size rowB (.slice A P.length c0) P (by rfl) HO.out [34] wr.heap.size 1 (by rfl) rfl rfl (by simp; omega) hbase ?_; intro v5 w5 ho5 ht5 hb5; obtain ⟨A5, c5, rfl⟩ := (rd_of_own (show w5.ownsRow _ _ _ _ _ _ from ho5)).shape; have hc5 := conv_rd (P := Tryz.prog) 46 9 5 Tryz.underlying46 Tryz.underlying5 Tryz.underlying9 (rd_of_own (show w5.ownsRow _ _ _ _ _ _ from ho5)); have HB5 := Lib.hid (HB.out.trans hb5); rw [← HQt.out] at hc5 ⊢)
      go_ret
      exact ⟨rfl, HB5.out⟩
end Go.Proofs.YthkpbgpgcpkiiaaGreatDoor
namespace Go.Proofs.YthkpbgpgcpkiiaaGreatDoor
open Go.RowKit
set_option linter.unusedVariables false
set_option linter.unusedSimpArgs false
set_option maxRecDepth 100000

theorem less_lt : ∀ a b : B, Op.bytesLess a b = ltB a b
  | [], [] => rfl
  | [], _ :: _ => rfl
  | _ :: _, [] => rfl
  | a :: x, b :: y => by
    rw [Op.bytesLess, ltB, less_lt x y]
    by_cases h1 : a < b
    · simp [h1]
    · by_cases h2 : b < a
      · have hne : ¬ a = b := fun e => by rw [e] at h2; exact absurd h2 (UInt8.lt_irrefl b)
        simp [h1, h2, hne]
      · have he : a = b := by
          rw [UInt8.lt_iff_toNat_lt] at h1 h2
          exact UInt8.toNat_inj.1 (by omega)
        simp [he]
theorem rowBool : Row Tryz.prog 73 4 (.bool false) 1 1 :=
  ⟨Tryz.underlying73, info_parts (by kernel_rfl), rfl, by decide, by decide⟩
def RTxt (x : J) : Prop := ∀ (deep : Nat) (N I : Value) (w : World), Can deep x → wtJ x ≤ 1048576 → RJ (fun b => b < w.heap.size) w x [.int .i64 x.kind, .int .i64 x.int, .string (ofL x.text), N, I] →
  Calls Tryz.prog 26 #[.agg #[.int .i64 x.kind, .int .i64 x.int, .string (ofL x.text), N, I]] w fun e w' => e = .returned (.string (ofL (textJ x))) ∧ Below w.heap.size w w'
set_option maxHeartbeats 16000000 in
theorem rtxt_step (k n : Int) (t : B) (ns : List B) (is : List J) (ih : ∀ x ∈ is, RTxt x) : RTxt (.mk k n t ns is) := by
  intro deep N I w hC hwt hR
  simp only [J.kind, J.int, J.text] at hR ⊢
  rw [RJ] at hR
  obtain ⟨N', I', e, hN, xs, hI, hxs⟩ := hR
  have e1 : N = N' ∧ I = I' := by simp at e; exact e
  obtain ⟨rfl, rfl⟩ := e1
  clear e
  obtain ⟨A1, c1, rfl⟩ := hN.shape
  obtain ⟨A2, c2, rfl⟩ := hI.shape
  have htw := text_wt (.mk k n t ns is) hC.2
  obtain ⟨h1, h2, h3, h4⟩ := check_parts hC.1
  have hww := hC.2
  rw [wfJ] at hww
  simp only [Bool.and_eq_true, decide_eq_true_eq] at hww
  have hws : ∀ x ∈ is, wtJ x ≤ 1048576 := fun x hx => by rw [wtJ] at hwt; have := wts_mem hx; omega
  have hcs : ∀ x ∈ is, Can (deeper k deep) x := fun x hx => ⟨h4 x hx, wfs_all.1 hww.2 x hx⟩
  have hil : is.length ≤ 1048576 := by rw [wtJ] at hwt; have := wts_len is; omega
  have hnl : ns.length ≤ 1048576 := by rw [wtJ] at hwt; omega
  have htl : t.length ≤ 1048576 := by rw [wtJ] at hwt; omega
  have hsl : ∀ s ∈ ns, s.length ≤ 1048576 := fun s hs => by rw [wtJ] at hwt; have := sum_mem hs; omega
  have htx : (textJ (.mk k n t ns is)).length ≤ 31457280 := by omega
  have HTX := Lib.hid htx
  have HN := Lib.hid hN
  have HI := Lib.hid hI
  have HX := Lib.hid hxs
  have HW := Lib.hid hws
  have HCs := Lib.hid hcs
  have HSL := Lib.hid hsl
  have HND := Lib.hid h3
  have HB0 := Lib.hid h2
  have HWn := Lib.hid hww.1
  clear hN hI hxs hws hcs hsl h1 h2 h3 h4 hww htw hwt hC htx
  have hb1 := (Below.refl w.heap.size w).alloc (Nat.le_refl _) (.cells #[.int .i64 k, .int .i64 n, .string (ofL t), .slice A1 ns.length c1, .slice A2 is.length c2] 25)
  have hk1 : (w.alloc (.cells #[.int .i64 k, .int .i64 n, .string (ofL t), .slice A1 ns.length c1, .slice A2 is.length c2] 25)).heap[w.heap.size]? = some (.cells #[.int .i64 k, .int .i64 n, .string (ofL t), .slice A1 ns.length c1, .slice A2 is.length c2] 25 (0, 0)) := heap_alloc_new w _
  go_enter Tryz.func26, Tryz.ntmps26
  go_upto_region 1 with fail
  generalize w.alloc (.cells #[.int .i64 k, .int .i64 n, .string (ofL t), .slice A1 ns.length c1, .slice A2 is.length c2] 25) = w1 at *
  obtain ⟨d0, d1, d2, d3, d4, hz1⟩ := box5 hk1
  have HB := Lib.hid hb1
  clear hb1 hk1
  rcases blank_kinds HB0.out with ⟨rfl, rfl, rfl, rfl, rfl⟩ | ⟨rfl, hn, rfl, rfl, rfl⟩ | ⟨rfl, rfl, rfl, rfl⟩ | ⟨rfl, rfl, rfl, rfl, -⟩ | ⟨rfl, rfl, rfl, rfl⟩ | ⟨rfl, rfl, rfl, hl0, -, -⟩
  · have HT := Lib.hid (show textJ (.mk 0 0 [] [] []) = [110, 117, 108, 108] by rw [textJ, if_pos rfl])
    go_wp2_with fail
    go_ret
    exact ⟨by rw [HT.out]; rfl, HB.out⟩
  · rcases hn with rfl | rfl
    · have HT := Lib.hid (show textJ (.mk 1 0 [] [] []) = [102, 97, 108, 115, 101] by rw [textJ, if_neg (by decide), if_pos rfl, if_neg (by decide)])
      go_wp2_with fail
      go_ret
      exact ⟨by rw [HT.out]; rfl, HB.out.alloc HB.out.size _⟩
    · have HT := Lib.hid (show textJ (.mk 1 1 [] [] []) = [116, 114, 117, 101] by rw [textJ, if_neg (by decide), if_pos rfl, if_pos rfl])
      go_wp2_with fail
      go_ret
      exact ⟨by rw [HT.out]; rfl, HB.out.alloc HB.out.size _⟩
  · have HT := Lib.hid (show textJ (.mk 2 n [] [] []) = Lib.itoa n by rw [textJ, if_neg (by decide), if_neg (by decide), if_pos rfl])
    have K := Lib.hid (rdigits_any n HWn.out.1 HWn.out.2 w1)
    go_wp2_with fail
    (with_reducible refine K.out.mono ?_); rintro e w2 ⟨rfl, hb2⟩
    have HB2 := Lib.hid (HB.out.next hb2)
    clear hb2 K
    go_wp2_with fail
    go_ret
    exact ⟨by rw [HT.out]; rfl, HB2.out⟩
  · have HT := Lib.hid (show textJ (.mk 3 0 t [] []) = quoteB t by rw [textJ, if_neg (by decide), if_neg (by decide), if_neg (by decide), if_pos rfl])
    have K := rquote_any (ofL t) w1 (by rw [size_ofL]; omega)
    rw [toL_ofL] at K
    have K := Lib.hid K
    go_wp2_with fail
    (with_reducible refine K.out.mono ?_); rintro e w2 ⟨rfl, hb2⟩
    have HB2 := Lib.hid (HB.out.next hb2)
    clear hb2 K
    go_wp2_with fail
    go_ret
    exact ⟨by rw [HT.out]; rfl, HB2.out⟩
  · have HT := Lib.hid (show textJ (.mk 4 0 [] [] is) = 91 :: (joinB (is.map textJ) ++ [93]) by rw [textJ, if_neg (by decide), if_neg (by decide), if_neg (by decide), if_neg (by decide), if_pos rfl, texts_map])
    obtain ⟨T, hT⟩ : ∃ T, T = is.map textJ := ⟨_, rfl⟩
    rw [← hT] at HT
    have htot : (joinB T).length ≤ 31457278 := by
      have := HTX.out
      rw [HT.out] at this
      simp at this
      omega
    obtain ⟨M, hM⟩ : ∃ M, M = is.length := ⟨_, rfl⟩
    rw [← hM] at d4 hil ⊢
    rw [show ([] : List B).length = 0 from rfl] at d3 ⊢
    have HM := Lib.hid hM
    have HTm := Lib.hid hT
    clear hT hM
    go_upto_region 13 with fail
    go_loopw [3, 37] (fun o i wr => ∃ m : Nat, m ≤ M ∧ i = .int .i64 m ∧ o = .string (ofL (joinB (T.take m))) ∧ Hid (Below w1.heap.size w1 wr)) (fun _ i _ => M - (intOf i).toNat)
    case atStart => exact ⟨0, Nat.zero_le _, rfl, rfl, Below.refl _ _⟩
    case round =>
      obtain ⟨m, hm, rfl, rfl, hBr⟩ := hrel
      have hBw := HB.out.next hBr.out
      have hJl := join_le T m
      by_cases hlt : m < M
      · have hlt' : (m : Int) < (M : Int) := by omega
        obtain ⟨x, hx⟩ : ∃ x, is[m]? = some x := ⟨_, List.getElem?_eq_getElem (by rw [← HM.out]; exact hlt)⟩
        have hxm : x ∈ is := List.mem_of_getElem? hx
        obtain ⟨ba, oa, ca, Nx, Qx, eI, _, hRx, j0, j1, j2, j3, j4⟩ := (show RdP (fun b => b < w.heap.size) wr 5 (.slice A2 M c2) is.length xs by have := HI.out.keep (below_keeps hBw); rw [← HM.out] at this ⊢; exact this).jsonAt (RJs.keep (below_keeps hBw) HX.out) hx
        simp only [Value.slice.injEq] at eI
        obtain ⟨rfl, hjunk, rfl⟩ := eI
        obtain ⟨⟨A5, m5, c5, rfl⟩, A6, m6, c6, rfl⟩ := rj_slices hRx
        have hTx : T[m]? = some (textJ x) := by rw [HTm.out, List.getElem?_map, hx]; rfl
        have hst := joins_step hTx
        have hst2 := join_le T (m + 1)
        have HSt := Lib.hid hst
        have HSt2 := Lib.hid hst2
        have hb6 := (Below.refl wr.heap.size wr).alloc (Nat.le_refl _) (.cells #[.int .i64 x.kind, .int .i64 x.int, .string (ofL x.text), .slice A5 m5 c5, .slice A6 m6 c6] 25)
        have hk6 : (wr.alloc (.cells #[.int .i64 x.kind, .int .i64 x.int, .string (ofL x.text), .slice A5 m5 c5, .slice A6 m6 c6] 25)).heap[wr.heap.size]? = some (.cells #[.int .i64 x.kind, .int .i64 x.int, .string (ofL x.text), .slice A5 m5 c5, .slice A6 m6 c6] 25 (0, 0)) := heap_alloc_new wr _
        have HRx := Lib.hid hRx
        have hzw := hBw.size
        clear hjunk hx hTx hst hst2 hRx
        obtain ⟨Q, hQ⟩ : ∃ Q, Q = joinB (T.take m) := ⟨_, rfl⟩
        rw [← hQ] at hJl HSt ⊢
        have hzq : (ofL Q).size ≤ 31457278 := by rw [size_ofL]; omega
        obtain ⟨Q2, hQ2⟩ : ∃ Q2, Q2 = (if m = 0 then ([] : B) else Q ++ [44]) := ⟨_, rfl⟩
        rw [← hQ2] at HSt
        have hlen2 : Q2.length + (textJ x).length ≤ 31457278 := by
          have := HSt2.out
          rw [HSt.out, List.length_append] at this
          omega
        have HQ := Lib.hid hQ
        have HQ2 := Lib.hid hQ2
        clear hQ hQ2
        go_upto_region 15 with fail
        generalize wr.alloc (.cells #[.int .i64 x.kind, .int .i64 x.int, .string (ofL x.text), .slice A5 m5 c5, .slice A6 m6 c6] 25) = w6 at *
        obtain ⟨f0, f1, f2, f3, f4, hz6⟩ := box5 hk6
        have HBr := Lib.hid (hBr.out.next hb6)
        have K := Lib.hid (ih x hxm _ _ _ w6 (HCs.out x hxm) (HW.out x hxm) (RJ.mono (Q := fun b => b < w6.heap.size) (fun b h _ => by have h' : b < w.heap.size := h; have := hb6.size; show b < w6.heap.size; omega) _ _ (HRx.out.below hb6)))
        clear hk6 hb6 j0 j1 j2 j3 j4 hBr hBw
        go_upto_if 43 with fail
        go_cut [3] (fun o wx => o = .string (ofL Q2) ∧ w6 = wx)
        case first =>
          by_cases h0 : m = 0
          · have h0' : ¬ (m : Int) > 0 := by omega
            have hq2 : Q2 = Q := by
              rw [HQ2.out, if_pos h0, HQ.out, h0]; rfl
            have Hq2 := Lib.hid hq2
            clear hq2 h0
            go_wp2_with fail
            go_meet
            exact ⟨by rw [Hq2.out], rfl⟩
          · have h0' : (m : Int) > 0 := by omega
            have hq2 : ofL Q2 = ofL Q ++ ⟨#[44]⟩ := by
              rw [HQ2.out, if_neg h0, ofL_append]; rfl
            have Hq2 := Lib.hid hq2
            clear hq2 h0
            go_wp2_with fail
            go_meet
            exact ⟨by rw [Hq2.out], rfl⟩
        case rest =>
          obtain ⟨rfl, rfl⟩ := hcut
          have hz2 : (ofL Q2).size + (ofL (textJ x)).size ≤ 31457278 := by rw [size_ofL, size_ofL]; exact hlen2
          generalize textJ x = tx at *
          go_wp2_with fail
          (with_reducible refine K.out.mono ?_); rintro e w7 ⟨rfl, hb7⟩
          have HB7 := Lib.hid (HBr.out.next hb7)
          clear hb7 K
          go_wp2_with fail
          go_roundw
          case rel => exact ⟨m + 1, by omega, by go_num, by rw [HSt.out, ofL_append], HB7.out⟩
          case measure => simp [intOf]; omega
      · have hlt' : ¬ (m : Int) < (M : Int) := by omega
        have hall : T.take m = T := List.take_of_length_le (by rw [HTm.out, List.length_map, ← HM.out]; omega)
        rw [hall]
        have hzq : (ofL (joinB T)).size ≤ 31457278 := by rw [size_ofL]; exact htot
        have HBw := Lib.hid hBw
        have HT2 := Lib.hid (show ofL (textJ (.mk 4 0 [] [] is)) = ⟨#[91]⟩ ++ ofL (joinB T) ++ ⟨#[93]⟩ by
          rw [HT.out, show 91 :: (joinB T ++ [93]) = [91] ++ joinB T ++ [93] from rfl, ofL_append, ofL_append]; rfl)
        generalize joinB T = Q at *
        clear hall hBw hBr hlt
        go_wp2_with fail
        go_ret
        exact ⟨by rw [HT2.out]; rfl, HBw.out⟩
  · have HT := Lib.hid (show textJ (.mk 5 0 [] ns is) = 123 :: (joinB ((sortP (ns.zip (is.map textJ))).map memB) ++ [125]) by
      rw [textJ, if_neg (by decide), if_neg (by decide), if_neg (by decide), if_neg (by decide), if_neg (by decide), texts_map])
    obtain ⟨T, hT⟩ : ∃ T, T = is.map textJ := ⟨_, rfl⟩
    rw [← hT] at HT
    obtain ⟨idx, hidx⟩ := order_exists ns
    have hnT : ns.length = T.length := by rw [hT, List.length_map]; exact hl0
    have hall := membs_all (xs := T) hidx hnT HND.out
    have htot : ∀ r, (membsL ns T idx r).length ≤ 31457278 := fun r => by
      have h1 := HTX.out
      rw [HT.out, ← hall] at h1
      have h2 := membs_le (ns := ns) (xs := T) (idx := idx) r
      have h3 : membsL ns T idx ns.length = joinB (idx.map fun i => memB (ns.getD i [], T.getD i [])) := by
        unfold membsL
        rw [List.take_of_length_le (by rw [hidx.1.length_eq, List.length_range]; exact Nat.le_refl _)]
      rw [h3] at h1
      rw [List.length_cons, List.length_append, List.length_singleton] at h1
      omega
    have hidl : idx.length = ns.length := by rw [hidx.1.length_eq, List.length_range]
    obtain ⟨L, hL⟩ : ∃ L, L = ns.length := ⟨_, rfl⟩
    have hM : is.length = L := by rw [hL, ← hl0]
    rw [← hL] at d3 hnl ⊢
    rw [hM] at d4 hil ⊢
    have HL := Lib.hid hL
    have HM := Lib.hid hM
    have HTm := Lib.hid hT
    have HTot := Lib.hid htot
    have HAll := Lib.hid hall
    have HIdx := Lib.hid hidx
    have HIl := Lib.hid hidl
    clear hT hL hM htot hall hidx hidl hnT hl0
    obtain ⟨hbt, ⟨i0, hbi, hbz, hbs, hby⟩, hbc, -, -⟩ := rowBool
    go_upto_region 22 with (at_make; refine wpList_make_full w1 (by rfl) _ _ 73 (by rfl) w1.heap.size 4 i0 (.bool false) 1 hbt hbi hbz hbs _ _ _ _ L (by rfl) (by rfl) (by rfl) (by rfl) (by rw [hby]; omega) (by unfold maxLen; omega) (Nat.le_refl _) ?_; intro w2 hO2 hg2)
    rw [Nat.mul_one, show (Value.bool false).cells = #[.bool false] from rfl, toList_madeCells_one] at hO2
    have hO2' : w2.ownsRow w1.heap.size 4 1 (.slice (some ⟨w1.heap.size, 0, none⟩) L L) L ((doneL idx 0 L).map Value.bool) := by rw [done_none, List.map_replicate]; exact hO2
    have hb2 : Below w1.heap.size w1 w2 := (Below.refl w1.heap.size w1).grown hg2 (Nat.le_refl _) (fun k hk => by cases hk)
    have HO2 := Lib.hid hO2'
    have HB2 := Lib.hid hb2
    have d3 := Below.keeps hb2 d3
    have d4 := Below.keeps hb2 d4
    clear hO2 hO2' hb2 hg2 hbt hbi hbz hbs hby hbc d0 d1 d2
    go_upto_region 23 with fail
    go_loopw [6, 61] (fun o i wr => ∃ r : Nat, r ≤ L ∧ i = .int .i64 r ∧ o = .string (ofL (membsL ns T idx r)) ∧ wr.ownsRow w1.heap.size 4 1 (.slice (some ⟨w1.heap.size, 0, none⟩) L L) L ((doneL idx r L).map Value.bool) ∧ Hid (Below w1.heap.size w1 wr)) (fun _ i _ => L - (intOf i).toNat)
    case atStart => exact ⟨0, Nat.zero_le _, rfl, by rw [membs_zero]; rfl, HO2.out, HB2.out⟩
    case round =>
      obtain ⟨r, hr, rfl, rfl, hO, hBr⟩ := hrel
      have HO := Lib.hid hO
      have HBw := Lib.hid (HB.out.next hBr.out)
      have hk12 : ∀ b o u, b = w.heap.size → w2.cell? ⟨b, o, none⟩ = some u → wr.cell? ⟨b, o, none⟩ = some u := fun b o u hb hc => by
        subst hb
        have h1 : w1.cell? ⟨w.heap.size, o, none⟩ = some u := by
          rw [← HB2.out.cell (p := ⟨w.heap.size, o, none⟩) hz1]; exact hc
        exact Below.keeps hBr.out h1
      have d3 := hk12 _ _ _ rfl d3
      have d4 := hk12 _ _ _ rfl d4
      have HBr := Lib.hid hBr.out
      have hzr := hBr.out.size
      clear hO hBr hk12
      by_cases hlt : r < L
      · have hlt' : (r : Int) < (L : Int) := by omega
        obtain ⟨kk, hkk⟩ : ∃ kk, idx[r]? = some kk := ⟨_, List.getElem?_eq_getElem (by rw [HIl.out, ← HL.out]; exact hlt)⟩
        have hkl : kk < L := by rw [HL.out]; exact idx_lt HIdx.out hkk
        have HKk := Lib.hid hkk
        obtain ⟨s, hs⟩ : ∃ s, ns[kk]? = some s := ⟨_, List.getElem?_eq_getElem (by rw [← HL.out]; exact hkl)⟩
        obtain ⟨x, hx⟩ : ∃ x, is[kk]? = some x := ⟨_, List.getElem?_eq_getElem (by rw [HM.out]; exact hkl)⟩
        have Hs := Lib.hid hs
        have Hx := Lib.hid hx
        obtain ⟨bn, on, rfl, hbn, hcs⟩ := (show RdP (fun b => b < w.heap.size) wr 1 (.slice A1 L c1) ns.length (strs ns) by have := HN.out.keep (below_keeps HBw.out); rw [← HL.out] at this ⊢; exact this).strAt hs
        obtain ⟨wo, hwo⟩ : ∃ x, x = wr := ⟨_, rfl⟩
        subst hwo
        clear hkk hs hx
        go_upto_region 27 with fail
        go_loopw [9, 67] (fun l i wr => ∃ (q : Nat) (m : Int), q ≤ L ∧ i = .int .i64 q ∧ l = .int .i64 m ∧ Hid (Lst ns idx r q m) ∧ Hid (Below wo.heap.size wo wr)) (fun _ i _ => L - (intOf i).toNat)
        case atStart => exact ⟨0, -1, Nat.zero_le _, rfl, rfl, Lst.start ns idx r, Below.refl _ _⟩
        case round =>
          obtain ⟨q, m, hq, rfl, rfl, hLs, hBq⟩ := hrel
          have d3 := Below.keeps hBq.out d3
          have d4 := Below.keeps hBq.out d4
          by_cases hql : q < L
          · have hql' : (q : Int) < (L : Int) := by omega
            have hOq := own_below HO.out hBq.out
            have hcd : wr.cell? ⟨w1.heap.size, q, none⟩ = some (.bool (doneB idx r q)) := by
              rw [hOq.cellAt q (by omega), List.getElem?_map, done_get _ _ _ _ hql]; rfl
            have HLs := Lib.hid hLs.out
            have HBq := Lib.hid hBq.out
            have y1 : (0 : Int) ≤ (q : Int) := by omega
            have y2 : ((q : Int)).toNat = q := by omega
            clear hOq hLs hBq
            cases hdq : doneB idx r q with
            | true =>
              rw [hdq] at hcd
              have hst := Lst.skip HLs.out hdq
              have HSt := Lib.hid hst
              clear hst hdq
              go_upto_region 29 with fail
              go_quiet (fail)
              have hbn := below_drewN wr.heap.size wr nq
              have HBz := Lib.hid (HBq.out.next hbn)
              generalize wr.drewN nq = wz at *
              clear hbn hcd d3 d4
              go_wp2_with fail
              exact ⟨⟨q + 1, m, by omega, by go_num, rfl, HSt.out, HBz.out⟩, by simp [intOf]; omega⟩
            | false =>
              rw [hdq] at hcd
              obtain ⟨u, hu⟩ : ∃ u, ns[q]? = some u := ⟨_, List.getElem?_eq_getElem (by rw [← HL.out]; exact hql)⟩
              have hgq : ns.getD q [] = u := by rw [List.getD_eq_getElem?_getD, hu]; rfl
              have HNw := Lib.hid (show RdP (fun b => b < w.heap.size) wr 1 (.slice (some ⟨bn, on, none⟩) L c1) ns.length (strs ns) by have := HN.out.keep (below_keeps (HBw.out.next HBq.out)); rw [← HL.out] at this ⊢; exact this)
              obtain ⟨bn', on', e1, _, hcq⟩ := HNw.out.strAt hu
              simp only [Option.some.injEq, Addr.mk.injEq, and_true] at e1
              obtain ⟨rfl, rfl⟩ := e1
              have hkind : m = -1 ∨ ∃ j : Nat, m = j ∧ j < q := by
                rcases HLs.out with ⟨h, _⟩ | ⟨j, h, h1, _⟩
                · exact .inl h
                · exact .inr ⟨j, h, h1⟩
              rcases hkind with rfl | ⟨j, rfl, hjq⟩
              · have hst := Lst.first HLs.out hdq
                have HSt := Lib.hid hst
                clear hst hdq hu hgq
                go_upto_region 29 with fail
                go_quiet (fail)
                have hbn := below_drewN wr.heap.size wr nq
                have HBz := Lib.hid (HBq.out.next hbn)
                generalize wr.drewN nq = wz at *
                clear hbn hcd hcq d3 d4
                go_wp2_with fail
                exact ⟨⟨q + 1, (q : Int), by omega, by go_num, rfl, HSt.out, HBz.out⟩, by simp [intOf]; omega⟩
              · obtain ⟨v, hv⟩ : ∃ v, ns[j]? = some v := ⟨_, List.getElem?_eq_getElem (by rw [← HL.out]; omega)⟩
                have hgj : ns.getD j [] = v := by rw [List.getD_eq_getElem?_getD, hv]; rfl
                obtain ⟨bn', on', e1, _, hcj⟩ := HNw.out.strAt hv
                simp only [Option.some.injEq, Addr.mk.injEq, and_true] at e1
                obtain ⟨rfl, rfl⟩ := e1
                have y3 : ¬ (j : Int) < 0 := by omega
                have y4 : (j : Int) < (L : Int) := by omega
                have y5 : (0 : Int) ≤ (j : Int) := by omega
                have y6 : ((j : Int)).toNat = j := by omega
                cases hlb : ltB u v with
                | true =>
                  have hst := Lst.less HLs.out hdq (by rw [hgq, hgj]; exact hlb)
                  have HSt := Lib.hid hst
                  have hcmp : Op.bytesLess (ofL u).toList (ofL v).toList = true := by rw [toL_ofL, toL_ofL, less_lt]; exact hlb
                  clear hst hdq hu hv hgq hgj hlb
                  go_upto_region 29 with fail
                  go_quiet (fail)
                  have hbn := below_drewN wr.heap.size wr nq
                  have HBz := Lib.hid (HBq.out.next hbn)
                  generalize wr.drewN nq = wz at *
                  clear hbn hcd hcq hcj hcmp d3 d4
                  go_wp2_with fail
                  exact ⟨⟨q + 1, (q : Int), by omega, by go_num, rfl, HSt.out, HBz.out⟩, by simp [intOf]; omega⟩
                | false =>
                  have hst := Lst.keep HLs.out HND.out (by rw [← HL.out]; exact hql) (by rw [hgq, hgj]; exact hlb)
                  have HSt := Lib.hid hst
                  have hcmp : Op.bytesLess (ofL u).toList (ofL v).toList = false := by rw [toL_ofL, toL_ofL, less_lt]; exact hlb
                  clear hst hdq hu hv hgq hgj hlb
                  go_upto_region 29 with fail
                  go_quiet (fail)
                  have hbn := below_drewN wr.heap.size wr nq
                  have HBz := Lib.hid (HBq.out.next hbn)
                  generalize wr.drewN nq = wz at *
                  clear hbn hcd hcq hcj hcmp d3 d4
                  go_wp2_with fail
                  exact ⟨⟨q + 1, (j : Int), by omega, by go_num, rfl, HSt.out, HBz.out⟩, by simp [intOf]; omega⟩
          · have hqL : q = L := by omega
            have hmk : m = (kk : Int) := Lst.found HIdx.out HND.out HKk.out (by have := hLs.out; rw [hqL, HL.out] at this; exact this)
            have hql' : ¬ (q : Int) < (L : Int) := by omega
            have hOq := own_below HO.out hBq.out
            have HBq := Lib.hid hBq.out
            have hck : wr.cell? ⟨w1.heap.size, kk, none⟩ = some (.bool (doneB idx r kk)) := by
              rw [hOq.cellAt kk (by omega), List.getElem?_map, done_get _ _ _ _ hkl]; rfl
            have hfk := hOq.frozenAt kk
            have hOs := (hOq.stored kk (.bool true)).1
            have hset : ((doneL idx r L).map Value.bool).set kk (.bool true) = (doneL idx (r + 1) L).map Value.bool := by rw [← done_set HKk.out, List.map_set]
            rw [hset] at hOs
            have hBs : Below w1.heap.size wr (wr.setCell ⟨w1.heap.size, kk, none⟩ (.bool true)) := (Below.refl w1.heap.size wr).setCell (p := ⟨w1.heap.size, kk, none⟩) (Nat.le_refl _) _
            have hcs := Below.keeps HBq.out hcs
            have hks : ∀ b o u, b < w1.heap.size → wr.cell? ⟨b, o, none⟩ = some u → (wr.setCell ⟨w1.heap.size, kk, none⟩ (.bool true)).cell? ⟨b, o, none⟩ = some u := fun b o u hb hc => by rw [hBs.cell (p := ⟨b, o, none⟩) hb]; exact hc
            have hzw := HB.out.size
            have d3s := hks _ _ _ hz1 d3
            have d4s := hks _ _ _ hz1 d4
            have hcss := hks _ _ _ (Nat.lt_of_lt_of_le hbn hzw) hcs
            have HOs := Lib.hid hOs
            have HBs := Lib.hid ((HBr.out.trans (HBq.out.mono hzr)).trans hBs)
            have hkl' : (kk : Int) < (L : Int) := by omega
            have y1 : (0 : Int) ≤ (kk : Int) := by omega
            have y2 : ((kk : Int)).toNat = kk := by omega
            subst hmk
            clear hLs hBq hset hOs hqL hOq
            go_upto_region 33 with fail
            clear hck hfk d3 d4 hcs hks hBs
            generalize wr.setCell ⟨w1.heap.size, kk, none⟩ (.bool true) = w3 at *
            have HBw3 := Lib.hid (HB.out.next HBs.out)
            obtain ⟨ba, oa, ca, Nx, Qx, eI, hba, hRx, j0, j1, j2, j3, j4⟩ := (show RdP (fun b => b < w.heap.size) w3 5 (.slice A2 L c2) is.length xs by have := HI.out.keep (below_keeps HBw3.out); rw [HM.out] at this ⊢; exact this).jsonAt (RJs.keep (below_keeps HBw3.out) HX.out) Hx.out
            simp only [Value.slice.injEq] at eI
            obtain ⟨rfl, hjunk, rfl⟩ := eI
            obtain ⟨⟨A5, m5, c5, rfl⟩, A6, m6, c6, rfl⟩ := rj_slices hRx
            have hxm : x ∈ is := List.mem_of_getElem? Hx.out
            have hsm : s ∈ ns := List.mem_of_getElem? Hs.out
            have hsz : (ofL s).size ≤ 1099511627776 := by have := HSL.out s hsm; rw [size_ofL]; omega
            have hTg : T.getD kk [] = textJ x := by rw [HTm.out, List.getD_eq_getElem?_getD, List.getElem?_map, Hx.out]; rfl
            have hNg : ns.getD kk [] = s := by rw [List.getD_eq_getElem?_getD, Hs.out]; rfl
            have hst := membs_step (ns := ns) (xs := T) HKk.out
            rw [hTg, hNg] at hst
            obtain ⟨Q, hQ⟩ : ∃ Q, Q = membsL ns T idx r := ⟨_, rfl⟩
            obtain ⟨Q2, hQ2⟩ : ∃ Q2, Q2 = (if r = 0 then ([] : B) else Q ++ [44]) := ⟨_, rfl⟩
            rw [← hQ, ← hQ2] at hst
            have hlen := HTot.out (r + 1)
            rw [hst] at hlen
            have hst2 : ofL (membsL ns T idx (r + 1)) = ofL Q2 ++ ofL (quoteB s) ++ ⟨#[58]⟩ ++ ofL (textJ x) := by
              rw [hst, show Q2 ++ memB (s, textJ x) = Q2 ++ quoteB s ++ [58] ++ textJ x by simp [memB], ofL_append, ofL_append, ofL_append]; rfl
            have hzq : (ofL Q).size ≤ 31457278 := by rw [hQ, size_ofL]; exact HTot.out r
            have kq := fun wx => rquote_any (ofL s) wx hsz
            rw [toL_ofL] at kq
            have KQ := Lib.hid kq
            have KT := Lib.hid (fun (wx : World) (hb : Below w3.heap.size w3 wx) => ih x hxm _ _ _ wx (HCs.out x hxm) (HW.out x hxm) (RJ.mono (Q := fun b => b < wx.heap.size) (fun b h _ => by have h' : b < w.heap.size := h; have h1 := hb.size; have h2 := HBw3.out.size; show b < wx.heap.size; omega) _ _ (hRx.below hb)))
            have hz2 : (ofL Q2).size + (ofL (quoteB s)).size + 1 + (ofL (textJ x)).size ≤ 31457278 := by
              rw [size_ofL, size_ofL, size_ofL]
              simp [memB] at hlen
              omega
            have HSt := Lib.hid hst2
            have HQ := Lib.hid hQ
            have HQ2 := Lib.hid hQ2
            rw [← hQ]
            clear kq hst hst2 hlen hQ hQ2 hTg hNg hjunk hRx
            generalize quoteB s = qs at *
            generalize textJ x = tx at *
            go_upto_if 98 with fail
            go_cut [6] (fun o wx => o = .string (ofL Q2) ∧ w3 = wx)
            case first =>
              by_cases h0 : r = 0
              · have h0' : ¬ (r : Int) > 0 := by omega
                have hq2 : Q2 = Q := by rw [HQ2.out, if_pos h0, HQ.out, h0]; rfl
                have Hq2 := Lib.hid hq2
                clear hq2 h0
                go_wp2_with fail
                go_meet
                exact ⟨by rw [Hq2.out], rfl⟩
              · have h0' : (r : Int) > 0 := by omega
                have hq2 : ofL Q2 = ofL Q ++ ⟨#[44]⟩ := by rw [HQ2.out, if_neg h0, ofL_append]; rfl
                have Hq2 := Lib.hid hq2
                clear hq2 h0
                go_wp2_with fail
                go_meet
                exact ⟨by rw [Hq2.out], rfl⟩
            case rest =>
              obtain ⟨rfl, rfl⟩ := hcut
              have hd := (Below.refl w3.heap.size w3).drew
              have q3 := Below.keeps hd d3s
              have q4 := Below.keeps hd d4s
              have qs' := Below.keeps hd hcss
              have i0 := Below.keeps hd j0
              have i1 := Below.keeps hd j1
              have i2 := Below.keeps hd j2
              have i3 := Below.keeps hd j3
              have i4 := Below.keeps hd j4
              clear d3s d4s hcss j0 j1 j2 j3 j4
              have z1 : ¬ (ofL Q2).size + (ofL qs).size > 9223372036854775807 := by omega
              have z2 : ¬ (ofL Q2 ++ ofL qs).size + (⟨#[58]⟩ : ByteArray).size > 9223372036854775807 := by
                rw [ByteArray.size_append, show (⟨#[58]⟩ : ByteArray).size = 1 from rfl]; omega
              have z3 : ¬ (ofL Q2 ++ ofL qs ++ ⟨#[58]⟩).size + (ofL tx).size > 9223372036854775807 := by
                rw [ByteArray.size_append, ByteArray.size_append, show (⟨#[58]⟩ : ByteArray).size = 1 from rfl]; omega
              have z4 : (ofL Q2).size + (ofL qs).size ≤ 9223372036854775807 := by omega
              have z5 : (ofL Q2).size + (ofL qs).size + 1 ≤ 9223372036854775807 := by omega
              have z6 : (ofL Q2).size + (ofL qs).size + 1 + (ofL tx).size ≤ 9223372036854775807 := by omega
              have y7 : ¬ (ofL Q2).size + (ofL qs).size + 1 > 9223372036854775807 := by omega
              have y8 : ¬ 9223372036854775806 < (ofL Q2).size + (ofL qs).size := by omega
              have y9 : ¬ 9223372036854775807 ≤ (ofL Q2).size + (ofL qs).size := by omega
              have x7 : ¬ (ofL Q2).size + (ofL qs).size + 1 + (ofL tx).size > 9223372036854775807 := by omega
              go_upto_region 35 with fail
              go_region_held3 (fun w' => w'.cell? ⟨w.heap.size, 3, none⟩ = some (.slice (some ⟨bn, on, none⟩) L c1) ∧ w'.cell? ⟨w.heap.size, 4, none⟩ = some (.slice (some ⟨ba, oa, none⟩) L c2) ∧ w'.cell? ⟨bn, on + kk, none⟩ = some (.string (ofL s)) ∧ w'.cell? ⟨ba, oa + kk * 5, none⟩ = some (.int .i64 x.kind) ∧ w'.cell? ⟨ba, oa + kk * 5 + 1, none⟩ = some (.int .i64 x.int) ∧ w'.cell? ⟨ba, oa + kk * 5 + 2, none⟩ = some (.string (ofL x.text)) ∧ w'.cell? ⟨ba, oa + kk * 5 + 3, none⟩ = some (.slice A5 m5 c5) ∧ w'.cell? ⟨ba, oa + kk * 5 + 4, none⟩ = some (.slice A6 m6 c6)) (first | (with_reducible exact ⟨q3, q4, qs', i0, i1, i2, i3, i4⟩) | (with_reducible exact ⟨q3a, q4a, qs'a, i0a, i1a, i2a, i3a, i4a⟩) | (with_reducible exact ⟨q3b, q4b, qs'b, i0b, i1b, i2b, i3b, i4b⟩)) (first | (go_at_call 38; (with_reducible refine (KQ.out _).mono ?_); rintro e w7 ⟨rfl, hb7⟩; have q3a := Below.keeps hb7 q3; have q4a := Below.keeps hb7 q4; have qs'a := Below.keeps hb7 qs'; have i0a := Below.keeps hb7 i0; have i1a := Below.keeps hb7 i1; have i2a := Below.keeps hb7 i2; have i3a := Below.keeps hb7 i3; have i4a := Below.keeps hb7 i4) | (go_at_call 26; (with_reducible refine (KT.out _ (hd.next hb7)).mono ?_); rintro e w8 ⟨rfl, hb8⟩; have q3b := Below.keeps hb8 q3a; have q4b := Below.keeps hb8 q4a; have qs'b := Below.keeps hb8 qs'a; have i0b := Below.keeps hb8 i0a; have i1b := Below.keeps hb8 i1a; have i2b := Below.keeps hb8 i2a; have i3b := Below.keeps hb8 i3a; have i4b := Below.keeps hb8 i4a))
              have HB8 := Lib.hid (HBs.out.trans (((hd.next hb7).next hb8).mono (by have := HBs.out.size; omega)))
              have HO8 := Lib.hid (own_below (own_below (own_below HOs.out hd) hb7) hb8)
              clear hd hb7 hb8 q3 q4 qs' i0 i1 i2 i3 i4 q3a q4a qs'a i0a i1a i2a i3a i4a q3b q4b qs'b i0b i1b i2b i3b i4b z1 z2 z3 z4 z5 z6 y7 y8 y9 x7
              go_wp2_with fail
              exact ⟨⟨r + 1, by omega, by go_num, by rw [HSt.out], HO8.out, HB8.out⟩, by simp [intOf]; omega⟩
      · have hlt' : ¬ (r : Int) < (L : Int) := by omega
        have hrL : r = L := by omega
        have HT2 := Lib.hid (show ofL (textJ (.mk 5 0 [] ns is)) = ⟨#[123]⟩ ++ ofL (membsL ns T idx r) ++ ⟨#[125]⟩ by
          rw [HT.out, ← HAll.out, ← HL.out, ← hrL, show 123 :: (membsL ns T idx r ++ [125]) = [123] ++ membsL ns T idx r ++ [125] from rfl, ofL_append, ofL_append]; rfl)
        have hzq : (ofL (membsL ns T idx r)).size ≤ 31457278 := by rw [size_ofL]; exact HTot.out r
        generalize membsL ns T idx r = Q at *
        clear hrL hlt
        go_wp2_with fail
        go_ret
        exact ⟨by rw [HT2.out]; rfl, HBw.out⟩
theorem rtext_any (x : J) : RTxt x := J.ind (P := RTxt) (fun k n t ns is ih => rtxt_step k n t ns is ih) x
set_option maxHeartbeats 4000000 in
theorem RPrint_any (x : J) (N I : Value) (w : World) (hR : RJ (fun b => b < w.heap.size) w x [.int .i64 x.kind, .int .i64 x.int, .string (ofL x.text), N, I]) (hwf : wfJ x = true) (hwt : wtJ x ≤ 1048576) :
    Calls Tryz.prog 14 #[.agg #[.int .i64 x.kind, .int .i64 x.int, .string (ofL x.text), N, I]] w fun e w' => e = .returned (.tuple #[.string (ofL (printJ x).1), .int .i64 ((printJ x).2 : Nat)]) ∧ Below w.heap.size w w' := by
  obtain ⟨⟨A1, m1, c1, rfl⟩, A2, m2, c2, rfl⟩ := rj_slices hR
  have htx := text_wt x hwf
  have hb := (Below.refl w.heap.size w).alloc (Nat.le_refl _) (.cells #[.int .i64 x.kind, .int .i64 x.int, .string (ofL x.text), .slice A1 m1 c1, .slice A2 m2 c2] 25)
  have hk : (w.alloc (.cells #[.int .i64 x.kind, .int .i64 x.int, .string (ofL x.text), .slice A1 m1 c1, .slice A2 m2 c2] 25)).heap[w.heap.size]? = some (.cells #[.int .i64 x.kind, .int .i64 x.int, .string (ofL x.text), .slice A1 m1 c1, .slice A2 m2 c2] 25 (0, 0)) := heap_alloc_new w _
  have K := Lib.hid (fun (w1 : World) (hb : Below w.heap.size w w1) => RCheck_any x _ _ w1 (hR.grow hb) hwt)
  have KT := Lib.hid (fun (w1 : World) (hb : Below w.heap.size w w1) (hz : checkJ 0 x = 0) => rtext_any x 0 _ _ w1 ⟨hz, hwf⟩ hwt (hR.grow hb))
  have hpj : printJ x = if checkJ 0 x ≠ 0 then ([], checkJ 0 x) else if 65536 < (textJ x).length then ([], 4) else (textJ x, 0) := rfl
  have htl : (textJ x).length ≤ 31457280 := by omega
  have HPJ := Lib.hid hpj
  clear hR hpj htx hwt hwf
  generalize x.kind = xk at *
  generalize x.int = xn at *
  generalize x.text = xt at *
  generalize checkJ 0 x = cd at *
  generalize textJ x = tx at *
  generalize printJ x = pj at *
  go_enter Tryz.func14, Tryz.ntmps14
  go_upto_region 1 with fail
  generalize w.alloc (.cells #[.int .i64 xk, .int .i64 xn, .string (ofL xt), .slice A1 m1 c1, .slice A2 m2 c2] 25) = w1 at *
  obtain ⟨d0, d1, d2, d3, d4, hz1⟩ := box5 hk
  have HB := Lib.hid hb
  have K := Lib.hid (K.out _ hb)
  clear hb hk
  go_wp2_with fail
  (with_reducible refine K.out.mono ?_); rintro e w2 ⟨rfl, hb2⟩
  have HB2 := Lib.hid (HB.out.next hb2)
  have d0 := Below.keeps hb2 d0
  have d1 := Below.keeps hb2 d1
  have d2 := Below.keeps hb2 d2
  have d3 := Below.keeps hb2 d3
  have d4 := Below.keeps hb2 d4
  clear hb2 K
  by_cases hz : cd = 0
  · subst hz
    have e00 : ((0 : Nat) : Int) = 0 := rfl
    have KT2 := Lib.hid (KT.out w2 HB2.out rfl)
    clear KT
    go_wp2_with fail
    (with_reducible refine KT2.out.mono ?_); rintro e w3 ⟨rfl, hb3⟩
    have HB3 := Lib.hid (HB2.out.next hb3)
    have hsz : (ofL tx).size = tx.length := size_ofL tx
    clear hb3 KT2
    by_cases hl : 65536 < tx.length
    · have hp : pj = ([], 4) := by rw [HPJ.out, if_neg (by simp), if_pos hl]
      have Hp := Lib.hid hp
      have hl' : ((ofL tx).size : Int) > 65536 := by omega
      clear hp hl
      go_wp2_with fail
      go_ret2
      exact ⟨by rw [Hp.out]; rfl, HB3.out⟩
    · have hp : pj = (tx, 0) := by rw [HPJ.out, if_neg (by simp), if_neg hl]
      have Hp := Lib.hid hp
      have hl' : ¬ ((ofL tx).size : Int) > 65536 := by omega
      clear hp hl
      go_wp2_with fail
      go_ret2
      exact ⟨by rw [Hp.out]; rfl, HB3.out⟩
  · have hp : pj = ([], cd) := by rw [HPJ.out, if_pos hz]
    have Hp := Lib.hid hp
    have hzi : ¬ (cd : Int) = 0 := by omega
    clear hp KT
    go_wp2_with fail
    go_ret2
    exact ⟨by rw [Hp.out]; rfl, HB2.out⟩
end Go.Proofs.YthkpbgpgcpkiiaaGreatDoor
namespace Go.Proofs.YthkpbgpgcpkiiaaGreatDoor
open Go.RowKit
set_option linter.unusedVariables false
set_option linter.unusedSimpArgs false
set_option maxRecDepth 100000

def Cells5 (w : World) (b : Nat) (v0 v1 v2 v3 v4 : Value) : Prop := w.cell? ⟨b, 0, none⟩ = some v0 ∧ w.cell? ⟨b, 1, none⟩ = some v1 ∧ w.cell? ⟨b, 2, none⟩ = some v2 ∧ w.cell? ⟨b, 3, none⟩ = some v3 ∧ w.cell? ⟨b, 4, none⟩ = some v4
theorem keepP {w W W' : World} {a b : Nat} {u0 u1 u2 u3 u4 v0 v1 v2 v3 v4 : Value}
    (h : (W.cell? ⟨a, 0, none⟩ = some u0 ∧ W.cell? ⟨a, 1, none⟩ = some u1 ∧ W.cell? ⟨a, 2, none⟩ = some u2 ∧ W.cell? ⟨a, 3, none⟩ = some u3 ∧ W.cell? ⟨a, 4, none⟩ = some u4 ∧ W.cell? ⟨b, 0, none⟩ = some v0 ∧ W.cell? ⟨b, 1, none⟩ = some v1 ∧ W.cell? ⟨b, 2, none⟩ = some v2 ∧ W.cell? ⟨b, 3, none⟩ = some v3 ∧ W.cell? ⟨b, 4, none⟩ = some v4) ∧ Below w.heap.size w W) (hb : Below W.heap.size W W') :
    (W'.cell? ⟨a, 0, none⟩ = some u0 ∧ W'.cell? ⟨a, 1, none⟩ = some u1 ∧ W'.cell? ⟨a, 2, none⟩ = some u2 ∧ W'.cell? ⟨a, 3, none⟩ = some u3 ∧ W'.cell? ⟨a, 4, none⟩ = some u4 ∧ W'.cell? ⟨b, 0, none⟩ = some v0 ∧ W'.cell? ⟨b, 1, none⟩ = some v1 ∧ W'.cell? ⟨b, 2, none⟩ = some v2 ∧ W'.cell? ⟨b, 3, none⟩ = some v3 ∧ W'.cell? ⟨b, 4, none⟩ = some v4) ∧ Below w.heap.size w W' := by
  obtain ⟨⟨h0, h1, h2, h3, h4, k0, k1, k2, k3, k4⟩, hw⟩ := h
  exact ⟨⟨Below.keeps hb h0, Below.keeps hb h1, Below.keeps hb h2, Below.keeps hb h3, Below.keeps hb h4, Below.keeps hb k0, Below.keeps hb k1, Below.keeps hb k2, Below.keeps hb k3, Below.keeps hb k4⟩, hw.next hb⟩
set_option maxHeartbeats 16000000 in
theorem lawPrints_any (v : J) (N I : Value) (w : World) (hR : RJ (fun b => b < w.heap.size) w v [.int .i64 v.kind, .int .i64 v.int, .string (ofL v.text), N, I]) (hwf : wfJ v = true) (hlen : lenJ v = true) (hG : Good w) :
    Calls Tryz.prog 3 #[.agg #[.int .i64 v.kind, .int .i64 v.int, .string (ofL v.text), N, I]] w fun e w' => e = .returned (.bool true) ∧ Below w.heap.size w w' := by
  obtain ⟨⟨A1, m1, c1, rfl⟩, A2, m2, c2, rfl⟩ := rj_slices hR
  have hb1 := (Below.refl w.heap.size w).alloc (Nat.le_refl _) (.cells #[.int .i64 v.kind, .int .i64 v.int, .string (ofL v.text), .slice A1 m1 c1, .slice A2 m2 c2] 25)
  have hk1 : (w.alloc (.cells #[.int .i64 v.kind, .int .i64 v.int, .string (ofL v.text), .slice A1 m1 c1, .slice A2 m2 c2] 25)).heap[w.heap.size]? = some (.cells #[.int .i64 v.kind, .int .i64 v.int, .string (ofL v.text), .slice A1 m1 c1, .slice A2 m2 c2] 25 (0, 0)) := heap_alloc_new w _
  have HR := Lib.hid (hR.grow hb1)
  have HG := Lib.hid hG
  have KA := Lib.hid (fun (w' : World) (hb : Below w.heap.size w w') => awake_any w' (hG.below hb))
  clear hR hG
  go_enter Tryz.func3, Tryz.ntmps3
  go_upto_region 1 with fail
  generalize w.alloc (.cells #[.int .i64 v.kind, .int .i64 v.int, .string (ofL v.text), .slice A1 m1 c1, .slice A2 m2 c2] 25) = w1 at *
  obtain ⟨d0, d1, d2, d3, d4, hz1⟩ := box5 hk1
  have HB1 := Lib.hid hb1
  have K2 := Lib.hid (can_any v _ _ w1 hlen HR.out)
  clear hb1 hk1
  go_wp2_with fail
  (with_reducible refine K2.out.mono ?_); rintro e w2 ⟨bc, rfl, hbc, hb2⟩
  have HB2 := Lib.hid (HB1.out.next hb2)
  have d0 := Below.keeps hb2 d0
  have d1 := Below.keeps hb2 d1
  have d2 := Below.keeps hb2 d2
  have d3 := Below.keeps hb2 d3
  have d4 := Below.keeps hb2 d4
  have HR2 := Lib.hid (HR.out.grow hb2)
  have K3 := Lib.hid (KA.out _ HB2.out)
  have HC := Lib.hid hbc
  clear hb2 K2 hbc HR
  cases bc
  · go_wp2_with fail
    (with_reducible refine K3.out.mono ?_); rintro e w3 ⟨rfl, hb3⟩
    have HB3 := Lib.hid (HB2.out.next hb3)
    clear hb3
    go_wp2_with fail
    go_ret
    exact ⟨rfl, HB3.out⟩
  · have hwt := HC.out rfl
    have K4 := Lib.hid (own_any v (by omega) _ _ w2 HR2.out)
    clear K3 HC
    go_wp2_with fail
    (with_reducible refine K4.out.mono ?_); rintro e w3 ⟨A3, m3, c3, A4, m4, c4, rfl, hR3, hb3⟩
    have HB3 := Lib.hid (HB2.out.next hb3)
    have d0 := Below.keeps hb3 d0
    have d1 := Below.keeps hb3 d1
    have d2 := Below.keeps hb3 d2
    have d3 := Below.keeps hb3 d3
    have d4 := Below.keeps hb3 d4
    have HR3v := Lib.hid (HR2.out.grow hb3)
    have HR3 : Hid (RJ (fun b => b < w3.heap.size) w3 v [.int .i64 v.kind, .int .i64 v.int, .string (ofL v.text), .slice A3 m3 c3, .slice A4 m4 c4]) := Lib.hid (RJ.mono (fun b _ hb => hb) _ _ hR3)
    clear hb3 K4 HR2
    have hR3' : RJ (fun b => b < w3.heap.size) w3 v [.int .i64 v.kind, .int .i64 v.int, .string (ofL v.text), .slice A3 m3 c3, .slice A4 m4 c4] := HR3.out
    have hb4 := (Below.refl w3.heap.size w3).alloc (Nat.le_refl _) (.cells #[.int .i64 v.kind, .int .i64 v.int, .string (ofL v.text), .slice A3 m3 c3, .slice A4 m4 c4] 25)
    have hk4 : (w3.alloc (.cells #[.int .i64 v.kind, .int .i64 v.int, .string (ofL v.text), .slice A3 m3 c3, .slice A4 m4 c4] 25)).heap[w3.heap.size]? = some (.cells #[.int .i64 v.kind, .int .i64 v.int, .string (ofL v.text), .slice A3 m3 c3, .slice A4 m4 c4] 25 (0, 0)) := heap_alloc_new w3 _
    have HR4 := Lib.hid (hR3'.grow hb4)
    clear hR3 hR3' HR3
    go_upto_region 4 with fail
    generalize w3.alloc (.cells #[.int .i64 v.kind, .int .i64 v.int, .string (ofL v.text), .slice A3 m3 c3, .slice A4 m4 c4] 25) = w4 at *
    obtain ⟨g0, g1, g2, g3, g4, hz4⟩ := box5 hk4
    have d0 := Below.keeps hb4 d0
    have d1 := Below.keeps hb4 d1
    have d2 := Below.keeps hb4 d2
    have d3 := Below.keeps hb4 d3
    have d4 := Below.keeps hb4 d4
    have HB4 := Lib.hid (HB3.out.next hb4)
    have HR4v := Lib.hid (HR3v.out.grow hb4)
    clear hb4 hk4 HR3v
    have K5 := Lib.hid (Print_any v _ _ w4 HR4.out hwf (by omega) (HG.out.below HB4.out).2.2 (HG.out.below HB4.out).2.1)
    have KR6 := Lib.hid (fun (wx : World) (hb : Below w4.heap.size w4 wx) => RPrint_any v _ _ wx (HR4v.out.grow hb) hwf (by omega))
    have kc := fun (wx : World) (hb : Below w4.heap.size w4 wx) => Check_any v _ _ wx (HR4.out.grow hb) (by omega)
    have kr := fun (wx : World) (hb : Below w4.heap.size w4 wx) => RCheck_any v _ _ wx (HR4v.out.grow hb) (by omega)
    have ke := fun (wx : World) (hb : Below w4.heap.size w4 wx) => equal_any v (by omega) _ _ _ _ wx (HR4.out.grow hb) (HR4v.out.grow hb)
    have kw := fun (wx : World) (hb : Below w4.heap.size w4 wx) => KA.out wx (HB4.out.next hb)
    have KC := Lib.hid kc
    have KR := Lib.hid kr
    have KE := Lib.hid ke
    have KW := Lib.hid kw
    clear kc kr ke kw
    generalize (printJ v).1 = pv at *
    generalize (printJ v).2 = ev at *
    generalize checkJ 0 v = cd at *
    go_wp2_with fail
    (with_reducible refine K5.out.mono ?_); rintro e w5 ⟨rfl, hb5⟩
    have d0 := Below.keeps hb5 d0
    have d1 := Below.keeps hb5 d1
    have d2 := Below.keeps hb5 d2
    have d3 := Below.keeps hb5 d3
    have d4 := Below.keeps hb5 d4
    have g0 := Below.keeps hb5 g0
    have g1 := Below.keeps hb5 g1
    have g2 := Below.keeps hb5 g2
    have g3 := Below.keeps hb5 g3
    have g4 := Below.keeps hb5 g4
    have K6 := Lib.hid (KR6.out w5 hb5)
    have Hb5 := Lib.hid hb5
    clear hb5 K5 KR6
    go_wp2_with fail
    (with_reducible refine K6.out.mono ?_); rintro e w6 ⟨rfl, hb6⟩
    have d0 := Below.keeps hb6 d0
    have d1 := Below.keeps hb6 d1
    have d2 := Below.keeps hb6 d2
    have d3 := Below.keeps hb6 d3
    have d4 := Below.keeps hb6 d4
    have g0 := Below.keeps hb6 g0
    have g1 := Below.keeps hb6 g1
    have g2 := Below.keeps hb6 g2
    have g3 := Below.keeps hb6 g3
    have g4 := Below.keeps hb6 g4
    have Hb6 := Lib.hid (Hb5.out.next hb6)
    clear hb6 K6
    go_upto_region 6 with fail
    have hd := (Below.refl w6.heap.size w6).drew
    have d0 := Below.keeps hd d0
    have d1 := Below.keeps hd d1
    have d2 := Below.keeps hd d2
    have d3 := Below.keeps hd d3
    have d4 := Below.keeps hd d4
    have g0 := Below.keeps hd g0
    have g1 := Below.keeps hd g1
    have g2 := Below.keeps hd g2
    have g3 := Below.keeps hd g3
    have g4 := Below.keeps hd g4
    have hbd := Hb6.out.next hd
    have hub : ((ofL pv).toList == (ofL pv).toList) = true := beq_self_eq_true _
    clear HR4 HR4v
    refine wp_region_held_drew (S := fun w' => (w'.cell? ⟨w3.heap.size, 0, none⟩ = some (.int .i64 v.kind) ∧ w'.cell? ⟨w3.heap.size, 1, none⟩ = some (.int .i64 v.int) ∧ w'.cell? ⟨w3.heap.size, 2, none⟩ = some (.string (ofL v.text)) ∧ w'.cell? ⟨w3.heap.size, 3, none⟩ = some (.slice A3 m3 c3) ∧ w'.cell? ⟨w3.heap.size, 4, none⟩ = some (.slice A4 m4 c4) ∧
      w'.cell? ⟨w.heap.size, 0, none⟩ = some (.int .i64 v.kind) ∧ w'.cell? ⟨w.heap.size, 1, none⟩ = some (.int .i64 v.int) ∧ w'.cell? ⟨w.heap.size, 2, none⟩ = some (.string (ofL v.text)) ∧ w'.cell? ⟨w.heap.size, 3, none⟩ = some (.slice A1 m1 c1) ∧ w'.cell? ⟨w.heap.size, 4, none⟩ = some (.slice A2 m2 c2)) ∧ Below w4.heap.size w4 w') (by kernel_rfl) ⟨⟨g0, g1, g2, g3, g4, d0, d1, d2, d3, d4⟩, hbd⟩ (fun hHeld => ?_)
    clear hd hbd d0 d1 d2 d3 d4 g0 g1 g2 g3 g4
    ((refine wpAnyH_take (i := 0) (oi := { dst := some 24, op := Op.move (Operand.tmp 4), type := 9, pos := _, after := _, guard := none }) (v := ?_) rfl (by kernel_rfl) (by kernel_rfl) (by kernel_rfl) (fun _ _ _ h => h) (Or.inl ⟨by kernel_rfl, ?_⟩) hHeld ?_); (rotate_left 1); (next => (intro w hSw; (try dsimp only at hSw); go_simp; try with_reducible rfl)); (try simp only [Act.put, List.setIfInBounds_toArray, List.set_cons_zero, List.set_cons_succ]))
    ((refine wpAnyH_take (i := 1) (oi := { dst := some 25, op := Op.move (Operand.tmp 6), type := 9, pos := _, after := _, guard := none }) (v := ?_) rfl (by kernel_rfl) (by kernel_rfl) (by kernel_rfl) (fun _ _ _ h => h) (Or.inl ⟨by kernel_rfl, ?_⟩) hHeld ?_); (rotate_left 1); (next => (intro w hSw; (try dsimp only at hSw); go_simp; try with_reducible rfl)); (try simp only [Act.put, List.setIfInBounds_toArray, List.set_cons_zero, List.set_cons_succ]))
    ((refine wpAnyH_take (i := 2) (oi := { dst := some 26, op := Op.binOp BinOp.eql 9 (Operand.tmp 24) (Operand.tmp 25) 9, type := 4, pos := _, after := _, guard := none }) (v := .bool true) rfl (by kernel_rfl) (by kernel_rfl) (by kernel_rfl) (fun _ _ _ h => h) (Or.inl ⟨by kernel_rfl, ?_⟩) hHeld ?_); (next => (intro w hSw; (try dsimp only at hSw); go_simp)); (try simp only [Act.put, List.setIfInBounds_toArray, List.set_cons_zero, List.set_cons_succ]))
    ((refine wpAnyH_take (i := 3) (oi := { dst := some 27, op := Op.move (Operand.tmp 26), type := 4, pos := _, after := _, guard := none }) (v := .bool true) rfl (by kernel_rfl) (by kernel_rfl) (by kernel_rfl) (fun _ _ _ h => h) (Or.inl ⟨by kernel_rfl, ?_⟩) hHeld ?_); (next => (intro w hSw; (try dsimp only at hSw); go_simp)); (try simp only [Act.put, List.setIfInBounds_toArray, List.set_cons_zero, List.set_cons_succ]))
    ((refine wpAnyH_take (i := 4) (oi := { dst := some 28, op := Op.move (Operand.tmp 5), type := 29, pos := _, after := _, guard := some (3, true) }) (v := ?_) rfl (by kernel_rfl) (by kernel_rfl) (by kernel_rfl) (fun _ _ _ h => h) (Or.inl ⟨by kernel_rfl, ?_⟩) hHeld ?_); (rotate_left 1); (next => (intro w hSw; (try dsimp only at hSw); go_simp; try with_reducible rfl)); (try simp only [Act.put, List.setIfInBounds_toArray, List.set_cons_zero, List.set_cons_succ]))
    ((refine wpAnyH_take (i := 5) (oi := { dst := some 29, op := Op.move (Operand.tmp 7), type := 29, pos := _, after := _, guard := some (3, true) }) (v := ?_) rfl (by kernel_rfl) (by kernel_rfl) (by kernel_rfl) (fun _ _ _ h => h) (Or.inl ⟨by kernel_rfl, ?_⟩) hHeld ?_); (rotate_left 1); (next => (intro w hSw; (try dsimp only at hSw); go_simp; try with_reducible rfl)); (try simp only [Act.put, List.setIfInBounds_toArray, List.set_cons_zero, List.set_cons_succ]))
    ((refine wpAnyH_take (i := 6) (oi := { dst := some 30, op := Op.binOp BinOp.eql 29 (Operand.tmp 28) (Operand.tmp 29) 29, type := 4, pos := _, after := _, guard := some (3, true) }) (v := .bool true) rfl (by kernel_rfl) (by kernel_rfl) (by kernel_rfl) (fun _ _ _ h => h) (Or.inl ⟨by kernel_rfl, ?_⟩) hHeld ?_); (next => (intro w hSw; (try dsimp only at hSw); go_simp)); (try simp only [Act.put, List.setIfInBounds_toArray, List.set_cons_zero, List.set_cons_succ]))
    ((refine wpAnyH_take (i := 7) (oi := { dst := some 31, op := Op.pick (Operand.tmp 27) (Operand.tmp 30) (Operand.const (.bool false)), type := 4, pos := _, after := _, guard := none }) (v := .bool true) rfl (by kernel_rfl) (by kernel_rfl) (by kernel_rfl) (fun _ _ _ h => h) (Or.inl ⟨by kernel_rfl, ?_⟩) hHeld ?_); (next => (intro w hSw; (try dsimp only at hSw); go_simp)); (try simp only [Act.put, List.setIfInBounds_toArray, List.set_cons_zero, List.set_cons_succ]))
    ((refine wpAnyH_take (i := 8) (oi := { dst := some 32, op := Op.move (Operand.tmp 31), type := 4, pos := _, after := _, guard := none }) (v := .bool true) rfl (by kernel_rfl) (by kernel_rfl) (by kernel_rfl) (fun _ _ _ h => h) (Or.inl ⟨by kernel_rfl, ?_⟩) hHeld ?_); (next => (intro w hSw; (try dsimp only at hSw); go_simp)); (try simp only [Act.put, List.setIfInBounds_toArray, List.set_cons_zero, List.set_cons_succ]))
    ((refine wpAnyH_take (i := 9) (oi := { dst := some 33, op := Op.load 25 (Operand.tmp 3), type := 25, pos := _, after := _, guard := some (8, true) }) (v := ?_) rfl (by kernel_rfl) (by kernel_rfl) (by kernel_rfl) (fun _ _ _ h => h) (Or.inl ⟨by kernel_rfl, ?_⟩) hHeld ?_); (rotate_left 1); (next => (intro w hSw; (try dsimp only at hSw); go_simp; try with_reducible rfl)); (try simp only [Act.put, List.setIfInBounds_toArray, List.set_cons_zero, List.set_cons_succ]))
    ((refine wpAnyH_take (i := 11) (oi := { dst := some 35, op := Op.load 25 (Operand.tmp 1), type := 25, pos := _, after := _, guard := some (8, true) }) (v := ?_) rfl (by kernel_rfl) (by kernel_rfl) (by kernel_rfl) (fun _ _ _ h => h) (Or.inl ⟨by kernel_rfl, ?_⟩) hHeld ?_); (rotate_left 1); (next => (intro w hSw; (try dsimp only at hSw); go_simp; try with_reducible rfl)); (try simp only [Act.put, List.setIfInBounds_toArray, List.set_cons_zero, List.set_cons_succ]))
    ((refine wpAnyH_ready (rs := [10]) (by kernel_rfl) (by simp) (AllReadyH.cons (o := { dst := some 34, op := Op.call { callee := Callee.value (Operand.func 15), args := #[Operand.tmp 33], argTypes := #[25] }, type := 29, pos := _, after := _, guard := some (8, true) }) rfl (fun K hK => ?_) AllReadyH.nil)); go_simp; ((with_reducible refine (KC.out _ hHeld.2).mono ?_)); (rintro e w9 ⟨rfl, hb9⟩); (try go_wp2_with fail); (refine hK.out _ _ ?_ (fun hHeld => ?_)); (next => exact keepP hHeld hb9); (clear hK K); (try simp only [Act.put, List.setIfInBounds_toArray, List.set_cons_zero, List.set_cons_succ]))
    ((refine wpAnyH_ready (rs := [12]) (by kernel_rfl) (by simp) (AllReadyH.cons (o := { dst := some 36, op := Op.call { callee := Callee.value (Operand.func 16), args := #[Operand.tmp 35], argTypes := #[25] }, type := 29, pos := _, after := _, guard := some (8, true) }) rfl (fun K hK => ?_) AllReadyH.nil)); go_simp; ((with_reducible refine (KR.out _ hHeld.2).mono ?_)); (rintro e w9 ⟨rfl, hb9⟩); (try go_wp2_with fail); (refine hK.out _ _ ?_ (fun hHeld => ?_)); (next => exact keepP hHeld hb9); (clear hK K); (try simp only [Act.put, List.setIfInBounds_toArray, List.set_cons_zero, List.set_cons_succ]))
    ((refine wpAnyH_take (i := 13) (oi := { dst := some 37, op := Op.binOp BinOp.eql 29 (Operand.tmp 34) (Operand.tmp 36) 29, type := 4, pos := _, after := _, guard := some (8, true) }) (v := .bool true) rfl (by kernel_rfl) (by kernel_rfl) (by kernel_rfl) (fun _ _ _ h => h) (Or.inl ⟨by kernel_rfl, ?_⟩) hHeld ?_); (next => (intro w hSw; (try dsimp only at hSw); go_simp)); (try simp only [Act.put, List.setIfInBounds_toArray, List.set_cons_zero, List.set_cons_succ]))
    ((refine wpAnyH_take (i := 14) (oi := { dst := some 38, op := Op.pick (Operand.tmp 32) (Operand.tmp 37) (Operand.const (.bool false)), type := 4, pos := _, after := _, guard := none }) (v := .bool true) rfl (by kernel_rfl) (by kernel_rfl) (by kernel_rfl) (fun _ _ _ h => h) (Or.inl ⟨by kernel_rfl, ?_⟩) hHeld ?_); (next => (intro w hSw; (try dsimp only at hSw); go_simp)); (try simp only [Act.put, List.setIfInBounds_toArray, List.set_cons_zero, List.set_cons_succ]))
    ((refine wpAnyH_take (i := 15) (oi := { dst := some 39, op := Op.move (Operand.tmp 38), type := 4, pos := _, after := _, guard := none }) (v := .bool true) rfl (by kernel_rfl) (by kernel_rfl) (by kernel_rfl) (fun _ _ _ h => h) (Or.inl ⟨by kernel_rfl, ?_⟩) hHeld ?_); (next => (intro w hSw; (try dsimp only at hSw); go_simp)); (try simp only [Act.put, List.setIfInBounds_toArray, List.set_cons_zero, List.set_cons_succ]))
    ((refine wpAnyH_take (i := 16) (oi := { dst := some 40, op := Op.load 25 (Operand.tmp 3), type := 25, pos := _, after := _, guard := some (15, true) }) (v := ?_) rfl (by kernel_rfl) (by kernel_rfl) (by kernel_rfl) (fun _ _ _ h => h) (Or.inl ⟨by kernel_rfl, ?_⟩) hHeld ?_); (rotate_left 1); (next => (intro w hSw; (try dsimp only at hSw); go_simp; try with_reducible rfl)); (try simp only [Act.put, List.setIfInBounds_toArray, List.set_cons_zero, List.set_cons_succ]))
    ((refine wpAnyH_take (i := 17) (oi := { dst := some 41, op := Op.load 25 (Operand.tmp 1), type := 25, pos := _, after := _, guard := some (15, true) }) (v := ?_) rfl (by kernel_rfl) (by kernel_rfl) (by kernel_rfl) (fun _ _ _ h => h) (Or.inl ⟨by kernel_rfl, ?_⟩) hHeld ?_); (rotate_left 1); (next => (intro w hSw; (try dsimp only at hSw); go_simp; try with_reducible rfl)); (try simp only [Act.put, List.setIfInBounds_toArray, List.set_cons_zero, List.set_cons_succ]))
    ((refine wpAnyH_ready (rs := [18]) (by kernel_rfl) (by simp) (AllReadyH.cons (o := { dst := some 42, op := Op.call { callee := Callee.value (Operand.func 17), args := #[Operand.tmp 40, Operand.tmp 41], argTypes := #[25, 25] }, type := 4, pos := _, after := _, guard := some (15, true) }) rfl (fun K hK => ?_) AllReadyH.nil)); go_simp; ((with_reducible refine (KE.out _ hHeld.2).mono ?_)); (rintro e w9 ⟨rfl, hb9⟩); (try go_wp2_with fail); (refine hK.out _ _ ?_ (fun hHeld => ?_)); (next => exact keepP hHeld hb9); (clear hK K); (try simp only [Act.put, List.setIfInBounds_toArray, List.set_cons_zero, List.set_cons_succ]))
    ((refine wpAnyH_take (i := 19) (oi := { dst := some 43, op := Op.pick (Operand.tmp 39) (Operand.tmp 42) (Operand.const (.bool false)), type := 4, pos := _, after := _, guard := none }) (v := .bool true) rfl (by kernel_rfl) (by kernel_rfl) (by kernel_rfl) (fun _ _ _ h => h) (Or.inl ⟨by kernel_rfl, ?_⟩) hHeld ?_); (next => (intro w hSw; (try dsimp only at hSw); go_simp)); (try simp only [Act.put, List.setIfInBounds_toArray, List.set_cons_zero, List.set_cons_succ]))
    ((refine wpAnyH_take (i := 20) (oi := { dst := some 44, op := Op.move (Operand.tmp 43), type := 4, pos := _, after := _, guard := none }) (v := .bool true) rfl (by kernel_rfl) (by kernel_rfl) (by kernel_rfl) (fun _ _ _ h => h) (Or.inl ⟨by kernel_rfl, ?_⟩) hHeld ?_); (next => (intro w hSw; (try dsimp only at hSw); go_simp)); (try simp only [Act.put, List.setIfInBounds_toArray, List.set_cons_zero, List.set_cons_succ]))
    ((refine wpAnyH_ready (rs := [21]) (by kernel_rfl) (by simp) (AllReadyH.cons (o := { dst := some 45, op := Op.call { callee := Callee.value (Operand.func 11), args := #[], argTypes := #[] }, type := 4, pos := _, after := _, guard := some (20, true) }) rfl (fun K hK => ?_) AllReadyH.nil)); go_simp; ((with_reducible refine (KW.out _ hHeld.2).mono ?_)); (rintro e w9 ⟨rfl, hb9⟩); (try go_wp2_with fail); (refine hK.out _ _ ?_ (fun hHeld => ?_)); (next => exact keepP hHeld hb9); (clear hK K); (try simp only [Act.put, List.setIfInBounds_toArray, List.set_cons_zero, List.set_cons_succ]))
    ((refine wpAnyH_take (i := 22) (oi := { dst := some 46, op := Op.pick (Operand.tmp 44) (Operand.tmp 45) (Operand.const (.bool false)), type := 4, pos := _, after := _, guard := none }) (v := .bool true) rfl (by kernel_rfl) (by kernel_rfl) (by kernel_rfl) (fun _ _ _ h => h) (Or.inl ⟨by kernel_rfl, ?_⟩) hHeld ?_); (next => (intro w hSw; (try dsimp only at hSw); go_simp)); (try simp only [Act.put, List.setIfInBounds_toArray, List.set_cons_zero, List.set_cons_succ]))
    ((refine wpAnyH_take (i := 23) (oi := { dst := some 2, op := Op.assign (Operand.tmp 46), type := 4, pos := _, after := _, guard := none }) (v := .bool true) rfl (by kernel_rfl) (by kernel_rfl) (by kernel_rfl) (fun _ _ _ h => h) (Or.inl ⟨by kernel_rfl, ?_⟩) hHeld ?_); (next => (intro w hSw; (try dsimp only at hSw); go_simp)); (try simp only [Act.put, List.setIfInBounds_toArray, List.set_cons_zero, List.set_cons_succ]))
    (refine wpAnyH_done (by kernel_rfl) ?_ _)
    have HBz := Lib.hid (HB4.out.next hHeld.2)
    clear hHeld
    go_wp2_with fail
    go_ret
    exact ⟨ret_bool (by simp), HBz.out⟩
end Go.Proofs.YthkpbgpgcpkiiaaGreatDoor
