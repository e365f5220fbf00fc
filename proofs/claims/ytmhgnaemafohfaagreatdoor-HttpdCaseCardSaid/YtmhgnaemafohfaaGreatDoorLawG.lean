/- The plain law of letters: names of headers in other letters change nothing. Conditions: none. -/
import Derived.Test.YtmhgnaemafohfaaGreatDoorLawF
namespace Go.Proofs.YtmhgnaemafohfaaGreatDoor
open Go.RowKit
set_option linter.unusedVariables false
set_option linter.unusedSimpArgs false
set_option maxRecDepth 100000

/-- The names of headers in other letters. -/
def letB (c : UInt8) : Bool := inB 97 122 c || inB 65 90 c
def caseG (f : Nat → Bool) : Bool → Nat → B → B
  | _, _, [] => []
  | nm, i, c :: r => if c = 10 then c :: caseG f true (i + 1) r else if c = 58 then c :: caseG f false (i + 1) r
      else (if nm = true ∧ f i = true ∧ letB c = true then c ^^^ 32 else c) :: caseG f nm (i + 1) r
def caseL (f : Nat → Bool) (b : B) : B := caseG f false 0 (b.take (whereL crL b)) ++ b.drop (whereL crL b)
def kap (c : UInt8) : UInt8 := if letB c then 97 else c
theorem all_bytes (p : UInt8 → Bool) (h : (List.range 256).all (fun n => p (UInt8.ofNat n)) = true) (c : UInt8) : p c = true := by
  have := List.all_eq_true.1 h c.toNat (List.mem_range.2 c.toNat_lt)
  rwa [UInt8.ofNat_toNat] at this
theorem flip_kap (c : UInt8) (h : letB c = true) : kap (c ^^^ 32) = kap c := by
  have := all_bytes (fun c => !letB c || kap (c ^^^ 32) == kap c) (by decide) c
  simpa [h] using this
theorem flip_word (c : UInt8) (h : letB c = true) : isB 4 (c ^^^ 32) = true ∧ isB 4 c = true := by
  have := all_bytes (fun c => !letB c || (isB 4 (c ^^^ 32) && isB 4 c)) (by decide) c
  simpa [h] using this
theorem flip_low (c : UInt8) (h : letB c = true) : lowB (c ^^^ 32) = lowB c := by
  have := all_bytes (fun c => !letB c || lowB (c ^^^ 32) == lowB c) (by decide) c
  simpa [h] using this
theorem case_kap (f : Nat → Bool) : ∀ (l : B) (nm : Bool) (i : Nat), (caseG f nm i l).map kap = l.map kap := by
  intro l
  induction l with
  | nil => intro nm i; rfl
  | cons c r ih =>
    intro nm i
    rw [caseG]
    split
    · rw [List.map_cons, ih, List.map_cons]
    split
    · rw [List.map_cons, ih, List.map_cons]
    · rw [List.map_cons, ih, List.map_cons]
      split
      · rename_i h; rw [flip_kap c h.2.2]
      · rfl
theorem case_len (f : Nat → Bool) (l : B) (nm : Bool) (i : Nat) : (caseG f nm i l).length = l.length := by
  have := congrArg List.length (case_kap f l nm i)
  simpa using this
/-- Marks are found where they were. -/
def Mark (t : B) : Prop := ∀ x ∈ t, letB x = false
theorem kap_eq {c x : UInt8} (hx : letB x = false) : kap c = x ↔ c = x := by
  unfold kap
  constructor
  · intro h
    by_cases hc : letB c = true
    · rw [if_pos hc] at h; subst h; exact absurd hx (by decide)
    · rw [if_neg hc] at h; exact h
  · intro h; subst h; rw [if_neg (by rw [hx]; decide)]
theorem prefix_kap : ∀ (t s : B), Mark t → t.isPrefixOf (s.map kap) = t.isPrefixOf s := by
  intro t
  induction t with
  | nil => intro s _; simp [List.isPrefixOf]
  | cons x t ih =>
    intro s ht
    cases s with
    | nil => rfl
    | cons c s =>
      rw [List.map_cons, List.isPrefixOf, List.isPrefixOf, ih s fun y hy => ht y (by simp [hy])]
      have := kap_eq (c := c) (ht x (by simp))
      congr 1
      rw [Bool.eq_iff_iff, beq_iff_eq, beq_iff_eq]
      exact ⟨fun e => (this.1 e.symm).symm, fun e => (this.2 e.symm).symm⟩
theorem where_kap (t : B) (ht : Mark t) : ∀ s : B, whereL t (s.map kap) = whereL t s := by
  intro s
  induction s with
  | nil => rfl
  | cons c s ih =>
    rw [whereL, ← prefix_kap t (c :: s) ht, ← ih, List.map_cons, whereL]
theorem where_same {t a b : B} (ht : Mark t) (h : a.map kap = b.map kap) : whereL t a = whereL t b := by
  rw [← where_kap t ht a, h, where_kap t ht b]
theorem cr_same {a b : B} (h : a.map kap = b.map kap) : hasCR a = hasCR b := by
  have q : ∀ (x : UInt8) (l : B), letB x = false → memB x (l.map kap) = memB x l := by
    intro x l hx
    rw [Bool.eq_iff_iff]; unfold memB
    rw [List.contains_iff_mem, List.contains_iff_mem, List.mem_map]
    constructor
    · rintro ⟨c, hc, he⟩; rw [kap_eq hx] at he; subst he; exact hc
    · intro hc; exact ⟨x, hc, (kap_eq hx).2 rfl⟩
  unfold hasCR
  rw [← q 13 a (by decide), ← q 10 a (by decide), h, q 13 b (by decide), q 10 b (by decide)]
theorem cut_kap : ∀ (n : Nat) (s : B), s.length = n → cutL (s.map kap) = (cutL s).map (List.map kap) := by
  have hm : Mark [13, 10] := by intro x hx; simp at hx; rcases hx with rfl | rfl <;> decide
  intro n
  induction n using Nat.strongRecOn with
  | _ n ih =>
    intro s hl
    by_cases h : whereL [13, 10] s < s.length
    · rw [cutL, dif_pos (by rw [where_kap _ hm]; simpa using h), cutL.eq_def s, dif_pos h, where_kap _ hm, List.map_cons, ← List.map_take, ← List.map_drop]
      rw [ih (s.drop (whereL [13, 10] s + 2)).length (by rw [List.length_drop]; omega) _ rfl]
    · rw [cutL, dif_neg (by rw [where_kap _ hm]; simpa using h), cutL.eq_def s, dif_neg h]; rfl
theorem any_same {a b : B} (h : a.map kap = b.map kap) : (cutL a).any hasCR = (cutL b).any hasCR := by
  have q : ∀ s : B, (cutL s).any hasCR = (cutL (s.map kap)).any hasCR := by
    intro s
    rw [cut_kap _ s rfl, List.any_map]
    congr 1
    funext x
    have : (List.map kap x).map kap = x.map kap := by
      rw [List.map_map]; refine List.map_congr_left fun c _ => ?_
      show kap (kap c) = kap c
      have := all_bytes (fun c => kap (kap c) == kap c) (by decide) c
      simpa using this
    exact (cr_same this).symm
  rw [q a, h, ← q b]
/-- The lines. -/
def caseLs (f : Nat → Bool) : Bool → Nat → List B → List B
  | _, _, [] => []
  | nm, i, x :: l => caseG f nm i x :: caseLs f true (i + x.length + 2) l
theorem case_app (f : Nat → Bool) : ∀ (a : B) (nm : Bool) (i : Nat) (s : B), (10 : UInt8) ∉ a → caseG f nm i (a ++ 13 :: 10 :: s) = caseG f nm i a ++ 13 :: 10 :: caseG f true (i + a.length + 2) s := by
  intro a
  induction a with
  | nil =>
    intro nm i s _
    have e13 : ¬ (nm = true ∧ f i = true ∧ letB 13 = true) := fun h => absurd h.2.2 (by decide)
    rw [List.nil_append, caseG.eq_2, if_neg (by decide), if_neg (by decide), if_neg e13, caseG.eq_2, if_pos rfl]; rfl
  | cons c a ih =>
    intro nm i s h
    simp only [List.mem_cons, not_or] at h
    have hc : ¬ c = 10 := fun e => h.1 e.symm
    have e : i + 1 + a.length + 2 = i + (c :: a).length + 2 := by simp; omega
    rw [List.cons_append, caseG, if_neg hc, caseG, if_neg hc]
    by_cases h58 : c = 58
    · rw [if_pos h58, if_pos h58, ih _ _ _ h.2, e]; rfl
    · rw [if_neg h58, if_neg h58, ih _ _ _ h.2, e]; rfl
theorem mem_kap {a b : B} (h : a.map kap = b.map kap) (x : UInt8) (hx : letB x = false) : x ∈ a → x ∈ b := by
  intro ha
  have : x ∈ a.map kap := List.mem_map.2 ⟨x, ha, (kap_eq hx).2 rfl⟩
  rw [h] at this
  obtain ⟨c, hc, he⟩ := List.mem_map.1 this
  rw [kap_eq hx] at he; subst he; exact hc
theorem not_cr {x : B} (h : hasCR x = false) : (13 : UInt8) ∉ x ∧ (10 : UInt8) ∉ x := by
  unfold hasCR memB at h
  simp only [Bool.or_eq_false_iff, List.contains_eq_mem, decide_eq_false_iff_not] at h
  exact h
theorem cut_case (f : Nat → Bool) : ∀ (n : Nat) (l : B), l.length = n → ∀ (nm : Bool) (i : Nat), (cutL l).any hasCR = false → cutL (caseG f nm i l) = caseLs f nm i (cutL l) := by
  intro n
  induction n using Nat.strongRecOn with
  | _ n ih =>
    intro l hl nm i hcr
    by_cases h : whereL [13, 10] l < l.length
    · have e : cutL l = l.take (whereL [13, 10] l) :: cutL (l.drop (whereL [13, 10] l + 2)) := by rw [cutL, dif_pos h]
      rw [e, List.any_cons, Bool.or_eq_false_iff] at hcr
      obtain ⟨n13, n10⟩ := not_cr hcr.1
      obtain ⟨r, hr⟩ := whereL_at [13, 10] l h
      have el : l = l.take (whereL [13, 10] l) ++ 13 :: 10 :: r := by
        conv => lhs; rw [← List.take_append_drop (whereL [13, 10] l) l, ← hr]
        rfl
      have er : l.drop (whereL [13, 10] l + 2) = r := by rw [← List.drop_drop, ← hr]; rfl
      rw [e, er, caseLs]
      rw [er] at hcr
      generalize ha : l.take (whereL [13, 10] l) = a at *
      conv => lhs; rw [el]
      rw [case_app f a nm i r n10, cut_cons _ _ (fun hm => n13 (mem_kap (case_kap f a nm i) 13 (by decide) hm))]
      have hlr : r.length < n := by
        have := congrArg List.length el
        simp only [List.length_append, List.length_cons] at this; omega
      rw [ih r.length hlr r rfl true _ hcr.2]
    · have e : cutL l = [l] := by rw [cutL, dif_neg h]
      rw [e] at hcr ⊢
      have hm : Mark [13, 10] := by intro x hx; simp at hx; rcases hx with rfl | rfl <;> decide
      rw [cutL, dif_neg (by rw [where_same hm (case_kap f l nm i), case_len]; exact h)]; rfl
theorem case_off (f : Nat → Bool) : ∀ (l : B) (i : Nat), (10 : UInt8) ∉ l → caseG f false i l = l := by
  intro l
  induction l with
  | nil => intro i _; rfl
  | cons c r ih =>
    intro i h
    simp only [List.mem_cons, not_or] at h
    have hc : ¬ c = 10 := fun e => h.1 e.symm
    rw [caseG, if_neg hc]
    by_cases h58 : c = 58
    · rw [if_pos h58, ih _ h.2]
    · rw [if_neg h58, if_neg (by intro h; exact absurd h.1 (by decide)), ih _ h.2]
theorem case_field (f : Nat → Bool) : ∀ (l : B) (i : Nat), (10 : UInt8) ∉ l →
    eatL 4 (caseG f true i l) = eatL 4 l ∧ lowL ((caseG f true i l).take (eatL 4 l)) = lowL (l.take (eatL 4 l)) ∧
      (((caseG f true i l).getD (eatL 4 l) 0 = 58 ↔ l.getD (eatL 4 l) 0 = 58) ∧ (l.getD (eatL 4 l) 0 = 58 → (caseG f true i l).drop (eatL 4 l + 1) = l.drop (eatL 4 l + 1))) := by
  intro l
  induction l with
  | nil => intro i _; exact ⟨rfl, rfl, Iff.rfl, fun _ => rfl⟩
  | cons c r ih =>
    intro i h
    simp only [List.mem_cons, not_or] at h
    have hc : ¬ c = 10 := fun e => h.1 e.symm
    rw [caseG, if_neg hc]
    by_cases h58 : c = 58
    · subst h58
      rw [if_pos rfl, case_off f r _ h.2]
      exact ⟨rfl, rfl, Iff.rfl, fun _ => rfl⟩
    · rw [if_neg h58]
      obtain ⟨i1, i2, i3, i4⟩ := ih (i + 1) h.2
      generalize hd : (if true = true ∧ f i = true ∧ letB c = true then c ^^^ 32 else c) = d
      have hw : isB 4 d = isB 4 c ∧ lowB d = lowB c ∧ (isB 4 c = false → d = c) := by
        rw [← hd]; split
        · rename_i hh
          obtain ⟨w1, w2⟩ := flip_word c hh.2.2
          exact ⟨by rw [w1, w2], flip_low c hh.2.2, fun e => by rw [w2] at e; cases e⟩
        · exact ⟨rfl, rfl, fun _ => rfl⟩
      rw [eatL_cons, eatL_cons, hw.1]
      by_cases hb : isB 4 c = true
      · rw [if_pos hb, if_pos hb, i1]
        refine ⟨rfl, ?_, ?_, ?_⟩
        · rw [List.take_succ_cons, List.take_succ_cons]
          unfold lowL at *
          rw [List.map_cons, List.map_cons, i2, hw.2.1]
        · rw [List.getD_cons_succ, List.getD_cons_succ]; exact i3
        · rw [List.getD_cons_succ]; intro hh; rw [List.drop_succ_cons, List.drop_succ_cons]; exact i4 hh
      · have hb' : isB 4 c = false := by simpa using hb
        have hdc := hw.2.2 hb'
        rw [if_neg hb, if_neg hb, hdc]
        refine ⟨rfl, rfl, Iff.rfl, fun hh => absurd hh ?_⟩
        simpa using h58
theorem field_case (f : Nat → Bool) (l : B) (i : Nat) (h : (10 : UInt8) ∉ l) : fieldOk (caseG f true i l) = fieldOk l ∧ (fieldOk l = true → fieldOf (caseG f true i l) = fieldOf l) := by
  obtain ⟨i1, i2, i3, i4⟩ := case_field f l i h
  by_cases k : l.getD (eatL 4 l) 0 = 58
  · have hd := i4 k
    refine ⟨?_, fun _ => ?_⟩
    · unfold fieldOk; rw [i1, hd, case_len, decide_eq_decide.2 i3]
    · unfold fieldOf; rw [i1, i2, hd]
  · have k2 : ¬ (caseG f true i l).getD (eatL 4 l) 0 = 58 := fun e => k (i3.1 e)
    have e1 : fieldOk l = false := by unfold fieldOk; rw [decide_eq_false k]; simp
    have e2 : fieldOk (caseG f true i l) = false := by unfold fieldOk; rw [i1, decide_eq_false k2]; simp
    rw [e1, e2]; exact ⟨rfl, fun h => by cases h⟩
theorem fields_case (f : Nat → Bool) : ∀ (L : List B) (k i : Nat), L.any hasCR = false → fieldsL k (caseLs f true i L) = fieldsL k L := by
  intro L
  induction L with
  | nil => intro k i _; rfl
  | cons x L ih =>
    intro k i h
    rw [List.any_cons, Bool.or_eq_false_iff] at h
    obtain ⟨f1, f2⟩ := field_case f x i (not_cr h.1).2
    rw [caseLs, fieldsL, fieldsL, f1, ih _ _ h.2]
    by_cases hf : fieldOk x = false
    · rw [if_pos hf, if_pos hf]
    · rw [f2 (by simpa using hf)]
theorem case_law (f : Nat → Bool) (b : B) : refParse (caseL f b) = refParse b := by
  have hm : Mark crL := by intro x hx; simp [crL] at hx; rcases hx with rfl | rfl | rfl | rfl <;> decide
  have hwl := whereL_le crL b
  have hk : (caseL f b).map kap = b.map kap := by
    unfold caseL
    rw [List.map_append, case_kap, ← List.map_append, List.take_append_drop]
  have hw : whereL crL (caseL f b) = whereL crL b := where_same hm hk
  have hl : (caseL f b).length = b.length := by have := congrArg List.length hk; simpa using this
  have hlt : (caseG f false 0 (b.take (whereL crL b))).length = whereL crL b := by rw [case_len, List.length_take]; omega
  have ht : (caseL f b).take (whereL crL b) = caseG f false 0 (b.take (whereL crL b)) := by
    unfold caseL
    rw [List.take_append_of_le_length (by omega), List.take_of_length_le (by omega)]
  have hd : (caseL f b).drop (whereL crL b + 4) = b.drop (whereL crL b + 4) := by
    unfold caseL
    rw [← List.drop_drop]
    conv => lhs; arg 2; arg 1; rw [← hlt]
    rw [List.drop_left, List.drop_drop]
  unfold refParse
  rw [hw, hl, ht, hd, any_same (case_kap f (b.take (whereL crL b)) false 0)]
  by_cases k1 : 8192 < whereL crL b ∧ (whereL crL b < b.length ∨ 8196 ≤ whereL crL b)
  · rw [if_pos k1, if_pos k1]
  rw [if_neg k1, if_neg k1]
  by_cases k2 : whereL crL b = b.length
  · rw [if_pos k2, if_pos k2]
  rw [if_neg k2, if_neg k2]
  by_cases k3 : (cutL (b.take (whereL crL b))).any hasCR = true
  · rw [if_pos k3, if_pos k3]
  rw [if_neg k3, if_neg k3]
  have k4 : (cutL (b.take (whereL crL b))).any hasCR = false := by simpa using k3
  rw [cut_case f _ _ rfl false 0 k4]
  have hne := cutL_ne (b.take (whereL crL b))
  generalize cutL (b.take (whereL crL b)) = L at *
  cases L with
  | nil => exact absurd rfl hne
  | cons x L =>
    rw [List.any_cons, Bool.or_eq_false_iff] at k4
    rw [caseLs, case_off f x 0 (not_cr k4.1).2]
    have e := fields_case f L 0 (0 + x.length + 2) k4.2
    generalize caseLs f true (0 + x.length + 2) L = M at *
    unfold parse2
    simp only [List.headD_cons, List.tail_cons, e]
    rfl
end Go.Proofs.YtmhgnaemafohfaaGreatDoor
