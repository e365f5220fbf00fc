/- Plain laws of Parse: what is taken is taken from its beginning alone, and its statuses are few. Conditions: none. -/
import Derived.Test.YtmhgnaemafohfaaGreatDoorLawC
namespace Go.Proofs.YtmhgnaemafohfaaGreatDoor
open Go.RowKit
set_option linter.unusedVariables false
set_option linter.unusedSimpArgs false
set_option maxRecDepth 100000

/-- What is taken is taken from its beginning alone. -/
theorem run_cut : ∀ (l : B) (x : Mc), (runM x l).2.1 ≠ 1 → (1 ≤ (runM x l).1 ∧ (runM x l).1 ≤ l.length) ∧
    (∀ behind : B, runM x (l.take (runM x l).1 ++ behind) = runM x l) ∧ ∀ k, k < (runM x l).1 → (runM x (l.take k)).2.1 = 1 := by
  intro l
  induction l with
  | nil => intro x h; exact absurd rfl h
  | cons c l ih =>
    intro x h
    by_cases h1 : stepSt x c = 1
    · have e : ∀ r : B, runM x (c :: r) = ((runM (stepX x c) r).1 + 1, (runM (stepX x c) r).2) := fun r => by rw [runM, if_pos h1]
      rw [e] at h ⊢
      obtain ⟨⟨g1, g2⟩, g3, g4⟩ := ih (stepX x c) h
      refine ⟨⟨by simp only; omega, by simp only [List.length_cons]; omega⟩, fun behind => ?_, fun k hk => ?_⟩
      · simp only [List.take_succ_cons, List.cons_append]; rw [e, g3]
      · cases k with
        | zero => rfl
        | succ k =>
          simp only [List.take_succ_cons]; rw [e]
          exact g4 k (by simp only at hk; omega)
    · have e : ∀ r : B, runM x (c :: r) = (1, stepSt x c, stepX x c) := fun r => by rw [runM, if_neg h1]
      rw [e]
      refine ⟨⟨Nat.le_refl _, by simp⟩, fun behind => ?_, fun k hk => ?_⟩
      · simp only [List.take_succ_cons, List.cons_append]; rw [e]
      · have : k = 0 := by simp only at hk; omega
        subst this; rfl
theorem cut_law (l : B) (h : (progParse l).2.2 = 0) : (1 ≤ (progParse l).2.1 ∧ (progParse l).2.1 ≤ l.length) ∧
    (∀ behind : B, progParse (l.take (progParse l).2.1 ++ behind) = progParse l) ∧ ∀ k, k < (progParse l).2.1 → progParse (l.take k) = (noReq, 0, 1) := by
  have hs : (runM mc0 l).2.1 = 0 := by
    by_cases h0 : (runM mc0 l).2.1 = 0
    · exact h0
    · unfold progParse finP at h; rw [if_pos h0] at h; exact absurd h h0
  have hn : (progParse l).2.1 = (runM mc0 l).1 := by unfold progParse finP; rw [if_neg (by simp [hs])]; simp
  obtain ⟨g1, g2, g3⟩ := run_cut l mc0 (by rw [hs]; decide)
  rw [hn]
  refine ⟨g1, fun behind => ?_, fun k hk => ?_⟩
  · unfold progParse; rw [g2]
  · unfold progParse finP; rw [g3 k hk]; rfl
theorem not_law (l : B) (h : (progParse l).2.2 ≠ 0) : (progParse l).2.1 = 0 ∧ (progParse l).1 = noReq := by
  unfold progParse finP at h ⊢
  by_cases h0 : (runM mc0 l).2.1 = 0
  · rw [if_neg (by simp [h0])] at h; exact absurd rfl h
  · rw [if_pos h0]; exact ⟨rfl, rfl⟩

/-- The statuses. -/
def OneOf (n : Nat) : Prop := n ∈ [1, 400, 413, 414, 431, 501, 505]
theorem ends_one (l : B) : endsL l = 0 ∨ OneOf (endsL l) := by
  rcases ends_cases l with ⟨h, _⟩ | ⟨h, _⟩ | ⟨h, _⟩ <;> rw [h] <;> simp [OneOf]
theorem line_one (s : B) : (lineL s).2.2 = 0 ∨ OneOf (lineL s).2.2 := by
  unfold lineL line2 line3
  repeat' split
  all_goals first | exact .inl rfl | exact .inr (by simp [OneOf, bad])
theorem fields_one : ∀ (l : List B) (i : Nat), i ≤ 32 → ((fieldsL i l).2 = 0 ∧ (fieldsL i l).1.length + i ≤ 32 ∧ ∀ h ∈ (fieldsL i l).1, lowL h.1 = h.1) ∨ OneOf (fieldsL i l).2 := by
  have low2 : ∀ l : B, lowL (lowL l) = lowL l := by
    intro l
    unfold lowL
    rw [List.map_map]
    refine List.map_congr_left fun c _ => ?_
    have : ∀ c : UInt8, lowB (lowB c) = lowB c := by
      intro c
      by_cases hc : isB 2 c = true
      · have h1 : (65 ≤ c.toNat) ∧ c.toNat ≤ 90 := by
          have : (65 ≤ (c.toNat : Int)) ∧ (c.toNat : Int) ≤ 90 := by simpa [isB, inB] using hc
          omega
        have e : lowB c = c + 32 := by unfold lowB; rw [if_pos hc]
        have h2 : (c + 32).toNat = c.toNat + 32 := by rw [UInt8.toNat_add]; have : (32 : UInt8).toNat = 32 := rfl; omega
        rw [e]; unfold lowB
        rw [if_neg]
        simp [isB, inB, h2]; omega
      · have e : lowB c = c := by unfold lowB; rw [if_neg hc]
        rw [e, e]
    exact this c
  intro l
  induction l with
  | nil => intro i hi; exact .inl ⟨rfl, by simpa [fieldsL] using hi, fun h hh => by simp [fieldsL] at hh⟩
  | cons s l ih =>
    intro i hi
    rw [fieldsL]
    by_cases h1 : 32 ≤ i
    · rw [if_pos h1]; exact .inr (by simp [OneOf])
    rw [if_neg h1]
    by_cases h2 : fieldOk s = false
    · rw [if_pos h2]; exact .inr (by simp [OneOf])
    rw [if_neg h2]
    unfold fin
    rcases ih (i + 1) (by omega) with ⟨h3, h4, h5⟩ | h3
    · rw [if_pos h3]
      refine .inl ⟨rfl, ?_, fun h hh => ?_⟩
      · rw [List.length_append]; simp only [List.length_cons, List.length_nil]; omega
      · rcases List.mem_append.1 hh with hh | hh
        · simp only [List.mem_singleton] at hh; subst hh; exact low2 _
        · exact h5 h hh
    · rw [if_neg (fun e => by rw [e] at h3; simp [OneOf] at h3)]; exact .inr h3
theorem chunk_one : ∀ (n : Nat) (acc : B) (p : Nat) (l : B), l.length = n → acc.length ≤ 32768 →
    ((chunkL acc p l).2.2 = 0 ∧ (chunkL acc p l).1.length ≤ 32768 ∧ (chunkL acc p l).2.1 ≤ p + l.length) ∨ OneOf (chunkL acc p l).2.2 := by
  intro n
  induction n using Nat.strongRecOn with
  | _ n ih =>
    intro acc p l hl ha
    rw [chunkL]
    by_cases c1 : 8 < digitsN l
    · rw [if_pos c1]; exact .inr (by simp [OneOf])
    rw [if_neg c1]
    by_cases c2 : digitsN l < l.length ∧ digitsN l = 0
    · rw [if_pos c2]; exact .inr (by simp [OneOf])
    rw [if_neg c2]
    by_cases c3 : endsL (l.drop (digitsN l)) ≠ 0
    · rw [if_pos c3]; exact .inr ((ends_one _).resolve_left c3)
    rw [if_neg c3]
    have k3 := ends_len (Decidable.not_not.1 c3)
    rw [List.length_drop] at k3
    by_cases c4 : 32768 - acc.length < hexF (l.take (digitsN l))
    · rw [if_pos c4]; exact .inr (by simp [OneOf])
    rw [if_neg c4]
    by_cases c5 : l.length - (digitsN l + 2) < hexF (l.take (digitsN l))
    · rw [if_pos c5]; exact .inr (by simp [OneOf])
    rw [if_neg c5]
    by_cases c6 : endsL (l.drop (digitsN l + 2 + hexF (l.take (digitsN l)))) ≠ 0
    · rw [if_pos c6]; exact .inr ((ends_one _).resolve_left c6)
    rw [if_neg c6]
    have k6 := ends_len (Decidable.not_not.1 c6)
    rw [List.length_drop] at k6
    by_cases c7 : hexF (l.take (digitsN l)) = 0
    · rw [if_pos c7]; exact .inl ⟨rfl, ha, by simp only; omega⟩
    rw [if_neg c7, dif_neg (by omega)]
    have := ih (l.length - (digitsN l + 4 + hexF (l.take (digitsN l)))) (by omega) (acc ++ (l.drop (digitsN l + 2)).take (hexF (l.take (digitsN l)))) (p + (digitsN l + 4 + hexF (l.take (digitsN l))))
      (l.drop (digitsN l + 4 + hexF (l.take (digitsN l)))) (by rw [List.length_drop]) (by rw [List.length_append, List.length_take, List.length_drop]; omega)
    rw [List.length_drop] at this
    rcases this with ⟨h1, h2, h3⟩ | h1
    · exact .inl ⟨h1, h2, by omega⟩
    · exact .inr h1
/-- A header's value, whatever the letters of its name. -/
def findL (hs : List (B × B)) (nm : B) : Option B := (hs.find? fun h => lowL h.1 == lowL nm).map (·.2)
theorem find_host (hs : List (B × B)) (hl : ∀ h ∈ hs, lowL h.1 = h.1) (h1 : (valuesL hs hoL).length = 1) : findL hs hoL = some ((valuesL hs hoL).getD 0 []) := by
  have e : lowL hoL = hoL := by decide
  unfold findL valuesL at *
  rw [e]
  have e2 : (hs.find? fun h => lowL h.1 == hoL) = hs.find? fun h => h.1 == hoL := by
    clear h1
    induction hs with
    | nil => rfl
    | cons h t ih => rw [List.find?_cons, List.find?_cons, hl h (by simp), ih fun x hx => hl x (by simp [hx])]
  rw [e2, ← List.head?_filter]
  cases hf : hs.filter fun h => h.1 == hoL with
  | nil => rw [hf] at h1; simp at h1
  | cons a t => rfl
theorem body_one (h : List (B × B)) (s : B) : ((bodyL h s).2.2 = 0 ∧ (bodyL h s).1.length ≤ 32768 ∧ (bodyL h s).2.1 ≤ s.length ∧ (valuesL h hoL).length = 1 ∧ (valuesL h hoL).getD 0 [] ≠ []) ∨ OneOf (bodyL h s).2.2 := by
  unfold bodyL
  by_cases c1 : 1 < (valuesL h teL).length ∨ ((valuesL h teL).length = 1 ∧ lowL ((valuesL h teL).getD 0 []) ≠ ckL)
  · rw [if_pos c1]; exact .inr (by simp [OneOf])
  rw [if_neg c1]
  by_cases c2 : (valuesL h hoL).length ≠ 1 ∨ (valuesL h hoL).getD 0 [] = [] ∨ 1 < (valuesL h teL).length + (valuesL h clL).length
  · rw [if_pos c2]; exact .inr (by simp [OneOf])
  rw [if_neg c2]
  have k1 : (valuesL h hoL).length = 1 := by omega
  have k2 : (valuesL h hoL).getD 0 [] ≠ [] := fun e => c2 (.inr (.inl e))
  by_cases c3 : (valuesL h teL).length = 1
  · rw [if_pos c3]
    rcases chunk_one _ [] 0 s rfl (by simp) with ⟨h1, h2, h3⟩ | h1
    · exact .inl ⟨h1, h2, by omega, k1, k2⟩
    · exact .inr h1
  rw [if_neg c3]
  generalize (if (valuesL h clL).length = 1 then numL ((valuesL h clL).getD 0 []) else 0) = n
  unfold plainL
  by_cases p1 : n < 0
  · rw [if_pos p1]; exact .inr (by simp [OneOf])
  rw [if_neg p1]
  by_cases p2 : 32768 < n
  · rw [if_pos p2]; exact .inr (by simp [OneOf])
  rw [if_neg p2]
  by_cases p3 : (s.length : Int) < n
  · rw [if_pos p3]; exact .inr (by simp [OneOf])
  rw [if_neg p3]
  exact .inl ⟨rfl, by rw [List.length_take]; omega, by simp only; omega, k1, k2⟩
/-- What is answered is a request, or one of few statuses. -/
theorem one_law (l : B) : ((refParse l).2.2 = 0 ∧ 0 < (refParse l).2.1 ∧ (refParse l).2.1 ≤ l.length ∧ (refParse l).1.b.length ≤ 32768 ∧ (refParse l).1.h.length ≤ 32 ∧ ∃ v, v ≠ [] ∧ findL (refParse l).1.h hoL = some v) ∨
    (OneOf (refParse l).2.2 ∧ (refParse l).2.1 = 0 ∧ (refParse l).1 = noReq) := by
  have hwl := whereL_le crL l
  unfold refParse
  by_cases k1 : 8192 < whereL crL l ∧ (whereL crL l < l.length ∨ 8196 ≤ whereL crL l)
  · rw [if_pos k1]; exact .inr ⟨by simp [OneOf], rfl, rfl⟩
  rw [if_neg k1]
  by_cases k2 : whereL crL l = l.length
  · rw [if_pos k2]; exact .inr ⟨by simp [OneOf], rfl, rfl⟩
  rw [if_neg k2]
  have hw4 : whereL crL l + 4 ≤ l.length := by
    have := (whereL_at crL l (by omega)).length_le
    rw [List.length_drop] at this
    have e : crL.length = 4 := rfl
    omega
  by_cases k3 : (cutL (l.take (whereL crL l))).any hasCR = true
  · rw [if_pos k3]; exact .inr ⟨by simp [OneOf], rfl, rfl⟩
  rw [if_neg k3]
  generalize cutL (l.take (whereL crL l)) = L
  unfold parse2
  by_cases k4 : (lineL (L.headD [])).2.2 ≠ 0
  · rw [if_pos k4]; exact .inr ⟨(line_one _).resolve_left k4, rfl, rfl⟩
  rw [if_neg k4]
  rcases fields_one L.tail 0 (by omega) with ⟨f1, f2, f3⟩ | f1
  · rw [if_neg (by simp [f1])]
    unfold parse3
    rcases body_one (fieldsL 0 L.tail).1 (l.drop (whereL crL l + 4)) with ⟨b1, b2, b3, b4, b5⟩ | b1
    · rw [if_neg (by simp [b1])]
      rw [List.length_drop] at b3
      refine .inl ⟨rfl, by simp only; omega, by simp only; omega, b2, by simp only; omega, _, b5, find_host _ f3 b4⟩
    · have : (bodyL (fieldsL 0 L.tail).1 (l.drop (whereL crL l + 4))).2.2 ≠ 0 := fun e => by rw [e] at b1; simp [OneOf] at b1
      rw [if_pos this]; exact .inr ⟨b1, rfl, rfl⟩
  · have : (fieldsL 0 L.tail).2 ≠ 0 := fun e => by rw [e] at f1; simp [OneOf] at f1
    rw [if_pos this]; exact .inr ⟨f1, rfl, rfl⟩
/-- A request that is read, one that is none. -/
def wakeA : B := [71, 69, 84, 32, 47, 97, 32, 72, 84, 84, 80, 47, 49, 46, 49, 13, 10, 72, 111, 115, 116, 58, 32, 97, 13, 10, 13, 10, 120]
def wakeB : B := [71, 69, 84, 32, 47, 97, 32, 72, 84, 84, 80, 47, 49, 46, 48, 13, 10, 13, 10]
theorem wakeA_law : progParse wakeA = (⟨[71, 69, 84], [47, 97], [(hoL, [97])], []⟩, 28, 0) := by
  rw [parse_law]
  have h1 : whereL crL wakeA = 24 := by decide
  have h2 : cutL (wakeA.take 24) = [[71, 69, 84, 32, 47, 97, 32, 72, 84, 84, 80, 47, 49, 46, 49], [72, 111, 115, 116, 58, 32, 97]] := by
    rw [cutL, dif_pos (by decide), cutL, dif_neg (by decide)]; decide
  unfold refParse
  rw [h1, h2]
  rfl
theorem wakeB_law : progParse wakeB = (noReq, 0, 505) := by
  rw [parse_law]
  have h1 : whereL crL wakeB = 15 := by decide
  have h2 : cutL (wakeB.take 15) = [[71, 69, 84, 32, 47, 97, 32, 72, 84, 84, 80, 47, 49, 46, 48]] := by
    rw [cutL, dif_neg (by decide)]; decide
  unfold refParse
  rw [h1, h2]
  rfl
end Go.Proofs.YtmhgnaemafohfaaGreatDoor
