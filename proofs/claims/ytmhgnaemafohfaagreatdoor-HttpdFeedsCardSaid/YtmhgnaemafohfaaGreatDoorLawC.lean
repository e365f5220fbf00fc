/- The plain law of Parse: the program answers as the reference. Conditions: none. -/
import Derived.Test.YtmhgnaemafohfaaGreatDoorLawB
namespace Go.Proofs.YtmhgnaemafohfaaGreatDoor
open Go.RowKit
set_option linter.unusedVariables false
set_option linter.unusedSimpArgs false
set_option maxRecDepth 100000

/-- The head, byte by byte. -/
theorem headX_of (x : Mc) (hd : B) (h0 : B) : headX { mc0 with head := h0 } hd = headX mc0 hd := rfl
theorem heads_law (s : B) : ∀ (n k : Nat), s.length - k = n → k ≤ s.length → k < whereL crL s + 4 → k ≤ 8195 →
    finP k (runM { mc0 with head := s.take k } (s.drop k)) =
      if 8192 < whereL crL s ∧ (whereL crL s < s.length ∨ 8196 ≤ whereL crL s) then (noReq, 0, 431)
      else if whereL crL s = s.length then (noReq, 0, 1)
      else if headSt (s.take (whereL crL s + 4)) = 1 then finP (whereL crL s + 4) (runM (headX mc0 (s.take (whereL crL s + 4))) (s.drop (whereL crL s + 4)))
      else finP (whereL crL s + 4) (0, headSt (s.take (whereL crL s + 4)), headX mc0 (s.take (whereL crL s + 4))) := by
  have hwl := whereL_le crL s
  have found : whereL crL s < s.length → whereL crL s + 4 ≤ s.length := by
    intro h
    have := (whereL_at crL s h).length_le
    rw [List.length_drop] at this
    have e : crL.length = 4 := rfl
    omega
  intro n
  induction n with
  | zero =>
    intro k hn hk hw h8
    have : k = s.length := by omega
    subst this
    have hns : whereL crL s = s.length := by
      rcases Nat.lt_or_ge (whereL crL s) s.length with h | h
      · have := found h; omega
      · omega
    rw [List.drop_length, if_neg (by omega), if_pos hns]; rfl
  | succ n ih =>
    intro k hn hk hw h8
    have hks : k < s.length := by omega
    rw [List.drop_eq_getElem_cons hks]
    have et : ∀ r : B, r = s.take k → r ++ [s[k]] = s.take (k + 1) := fun r hr => by rw [hr, List.take_add_one, List.getElem?_eq_getElem hks]; rfl
    have st : stepSt { mc0 with head := s.take k } s[k] = headsSt { mc0 with head := s.take k } s[k] := rfl
    have sx : stepX { mc0 with head := s.take k } s[k] = headsStep { mc0 with head := s.take k } s[k] := rfl
    have hl : (s.take (k + 1)).length = k + 1 := by rw [List.length_take]; omega
    have e1 : headsSt { mc0 with head := s.take k } s[k] = if crL.isSuffixOf (s.take (k + 1)) then headSt (s.take (k + 1)) else if 8196 ≤ k + 1 then 431 else 1 := by
      unfold headsSt; simp only [et _ rfl, hl]
    have e2 : headsStep { mc0 with head := s.take k } s[k] = if crL.isSuffixOf (s.take (k + 1)) then headX mc0 (s.take (k + 1)) else { mc0 with head := s.take (k + 1) } := by
      unfold headsStep; simp only [et _ rfl, headX_of]
    by_cases hs : crL.isSuffixOf (s.take (k + 1)) = true
    · obtain ⟨h4, hp⟩ := (suffix_at s k (by omega)).1 hs
      have hk4 : ¬ k + 1 - 4 < whereL crL s := fun h => whereL_not crL s _ h hp
      have hwe : whereL crL s + 4 = k + 1 := by omega
      rw [if_neg (by omega), if_neg (by omega), hwe]
      rw [if_pos hs] at e1 e2
      by_cases h1 : headSt (s.take (k + 1)) = 1
      · rw [if_pos h1, finP_go (by rw [st, e1, h1]), sx, e2]
      · rw [if_neg h1, finP_one (by rw [st, e1]; exact h1), st, sx, e1, e2]
    · rw [if_neg hs] at e1 e2
      have hw2 : k + 1 < whereL crL s + 4 := by
        rcases Nat.lt_or_ge (k + 1) (whereL crL s + 4) with h | h
        · exact h
        · have hwe : whereL crL s + 4 = k + 1 := by omega
          refine absurd ((suffix_at s k (by omega)).2 ⟨by omega, ?_⟩) hs
          have : k + 1 - 4 = whereL crL s := by omega
          rw [this]; exact whereL_at crL s (by omega)
      by_cases hb : 8196 ≤ k + 1
      · rw [if_pos hb] at e1
        rw [finP_one (by rw [st, e1]; simp), st, e1, if_pos (by omega)]; rfl
      · rw [if_neg hb] at e1
        rw [finP_go (by rw [st, e1]), sx, e2, ih (k + 1) (by omega) (by omega) hw2 (by omega)]
theorem plainL0 (s : B) : plainL 0 s = ([], 0, 0) := by
  have h : ¬ ((s.length : Int) < 0) := by omega
  unfold plainL; rw [if_neg (by omega), if_neg (by omega), if_neg h]; rfl
theorem getD_head (l : List B) : l.getD 0 [] = firstL l := by cases l <;> rfl
/-- Behind the head: the body's law. -/
theorem body_law (x : Mc) (hx : x.b = []) (hl : x.left = 0) (hm : x.many = 0) (n : Nat) (s : B) :
    (if measL x.h = 1 then finP n (runM { x with st := if (valuesL x.h teL).length = 1 then .sizes else .plain, left := if (valuesL x.h teL).length = 1 then x.left else numF (firstL (valuesL x.h clL)) } s)
      else if measL x.h = 0 then (⟨x.m, x.p, x.h, []⟩, n, 0) else (noReq, 0, measL x.h)) =
      if (bodyL x.h s).2.2 ≠ 0 then (noReq, 0, (bodyL x.h s).2.2) else (⟨x.m, x.p, x.h, (bodyL x.h s).1⟩, n + (bodyL x.h s).2.1, 0) := by
  unfold measL bodyL
  rw [getD_head, getD_head, getD_head]
  generalize hC : (valuesL x.h teL).length = C
  generalize hH : (valuesL x.h hoL).length = H
  generalize hS : (valuesL x.h clL).length = S
  generalize firstL (valuesL x.h teL) = X
  generalize firstL (valuesL x.h hoL) = Y
  generalize firstL (valuesL x.h clL) = Z
  unfold measF
  by_cases k1 : 1 < C ∨ (C = 1 ∧ lowL X ≠ ckL)
  · simp only [if_pos k1]; simp
  simp only [if_neg k1]
  by_cases k2 : H ≠ 1 ∨ Y = []
  · have : H ≠ 1 ∨ Y = [] ∨ 1 < C + S := k2.elim .inl (fun h => .inr (.inl h))
    simp only [if_pos k2, if_pos this]; simp
  by_cases k3 : 1 < C + S
  · have : H ≠ 1 ∨ Y = [] ∨ 1 < C + S := .inr (.inr k3)
    simp only [if_neg k2, if_pos k3, if_pos this]; simp
  have k4 : ¬ (H ≠ 1 ∨ Y = [] ∨ 1 < C + S) := fun h => k2 (h.elim .inl (fun h => h.elim .inr (fun h => absurd h k3)))
  simp only [if_neg k2, if_neg k3, if_neg k4]
  by_cases k5 : C = 1
  · simp only [if_pos k5, if_true]
    refine finP_body (x := { x with st := .sizes, left := x.left }) (by simp) s 0 n _ ?_
    exact (sizes_law _ s { x with st := .sizes, left := x.left } 0 rfl rfl hm hl (by simp [hx])).trans (by rw [hx])
  simp only [if_neg k5]
  by_cases k6 : S = 0
  · have : ¬ S = 1 := by omega
    simp only [if_pos k6, if_neg this, plainL0]; simp
  have k7 : S = 1 := by omega
  simp only [if_neg k6, if_pos k7]
  by_cases k8 : Z = [] ∨ 9 < Z.length ∨ Z.all (isB 1) = false
  · have : allL Z 1 9 1 = false := by
      rw [allL_false]
      rcases k8 with h | h | h
      · subst h; exact .inr (.inl (by simp))
      · exact .inr (.inr h)
      · exact .inl h
    simp only [if_pos k8]
    simp [numL, this, plainL]
  have kA : allL Z 1 9 1 = true := by
    cases h : allL Z 1 9 1 with
    | true => rfl
    | false =>
      rw [allL_false] at h
      refine absurd ?_ k8
      rcases h with h | h | h
      · exact .inr (.inr h)
      · exact .inl (List.eq_nil_of_length_eq_zero (by omega))
      · exact .inr (.inl h)
  have kN : numL Z = (numF Z : Int) := by rw [numL, if_pos kA]
  rw [kN]
  simp only [if_neg k8]
  by_cases k9 : 32768 < numF Z
  · have h1 : ¬ ((numF Z : Int) < 0) := by omega
    have h2 : (32768 : Int) < numF Z := by omega
    simp only [if_pos k9, plainL, if_neg h1, if_pos h2]; simp
  have h1 : ¬ ((numF Z : Int) < 0) := by omega
  have h2 : ¬ ((32768 : Int) < numF Z) := by omega
  simp only [if_neg k9]
  by_cases kz : numF Z = 0
  · simp only [if_pos kz]
    rw [kz]; simp only [Int.ofNat_zero, Int.natCast_zero, plainL0]; simp
  · simp only [if_neg kz, if_true]
    refine finP_body (x := { x with st := .plain, left := numF Z }) (by simp) s 0 n _ ?_
    rw [plain_law s _ 0 rfl (by show 1 ≤ numF Z; omega)]
    simp only [plainL, if_neg h1, if_neg h2, hx, List.nil_append, Nat.zero_add]
    by_cases hs : s.length < numF Z
    · have h3 : (s.length : Int) < numF Z := by omega
      rw [if_pos hs, if_pos h3]
    · have h3 : ¬ (s.length : Int) < numF Z := by omega
      rw [if_neg hs, if_neg h3]; simp
/-- The program's Parse answers as the reference. -/
theorem parse_law (s : B) : progParse s = refParse s := by
  unfold progParse refParse
  have hwl := whereL_le crL s
  have h0 := heads_law s s.length 0 (by omega) (by omega) (by omega) (by omega)
  have e0 : { mc0 with head := s.take 0 } = mc0 := rfl
  rw [e0, List.drop_zero] at h0
  rw [h0]
  by_cases k1 : 8192 < whereL crL s ∧ (whereL crL s < s.length ∨ 8196 ≤ whereL crL s)
  · rw [if_pos k1, if_pos k1]
  rw [if_neg k1, if_neg k1]
  by_cases k2 : whereL crL s = s.length
  · rw [if_pos k2, if_pos k2]
  rw [if_neg k2, if_neg k2]
  have hw4 : whereL crL s + 4 ≤ s.length := by
    have := (whereL_at crL s (by omega)).length_le
    rw [List.length_drop] at this
    have e : crL.length = 4 := rfl
    omega
  have hw8 : whereL crL s ≤ 8192 := by omega
  have hd1 : (s.take (whereL crL s + 4)).length - 4 = whereL crL s := by rw [List.length_take]; omega
  have hd2 : (s.take (whereL crL s + 4)).take (whereL crL s) = s.take (whereL crL s) := by rw [List.take_take]; congr 1; omega
  unfold headSt headX
  rw [hd1, hd2]
  have hlen : ∀ x ∈ cutL (s.take (whereL crL s)), x.length ≤ 8192 := fun x hx => by
    have := cutL_mem _ x hx
    rw [List.length_take] at this; omega
  generalize hL : cutL (s.take (whereL crL s)) = L at *
  have hlen1 : (L.headD []).length ≤ 8192 := by
    cases L with
    | nil => simp
    | cons a r => exact hlen a (by simp)
  have hlen2 : ∀ x ∈ L.tail, x.length ≤ 8192 := fun x hx => hlen x (List.mem_of_mem_tail hx)
  generalize hn : whereL crL s = w at *
  generalize hst : s.take (w + 4) = hd at *
  by_cases k3 : L.any hasCR = true
  · simp only [k3, if_true]; simp [finP]
  have k3' : L.any hasCR = false := by simpa using k3
  simp only [k3', Bool.false_eq_true, if_false]
  unfold parse2
  obtain ⟨l1, l2⟩ := line_law _ hlen1
  rw [← l1]
  by_cases k4 : openL (L.headD []) = 0
  · have l3 := l2 k4
    simp only [k4, ne_eq, not_true_eq_false, if_false, l3]
    have hf := fields_law L.tail [] hlen2 (by simp)
    simp only [List.length_nil, List.nil_append] at hf
    by_cases k5 : (fieldsL 0 L.tail).2 = 0
    · rw [if_pos k5] at hf
      simp only [hf, k5, not_true_eq_false, if_false]
      have hb := body_law { mc0 with head := hd, m := openM (L.headD []), p := openM (openR (L.headD [])), h := (fieldsL 0 L.tail).1 } rfl rfl rfl (w + 4) (s.drop (w + 4))
      simp only at hb
      unfold parse3
      rw [← hb]
      by_cases k6 : measL (fieldsL 0 L.tail).1 = 1
      · rw [if_pos k6, if_pos k6]
      · rw [if_neg k6, if_neg k6]
        by_cases k7 : measL (fieldsL 0 L.tail).1 = 0
        · rw [if_pos k7, k7]; simp [finP]; rfl
        · rw [if_neg k7]; simp [finP, k7]
    · rw [if_neg k5] at hf
      have hge := fieldsP_ge L.tail []
      rw [hf] at hge
      have k6 : ¬ (fieldsL 0 L.tail).2 = 1 := by simp only at hge; omega
      simp only [hf, k5, not_false_eq_true, if_true, k6, if_false]
      simp [finP, k5]
  · have hge := openL_ge (L.headD [])
    have k6 : ¬ openL (L.headD []) = 1 := by omega
    simp only [k4, ne_eq, not_false_eq_true, if_true, k6, if_false]
    simp only [finP, ne_eq, k4, not_false_eq_true, if_true]
end Go.Proofs.YtmhgnaemafohfaaGreatDoor
