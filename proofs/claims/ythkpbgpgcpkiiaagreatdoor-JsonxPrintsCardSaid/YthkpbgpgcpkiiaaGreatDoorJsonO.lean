/- JSON: what is read is no heavier than its text, the law One, the order of parts, the lengths of lists. Plain. Conditions: none. -/
import Derived.Test.YthkpbgpgcpkiiaaGreatDoorJsonN
import Derived.Test.YthkpbgpgcpkiiaaGreatDoorJsonU
namespace Go.Proofs.YthkpbgpgcpkiiaaGreatDoor
set_option linter.unusedVariables false
set_option linter.unusedSimpArgs false
set_option maxRecDepth 100000

theorem escT_wt {n : Nat} {l r b : B} (h : escT n l = .ok b r) : b.length + r.length ≤ l.length := by
  cases l with
  | nil => cases h
  | cons d q =>
    simp only [escT] at h
    split at h
    · cases h
    · cases h5 : hexB hiTwo (d :: q) with
      | fail r e => rw [h5] at h; cases h
      | ok m r4 =>
        rw [h5] at h
        have l5 := hexGo_ok _ h5
        simp only [PR.ok.injEq] at h
        obtain ⟨rfl, rfl⟩ := h
        have := utf8_le (0x10000 + (n - 0xd800) * 1024 + m - 0xdc00)
        omega
theorem escS_wt {n : Nat} {l r b : B} (h : escS n l = .ok b r) : b.length + r.length ≤ l.length + 4 := by
  unfold escS at h
  split at h
  · cases h4 : wordB [92, 117] l with
    | fail r e => rw [h4] at h; cases h
    | ok u r3 =>
      rw [h4] at h
      have l4 := congrArg List.length (word_ok h4)
      have := escT_wt h
      simp at l4; omega
  · have := utf8_le n
    cases h; omega
theorem escR_wt {c : UInt8} {l r b : B} (h : escR c l = .ok b r) : b.length + r.length ≤ l.length + 1 := by
  unfold escR at h
  cases h2 : ctlB c with
  | some d => rw [h2] at h; cases h; simp; omega
  | none =>
    rw [h2] at h
    simp only at h
    split at h
    · cases h; simp; omega
    · cases h3 : hexB loTwo l with
      | fail r e => rw [h3] at h; cases h
      | ok n r2 =>
        rw [h3] at h
        have l3 := hexGo_ok _ h3
        have := escS_wt h
        omega
theorem esc_wt {l r b : B} (h : escB l = .ok b r) : b.length + r.length ≤ l.length := by
  cases h1 : oneB escL l with
  | fail r e => unfold escB at h; rw [h1] at h; cases h
  | ok c r1 =>
    rw [escB_eq h1] at h
    have hl := congrArg List.length (one_ok h1).1
    have := escR_wt h
    simp at hl; omega
theorem textF_wt : ∀ {f : Nat} {acc l r b : B}, textF f acc l = .ok b r → b.length + r.length ≤ acc.length + l.length
  | 0, acc, l, r, b, h => by cases h
  | f + 1, acc, l, r, b, h => by
    rw [textF.eq_def] at h
    simp only at h
    cases l with
    | nil => cases h
    | cons c l =>
      simp only at h
      split at h
      · cases h; exact Nat.le_refl _
      · split at h
        · cases h
        · split at h
          · cases h1 : escB l with
            | fail r e => rw [h1] at h; cases h
            | ok b1 r1 =>
              rw [h1] at h
              have l1 := esc_wt h1
              have := textF_wt h
              simp at this ⊢; omega
          · cases h1 : charB (c :: l) with
            | fail r e => rw [h1] at h; cases h
            | ok b1 r1 =>
              rw [h1] at h
              have l1 := congrArg List.length (char_ok (by simp) h1).2
              have := textF_wt h
              simp at this l1 ⊢; omega
theorem text_wt' {l r b : B} (h : textB l = .ok b r) : b.length + r.length + 1 ≤ l.length ∧ 1 ≤ r.length := by
  have h0 := (text_ok h).2
  unfold textB at h
  cases h1 : oneB [34] l with
  | fail r e => rw [h1] at h; cases h
  | ok c r1 =>
    rw [h1] at h
    have l1 := congrArg List.length (one_ok h1).1
    have := textF_wt h
    obtain ⟨r', rfl⟩ := h0
    simp at this l1 ⊢; omega
theorem wts_snoc (l : List J) (v : J) : wtsJ (l ++ [v]) = wtsJ l + wtJ v := by
  rw [wts_sum, wts_sum]; simp
theorem parts_wt : ∀ f : Nat, (∀ deep l v r, valF f deep l = .ok v r → wtJ v + r.length ≤ l.length) ∧ (∀ deep acc l v r, itemsF f deep acc l = .ok v r → wtJ v + r.length ≤ wtsJ acc + l.length) ∧
    (∀ deep ns is l v r, memsF f deep ns is l = .ok v r → wtJ v + r.length ≤ ns.length + (ns.map List.length).sum + wtsJ is + l.length) := by
  intro f
  induction f with
  | zero => exact ⟨(fun _ _ _ _ h => (by rw [valF] at h; cases h)), (fun _ _ _ _ _ h => (by rw [itemsF] at h; cases h)), (fun _ _ _ _ _ _ h => (by rw [memsF] at h; cases h))⟩
  | succ f ih =>
    obtain ⟨iv, ii, im⟩ := ih
    refine ⟨fun deep l v r h => ?_, fun deep acc l v r h => ?_, fun deep ns is l v r h => ?_⟩
    · rw [valF] at h
      have hs := skip_le l
      cases h0 : skipB l with
      | nil => rw [h0] at h; cases h
      | cons c l1 =>
        rw [h0] at h hs
        simp only [List.length_cons] at hs
        simp only at h
        split at h
        · split at h
          · cases h
          · have hs1 := skip_le l1
            split at h
            · cases h2 : skipB l1 with
              | nil => rw [h2] at h; cases h
              | cons d l2 =>
                rw [h2] at h hs1
                simp only [List.length_cons] at hs1
                simp only at h
                split at h
                · cases h; simp [wtJ, wtsJ]; omega
                · have := ii _ _ _ _ _ h
                  simp only [List.length_cons, wtsJ] at this; omega
            · cases h2 : skipB l1 with
              | nil => rw [h2] at h; cases h
              | cons d l2 =>
                rw [h2] at h hs1
                simp only [List.length_cons] at hs1
                simp only at h
                split at h
                · cases h; simp [wtJ, wtsJ]; omega
                · have := im _ _ _ _ _ _ h
                  simp only [List.length_cons, wtsJ, List.length_nil, List.map_nil, List.sum_nil] at this; omega
        · split at h
          · cases h2 : textB (c :: l1) with
            | fail r e => rw [h2] at h; cases h
            | ok s r1 =>
              rw [h2] at h
              have := text_wt' h2
              cases h
              rw [List.length_drop]
              simp only [List.length_cons] at this
              simp [wtJ, wtsJ]; omega
          · split at h
            · obtain ⟨_, h2, rfl⟩ := map_ok h
              have := congrArg List.length (word_ok h2)
              simp [J0, wtJ, wtsJ] at this ⊢; omega
            · split at h
              · obtain ⟨_, h2, rfl⟩ := map_ok h
                have := congrArg List.length (word_ok h2)
                simp [wtJ, wtsJ] at this ⊢; omega
              · split at h
                · obtain ⟨_, h2, rfl⟩ := map_ok h
                  have := congrArg List.length (word_ok h2)
                  simp [wtJ, wtsJ] at this ⊢; omega
                · split at h
                  · obtain ⟨_, h2, rfl⟩ := map_ok h
                    have := number_ok h2
                    simp only [List.length_cons] at this
                    simp [wtJ, wtsJ]; omega
                  · cases h
    · rw [itemsF] at h
      cases h1 : valF f deep l with
      | fail r e => rw [h1] at h; cases h
      | ok v1 r1 =>
        rw [h1] at h
        have l1 := iv _ _ _ _ h1
        have l2 := skip_le r1
        simp only at h
        cases h2 : oneB [44, 93] (skipB r1) with
        | fail r e => rw [h2] at h; cases h
        | ok c r2 =>
          rw [h2] at h
          have l3 := congrArg List.length (one_ok h2).1
          simp only [List.length_cons] at l3
          simp only at h
          split at h
          · cases h; rw [wtJ, wts_snoc]; simp; omega
          · have := ii _ _ _ _ _ h
            rw [wts_snoc] at this
            omega
    · rw [memsF] at h
      have l0 := skip_le l
      cases h1 : textB (skipB l) with
      | fail r e => rw [h1] at h; cases h
      | ok s r1 =>
        rw [h1] at h
        have l1 := text_wt' h1
        simp only at h
        split at h
        · cases h
        · have l2 := skip_le (r1.drop 1)
          rw [List.length_drop] at l2
          cases h2 : oneB [58] (skipB (r1.drop 1)) with
          | fail r e => rw [h2] at h; cases h
          | ok c r2 =>
            rw [h2] at h
            have l3 := congrArg List.length (one_ok h2).1
            simp only [List.length_cons] at l3
            simp only at h
            cases h3 : valF f deep r2 with
            | fail r e => rw [h3] at h; cases h
            | ok v1 r3 =>
              rw [h3] at h
              have l4 := iv _ _ _ _ h3
              have l5 := skip_le r3
              simp only at h
              cases h4 : oneB [44, 125] (skipB r3) with
              | fail r e => rw [h4] at h; cases h
              | ok c2 r4 =>
                rw [h4] at h
                have l6 := congrArg List.length (one_ok h4).1
                simp only [List.length_cons] at l6
                simp only at h
                split at h
                · cases h; rw [wtJ, wts_snoc]; simp; omega
                · have := im _ _ _ _ _ _ h
                  rw [wts_snoc] at this
                  simp at this
                  omega
theorem parse_wt {s : B} {v : J} {p : Nat} (h : parseJ s = (v, p, 0)) : wtJ v ≤ 65536 := by
  obtain ⟨_, _, h1, h2⟩ := parse_can h
  unfold wholeP at h1
  cases h3 : valF (fuelB s) 0 s with
  | fail r e => rw [h3] at h1; cases h1
  | ok u r =>
    rw [h3] at h1
    simp only at h1
    have := (parts_wt _).1 _ _ _ _ h3
    cases h4 : skipB r with
    | nil => rw [h4] at h1; cases h1; omega
    | cons c q => rw [h4] at h1; cases h1
/-- What One asks. -/
theorem one_law {s t : B} {v w : J} {p q : Nat} (hv : parseJ s = (v, p, 0)) (hw : parseJ t = (w, q, 0)) :
    checkJ 0 v = 0 ∧ checkJ 0 w = 0 ∧ ((printJ v).2 = 0 ∨ (printJ v).2 = 4) ∧ ((printJ v).2 = 0 → (printJ w).2 = 0 →
      (∃ x r, parseJ (printJ v).1 = (x, r, 0) ∧ sameJ x v = true) ∧ sameJ v w = decide ((printJ v).1 = (printJ w).1)) := by
  obtain ⟨c1, -⟩ := parse_can hv
  obtain ⟨c2, -⟩ := parse_can hw
  refine ⟨c1.1, c2.1, ?_, fun h1 h2 => ⟨?_, ?_⟩⟩
  · rw [print_zero c1.1]; split <;> simp
  · have hb := back_law (v := v) (s := (printJ v).1) c1.2 (by rw [← h1])
    exact ⟨_, _, hb.1, hb.2.2.2⟩
  · obtain ⟨_, e1, _⟩ := print_ok (v := v) (s := (printJ v).1) (by rw [← h1])
    obtain ⟨_, e2, _⟩ := print_ok (v := w) (s := (printJ w).1) (by rw [← h2])
    rw [e1, e2]
    unfold sameJ
    rw [c1.1, c2.1]
    by_cases h : textJ v = textJ w
    · simp [h]
    · simp [h]
end Go.Proofs.YthkpbgpgcpkiiaaGreatDoor
namespace Go.Proofs.YthkpbgpgcpkiiaaGreatDoor
set_option linter.unusedVariables false
set_option linter.unusedSimpArgs false
set_option maxRecDepth 100000

/-- The reference's test. -/
def mayJ : J → Bool
  | .mk k n t ns is =>
    if k < 0 ∨ k > 5 ∨ (k ≠ 2 ∧ k ≠ 1 ∧ n ≠ 0) ∨ (k ≠ 3 ∧ t ≠ []) then false
    else if (k = 1 ∧ n ≠ 0 ∧ n ≠ 1) ∨ wholeL t = false ∨ (k < 4 ∧ 0 < is.length) then false
    else if k ≠ 5 then ns.isEmpty
    else ns.all wholeL && ns.length == is.length
theorem len_pos {α : Type} (l : List α) : (0 < l.length) ↔ ¬ l.isEmpty = true := by cases l <;> simp
theorem may_blank (v : J) : mayJ v = blankJ v := by
  cases v with
  | mk k n t ns is =>
    rw [mayJ, blankJ]
    have hw0 : wholeL [] = true := rfl
    have hfl : ns.all wholeL = true → wholeL ns.flatten = true := fun h => flatten_whole (fun s hs => List.all_eq_true.1 h s hs)
    by_cases h0 : k = 0
    · subst h0
      cases t <;> cases ns <;> cases is <;> by_cases hn : n = 0 <;> simp [hn, hw0]
    by_cases h1 : k = 1
    · subst h1
      cases t <;> cases ns <;> cases is <;> by_cases hn : n = 0 <;> by_cases hn1 : n = 1 <;> simp [hn, hn1, hw0]
    by_cases h2 : k = 2
    · subst h2
      cases t <;> cases ns <;> cases is <;> simp [hw0]
    by_cases h3 : k = 3
    · subst h3
      cases hw : wholeL t <;> cases ns <;> cases is <;> by_cases hn : n = 0 <;> simp [hn, hw]
    by_cases h4 : k = 4
    · subst h4
      cases t <;> cases ns <;> by_cases hn : n = 0 <;> simp [hn, hw0]
    by_cases h5 : k = 5
    · subst h5
      cases ha : ns.all wholeL with
      | true =>
        cases t <;> by_cases hn : n = 0 <;> by_cases hl : ns.length = is.length <;> simp [hn, hw0, hl, hfl ha, ha]
      | false =>
        cases t <;> by_cases hn : n = 0 <;> by_cases hl : ns.length = is.length <;> simp [hn, hw0, hl, ha]
    · have : k < 0 ∨ k > 5 := by omega
      rw [if_pos (by omega), if_neg h0, if_neg h1, if_neg h2, if_neg h3, if_neg h4, if_neg h5]
/-- There is an order of the places by rising names. -/
theorem order_exists (ns : List B) : ∃ idx, Ordered ns idx := by
  refine ⟨(List.range ns.length).mergeSort (fun i j => !ltB (ns.getD j []) (ns.getD i [])), List.mergeSort_perm _ _, ?_⟩
  have := List.pairwise_mergeSort (le := fun i j => !ltB (ns.getD j []) (ns.getD i [])) (fun a b c h1 h2 => by
    simp only [Bool.not_eq_true'] at *
    cases h : ltB (ns.getD c []) (ns.getD a []) with
    | false => rfl
    | true =>
      cases h3 : ltB (ns.getD c []) (ns.getD b []) with
      | true => rw [h3] at h2; cases h2
      | false =>
        cases h4 : ltB (ns.getD b []) (ns.getD c []) with
        | true =>
          have := lt_trans h4 h
          rw [this] at h1; cases h1
        | false =>
          have e := lt_total h3 h4
          rw [e] at h
          rw [h] at h1; cases h1) (fun a b => by
    cases h : ltB (ns.getD b []) (ns.getD a []) with
    | false => rfl
    | true => rw [lt_asymm h]; rfl) (List.range ns.length)
  exact this.imp (fun h => by simpa using h)
/-- Of ordered places with names that differ the earlier's name is less. -/
theorem ordered_lt {ns : List B} {idx : List Nat} (h : Ordered ns idx) (hn : ns.Nodup) {a b i j : Nat} (ha : idx[a]? = some i) (hb : idx[b]? = some j) (hab : a < b) : ltB (ns.getD i []) (ns.getD j []) = true := by
  obtain ⟨ha1, rfl⟩ := List.getElem?_eq_some_iff.1 ha
  obtain ⟨hb1, rfl⟩ := List.getElem?_eq_some_iff.1 hb
  have h1 := List.pairwise_iff_getElem.1 h.2 a b ha1 hb1 hab
  have hnd : idx.Nodup := (h.1.nodup_iff.2 List.nodup_range)
  have hne : idx[a] ≠ idx[b] := fun e => by have := (List.getElem_inj hnd).1 e; omega
  have hia : idx[a] < ns.length := List.mem_range.1 ((h.1.mem_iff).1 (List.getElem_mem ha1))
  have hib : idx[b] < ns.length := List.mem_range.1 ((h.1.mem_iff).1 (List.getElem_mem hb1))
  cases hc : ltB (ns.getD idx[a] []) (ns.getD idx[b] []) with
  | true => rfl
  | false =>
    have e := lt_total hc h1
    rw [List.getD_eq_getElem?_getD, List.getD_eq_getElem?_getD, List.getElem?_eq_getElem hia, List.getElem?_eq_getElem hib] at e
    exact absurd ((List.getElem_inj hn).1 e) hne
end Go.Proofs.YthkpbgpgcpkiiaaGreatDoor
namespace Go.Proofs.YthkpbgpgcpkiiaaGreatDoor
set_option linter.unusedVariables false
set_option linter.unusedSimpArgs false
set_option maxRecDepth 100000

mutual
def lenJ : J → Bool
  | .mk k n t ns is => decide (ns.length ≤ 140737488355328) && decide (is.length ≤ 140737488355328) && decide (t.length ≤ 9223372036854775807) && ns.all (fun s => decide (s.length ≤ 9223372036854775807)) && lensJ is
def lensJ : List J → Bool
  | [] => true
  | v :: l => lenJ v && lensJ l
end
theorem lens_all : ∀ {l : List J}, lensJ l = true ↔ ∀ v ∈ l, lenJ v = true
  | [] => by rw [lensJ]; simp
  | v :: l => by rw [lensJ, Bool.and_eq_true, lens_all]; simp
theorem len_parts {k n : Int} {t : B} {ns : List B} {is : List J} (h : lenJ (.mk k n t ns is) = true) : ns.length ≤ 140737488355328 ∧ is.length ≤ 140737488355328 ∧ t.length ≤ 9223372036854775807 ∧ (∀ s ∈ ns, s.length ≤ 9223372036854775807) ∧ ∀ v ∈ is, lenJ v = true := by
  rw [lenJ] at h
  simp only [Bool.and_eq_true, decide_eq_true_eq, List.all_eq_true] at h
  exact ⟨h.1.1.1.1, h.1.1.1.2, h.1.1.2, h.1.2, lens_all.1 h.2⟩
end Go.Proofs.YthkpbgpgcpkiiaaGreatDoor
