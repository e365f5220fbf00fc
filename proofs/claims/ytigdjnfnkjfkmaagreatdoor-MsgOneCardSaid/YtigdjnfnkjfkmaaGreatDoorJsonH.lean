/- JSON: what is read can be. Conditions: none. JSON: the order of members changes nothing of the print. Conditions: none. JSON: more bytes behind a whole text, errors of the parser. Conditions: none. JSON: blanks around a text, a print that is cut, lists in lists. Conditions: none. JSON: how a print grows, member by member; how long it is. Plain. Conditions: none. JSON: how long a print is, by how much the value holds. Plain. Conditions: none. JSON: three texts. Plain. Conditions: none. JSON: what is read is no heavier than its text, the law One, the order of parts, the lengths of lists. Plain. Conditions: none. -/
import Derived.Test.YtigdjnfnkjfkmaaGreatDoorJsonE
import Derived.Test.YtigdjnfnkjfkmaaGreatDoorJsonU
import Derived.Lib.ItoaLen
namespace Go.Proofs.YtigdjnfnkjfkmaaGreatDoor
set_option linter.unusedVariables false
set_option linter.unusedSimpArgs false
set_option maxRecDepth 100000

theorem whole_one {c : UInt8} (h : c < 0x80) : wholeL [c] = true := whole_char (t := []) (longB_ascii.2 h) (by rfl)
theorem cont_of {k : Nat} (h : k < 64) : contB 0x80 0xbf (UInt8.ofNat (128 + k)) = true := by
  have : ∀ k : Nat, k < 64 → contB 0x80 0xbf (UInt8.ofNat (128 + k)) = true := by decide
  exact this k h
theorem whole_utf8 {n : Nat} (h : n < 55296 ∨ (57344 ≤ n ∧ n < 1114112)) : wholeL (utf8B n) = true := by
  unfold utf8B
  split
  · rename_i h1
    refine whole_one ?_
    have : ∀ n : Nat, n < 128 → UInt8.ofNat n < 0x80 := by decide
    exact this n h1
  · split
    · rename_i h1 h2
      have key : ∀ a : Nat, a < 32 → 2 ≤ a → (longB (UInt8.ofNat (192 + a))).1 = 2 ∧ (longB (UInt8.ofNat (192 + a))).2.1 = 0x80 ∧ (longB (UInt8.ofNat (192 + a))).2.2 = 0xbf := by decide
      obtain ⟨k1, k2, k3⟩ := key (n / 64) (by omega) (by omega)
      refine whole_char (t := [_]) k1 ?_
      rw [k2, k3]
      show tailB 1 _ _ _ = true
      rw [tailB, tailB, cont_of (by omega)]; rfl
    · split
      · rename_i h1 h2 h3
        have key : ((List.range 16).all fun a => (List.range 64).all fun b => (a == 0 && !decide (32 ≤ b)) || (a == 13 && !decide (b < 32)) || ((longB (UInt8.ofNat (224 + a))).1 == 3 && contB (longB (UInt8.ofNat (224 + a))).2.1 (longB (UInt8.ofNat (224 + a))).2.2 (UInt8.ofNat (128 + b)))) = true := by decide +kernel
        have key2 := List.all_eq_true.1 (List.all_eq_true.1 key (n / 4096) (List.mem_range.2 (by omega))) (n / 64 % 64) (List.mem_range.2 (by omega))
        simp only [Bool.or_eq_true, Bool.and_eq_true, beq_iff_eq, Bool.not_eq_true', decide_eq_false_iff_not] at key2
        have key3 := key2.resolve_left (by omega)
        obtain ⟨k1, k2⟩ := key3
        refine whole_char (t := [_, _]) k1 ?_
        show tailB 2 _ _ _ = true
        rw [tailB, k2, tailB, tailB, cont_of (by omega)]; rfl
      · rename_i h1 h2 h3
        have key : ((List.range 5).all fun a => (List.range 64).all fun b => (a == 0 && !decide (16 ≤ b)) || (a == 4 && !decide (b < 16)) || ((longB (UInt8.ofNat (240 + a))).1 == 4 && contB (longB (UInt8.ofNat (240 + a))).2.1 (longB (UInt8.ofNat (240 + a))).2.2 (UInt8.ofNat (128 + b)))) = true := by decide +kernel
        have key2 := List.all_eq_true.1 (List.all_eq_true.1 key (n / 262144) (List.mem_range.2 (by omega))) (n / 4096 % 64) (List.mem_range.2 (by omega))
        simp only [Bool.or_eq_true, Bool.and_eq_true, beq_iff_eq, Bool.not_eq_true', decide_eq_false_iff_not] at key2
        have key3 := key2.resolve_left (by omega)
        obtain ⟨k1, k2⟩ := key3
        refine whole_char (t := [_, _, _]) k1 ?_
        show tailB 3 _ _ _ = true
        rw [tailB, k2, tailB, cont_of (by omega), tailB, cont_of (by omega), tailB]; rfl
theorem escS_whole {n : Nat} {r r' b : B} (hn : n < 56320 ∨ (57344 ≤ n ∧ n < 65536)) (h : escS n r = .ok b r') : wholeL b = true := by
  unfold escS at h
  split at h
  · rename_i hs
    cases h1 : wordB [92, 117] r with
    | fail r e => rw [h1] at h; cases h
    | ok u r2 =>
      rw [h1] at h
      simp only at h
      cases r2 with
      | nil => cases h
      | cons d q =>
        rw [escT] at h
        split at h
        · cases h
        · rename_i hd
          have hd' : d = 100 ∨ d = 68 := by
            by_cases g : d = 100
            · exact .inl g
            · by_cases g2 : d = 68
              · exact .inr g2
              · exact absurd ⟨g, g2⟩ hd
          cases h2 : hexB hiTwo (d :: q) with
          | fail r e => rw [h2] at h; cases h
          | ok m r3 =>
            rw [h2] at h
            simp only [PR.ok.injEq] at h
            have hm := hexhi hd' h2
            rw [← h.1]
            exact whole_utf8 (by omega)
  · rename_i hs
    simp only [PR.ok.injEq] at h
    rw [← h.1]
    exact whole_utf8 (by omega)
theorem esc_whole {l r b : B} (h : escB l = .ok b r) : wholeL b = true := by
  cases h1 : oneB escL l with
  | fail r e => unfold escB at h; rw [h1] at h; cases h
  | ok c q =>
    rw [escB_eq h1, escR] at h
    have hc := (oneB_ok h1).2
    cases h2 : ctlB c with
    | some d =>
      rw [h2] at h
      simp only [PR.ok.injEq] at h
      rw [← h.1]
      have : ∀ n : Nat, n < 256 → ∀ d, ctlB (UInt8.ofNat n) = some d → d < 0x80 := by
        intro n hn d hd
        unfold ctlB at hd
        repeat' split at hd
        all_goals first | (cases hd; done) | (cases hd; decide)
      have := this c.toNat c.toNat_lt d
      rw [UInt8.ofNat_toNat] at this
      exact whole_one (this h2)
    | none =>
      rw [h2] at h
      simp only at h
      split at h
      · simp only [PR.ok.injEq] at h
        rw [← h.1]
        have : ∀ n : Nat, n < 256 → escL.contains (UInt8.ofNat n) = true → UInt8.ofNat n < 0x80 := by decide
        have := this c.toNat c.toNat_lt
        rw [UInt8.ofNat_toNat] at this
        exact whole_one (this hc)
      · cases h3 : hexB loTwo q with
        | fail r e => rw [h3] at h; cases h
        | ok n r2 =>
          rw [h3] at h
          exact escS_whole (hexlo h3) h
theorem charF_whole : ∀ {f k : Nat} {l r b : B}, charF f k l = .ok b r → wholeL b = true
  | 0, _, _, _, _, h => by rw [charF] at h; cases h
  | f + 1, k, l, r, b, h => by
    rw [charF] at h
    split at h
    · rename_i hw
      simp only [PR.ok.injEq] at h
      rw [← h.1]; exact hw
    · split at h
      · cases h
      · split at h
        · cases h
        · exact charF_whole h
theorem textF_whole : ∀ {f : Nat} {acc l r b : B}, wholeL acc = true → textF f acc l = .ok b r → wholeL b = true
  | 0, _, _, _, _, _, h => by rw [textF] at h; cases h
  | f + 1, acc, l, r, b, ha, h => by
    rw [textF.eq_def] at h
    simp only at h
    cases l with
    | nil => cases h
    | cons c q =>
      simp only at h
      split at h
      · simp only [PR.ok.injEq] at h
        rw [← h.1]; exact ha
      · split at h
        · cases h
        · split at h
          · cases h1 : escB q with
            | fail r e => rw [h1] at h; cases h
            | ok d q2 =>
              rw [h1] at h
              simp only at h
              exact textF_whole (by rw [whole_app (Nat.le_refl _) ha]; exact esc_whole h1) h
          · cases h1 : charB (c :: q) with
            | fail r e => rw [h1] at h; cases h
            | ok d q2 =>
              rw [h1] at h
              simp only at h
              exact textF_whole (by rw [whole_app (Nat.le_refl _) ha]; exact charF_whole h1) h
theorem text_whole {l r b : B} (h : textB l = .ok b r) : wholeL b = true := by
  unfold textB at h
  cases h1 : oneB [34] l with
  | fail r e => rw [h1] at h; cases h
  | ok c q =>
    rw [h1] at h
    exact textF_whole (by rfl) h
/-- A number that is read is of 64 bits. -/
theorem num_range (neg z : Bool) : ∀ {l r : B} {n m : Int}, (∀ c q, l = c :: q → digB c = true) → (neg = false → 0 ≤ n) → (neg = true → n ≤ 0) → numB neg z n l = .ok m r → -9223372036854775808 ≤ m ∧ m ≤ 9223372036854775807
  | [], _, _, _, _, _, _, h => by rw [numB] at h; cases h
  | c :: l, r, n, m, hd, h0, h1, h => by
    rw [numB.eq_def] at h
    simp only at h
    have hc := hd c l rfl
    have hcn : 48 ≤ c.toNat ∧ c.toNat ≤ 57 := by
      unfold digB at hc
      simp only [Bool.and_eq_true, decide_eq_true_eq] at hc
      exact ⟨UInt8.le_iff_toNat_le.1 hc.1, UInt8.le_iff_toNat_le.1 hc.2⟩
    split at h
    · cases h
    · rename_i hr
      have hres : -9223372036854775808 ≤ (if neg = true then 10 * n - ((c.toNat : Int) - 48) else 10 * n + ((c.toNat : Int) - 48)) ∧ (if neg = true then 10 * n - ((c.toNat : Int) - 48) else 10 * n + ((c.toNat : Int) - 48)) ≤ 9223372036854775807 ∧
          (neg = false → 0 ≤ (if neg = true then 10 * n - ((c.toNat : Int) - 48) else 10 * n + ((c.toNat : Int) - 48))) ∧ (neg = true → (if neg = true then 10 * n - ((c.toNat : Int) - 48) else 10 * n + ((c.toNat : Int) - 48)) ≤ 0) := by
        cases neg with
        | false =>
          simp only [Bool.false_eq_true, if_false, false_and, or_false, true_and] at hr h0 ⊢
          have := h0 trivial
          exact ⟨by omega, by omega, (fun _ => by omega), (fun h => h.elim)⟩
        | true =>
          simp only [Bool.true_eq_false, if_true, false_and, false_or, true_and] at hr h1 ⊢
          have := h1 trivial
          have e : (-9223372036854775808 + ((c.toNat : Int) - 48)).tdiv 10 = -((9223372036854775808 - ((c.toNat : Int) - 48)) / 10) := by
            rw [show (-9223372036854775808 + ((c.toNat : Int) - 48)) = -(9223372036854775808 - ((c.toNat : Int) - 48)) by omega, Int.neg_tdiv, Int.tdiv_eq_ediv_of_nonneg (by omega)]
          rw [e] at hr
          exact ⟨by omega, by omega, (fun h => h.elim), (fun _ => by omega)⟩
      generalize (if neg = true then 10 * n - ((c.toNat : Int) - 48) else 10 * n + ((c.toNat : Int) - 48)) = v at h hres
      cases l with
      | nil =>
        simp only [PR.ok.injEq] at h
        rw [← h.1]; exact ⟨hres.1, hres.2.1⟩
      | cons d q =>
        simp only at h
        split at h
        · rename_i hdz
          simp only [Bool.and_eq_true] at hdz
          exact num_range neg z (fun c' q' e => by cases e; exact hdz.1) hres.2.2.1 hres.2.2.2 h
        · split at h
          · cases h
          · simp only [PR.ok.injEq] at h
            rw [← h.1]; exact ⟨hres.1, hres.2.1⟩
theorem in_dig {c : UInt8} (h : digitsL.contains c = true) : digB c = true := by
  have : ∀ n : Nat, n < 256 → digitsL.contains (UInt8.ofNat n) = true → digB (UInt8.ofNat n) = true := by decide
  have := this c.toNat c.toNat_lt; rw [UInt8.ofNat_toNat] at this; exact this h
theorem number_range {l r : B} {n : Int} (h : numberB l = .ok n r) : -9223372036854775808 ≤ n ∧ n ≤ 9223372036854775807 := by
  cases l with
  | nil => rw [numberB] at h; cases h
  | cons m l =>
    rw [numberB] at h
    split at h
    · cases h1 : oneB digitsL l with
      | fail r e => rw [h1] at h; cases h
      | ok c q =>
        rw [h1] at h
        simp only at h
        obtain ⟨rfl, hc⟩ := oneB_ok h1
        exact num_range true _ (fun c' q' e => by cases e; exact in_dig hc) (fun h => by cases h) (fun _ => Int.le_refl _) h
    · cases h1 : oneB digitsL (m :: l) with
      | fail r e => rw [h1] at h; cases h
      | ok c q =>
        rw [h1] at h
        simp only at h
        obtain ⟨e, hc⟩ := oneB_ok h1
        cases e
        exact num_range false _ (fun c' q' e => by cases e; exact in_dig hc) (fun _ => Int.le_refl _) (fun h => by cases h) h
def Can (deep : Nat) (v : J) : Prop := checkJ deep v = 0 ∧ wfJ v = true
theorem can_plain {deep : Nat} (hd : deep ≤ 16) {k n : Int} {t : B} (hk : k ≠ 4 ∧ k ≠ 5) (hb : blankJ (.mk k n t [] []) = true) (h1 : -9223372036854775808 ≤ n) (h2 : n ≤ 9223372036854775807) : Can deep (.mk k n t [] []) := by
  constructor
  · have e : deeper k deep = deep := by unfold deeper; rw [if_neg]; intro h; exact h.elim hk.1 hk.2
    rw [checkJ, e, if_neg (by omega), hb]
    simp [twiceL, checksJ]
  · rw [wfJ, wfsJ]; simp [h1, h2]
theorem can_list {deep : Nat} (hd : deep < 16) {is : List J} (h : ∀ v ∈ is, Can (deep + 1) v) : Can deep (.mk 4 0 [] [] is) := by
  have e : deeper 4 deep = deep + 1 := by unfold deeper; rw [if_pos (.inl rfl)]
  constructor
  · rw [checkJ, e, if_neg (by omega), show blankJ (.mk 4 0 [] [] is) = true from rfl]
    simp only [Bool.true_eq_false, if_false, twiceL, Bool.false_eq_true]
    exact checks_all.2 fun v hv => (h v hv).1
  · rw [wfJ, wfs_all.2 fun v hv => (h v hv).2]; simp
theorem flatten_whole : ∀ {l : List B}, (∀ s ∈ l, wholeL s = true) → wholeL l.flatten = true
  | [], _ => rfl
  | s :: l, h => by rw [List.flatten_cons, whole_app (Nat.le_refl _) (h s (by simp))]; exact flatten_whole fun t ht => h t (by simp [ht])
theorem can_object {deep : Nat} (hd : deep < 16) {ns : List B} {is : List J} (hl : ns.length = is.length) (hn : ns.Nodup) (hw : ∀ s ∈ ns, wholeL s = true) (h : ∀ v ∈ is, Can (deep + 1) v) : Can deep (.mk 5 0 [] ns is) := by
  have e : deeper 5 deep = deep + 1 := by unfold deeper; rw [if_pos (.inr rfl)]
  have hb : blankJ (.mk 5 0 [] ns is) = true := by
    rw [blankJ, if_neg (by decide), if_neg (by decide), if_neg (by decide), if_neg (by decide), if_neg (by decide), if_pos rfl]
    simp only [hl, flatten_whole hw, List.isEmpty_nil, BEq.rfl, Bool.and_self, Bool.true_and, List.all_eq_true]
    exact hw
  constructor
  · rw [checkJ, e, if_neg (by omega), hb, twice_nodup.2 hn]
    simp only [Bool.true_eq_false, if_false, Bool.false_eq_true]
    exact checks_all.2 fun v hv => (h v hv).1
  · rw [wfJ, wfs_all.2 fun v hv => (h v hv).2]; simp
theorem parts_can : ∀ f : Nat, (∀ deep l v r, deep ≤ 16 → valF f deep l = .ok v r → Can deep v) ∧
    (∀ deep acc l v r, deep ≤ 16 → (∀ u ∈ acc, Can deep u) → itemsF f deep acc l = .ok v r → ∃ is, v = .mk 4 0 [] [] is ∧ ∀ u ∈ is, Can deep u) ∧
    (∀ deep ns is l v r, deep ≤ 16 → ns.length = is.length → ns.Nodup → (∀ s ∈ ns, wholeL s = true) → (∀ u ∈ is, Can deep u) → memsF f deep ns is l = .ok v r →
      ∃ ns' is', v = .mk 5 0 [] ns' is' ∧ ns'.length = is'.length ∧ ns'.Nodup ∧ (∀ s ∈ ns', wholeL s = true) ∧ ∀ u ∈ is', Can deep u) := by
  intro f
  induction f with
  | zero => exact ⟨(fun _ _ _ _ _ h => (by rw [valF] at h; cases h)), (fun _ _ _ _ _ _ _ h => (by rw [itemsF] at h; cases h)), (fun _ _ _ _ _ _ _ _ _ _ _ h => (by rw [memsF] at h; cases h))⟩
  | succ f ih =>
    obtain ⟨iv, ii, im⟩ := ih
    refine ⟨fun deep l v r hd h => ?_, fun deep acc l v r hd ha h => ?_, fun deep ns is l v r hd hl hn hw ha h => ?_⟩
    · rw [valF] at h
      cases h0 : skipB l with
      | nil => rw [h0] at h; cases h
      | cons c l1 =>
        rw [h0] at h
        simp only at h
        split at h
        · split at h
          · cases h
          · split at h
            · cases h2 : skipB l1 with
              | nil => rw [h2] at h; cases h
              | cons d l2 =>
                rw [h2] at h
                simp only at h
                split at h
                · cases h; exact can_list (by omega) (fun _ h => by cases h)
                · obtain ⟨is, rfl, h3⟩ := ii _ _ _ _ _ (by omega) (fun _ h => by cases h) h
                  exact can_list (by omega) h3
            · cases h2 : skipB l1 with
              | nil => rw [h2] at h; cases h
              | cons d l2 =>
                rw [h2] at h
                simp only at h
                split at h
                · cases h; exact can_object (by omega) rfl List.nodup_nil (fun _ h => by cases h) (fun _ h => by cases h)
                · obtain ⟨ns, is, rfl, h3, h4, h5, h6⟩ := im _ _ _ _ _ _ (by omega) rfl List.nodup_nil (fun _ h => by cases h) (fun _ h => by cases h) h
                  exact can_object (by omega) h3 h4 h5 h6
        · split at h
          · cases h2 : textB (c :: l1) with
            | fail r e => rw [h2] at h; cases h
            | ok s r1 =>
              rw [h2] at h
              simp only [PR.ok.injEq] at h
              rw [← h.1]
              refine can_plain hd (by decide) ?_ (by decide) (by decide)
              rw [blankJ]; simp [text_whole h2]
          · split at h
            · obtain ⟨_, h2, rfl⟩ := map_ok h
              exact can_plain hd (by decide) (by rfl) (by decide) (by decide)
            · split at h
              · obtain ⟨_, h2, rfl⟩ := map_ok h
                exact can_plain hd (by decide) (by rfl) (by decide) (by decide)
              · split at h
                · obtain ⟨_, h2, rfl⟩ := map_ok h
                  exact can_plain hd (by decide) (by rfl) (by decide) (by decide)
                · split at h
                  · obtain ⟨_, h2, rfl⟩ := map_ok h
                    exact can_plain hd (by decide) (by rfl) (number_range h2).1 (number_range h2).2
                  · cases h
    · rw [itemsF] at h
      cases h1 : valF f deep l with
      | fail r e => rw [h1] at h; cases h
      | ok v1 r1 =>
        rw [h1] at h
        have l1 := iv _ _ _ _ hd h1
        simp only at h
        have ha' : ∀ u ∈ acc ++ [v1], Can deep u := by
          intro u hu
          rcases List.mem_append.1 hu with hu | hu
          · exact ha u hu
          · rw [List.mem_singleton.1 hu]; exact l1
        cases h2 : oneB [44, 93] (skipB r1) with
        | fail r e => rw [h2] at h; cases h
        | ok c r2 =>
          rw [h2] at h
          simp only at h
          split at h
          · simp only [PR.ok.injEq] at h
            exact ⟨_, h.1.symm, ha'⟩
          · exact ii _ _ _ _ _ hd ha' h
    · rw [memsF] at h
      cases h1 : textB (skipB l) with
      | fail r e => rw [h1] at h; cases h
      | ok s r1 =>
        rw [h1] at h
        simp only at h
        split at h
        · cases h
        · rename_i hns
          cases h2 : oneB [58] (skipB (r1.drop 1)) with
          | fail r e => rw [h2] at h; cases h
          | ok c r2 =>
            rw [h2] at h
            simp only at h
            cases h3 : valF f deep r2 with
            | fail r e => rw [h3] at h; cases h
            | ok v1 r3 =>
              rw [h3] at h
              have l4 := iv _ _ _ _ hd h3
              simp only at h
              have hl' : (ns ++ [s]).length = (is ++ [v1]).length := by simp [hl]
              have hn' : (ns ++ [s]).Nodup := by
                rw [List.nodup_append]
                refine ⟨hn, by simp, fun a ha b hb => ?_⟩
                rw [List.mem_singleton.1 hb]
                intro e
                subst e
                simp [ha] at hns
              have hw' : ∀ u ∈ ns ++ [s], wholeL u = true := by
                intro u hu
                rcases List.mem_append.1 hu with hu | hu
                · exact hw u hu
                · rw [List.mem_singleton.1 hu]; exact text_whole h1
              have ha' : ∀ u ∈ is ++ [v1], Can deep u := by
                intro u hu
                rcases List.mem_append.1 hu with hu | hu
                · exact ha u hu
                · rw [List.mem_singleton.1 hu]; exact l4
              cases h4 : oneB [44, 125] (skipB r3) with
              | fail r e => rw [h4] at h; cases h
              | ok c2 r4 =>
                rw [h4] at h
                simp only at h
                split at h
                · simp only [PR.ok.injEq] at h
                  exact ⟨_, _, h.1.symm, hl', hn', hw', ha'⟩
                · exact im _ _ _ _ _ _ hd hl' hn' hw' ha' h
theorem whole_can {l r : B} {v : J} (h : wholeP l = .ok v r) : Can 0 v := by
  unfold wholeP at h
  cases h1 : valF (fuelB l) 0 l with
  | fail r e => rw [h1] at h; cases h
  | ok v1 r1 =>
    rw [h1] at h
    simp only at h
    cases h2 : skipB r1 with
    | nil =>
      rw [h2] at h
      simp only [PR.ok.injEq] at h
      rw [← h.1]
      exact (parts_can _).1 _ _ _ _ (by omega) h1
    | cons c q => rw [h2] at h; cases h
end Go.Proofs.YtigdjnfnkjfkmaaGreatDoor
namespace Go.Proofs.YtigdjnfnkjfkmaaGreatDoor
set_option linter.unusedVariables false
set_option linter.unusedSimpArgs false
set_option maxRecDepth 100000

/-! Texts by their bytes. -/
theorem lt_irrefl : ∀ a : B, ltB a a = false
  | [] => rfl
  | c :: a => by
    rw [ltB, if_neg (UInt8.lt_irrefl c), if_neg (UInt8.lt_irrefl c)]; exact lt_irrefl a
theorem lt_trans : ∀ {a b c : B}, ltB a b = true → ltB b c = true → ltB a c = true
  | a, [], c, h, _ => by cases a <;> cases h
  | a, y :: b, [], _, h => by cases h
  | [], y :: b, z :: c, _, _ => rfl
  | x :: a, y :: b, z :: c, h1, h2 => by
    rw [ltB] at h1 h2 ⊢
    by_cases e1 : x < y
    · by_cases e2 : y < z
      · rw [if_pos (UInt8.lt_trans e1 e2)]
      · rw [if_neg e2] at h2
        by_cases e3 : z < y
        · rw [if_pos e3] at h2; cases h2
        · have : y = z := UInt8.le_antisymm (UInt8.not_lt.1 e3) (UInt8.not_lt.1 e2)
          subst this
          rw [if_pos e1]
    · rw [if_neg e1] at h1
      by_cases e3 : y < x
      · rw [if_pos e3] at h1; cases h1
      · rw [if_neg e3] at h1
        have : x = y := UInt8.le_antisymm (UInt8.not_lt.1 e3) (UInt8.not_lt.1 e1)
        subst this
        by_cases e2 : x < z
        · rw [if_pos e2]
        · rw [if_neg e2] at h2 ⊢
          by_cases e4 : z < x
          · rw [if_pos e4] at h2; cases h2
          · rw [if_neg e4] at h2 ⊢
            exact lt_trans h1 h2
theorem lt_total : ∀ {a b : B}, ltB a b = false → ltB b a = false → a = b
  | [], [], _, _ => rfl
  | [], _ :: _, h, _ => by cases h
  | _ :: _, [], _, h => by cases h
  | x :: a, y :: b, h1, h2 => by
    rw [ltB] at h1 h2
    by_cases e1 : x < y
    · rw [if_pos e1] at h1; cases h1
    · rw [if_neg e1] at h1 h2
      by_cases e3 : y < x
      · rw [if_pos e3] at h2; cases h2
      · rw [if_neg e3] at h1 h2
        have : x = y := UInt8.le_antisymm (UInt8.not_lt.1 e3) (UInt8.not_lt.1 e1)
        subst this
        rw [lt_total h1 h2]
theorem lt_asymm {a b : B} (h : ltB a b = true) : ltB b a = false := by
  cases h2 : ltB b a with
  | false => rfl
  | true => have := lt_trans h h2; rw [lt_irrefl] at this; cases this

/-- Rising names. -/
def Rising {α : Type} (l : List (B × α)) : Prop := l.Pairwise fun p q => ltB p.1 q.1 = true
theorem ins_rising {α : Type} {p : B × α} : ∀ {l : List (B × α)}, Rising l → (∀ q ∈ l, p.1 ≠ q.1) → Rising (insP p l)
  | [], _, _ => List.pairwise_singleton _ _
  | q :: l, h, hn => by
    have h' := List.pairwise_cons.1 h
    rw [insP]
    split
    · rename_i hlt
      refine List.pairwise_cons.2 ⟨fun r hr => ?_, h⟩
      rcases List.mem_cons.1 hr with rfl | hr
      · exact hlt
      · exact lt_trans hlt (h'.1 r hr)
    · rename_i hlt
      refine List.pairwise_cons.2 ⟨fun r hr => ?_, ins_rising h'.2 fun r hr => hn r (by simp [hr])⟩
      rcases List.mem_cons.1 ((ins_perm p l).mem_iff.1 hr) with rfl | hr
      · cases h3 : ltB q.1 r.1 with
        | true => rfl
        | false => exact absurd (lt_total (by simpa using hlt) h3) (hn q (by simp))
      · exact h'.1 r hr
theorem sort_rising {α : Type} : ∀ {l : List (B × α)}, (l.map (·.1)).Nodup → Rising (sortP l)
  | [], _ => List.Pairwise.nil
  | p :: l, h => by
    rw [List.map_cons, List.nodup_cons] at h
    have ih := sort_rising h.2
    have e : sortP (p :: l) = insP p (sortP l) := rfl
    rw [e]
    refine ins_rising ih fun q hq hpq => h.1 ?_
    rw [hpq]
    exact List.mem_map_of_mem (sort_mem.1 hq)
theorem rising_unique {α : Type} {l m : List (B × α)} (hl : Rising l) (hm : Rising m) (h : l.Perm m) : l = m :=
  List.Perm.eq_of_pairwise (fun a b _ _ h1 h2 => by rw [lt_asymm h1] at h2; cases h2) hl hm h
theorem sort_of_rising {α : Type} {l : List (B × α)} (h : Rising l) (hn : (l.map (·.1)).Nodup) : sortP l = l := rising_unique (sort_rising hn) h (sort_perm l)
theorem sort_of_perm {α : Type} {l m : List (B × α)} (hn : (l.map (·.1)).Nodup) (h : l.Perm m) : sortP l = sortP m :=
  rising_unique (sort_rising hn) (sort_rising ((h.map _).nodup_iff.1 hn)) ((sort_perm l).trans (h.trans (sort_perm m).symm))
theorem zip_pair {α : Type} : ∀ l : List (B × α), (l.map (·.1)).zip (l.map (·.2)) = l
  | [] => rfl
  | p :: l => by simp [zip_pair l]

/-- A value with its members by rising names: as good as the value. -/
theorem canon_same : ∀ v : J, ∀ deep, Can deep v → Can deep (canonJ v) ∧ textJ (canonJ v) = textJ v := by
  intro v
  induction v using J.ind with
  | h k n t ns is ih =>
    intro deep hc
    obtain ⟨h1, h2, h3, h4⟩ := check_parts hc.1
    have hw := hc.2
    rw [wfJ] at hw
    simp only [Bool.and_eq_true, decide_eq_true_eq] at hw
    obtain ⟨⟨w1, w2⟩, w3⟩ := hw
    rcases blank_kinds h2 with ⟨rfl, rfl, rfl, rfl, rfl⟩ | ⟨rfl, hn, rfl, rfl, rfl⟩ | ⟨rfl, rfl, rfl, rfl⟩ | ⟨rfl, rfl, rfl, rfl, ht⟩ | ⟨rfl, rfl, rfl, rfl⟩ | ⟨rfl, rfl, rfl, hl, hwf, hws⟩
    · rw [canonJ, if_neg (by decide), canonsJ]; exact ⟨hc, rfl⟩
    · rw [canonJ, if_neg (by decide), canonsJ]; exact ⟨hc, rfl⟩
    · rw [canonJ, if_neg (by decide), canonsJ]; exact ⟨hc, rfl⟩
    · rw [canonJ, if_neg (by decide), canonsJ]; exact ⟨hc, rfl⟩
    · rw [canonJ, if_neg (by decide), canons_map]
      have hd : deeper 4 deep = deep + 1 := by unfold deeper; rw [if_pos (.inl rfl)]
      rw [hd] at h1 h4
      have hih : ∀ v ∈ is, Can (deep + 1) (canonJ v) ∧ textJ (canonJ v) = textJ v := fun v hv => ih v hv _ ⟨h4 v hv, wfs_all.1 w3 v hv⟩
      refine ⟨can_list (by omega) fun v hv => ?_, ?_⟩
      · obtain ⟨u, hu, rfl⟩ := List.mem_map.1 hv
        exact (hih u hu).1
      · rw [textJ, textJ, if_neg (by decide), if_neg (by decide), if_neg (by decide), if_neg (by decide), if_pos rfl, if_neg (by decide), if_neg (by decide), if_neg (by decide), if_neg (by decide), if_pos rfl]
        rw [texts_map, texts_map, List.map_map]
        have : is.map (textJ ∘ canonJ) = is.map textJ := List.map_congr_left fun v hv => (hih v hv).2
        rw [this]
    · rw [canonJ, if_pos rfl, canons_map, zip_map_snd, sort_map]
      have hd : deeper 5 deep = deep + 1 := by unfold deeper; rw [if_pos (.inr rfl)]
      rw [hd] at h1 h4
      have hih : ∀ v ∈ is, Can (deep + 1) (canonJ v) ∧ textJ (canonJ v) = textJ v := fun v hv => ih v hv _ ⟨h4 v hv, wfs_all.1 w3 v hv⟩
      have hnz : ((ns.zip is).map (·.1)).Nodup := by rw [zip_fst hl]; exact h3
      have hris := sort_rising hnz
      have hz : ∀ q ∈ sortP (ns.zip is), q.1 ∈ ns ∧ q.2 ∈ is := fun q hq => ⟨(List.of_mem_zip (sort_mem.1 hq)).1, (List.of_mem_zip (sort_mem.1 hq)).2⟩
      have hnd : ((sortP (ns.zip is)).map (·.1)).Nodup := (((sort_perm (ns.zip is)).map _).nodup_iff).2 hnz
      have e1 : sortP (ns.zip (is.map textJ)) = (sortP (ns.zip is)).map fun q => (q.1, textJ q.2) := by rw [zip_map_snd, sort_map]
      generalize sortP (ns.zip is) = S at *
      rw [List.map_map, List.map_map]
      refine ⟨can_object (by omega) (by simp) hnd (fun s hs => ?_) (fun v hv => ?_), ?_⟩
      · obtain ⟨q, hq, rfl⟩ := List.mem_map.1 hs
        exact hws _ (hz q hq).1
      · obtain ⟨q, hq, rfl⟩ := List.mem_map.1 hv
        exact (hih _ (hz q hq).2).1
      · rw [textJ, textJ, if_neg (by decide), if_neg (by decide), if_neg (by decide), if_neg (by decide), if_neg (by decide), if_neg (by decide), if_neg (by decide), if_neg (by decide), if_neg (by decide), if_neg (by decide)]
        rw [texts_map, texts_map, e1, List.map_map]
        have e2 : List.map (textJ ∘ (fun x : B × J => x.2) ∘ fun q : B × J => (q.1, canonJ q.2)) S = S.map fun q => textJ q.2 :=
          List.map_congr_left fun q hq => (hih _ (hz q hq).2).2
        have e3 : (S.map ((fun x : B × J => x.1) ∘ fun q : B × J => (q.1, canonJ q.2))).zip (S.map fun q => textJ q.2) = S.map fun q => (q.1, textJ q.2) := by
          have := zip_pair (S.map fun q => (q.1, textJ q.2))
          rw [List.map_map, List.map_map] at this
          exact this
        rw [e2, e3, sort_map, sort_of_rising hris hnd]
/-- P4.5, P4.6, P4.8 as plain laws. -/
theorem print_zero {v : J} (h : checkJ 0 v = 0) : printJ v = if 65536 < (textJ v).length then ([], 4) else (textJ v, 0) := by
  unfold printJ; rw [if_neg (by rw [h]; decide)]
end Go.Proofs.YtigdjnfnkjfkmaaGreatDoor
namespace Go.Proofs.YtigdjnfnkjfkmaaGreatDoor
set_option linter.unusedVariables false
set_option linter.unusedSimpArgs false
set_option maxRecDepth 100000

theorem skip_len_cons {l r : B} {c : UInt8} (h : skipB l = c :: r) : r.length + 1 ≤ l.length := by
  have := skip_le l; rw [h] at this; simpa using this
/-! No part gives up with error 0, nor with more left than there was. -/
def NZ {α : Type} (n : Nat) (x : PR α) : Prop := ∀ r e, x = .fail r e → e ≠ 0 ∧ r.length ≤ n
theorem nz_ok {α : Type} {n : Nat} {a : α} {r : B} : NZ n (.ok a r) := fun _ _ h => by cases h
theorem nz_fail {α : Type} {n : Nat} {r : B} {e : Nat} (h : e ≠ 0) (hl : r.length ≤ n) : NZ n (.fail r e : PR α) := fun _ _ h' => by cases h'; exact ⟨h, hl⟩
theorem NZ.fails {α β : Type} {n m : Nat} {x : PR α} {r : B} {e : Nat} (h : NZ n x) (hx : x = .fail r e) (hm : n ≤ m) : NZ m (.fail r e : PR β) := nz_fail (h _ _ hx).1 (Nat.le_trans (h _ _ hx).2 hm)
theorem NZ.mono {α : Type} {n m : Nat} {x : PR α} (h : NZ n x) (hm : n ≤ m) : NZ m x := fun r e hx => ⟨(h _ _ hx).1, Nat.le_trans (h _ _ hx).2 hm⟩
theorem NZ.map {α β : Type} {n : Nat} {x : PR α} (g : α → β) (h : NZ n x) : NZ n (mapPR g x) := by
  cases x with
  | ok a r => exact nz_ok
  | fail r e => exact nz_fail (h _ _ rfl).1 (h _ _ rfl).2
theorem one_nz (of l : B) : NZ l.length (oneB of l) := fun r e h => by rw [(one_fail h).2, (one_fail h).1]; exact ⟨by decide, Nat.le_refl _⟩
theorem word_nz : ∀ w l : B, NZ l.length (wordB w l)
  | [], l => nz_ok
  | c :: w, l => by
    rw [wordB]
    cases h : oneB [c] l with
    | fail r e => exact (one_nz _ _).fails h (Nat.le_refl _)
    | ok d r =>
      have := congrArg List.length (one_ok h).1
      simp only [List.length_cons] at this
      exact (word_nz w r).mono (by omega)
theorem num_nz (neg z : Bool) : ∀ (l : B) (n : Int), NZ l.length (numB neg z n l)
  | [], n => by rw [numB]; exact nz_fail (by decide) (Nat.le_refl _)
  | c :: l, n => by
    rw [numB.eq_def]
    simp only
    split
    · exact nz_fail (by decide) (Nat.le_refl _)
    · cases l with
      | nil => exact nz_ok
      | cons d r =>
        simp only
        split
        · exact (num_nz neg z _ _).mono (by simp)
        · split
          · exact nz_fail (by decide) (by simp)
          · exact nz_ok
theorem number_nz (l : B) : NZ l.length (numberB l) := by
  cases l with
  | nil => rw [numberB]; exact nz_fail (by decide) (Nat.le_refl _)
  | cons m l =>
    rw [numberB]
    split
    · cases h : oneB digitsL l with
      | fail r e => exact (one_nz _ _).fails h (by simp)
      | ok c r => exact (num_nz _ _ _ _).mono (by simp)
    · cases h : oneB digitsL (m :: l) with
      | fail r e => exact (one_nz _ _).fails h (Nat.le_refl _)
      | ok c r => exact num_nz _ _ _ _
theorem hexGo_nz (two : B) : ∀ (m n : Nat) (l : B), NZ l.length (hexGo two m n l)
  | 0, n, l => by rw [hexGo]; exact nz_ok
  | m + 1, n, l => by
    rw [hexGo_step]
    cases h : oneB (hexOf two m n) l with
    | fail r e => exact (one_nz _ _).fails h (Nat.le_refl _)
    | ok c r =>
      have := congrArg List.length (one_ok h).1
      simp only [List.length_cons] at this
      exact (hexGo_nz two m _ r).mono (by omega)
theorem esc_nz (l : B) : NZ l.length (escB l) := by
  cases h1 : oneB escL l with
  | fail r e => unfold escB; rw [h1]; exact (one_nz _ _).fails h1 (Nat.le_refl _)
  | ok c q =>
    have l1 := congrArg List.length (one_ok h1).1
    simp only [List.length_cons] at l1
    rw [escB_eq h1, escR]
    cases ctlB c with
    | some d => exact nz_ok
    | none =>
      simp only
      split
      · exact nz_ok
      · cases h3 : hexB loTwo q with
        | fail r e => exact (hexGo_nz _ _ _ _).fails h3 (by omega)
        | ok n r2 =>
          have l2 := hexGo_ok _ h3
          simp only
          unfold escS
          split
          · cases h4 : wordB [92, 117] r2 with
            | fail r e => exact (word_nz _ _).fails h4 (by omega)
            | ok u r3 =>
              have l3 := congrArg List.length (word_ok h4)
              rw [List.length_append] at l3
              simp only
              cases r3 with
              | nil => exact nz_fail (by decide) (by simp)
              | cons d q2 =>
                rw [escT]
                split
                · exact nz_fail (by decide) (by omega)
                · cases h5 : hexB hiTwo (d :: q2) with
                  | fail r e => exact (hexGo_nz _ _ _ _).fails h5 (by omega)
                  | ok m r4 => exact nz_ok
          · exact nz_ok
theorem charF_nz : ∀ (f k : Nat) (l : B), k < l.length → l.length < f + k → NZ l.length (charF f k l)
  | 0, k, l, h1, h2 => by omega
  | f + 1, k, l, h1, h2 => by
    rw [charF]
    split
    · exact nz_ok
    · split
      · exact nz_fail (by decide) (by rw [List.length_drop]; omega)
      · split
        · exact nz_fail (by decide) (by simp)
        · exact charF_nz f (k + 1) l (by omega) (by omega)
theorem textF_nz : ∀ (f : Nat) (acc l : B), l.length < f → NZ l.length (textF f acc l)
  | 0, acc, l, h => by omega
  | f + 1, acc, l, h => by
    rw [textF.eq_def]
    simp only
    cases l with
    | nil => exact nz_fail (by decide) (Nat.le_refl _)
    | cons c r =>
      simp only
      split
      · exact nz_ok
      · split
        · exact nz_fail (by decide) (Nat.le_refl _)
        · split
          · cases h1 : escB r with
            | fail r e => exact (esc_nz _).fails h1 (by simp)
            | ok d q =>
              have := esc_ok h1
              simp only [List.length_cons] at h
              exact (textF_nz f _ _ (by omega)).mono (by simp; omega)
          · cases h1 : charB (c :: r) with
            | fail r' e => exact (charF_nz _ 0 _ (by simp) (by omega)).fails h1 (Nat.le_refl _)
            | ok d q =>
              have := (char_ok (by simp) h1).1
              simp only [List.length_cons] at h this
              exact (textF_nz f _ _ (by omega)).mono (by simp; omega)
theorem text_nz (l : B) : NZ l.length (textB l) := by
  unfold textB
  cases h : oneB [34] l with
  | fail r e => exact (one_nz _ _).fails h (Nat.le_refl _)
  | ok c r =>
    have := congrArg List.length (one_ok h).1
    simp only [List.length_cons] at this
    exact (textF_nz _ _ _ (by omega)).mono (by omega)
theorem parts_nz : ∀ f : Nat,
    (∀ deep l, 2 * l.length + 1 ≤ f → NZ l.length (valF f deep l)) ∧ (∀ deep acc l, 2 * l.length + 2 ≤ f → NZ l.length (itemsF f deep acc l)) ∧ (∀ deep ns is l, 2 * l.length + 2 ≤ f → NZ l.length (memsF f deep ns is l)) := by
  intro f
  induction f with
  | zero => exact ⟨fun _ _ h => by omega, fun _ _ _ h => by omega, fun _ _ _ _ h => by omega⟩
  | succ f ih =>
    obtain ⟨iv, ii, im⟩ := ih
    refine ⟨fun deep l h1 => ?_, fun deep acc l h1 => ?_, fun deep ns is l h1 => ?_⟩
    · rw [valF]
      cases h0 : skipB l with
      | nil => exact nz_fail (by decide) (by simp)
      | cons c r =>
        have hlen := skip_len_cons h0
        simp only
        split
        · split
          · exact nz_fail (by decide) (by simpa using hlen)
          · split
            · cases h3 : skipB r with
              | nil => exact nz_fail (by decide) (by simp)
              | cons d q =>
                have hlen2 := skip_len_cons h3
                simp only
                split
                · exact nz_ok
                · exact (ii _ _ _ (by simp; omega)).mono (by simp; omega)
            · cases h3 : skipB r with
              | nil => exact nz_fail (by decide) (by simp)
              | cons d q =>
                have hlen2 := skip_len_cons h3
                simp only
                split
                · exact nz_ok
                · exact (im _ _ _ _ (by simp; omega)).mono (by simp; omega)
        · split
          · cases h4 : textB (c :: r) with
            | fail r e => exact (text_nz _).fails h4 (by simpa using hlen)
            | ok s q => exact nz_ok
          · split
            · exact ((word_nz _ _).map _).mono (by simpa using hlen)
            · split
              · exact ((word_nz _ _).map _).mono (by simpa using hlen)
              · split
                · exact ((word_nz _ _).map _).mono (by simpa using hlen)
                · split
                  · exact ((number_nz _).map _).mono (by simpa using hlen)
                  · exact nz_fail (by decide) (by simpa using hlen)
    · rw [itemsF]
      cases h4 : valF f deep l with
      | fail r e => exact (iv _ _ (by omega)).fails h4 (Nat.le_refl _)
      | ok v r =>
        have hlen := val_ok h4
        have h8 := skip_le r
        simp only
        cases h6 : oneB [44, 93] (skipB r) with
        | fail r e => exact (one_nz _ _).fails h6 (by omega)
        | ok c q =>
          simp only
          have h7 := congrArg List.length (one_ok h6).1
          simp only [List.length_cons] at h7
          split
          · exact nz_ok
          · exact (ii _ _ _ (by omega)).mono (by omega)
    · rw [memsF]
      have hle := skip_le l
      cases h4 : textB (skipB l) with
      | fail r e => exact (text_nz _).fails h4 hle
      | ok s r =>
        have hlen := (text_ok h4).1
        simp only
        split
        · rename_i hc
          exact nz_fail (by decide) (by omega)
        · have h8 := skip_le (r.drop 1)
          rw [List.length_drop] at h8
          cases h6 : oneB [58] (skipB (r.drop 1)) with
          | fail r e => exact (one_nz _ _).fails h6 (by omega)
          | ok c q =>
            simp only
            have h7 := congrArg List.length (one_ok h6).1
            simp only [List.length_cons] at h7
            cases h10 : valF f deep q with
            | fail r e => exact (iv _ _ (by omega)).fails h10 (by omega)
            | ok v r3 =>
              have hlen3 := val_ok h10
              have h14 := skip_le r3
              simp only
              cases h12 : oneB [44, 125] (skipB r3) with
              | fail r e => exact (one_nz _ _).fails h12 (by omega)
              | ok c q2 =>
                simp only
                have h13 := congrArg List.length (one_ok h12).1
                simp only [List.length_cons] at h13
                split
                · exact nz_ok
                · exact (im _ _ _ _ (by omega)).mono (by omega)
theorem whole_nz (l : B) : NZ l.length (wholeP l) := by
  unfold wholeP
  cases h : valF (fuelB l) 0 l with
  | fail r e => exact ((parts_nz _).1 _ _ (by unfold fuelB; omega)).fails h (Nat.le_refl _)
  | ok v r =>
    have h1 := val_ok h
    simp only
    cases h2 : skipB r with
    | nil => exact nz_ok
    | cons c q =>
      have := skip_len_cons h2
      exact nz_fail (by decide) (by simp; omega)
theorem parse_can {s : B} {v : J} {at' : Nat} (h : parseJ s = (v, at', 0)) : Can 0 v ∧ at' = 0 ∧ wholeP s = .ok v [] ∧ s.length ≤ 65536 := by
  unfold parseJ at h
  split at h
  · simp at h
  · cases h1 : wholeP s with
    | fail r e =>
      rw [h1] at h
      simp only [Prod.mk.injEq] at h
      exact absurd h.2.2 (whole_nz s _ _ h1).1
    | ok u r =>
      rw [h1] at h
      simp only [Prod.mk.injEq] at h
      obtain ⟨rfl, h2, -⟩ := h
      have hr : r = [] := by
        unfold wholeP at h1
        cases h3 : valF (fuelB s) 0 s with
        | fail r e => rw [h3] at h1; cases h1
        | ok v r =>
          rw [h3] at h1
          simp only at h1
          cases h4 : skipB r with
          | nil => rw [h4] at h1; simp only [PR.ok.injEq] at h1; exact h1.2.symm
          | cons c q => rw [h4] at h1; cases h1
      subst hr
      exact ⟨whole_can h1, h2.symm, rfl, by omega⟩
end Go.Proofs.YtigdjnfnkjfkmaaGreatDoor
namespace Go.Proofs.YtigdjnfnkjfkmaaGreatDoor
set_option linter.unusedVariables false
set_option linter.unusedSimpArgs false
set_option maxRecDepth 100000

theorem whole_rest {s : B} {v : J} {r : B} (h : wholeP s = .ok v r) : r = [] := by
  unfold wholeP at h
  cases h3 : valF (fuelB s) 0 s with
  | fail r e => rw [h3] at h; cases h
  | ok v r =>
    rw [h3] at h
    simp only at h
    cases h4 : skipB r with
    | nil => rw [h4] at h; simp only [PR.ok.injEq] at h; exact h.2.symm
    | cons c q => rw [h4] at h; cases h
/-! Lists in lists. -/
end Go.Proofs.YtigdjnfnkjfkmaaGreatDoor
namespace Go.Proofs.YtigdjnfnkjfkmaaGreatDoor
set_option linter.unusedVariables false
set_option linter.unusedSimpArgs false
set_option maxRecDepth 100000

/-- Parts behind one another: the first has one byte ahead, each other a comma. -/
def runB (c : UInt8) : List B → B
  | [] => []
  | x :: l => c :: (x ++ l.flatMap fun y => 44 :: y)
theorem runB_snoc (c : UInt8) (x : B) : ∀ xs : List B, runB c (xs ++ [x]) = runB c xs ++ ((if xs.length = 0 then c else 44) :: x)
  | [] => by simp [runB]
  | y :: l => by simp [runB]
theorem runB_le (c : UInt8) (b : List B) : ∀ a : List B, (runB c a).length ≤ (runB c (a ++ b)).length
  | [] => by simp [runB]
  | y :: l => by simp [runB]
theorem runB_take_le (c : UInt8) (xs : List B) (n : Nat) : (runB c (xs.take n)).length ≤ (runB c xs).length := by
  conv => rhs; rw [← List.take_append_drop n xs]
  exact runB_le c _ _
theorem join_run : ∀ (x : B) (l : List B), joinB (x :: l) = x ++ l.flatMap fun y => 44 :: y
  | x, [] => by simp [joinB]
  | x, y :: l => by rw [joinB, join_run y l]; simp
theorem runB_join (c : UInt8) (xs : List B) : runB c xs ++ (if xs.length = 0 then [c] else []) = c :: joinB xs := by
  cases xs with
  | nil => simp [runB, joinB]
  | cons x l => rw [join_run]; simp [runB]
theorem runB_step (c : UInt8) (xs : List B) (n : Nat) (x : B) (h : xs[n]? = some x) : runB c (xs.take (n + 1)) = runB c (xs.take n) ++ ((if n = 0 then c else 44) :: x) := by
  have hn := (List.getElem?_eq_some_iff.1 h).1
  rw [List.take_add_one, h, Option.toList_some, runB_snoc, List.length_take, Nat.min_eq_left (by omega)]
theorem runB_step_le (c : UInt8) (xs : List B) (n : Nat) (x : B) (h : xs[n]? = some x) : (runB c (xs.take n)).length + 1 + x.length ≤ 1 + (joinB xs).length := by
  have h1 := runB_take_le c xs (n + 1)
  rw [runB_step c xs n x h] at h1
  have h2 := congrArg List.length (runB_join c xs)
  have hn := (List.getElem?_eq_some_iff.1 h).1
  rw [if_neg (by omega)] at h2
  simp only [List.length_append, List.length_cons, List.length_nil] at h1 h2
  omega
mutual
/-- How much a value holds. -/
def wtJ : J → Nat
  | .mk k n t ns is => 1 + t.length + ns.length + (ns.map List.length).sum + wtsJ is
def wtsJ : List J → Nat
  | [] => 0
  | v :: l => wtJ v + wtsJ l
end
theorem wt_pos : ∀ v : J, 1 ≤ wtJ v
  | .mk k n t ns is => by rw [wtJ]; omega
theorem wts_len : ∀ l : List J, l.length ≤ wtsJ l
  | [] => by simp
  | v :: l => by rw [wtsJ, List.length_cons]; have := wts_len l; have := wt_pos v; omega
theorem wts_mem : ∀ {l : List J} {v : J}, v ∈ l → wtJ v ≤ wtsJ l
  | u :: l, v, h => by
    rw [wtsJ]
    rcases List.mem_cons.1 h with rfl | h
    · omega
    · have := wts_mem h; omega
theorem sum_mem : ∀ {l : List B} {s : B}, s ∈ l → s.length ≤ (l.map List.length).sum
  | u :: l, v, h => by
    rw [List.map_cons, List.sum_cons]
    rcases List.mem_cons.1 h with rfl | h
    · omega
    · have := sum_mem h; omega
/-- Ordered places tell the sorted members. -/
def Ordered (ns : List B) (idx : List Nat) : Prop := idx.Perm (List.range ns.length) ∧ idx.Pairwise fun i j => ltB (ns.getD j []) (ns.getD i []) = false
theorem zip_range {α : Type} (d : α) (ns : List B) (is : List α) (hl : ns.length = is.length) : (List.range ns.length).map (fun i => (ns.getD i [], is.getD i d)) = ns.zip is := by
  apply List.ext_getElem
  · simp [hl]
  · intro i h1 h2
    simp at h1
    simp [List.getElem?_eq_getElem h1, List.getElem?_eq_getElem (hl ▸ h1)]
theorem ordered_sort {α : Type} (d : α) {ns : List B} {idx : List Nat} (is : List α) (h : Ordered ns idx) (hl : ns.length = is.length) (hn : ns.Nodup) : idx.map (fun i => (ns.getD i [], is.getD i d)) = sortP (ns.zip is) := by
  have hz : ((ns.zip is).map (·.1)) = ns := by rw [List.map_fst_zip]; omega
  refine rising_unique ?_ (sort_rising (by rw [hz]; exact hn)) ?_
  · unfold Rising
    rw [List.pairwise_map]
    have hnd : idx.Pairwise (· ≠ ·) := (h.1.nodup_iff.2 List.nodup_range)
    have hm : ∀ i ∈ idx, i < ns.length := fun i hi => List.mem_range.1 ((h.1.mem_iff).1 hi)
    refine (List.Pairwise.and_mem.1 (h.2.and hnd)).imp ?_
    intro i j ⟨hi, hj, h1, h2⟩
    show ltB (ns.getD i []) (ns.getD j []) = true
    cases hc : ltB (ns.getD i []) (ns.getD j []) with
    | true => rfl
    | false =>
      have e := lt_total hc h1
      have hi' := hm i hi
      have hj' := hm j hj
      rw [List.getD_eq_getElem?_getD, List.getD_eq_getElem?_getD, List.getElem?_eq_getElem hi', List.getElem?_eq_getElem hj'] at e
      exact absurd ((List.getElem_inj hn).1 e) h2
  · refine (h.1.map _).trans ?_
    rw [zip_range d ns is hl]
    exact (sort_perm _).symm
end Go.Proofs.YtigdjnfnkjfkmaaGreatDoor
namespace Go.Proofs.YtigdjnfnkjfkmaaGreatDoor
set_option linter.unusedVariables false
set_option linter.unusedSimpArgs false
set_option maxRecDepth 100000

theorem quote_len : ∀ s : B, (quoteB s).length ≤ 6 * s.length + 2 := by
  have h : ∀ s : B, (s.flatMap quoteC).length ≤ 6 * s.length := by
    intro s
    induction s with
    | nil => simp
    | cons c s ih =>
      rw [List.flatMap_cons, List.length_append, List.length_cons]
      have : (quoteC c).length ≤ 6 := by unfold quoteC; split; · simp
                                         split <;> simp
      omega
  intro s
  unfold quoteB
  rw [List.length_cons, List.length_append]
  have := h s
  simp only [List.length_cons, List.length_nil]
  omega
theorem join_len : ∀ l : List B, (joinB l).length ≤ (l.map fun x => x.length + 1).sum
  | [] => by simp [joinB]
  | [x] => by simp [joinB]
  | x :: y :: l => by
    have ih := join_len (y :: l)
    rw [joinB, List.length_append, List.length_cons, List.map_cons, List.sum_cons]
    omega
theorem sum_perm {α : Type} (f : α → Nat) {l m : List α} (h : l.Perm m) : (l.map f).sum = (m.map f).sum := (h.map f).sum_nat
theorem zip_sum : ∀ (ns : List B) (ts : List B), ((ns.zip ts).map fun p => 6 * p.1.length + p.2.length + 4).sum ≤ 6 * (ns.map List.length).sum + 4 * ns.length + (ts.map List.length).sum
  | [], _ => by simp
  | _ :: _, [] => by simp
  | a :: ns, b :: ts => by
    have ih := zip_sum ns ts
    simp only [List.zip_cons_cons, List.map_cons, List.sum_cons, List.length_cons]
    omega
theorem mem_sum_le {α : Type} {f g : α → Nat} : ∀ {l : List α}, (∀ x ∈ l, f x ≤ g x) → (l.map f).sum ≤ (l.map g).sum
  | [], _ => by simp
  | x :: l, h => by
    have h1 := h x (by simp)
    have h2 := mem_sum_le (l := l) fun y hy => h y (by simp [hy])
    simp only [List.map_cons, List.sum_cons]; omega
theorem wts_sum : ∀ l : List J, wtsJ l = (l.map wtJ).sum
  | [] => by rw [wtsJ]; rfl
  | v :: l => by rw [wtsJ, wts_sum l]; rfl
theorem sum_30 (l : List J) : (l.map fun x => 30 * wtJ x).sum = 30 * (l.map wtJ).sum := by
  induction l with
  | nil => rfl
  | cons x l ih => simp only [List.map_cons, List.sum_cons, ih]; omega
theorem text_wt : ∀ v : J, wfJ v = true → (textJ v).length + 1 ≤ 30 * wtJ v := by
  intro v
  induction v using J.ind with
  | h k n t ns is ih =>
    intro hw
    rw [wfJ] at hw
    simp only [Bool.and_eq_true, decide_eq_true_eq] at hw
    obtain ⟨⟨q1, q2⟩, q3⟩ := hw
    have hi := Lib.itoa_length_le n q1 q2
    have hq := quote_len t
    have ih' : ((is.map textJ).map fun x : B => x.length + 1).sum ≤ 30 * wtsJ is := by
      rw [List.map_map, wts_sum, ← sum_30]
      exact mem_sum_le (fun x hx => ih x hx (wfs_all.1 q3 x hx))
    have ih2 : ((is.map textJ).map List.length).sum ≤ 30 * wtsJ is :=
      Nat.le_trans (mem_sum_le (fun x _ => Nat.le_succ _)) ih'
    rw [textJ, wtJ]
    split
    · simp; omega
    · split
      · split <;> (simp; omega)
      · split
        · omega
        · split
          · omega
          · split
            · rw [texts_map]
              have := join_len (is.map textJ)
              simp only [List.length_cons, List.length_append, List.length_nil]; omega
            · rw [texts_map]
              have h1 := join_len ((sortP (ns.zip (is.map textJ))).map memB)
              have h2 : (((sortP (ns.zip (is.map textJ))).map memB).map fun x => x.length + 1).sum ≤ ((sortP (ns.zip (is.map textJ))).map fun p => 6 * p.1.length + p.2.length + 4).sum := by
                rw [List.map_map]
                refine mem_sum_le fun p _ => ?_
                have := quote_len p.1
                simp only [Function.comp, memB, List.length_append, List.length_cons]; omega
              rw [sum_perm _ (sort_perm _)] at h2
              have h3 := zip_sum ns (is.map textJ)
              simp only [List.length_cons, List.length_append, List.length_nil]; omega
end Go.Proofs.YtigdjnfnkjfkmaaGreatDoor
namespace Go.Proofs.YtigdjnfnkjfkmaaGreatDoor
set_option linter.unusedVariables false
set_option linter.unusedSimpArgs false
set_option maxRecDepth 100000

end Go.Proofs.YtigdjnfnkjfkmaaGreatDoor
namespace Go.Proofs.YtigdjnfnkjfkmaaGreatDoor
set_option linter.unusedVariables false
set_option linter.unusedSimpArgs false
set_option maxRecDepth 100000

theorem escT_wt {n : Nat} {l r b : B} (h : escT n l = .ok b r) : b.length + r.length ≤ l.length := by
  cases l with
  | nil => cases h
  | cons d q =>
    simp only [escT] at h
    split at h
    · cases h
    · cases h5 : hexB hiTwo (d :: q) with
      | fail r e => rw [h5] at h; cases h
      | ok m r4 =>
        rw [h5] at h
        have l5 := hexGo_ok _ h5
        simp only [PR.ok.injEq] at h
        obtain ⟨rfl, rfl⟩ := h
        have := utf8_le (0x10000 + (n - 0xd800) * 1024 + m - 0xdc00)
        omega
theorem escS_wt {n : Nat} {l r b : B} (h : escS n l = .ok b r) : b.length + r.length ≤ l.length + 4 := by
  unfold escS at h
  split at h
  · cases h4 : wordB [92, 117] l with
    | fail r e => rw [h4] at h; cases h
    | ok u r3 =>
      rw [h4] at h
      have l4 := congrArg List.length (word_ok h4)
      have := escT_wt h
      simp at l4; omega
  · have := utf8_le n
    cases h; omega
theorem escR_wt {c : UInt8} {l r b : B} (h : escR c l = .ok b r) : b.length + r.length ≤ l.length + 1 := by
  unfold escR at h
  cases h2 : ctlB c with
  | some d => rw [h2] at h; cases h; simp; omega
  | none =>
    rw [h2] at h
    simp only at h
    split at h
    · cases h; simp; omega
    · cases h3 : hexB loTwo l with
      | fail r e => rw [h3] at h; cases h
      | ok n r2 =>
        rw [h3] at h
        have l3 := hexGo_ok _ h3
        have := escS_wt h
        omega
theorem esc_wt {l r b : B} (h : escB l = .ok b r) : b.length + r.length ≤ l.length := by
  cases h1 : oneB escL l with
  | fail r e => unfold escB at h; rw [h1] at h; cases h
  | ok c r1 =>
    rw [escB_eq h1] at h
    have hl := congrArg List.length (one_ok h1).1
    have := escR_wt h
    simp at hl; omega
theorem textF_wt : ∀ {f : Nat} {acc l r b : B}, textF f acc l = .ok b r → b.length + r.length ≤ acc.length + l.length
  | 0, acc, l, r, b, h => by cases h
  | f + 1, acc, l, r, b, h => by
    rw [textF.eq_def] at h
    simp only at h
    cases l with
    | nil => cases h
    | cons c l =>
      simp only at h
      split at h
      · cases h; exact Nat.le_refl _
      · split at h
        · cases h
        · split at h
          · cases h1 : escB l with
            | fail r e => rw [h1] at h; cases h
            | ok b1 r1 =>
              rw [h1] at h
              have l1 := esc_wt h1
              have := textF_wt h
              simp at this ⊢; omega
          · cases h1 : charB (c :: l) with
            | fail r e => rw [h1] at h; cases h
            | ok b1 r1 =>
              rw [h1] at h
              have l1 := congrArg List.length (char_ok (by simp) h1).2
              have := textF_wt h
              simp at this l1 ⊢; omega
theorem text_wt' {l r b : B} (h : textB l = .ok b r) : b.length + r.length + 1 ≤ l.length ∧ 1 ≤ r.length := by
  have h0 := (text_ok h).2
  unfold textB at h
  cases h1 : oneB [34] l with
  | fail r e => rw [h1] at h; cases h
  | ok c r1 =>
    rw [h1] at h
    have l1 := congrArg List.length (one_ok h1).1
    have := textF_wt h
    obtain ⟨r', rfl⟩ := h0
    simp at this l1 ⊢; omega
theorem wts_snoc (l : List J) (v : J) : wtsJ (l ++ [v]) = wtsJ l + wtJ v := by
  rw [wts_sum, wts_sum]; simp
theorem parts_wt : ∀ f : Nat, (∀ deep l v r, valF f deep l = .ok v r → wtJ v + r.length ≤ l.length) ∧ (∀ deep acc l v r, itemsF f deep acc l = .ok v r → wtJ v + r.length ≤ wtsJ acc + l.length) ∧
    (∀ deep ns is l v r, memsF f deep ns is l = .ok v r → wtJ v + r.length ≤ ns.length + (ns.map List.length).sum + wtsJ is + l.length) := by
  intro f
  induction f with
  | zero => exact ⟨(fun _ _ _ _ h => (by rw [valF] at h; cases h)), (fun _ _ _ _ _ h => (by rw [itemsF] at h; cases h)), (fun _ _ _ _ _ _ h => (by rw [memsF] at h; cases h))⟩
  | succ f ih =>
    obtain ⟨iv, ii, im⟩ := ih
    refine ⟨fun deep l v r h => ?_, fun deep acc l v r h => ?_, fun deep ns is l v r h => ?_⟩
    · rw [valF] at h
      have hs := skip_le l
      cases h0 : skipB l with
      | nil => rw [h0] at h; cases h
      | cons c l1 =>
        rw [h0] at h hs
        simp only [List.length_cons] at hs
        simp only at h
        split at h
        · split at h
          · cases h
          · have hs1 := skip_le l1
            split at h
            · cases h2 : skipB l1 with
              | nil => rw [h2] at h; cases h
              | cons d l2 =>
                rw [h2] at h hs1
                simp only [List.length_cons] at hs1
                simp only at h
                split at h
                · cases h; simp [wtJ, wtsJ]; omega
                · have := ii _ _ _ _ _ h
                  simp only [List.length_cons, wtsJ] at this; omega
            · cases h2 : skipB l1 with
              | nil => rw [h2] at h; cases h
              | cons d l2 =>
                rw [h2] at h hs1
                simp only [List.length_cons] at hs1
                simp only at h
                split at h
                · cases h; simp [wtJ, wtsJ]; omega
                · have := im _ _ _ _ _ _ h
                  simp only [List.length_cons, wtsJ, List.length_nil, List.map_nil, List.sum_nil] at this; omega
        · split at h
          · cases h2 : textB (c :: l1) with
            | fail r e => rw [h2] at h; cases h
            | ok s r1 =>
              rw [h2] at h
              have := text_wt' h2
              cases h
              rw [List.length_drop]
              simp only [List.length_cons] at this
              simp [wtJ, wtsJ]; omega
          · split at h
            · obtain ⟨_, h2, rfl⟩ := map_ok h
              have := congrArg List.length (word_ok h2)
              simp [J0, wtJ, wtsJ] at this ⊢; omega
            · split at h
              · obtain ⟨_, h2, rfl⟩ := map_ok h
                have := congrArg List.length (word_ok h2)
                simp [wtJ, wtsJ] at this ⊢; omega
              · split at h
                · obtain ⟨_, h2, rfl⟩ := map_ok h
                  have := congrArg List.length (word_ok h2)
                  simp [wtJ, wtsJ] at this ⊢; omega
                · split at h
                  · obtain ⟨_, h2, rfl⟩ := map_ok h
                    have := number_ok h2
                    simp only [List.length_cons] at this
                    simp [wtJ, wtsJ]; omega
                  · cases h
    · rw [itemsF] at h
      cases h1 : valF f deep l with
      | fail r e => rw [h1] at h; cases h
      | ok v1 r1 =>
        rw [h1] at h
        have l1 := iv _ _ _ _ h1
        have l2 := skip_le r1
        simp only at h
        cases h2 : oneB [44, 93] (skipB r1) with
        | fail r e => rw [h2] at h; cases h
        | ok c r2 =>
          rw [h2] at h
          have l3 := congrArg List.length (one_ok h2).1
          simp only [List.length_cons] at l3
          simp only at h
          split at h
          · cases h; rw [wtJ, wts_snoc]; simp; omega
          · have := ii _ _ _ _ _ h
            rw [wts_snoc] at this
            omega
    · rw [memsF] at h
      have l0 := skip_le l
      cases h1 : textB (skipB l) with
      | fail r e => rw [h1] at h; cases h
      | ok s r1 =>
        rw [h1] at h
        have l1 := text_wt' h1
        simp only at h
        split at h
        · cases h
        · have l2 := skip_le (r1.drop 1)
          rw [List.length_drop] at l2
          cases h2 : oneB [58] (skipB (r1.drop 1)) with
          | fail r e => rw [h2] at h; cases h
          | ok c r2 =>
            rw [h2] at h
            have l3 := congrArg List.length (one_ok h2).1
            simp only [List.length_cons] at l3
            simp only at h
            cases h3 : valF f deep r2 with
            | fail r e => rw [h3] at h; cases h
            | ok v1 r3 =>
              rw [h3] at h
              have l4 := iv _ _ _ _ h3
              have l5 := skip_le r3
              simp only at h
              cases h4 : oneB [44, 125] (skipB r3) with
              | fail r e => rw [h4] at h; cases h
              | ok c2 r4 =>
                rw [h4] at h
                have l6 := congrArg List.length (one_ok h4).1
                simp only [List.length_cons] at l6
                simp only at h
                split at h
                · cases h; rw [wtJ, wts_snoc]; simp; omega
                · have := im _ _ _ _ _ _ h
                  rw [wts_snoc] at this
                  simp at this
                  omega
theorem parse_wt {s : B} {v : J} {p : Nat} (h : parseJ s = (v, p, 0)) : wtJ v ≤ 65536 := by
  obtain ⟨_, _, h1, h2⟩ := parse_can h
  unfold wholeP at h1
  cases h3 : valF (fuelB s) 0 s with
  | fail r e => rw [h3] at h1; cases h1
  | ok u r =>
    rw [h3] at h1
    simp only at h1
    have := (parts_wt _).1 _ _ _ _ h3
    cases h4 : skipB r with
    | nil => rw [h4] at h1; cases h1; omega
    | cons c q => rw [h4] at h1; cases h1
end Go.Proofs.YtigdjnfnkjfkmaaGreatDoor
namespace Go.Proofs.YtigdjnfnkjfkmaaGreatDoor
set_option linter.unusedVariables false
set_option linter.unusedSimpArgs false
set_option maxRecDepth 100000

end Go.Proofs.YtigdjnfnkjfkmaaGreatDoor
namespace Go.Proofs.YtigdjnfnkjfkmaaGreatDoor
set_option linter.unusedVariables false
set_option linter.unusedSimpArgs false
set_option maxRecDepth 100000

end Go.Proofs.YtigdjnfnkjfkmaaGreatDoor
