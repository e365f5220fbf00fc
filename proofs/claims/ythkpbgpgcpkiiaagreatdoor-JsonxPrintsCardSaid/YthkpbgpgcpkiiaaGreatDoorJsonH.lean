/- JSON: what is read can be. Conditions: none. -/
import Derived.Test.YthkpbgpgcpkiiaaGreatDoorJsonG
import Derived.Test.YthkpbgpgcpkiiaaGreatDoorJsonU
namespace Go.Proofs.YthkpbgpgcpkiiaaGreatDoor
set_option linter.unusedVariables false
set_option linter.unusedSimpArgs false
set_option maxRecDepth 100000

theorem whole_one {c : UInt8} (h : c < 0x80) : wholeL [c] = true := whole_char (t := []) (longB_ascii.2 h) (by rfl)
theorem cont_of {k : Nat} (h : k < 64) : contB 0x80 0xbf (UInt8.ofNat (128 + k)) = true := by
  have : ∀ k : Nat, k < 64 → contB 0x80 0xbf (UInt8.ofNat (128 + k)) = true := by decide
  exact this k h
theorem whole_utf8 {n : Nat} (h : n < 55296 ∨ (57344 ≤ n ∧ n < 1114112)) : wholeL (utf8B n) = true := by
  unfold utf8B
  split
  · rename_i h1
    refine whole_one ?_
    have : ∀ n : Nat, n < 128 → UInt8.ofNat n < 0x80 := by decide
    exact this n h1
  · split
    · rename_i h1 h2
      have key : ∀ a : Nat, a < 32 → 2 ≤ a → (longB (UInt8.ofNat (192 + a))).1 = 2 ∧ (longB (UInt8.ofNat (192 + a))).2.1 = 0x80 ∧ (longB (UInt8.ofNat (192 + a))).2.2 = 0xbf := by decide
      obtain ⟨k1, k2, k3⟩ := key (n / 64) (by omega) (by omega)
      refine whole_char (t := [_]) k1 ?_
      rw [k2, k3]
      show tailB 1 _ _ _ = true
      rw [tailB, tailB, cont_of (by omega)]; rfl
    · split
      · rename_i h1 h2 h3
        have key : ((List.range 16).all fun a => (List.range 64).all fun b => (a == 0 && !decide (32 ≤ b)) || (a == 13 && !decide (b < 32)) || ((longB (UInt8.ofNat (224 + a))).1 == 3 && contB (longB (UInt8.ofNat (224 + a))).2.1 (longB (UInt8.ofNat (224 + a))).2.2 (UInt8.ofNat (128 + b)))) = true := by decide +kernel
        have key2 := List.all_eq_true.1 (List.all_eq_true.1 key (n / 4096) (List.mem_range.2 (by omega))) (n / 64 % 64) (List.mem_range.2 (by omega))
        simp only [Bool.or_eq_true, Bool.and_eq_true, beq_iff_eq, Bool.not_eq_true', decide_eq_false_iff_not] at key2
        have key3 := key2.resolve_left (by omega)
        obtain ⟨k1, k2⟩ := key3
        refine whole_char (t := [_, _]) k1 ?_
        show tailB 2 _ _ _ = true
        rw [tailB, k2, tailB, tailB, cont_of (by omega)]; rfl
      · rename_i h1 h2 h3
        have key : ((List.range 5).all fun a => (List.range 64).all fun b => (a == 0 && !decide (16 ≤ b)) || (a == 4 && !decide (b < 16)) || ((longB (UInt8.ofNat (240 + a))).1 == 4 && contB (longB (UInt8.ofNat (240 + a))).2.1 (longB (UInt8.ofNat (240 + a))).2.2 (UInt8.ofNat (128 + b)))) = true := by decide +kernel
        have key2 := List.all_eq_true.1 (List.all_eq_true.1 key (n / 262144) (List.mem_range.2 (by omega))) (n / 4096 % 64) (List.mem_range.2 (by omega))
        simp only [Bool.or_eq_true, Bool.and_eq_true, beq_iff_eq, Bool.not_eq_true', decide_eq_false_iff_not] at key2
        have key3 := key2.resolve_left (by omega)
        obtain ⟨k1, k2⟩ := key3
        refine whole_char (t := [_, _, _]) k1 ?_
        show tailB 3 _ _ _ = true
        rw [tailB, k2, tailB, cont_of (by omega), tailB, cont_of (by omega), tailB]; rfl
theorem escS_whole {n : Nat} {r r' b : B} (hn : n < 56320 ∨ (57344 ≤ n ∧ n < 65536)) (h : escS n r = .ok b r') : wholeL b = true := by
  unfold escS at h
  split at h
  · rename_i hs
    cases h1 : wordB [92, 117] r with
    | fail r e => rw [h1] at h; cases h
    | ok u r2 =>
      rw [h1] at h
      simp only at h
      cases r2 with
      | nil => cases h
      | cons d q =>
        rw [escT] at h
        split at h
        · cases h
        · rename_i hd
          have hd' : d = 100 ∨ d = 68 := by
            by_cases g : d = 100
            · exact .inl g
            · by_cases g2 : d = 68
              · exact .inr g2
              · exact absurd ⟨g, g2⟩ hd
          cases h2 : hexB hiTwo (d :: q) with
          | fail r e => rw [h2] at h; cases h
          | ok m r3 =>
            rw [h2] at h
            simp only [PR.ok.injEq] at h
            have hm := hexhi hd' h2
            rw [← h.1]
            exact whole_utf8 (by omega)
  · rename_i hs
    simp only [PR.ok.injEq] at h
    rw [← h.1]
    exact whole_utf8 (by omega)
theorem esc_whole {l r b : B} (h : escB l = .ok b r) : wholeL b = true := by
  cases h1 : oneB escL l with
  | fail r e => unfold escB at h; rw [h1] at h; cases h
  | ok c q =>
    rw [escB_eq h1, escR] at h
    have hc := (oneB_ok h1).2
    cases h2 : ctlB c with
    | some d =>
      rw [h2] at h
      simp only [PR.ok.injEq] at h
      rw [← h.1]
      have : ∀ n : Nat, n < 256 → ∀ d, ctlB (UInt8.ofNat n) = some d → d < 0x80 := by
        intro n hn d hd
        unfold ctlB at hd
        repeat' split at hd
        all_goals first | (cases hd; done) | (cases hd; decide)
      have := this c.toNat c.toNat_lt d
      rw [UInt8.ofNat_toNat] at this
      exact whole_one (this h2)
    | none =>
      rw [h2] at h
      simp only at h
      split at h
      · simp only [PR.ok.injEq] at h
        rw [← h.1]
        have : ∀ n : Nat, n < 256 → escL.contains (UInt8.ofNat n) = true → UInt8.ofNat n < 0x80 := by decide
        have := this c.toNat c.toNat_lt
        rw [UInt8.ofNat_toNat] at this
        exact whole_one (this hc)
      · cases h3 : hexB loTwo q with
        | fail r e => rw [h3] at h; cases h
        | ok n r2 =>
          rw [h3] at h
          exact escS_whole (hexlo h3) h
theorem charF_whole : ∀ {f k : Nat} {l r b : B}, charF f k l = .ok b r → wholeL b = true
  | 0, _, _, _, _, h => by rw [charF] at h; cases h
  | f + 1, k, l, r, b, h => by
    rw [charF] at h
    split at h
    · rename_i hw
      simp only [PR.ok.injEq] at h
      rw [← h.1]; exact hw
    · split at h
      · cases h
      · split at h
        · cases h
        · exact charF_whole h
theorem textF_whole : ∀ {f : Nat} {acc l r b : B}, wholeL acc = true → textF f acc l = .ok b r → wholeL b = true
  | 0, _, _, _, _, _, h => by rw [textF] at h; cases h
  | f + 1, acc, l, r, b, ha, h => by
    rw [textF.eq_def] at h
    simp only at h
    cases l with
    | nil => cases h
    | cons c q =>
      simp only at h
      split at h
      · simp only [PR.ok.injEq] at h
        rw [← h.1]; exact ha
      · split at h
        · cases h
        · split at h
          · cases h1 : escB q with
            | fail r e => rw [h1] at h; cases h
            | ok d q2 =>
              rw [h1] at h
              simp only at h
              exact textF_whole (by rw [whole_app (Nat.le_refl _) ha]; exact esc_whole h1) h
          · cases h1 : charB (c :: q) with
            | fail r e => rw [h1] at h; cases h
            | ok d q2 =>
              rw [h1] at h
              simp only at h
              exact textF_whole (by rw [whole_app (Nat.le_refl _) ha]; exact charF_whole h1) h
theorem text_whole {l r b : B} (h : textB l = .ok b r) : wholeL b = true := by
  unfold textB at h
  cases h1 : oneB [34] l with
  | fail r e => rw [h1] at h; cases h
  | ok c q =>
    rw [h1] at h
    exact textF_whole (by rfl) h
/-- A number that is read is of 64 bits. -/
theorem num_range (neg z : Bool) : ∀ {l r : B} {n m : Int}, (∀ c q, l = c :: q → digB c = true) → (neg = false → 0 ≤ n) → (neg = true → n ≤ 0) → numB neg z n l = .ok m r → -9223372036854775808 ≤ m ∧ m ≤ 9223372036854775807
  | [], _, _, _, _, _, _, h => by rw [numB] at h; cases h
  | c :: l, r, n, m, hd, h0, h1, h => by
    rw [numB.eq_def] at h
    simp only at h
    have hc := hd c l rfl
    have hcn : 48 ≤ c.toNat ∧ c.toNat ≤ 57 := by
      unfold digB at hc
      simp only [Bool.and_eq_true, decide_eq_true_eq] at hc
      exact ⟨UInt8.le_iff_toNat_le.1 hc.1, UInt8.le_iff_toNat_le.1 hc.2⟩
    split at h
    · cases h
    · rename_i hr
      have hres : -9223372036854775808 ≤ (if neg = true then 10 * n - ((c.toNat : Int) - 48) else 10 * n + ((c.toNat : Int) - 48)) ∧ (if neg = true then 10 * n - ((c.toNat : Int) - 48) else 10 * n + ((c.toNat : Int) - 48)) ≤ 9223372036854775807 ∧
          (neg = false → 0 ≤ (if neg = true then 10 * n - ((c.toNat : Int) - 48) else 10 * n + ((c.toNat : Int) - 48))) ∧ (neg = true → (if neg = true then 10 * n - ((c.toNat : Int) - 48) else 10 * n + ((c.toNat : Int) - 48)) ≤ 0) := by
        cases neg with
        | false =>
          simp only [Bool.false_eq_true, if_false, false_and, or_false, true_and] at hr h0 ⊢
          have := h0 trivial
          exact ⟨by omega, by omega, (fun _ => by omega), (fun h => h.elim)⟩
        | true =>
          simp only [Bool.true_eq_false, if_true, false_and, false_or, true_and] at hr h1 ⊢
          have := h1 trivial
          have e : (-9223372036854775808 + ((c.toNat : Int) - 48)).tdiv 10 = -((9223372036854775808 - ((c.toNat : Int) - 48)) / 10) := by
            rw [show (-9223372036854775808 + ((c.toNat : Int) - 48)) = -(9223372036854775808 - ((c.toNat : Int) - 48)) by omega, Int.neg_tdiv, Int.tdiv_eq_ediv_of_nonneg (by omega)]
          rw [e] at hr
          exact ⟨by omega, by omega, (fun h => h.elim), (fun _ => by omega)⟩
      generalize (if neg = true then 10 * n - ((c.toNat : Int) - 48) else 10 * n + ((c.toNat : Int) - 48)) = v at h hres
      cases l with
      | nil =>
        simp only [PR.ok.injEq] at h
        rw [← h.1]; exact ⟨hres.1, hres.2.1⟩
      | cons d q =>
        simp only at h
        split at h
        · rename_i hdz
          simp only [Bool.and_eq_true] at hdz
          exact num_range neg z (fun c' q' e => by cases e; exact hdz.1) hres.2.2.1 hres.2.2.2 h
        · split at h
          · cases h
          · simp only [PR.ok.injEq] at h
            rw [← h.1]; exact ⟨hres.1, hres.2.1⟩
theorem in_dig {c : UInt8} (h : digitsL.contains c = true) : digB c = true := by
  have : ∀ n : Nat, n < 256 → digitsL.contains (UInt8.ofNat n) = true → digB (UInt8.ofNat n) = true := by decide
  have := this c.toNat c.toNat_lt; rw [UInt8.ofNat_toNat] at this; exact this h
theorem number_range {l r : B} {n : Int} (h : numberB l = .ok n r) : -9223372036854775808 ≤ n ∧ n ≤ 9223372036854775807 := by
  cases l with
  | nil => rw [numberB] at h; cases h
  | cons m l =>
    rw [numberB] at h
    split at h
    · cases h1 : oneB digitsL l with
      | fail r e => rw [h1] at h; cases h
      | ok c q =>
        rw [h1] at h
        simp only at h
        obtain ⟨rfl, hc⟩ := oneB_ok h1
        exact num_range true _ (fun c' q' e => by cases e; exact in_dig hc) (fun h => by cases h) (fun _ => Int.le_refl _) h
    · cases h1 : oneB digitsL (m :: l) with
      | fail r e => rw [h1] at h; cases h
      | ok c q =>
        rw [h1] at h
        simp only at h
        obtain ⟨e, hc⟩ := oneB_ok h1
        cases e
        exact num_range false _ (fun c' q' e => by cases e; exact in_dig hc) (fun _ => Int.le_refl _) (fun h => by cases h) h
def Can (deep : Nat) (v : J) : Prop := checkJ deep v = 0 ∧ wfJ v = true
theorem can_plain {deep : Nat} (hd : deep ≤ 16) {k n : Int} {t : B} (hk : k ≠ 4 ∧ k ≠ 5) (hb : blankJ (.mk k n t [] []) = true) (h1 : -9223372036854775808 ≤ n) (h2 : n ≤ 9223372036854775807) : Can deep (.mk k n t [] []) := by
  constructor
  · have e : deeper k deep = deep := by unfold deeper; rw [if_neg]; intro h; exact h.elim hk.1 hk.2
    rw [checkJ, e, if_neg (by omega), hb]
    simp [twiceL, checksJ]
  · rw [wfJ, wfsJ]; simp [h1, h2]
theorem can_list {deep : Nat} (hd : deep < 16) {is : List J} (h : ∀ v ∈ is, Can (deep + 1) v) : Can deep (.mk 4 0 [] [] is) := by
  have e : deeper 4 deep = deep + 1 := by unfold deeper; rw [if_pos (.inl rfl)]
  constructor
  · rw [checkJ, e, if_neg (by omega), show blankJ (.mk 4 0 [] [] is) = true from rfl]
    simp only [Bool.true_eq_false, if_false, twiceL, Bool.false_eq_true]
    exact checks_all.2 fun v hv => (h v hv).1
  · rw [wfJ, wfs_all.2 fun v hv => (h v hv).2]; simp
theorem flatten_whole : ∀ {l : List B}, (∀ s ∈ l, wholeL s = true) → wholeL l.flatten = true
  | [], _ => rfl
  | s :: l, h => by rw [List.flatten_cons, whole_app (Nat.le_refl _) (h s (by simp))]; exact flatten_whole fun t ht => h t (by simp [ht])
theorem can_object {deep : Nat} (hd : deep < 16) {ns : List B} {is : List J} (hl : ns.length = is.length) (hn : ns.Nodup) (hw : ∀ s ∈ ns, wholeL s = true) (h : ∀ v ∈ is, Can (deep + 1) v) : Can deep (.mk 5 0 [] ns is) := by
  have e : deeper 5 deep = deep + 1 := by unfold deeper; rw [if_pos (.inr rfl)]
  have hb : blankJ (.mk 5 0 [] ns is) = true := by
    rw [blankJ, if_neg (by decide), if_neg (by decide), if_neg (by decide), if_neg (by decide), if_neg (by decide), if_pos rfl]
    simp only [hl, flatten_whole hw, List.isEmpty_nil, BEq.rfl, Bool.and_self, Bool.true_and, List.all_eq_true]
    exact hw
  constructor
  · rw [checkJ, e, if_neg (by omega), hb, twice_nodup.2 hn]
    simp only [Bool.true_eq_false, if_false, Bool.false_eq_true]
    exact checks_all.2 fun v hv => (h v hv).1
  · rw [wfJ, wfs_all.2 fun v hv => (h v hv).2]; simp
theorem parts_can : ∀ f : Nat, (∀ deep l v r, deep ≤ 16 → valF f deep l = .ok v r → Can deep v) ∧
    (∀ deep acc l v r, deep ≤ 16 → (∀ u ∈ acc, Can deep u) → itemsF f deep acc l = .ok v r → ∃ is, v = .mk 4 0 [] [] is ∧ ∀ u ∈ is, Can deep u) ∧
    (∀ deep ns is l v r, deep ≤ 16 → ns.length = is.length → ns.Nodup → (∀ s ∈ ns, wholeL s = true) → (∀ u ∈ is, Can deep u) → memsF f deep ns is l = .ok v r →
      ∃ ns' is', v = .mk 5 0 [] ns' is' ∧ ns'.length = is'.length ∧ ns'.Nodup ∧ (∀ s ∈ ns', wholeL s = true) ∧ ∀ u ∈ is', Can deep u) := by
  intro f
  induction f with
  | zero => exact ⟨(fun _ _ _ _ _ h => (by rw [valF] at h; cases h)), (fun _ _ _ _ _ _ _ h => (by rw [itemsF] at h; cases h)), (fun _ _ _ _ _ _ _ _ _ _ _ h => (by rw [memsF] at h; cases h))⟩
  | succ f ih =>
    obtain ⟨iv, ii, im⟩ := ih
    refine ⟨fun deep l v r hd h => ?_, fun deep acc l v r hd ha h => ?_, fun deep ns is l v r hd hl hn hw ha h => ?_⟩
    · rw [valF] at h
      cases h0 : skipB l with
      | nil => rw [h0] at h; cases h
      | cons c l1 =>
        rw [h0] at h
        simp only at h
        split at h
        · split at h
          · cases h
          · split at h
            · cases h2 : skipB l1 with
              | nil => rw [h2] at h; cases h
              | cons d l2 =>
                rw [h2] at h
                simp only at h
                split at h
                · cases h; exact can_list (by omega) (fun _ h => by cases h)
                · obtain ⟨is, rfl, h3⟩ := ii _ _ _ _ _ (by omega) (fun _ h => by cases h) h
                  exact can_list (by omega) h3
            · cases h2 : skipB l1 with
              | nil => rw [h2] at h; cases h
              | cons d l2 =>
                rw [h2] at h
                simp only at h
                split at h
                · cases h; exact can_object (by omega) rfl List.nodup_nil (fun _ h => by cases h) (fun _ h => by cases h)
                · obtain ⟨ns, is, rfl, h3, h4, h5, h6⟩ := im _ _ _ _ _ _ (by omega) rfl List.nodup_nil (fun _ h => by cases h) (fun _ h => by cases h) h
                  exact can_object (by omega) h3 h4 h5 h6
        · split at h
          · cases h2 : textB (c :: l1) with
            | fail r e => rw [h2] at h; cases h
            | ok s r1 =>
              rw [h2] at h
              simp only [PR.ok.injEq] at h
              rw [← h.1]
              refine can_plain hd (by decide) ?_ (by decide) (by decide)
              rw [blankJ]; simp [text_whole h2]
          · split at h
            · obtain ⟨_, h2, rfl⟩ := map_ok h
              exact can_plain hd (by decide) (by rfl) (by decide) (by decide)
            · split at h
              · obtain ⟨_, h2, rfl⟩ := map_ok h
                exact can_plain hd (by decide) (by rfl) (by decide) (by decide)
              · split at h
                · obtain ⟨_, h2, rfl⟩ := map_ok h
                  exact can_plain hd (by decide) (by rfl) (by decide) (by decide)
                · split at h
                  · obtain ⟨_, h2, rfl⟩ := map_ok h
                    exact can_plain hd (by decide) (by rfl) (number_range h2).1 (number_range h2).2
                  · cases h
    · rw [itemsF] at h
      cases h1 : valF f deep l with
      | fail r e => rw [h1] at h; cases h
      | ok v1 r1 =>
        rw [h1] at h
        have l1 := iv _ _ _ _ hd h1
        simp only at h
        have ha' : ∀ u ∈ acc ++ [v1], Can deep u := by
          intro u hu
          rcases List.mem_append.1 hu with hu | hu
          · exact ha u hu
          · rw [List.mem_singleton.1 hu]; exact l1
        cases h2 : oneB [44, 93] (skipB r1) with
        | fail r e => rw [h2] at h; cases h
        | ok c r2 =>
          rw [h2] at h
          simp only at h
          split at h
          · simp only [PR.ok.injEq] at h
            exact ⟨_, h.1.symm, ha'⟩
          · exact ii _ _ _ _ _ hd ha' h
    · rw [memsF] at h
      cases h1 : textB (skipB l) with
      | fail r e => rw [h1] at h; cases h
      | ok s r1 =>
        rw [h1] at h
        simp only at h
        split at h
        · cases h
        · rename_i hns
          cases h2 : oneB [58] (skipB (r1.drop 1)) with
          | fail r e => rw [h2] at h; cases h
          | ok c r2 =>
            rw [h2] at h
            simp only at h
            cases h3 : valF f deep r2 with
            | fail r e => rw [h3] at h; cases h
            | ok v1 r3 =>
              rw [h3] at h
              have l4 := iv _ _ _ _ hd h3
              simp only at h
              have hl' : (ns ++ [s]).length = (is ++ [v1]).length := by simp [hl]
              have hn' : (ns ++ [s]).Nodup := by
                rw [List.nodup_append]
                refine ⟨hn, by simp, fun a ha b hb => ?_⟩
                rw [List.mem_singleton.1 hb]
                intro e
                subst e
                simp [ha] at hns
              have hw' : ∀ u ∈ ns ++ [s], wholeL u = true := by
                intro u hu
                rcases List.mem_append.1 hu with hu | hu
                · exact hw u hu
                · rw [List.mem_singleton.1 hu]; exact text_whole h1
              have ha' : ∀ u ∈ is ++ [v1], Can deep u := by
                intro u hu
                rcases List.mem_append.1 hu with hu | hu
                · exact ha u hu
                · rw [List.mem_singleton.1 hu]; exact l4
              cases h4 : oneB [44, 125] (skipB r3) with
              | fail r e => rw [h4] at h; cases h
              | ok c2 r4 =>
                rw [h4] at h
                simp only at h
                split at h
                · simp only [PR.ok.injEq] at h
                  exact ⟨_, _, h.1.symm, hl', hn', hw', ha'⟩
                · exact im _ _ _ _ _ _ hd hl' hn' hw' ha' h
theorem whole_can {l r : B} {v : J} (h : wholeP l = .ok v r) : Can 0 v := by
  unfold wholeP at h
  cases h1 : valF (fuelB l) 0 l with
  | fail r e => rw [h1] at h; cases h
  | ok v1 r1 =>
    rw [h1] at h
    simp only at h
    cases h2 : skipB r1 with
    | nil =>
      rw [h2] at h
      simp only [PR.ok.injEq] at h
      rw [← h.1]
      exact (parts_can _).1 _ _ _ _ (by omega) h1
    | cons c q => rw [h2] at h; cases h
end Go.Proofs.YthkpbgpgcpkiiaaGreatDoor
