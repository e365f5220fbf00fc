/- JSON: blanks around a text, a print that is cut, lists in lists. Conditions: none. -/
import Derived.Test.YthkpbgpgcpkiiaaGreatDoorJsonJ
namespace Go.Proofs.YthkpbgpgcpkiiaaGreatDoor
set_option linter.unusedVariables false
set_option linter.unusedSimpArgs false
set_option maxRecDepth 100000

theorem skip_blank {a l : B} (h : Blank a) : skipB (a ++ l) = skipB l := skip_nil (blank_skip h)
theorem val_blank {a l : B} (h : Blank a) (f deep : Nat) : valF (f + 1) deep (a ++ l) = valF (f + 1) deep l := by rw [valF, valF, skip_blank h]
/-- More bytes behind a whole text, more blanks ahead of it. -/
theorem whole_more {a l b : B} (ha : Blank a) (hb : Blank b) :
    (∀ v, wholeP l = .ok v [] → wholeP (a ++ l ++ b) = .ok v []) ∧
    (∀ r e, wholeP l = .fail r e → r ≠ [] → wholeP (a ++ l ++ b) = .fail (r ++ b) e) ∧
    (∀ e, wholeP l = .fail [] e → e = 40 ∧ ∃ r', wholeP (a ++ l ++ b) = .fail r' 40 ∧ r'.length ≤ b.length) := by
  have hx := (parts_ext (b := b) (fuelB l)).1 0 l (fuelB (a ++ l ++ b)) (by unfold fuelB; omega) (by unfold fuelB; simp only [List.length_append]; omega)
  obtain ⟨f', hf⟩ : ∃ g, fuelB (a ++ l ++ b) = g + 1 := ⟨2 * (a ++ l ++ b).length + 1, rfl⟩
  rw [hf, ← val_blank ha, ← List.append_assoc, ← hf] at hx
  unfold wholeP
  cases h1 : valF (fuelB l) 0 l with
  | fail r e =>
    simp only
    refine ⟨(fun v h => (by cases h)), (fun r' e' h hr => ?_), (fun e' h => ?_)⟩
    · cases h; rw [hx.far _ _ h1 hr]
    · cases h
      obtain ⟨rfl, h2⟩ := hx.near _ h1
      obtain ⟨r', h3, h4⟩ := h2 hb
      exact ⟨rfl, r', by rw [h3], h4⟩
  | ok v r =>
    simp only
    rw [hx.ok _ _ h1 (.inr (.inr (blank_stop hb)))]
    simp only
    cases h2 : skipB r with
    | nil =>
      rw [skip_nil h2, blank_skip hb]
      exact ⟨(fun v h => h), (fun r' e' h => (by cases h)), (fun e' h => (by cases h))⟩
    | cons c q =>
      rw [skip_app h2]
      simp only
      refine ⟨(fun v h => (by cases h)), (fun r' e' h hr => (by cases h; rfl)), (fun e' h => (by cases h))⟩
theorem parse_fail {s : B} {r : B} {e : Nat} (hl : s.length ≤ 65536) (h : wholeP s = .fail r e) : parseJ s = (J0, s.length - r.length, e) := by
  unfold parseJ; rw [if_neg (by omega), h]
theorem parse_ok {s : B} {v : J} {r : B} (hl : s.length ≤ 65536) (h : wholeP s = .ok v r) : parseJ s = (v, 0, 0) := by
  unfold parseJ; rw [if_neg (by omega), h]
theorem whole_rest {s : B} {v : J} {r : B} (h : wholeP s = .ok v r) : r = [] := by
  unfold wholeP at h
  cases h3 : valF (fuelB s) 0 s with
  | fail r e => rw [h3] at h; cases h
  | ok v r =>
    rw [h3] at h
    simp only at h
    cases h4 : skipB r with
    | nil => rw [h4] at h; simp only [PR.ok.injEq] at h; exact h.2.symm
    | cons c q => rw [h4] at h; cases h
/-- P4.7. -/
theorem blanks_law {a s b : B} (ha : Blank a) (hb : Blank b) (hl : (a ++ s ++ b).length ≤ 65536) {v w : J} {at1 at2 e f : Nat} (h1 : parseJ s = (v, at1, e)) (h2 : parseJ (a ++ s ++ b) = (w, at2, f)) :
    (e = 0 → f = 0 ∧ at2 = 0 ∧ v = w) ∧ (e ≠ 0 → f = e ∧ w = J0 ∧ (at2 = at1 + a.length ∨ (at1 = s.length ∧ at2 > at1 + a.length))) := by
  have hs : s.length ≤ 65536 := by simp only [List.length_append] at hl; omega
  obtain ⟨k1, k2, k3⟩ := whole_more (l := s) ha hb
  cases h3 : wholeP s with
  | ok u r =>
    have := whole_rest h3
    subst this
    rw [parse_ok hs h3] at h1
    rw [parse_ok hl (k1 _ h3)] at h2
    cases h1; cases h2
    exact ⟨fun _ => ⟨rfl, rfl, rfl⟩, fun h => absurd rfl h⟩
  | fail r e' =>
    obtain ⟨hne, hrl⟩ := whole_nz s _ _ h3
    rw [parse_fail hs h3] at h1
    simp only [Prod.mk.injEq] at h1
    obtain ⟨rfl, rfl, rfl⟩ := h1
    refine ⟨fun h => absurd h hne, fun _ => ?_⟩
    by_cases hr : r = []
    · subst hr
      obtain ⟨rfl, r', h4, h5⟩ := k3 _ h3
      rw [parse_fail hl h4] at h2
      simp only [Prod.mk.injEq] at h2
      obtain ⟨rfl, rfl, rfl⟩ := h2
      refine ⟨rfl, rfl, ?_⟩
      simp only [List.length_append, List.length_nil]
      omega
    · rw [parse_fail hl (k2 _ _ h3 hr)] at h2
      simp only [Prod.mk.injEq] at h2
      obtain ⟨rfl, rfl, rfl⟩ := h2
      refine ⟨rfl, rfl, .inl ?_⟩
      simp only [List.length_append]
      omega
theorem parts_kind : ∀ f : Nat, (∀ deep acc l v r, itemsF f deep acc l = .ok v r → v.kind = 4) ∧ (∀ deep ns is l v r, memsF f deep ns is l = .ok v r → v.kind = 5) := by
  intro f
  induction f with
  | zero => exact ⟨(fun _ _ _ _ _ h => (by rw [itemsF] at h; cases h)), (fun _ _ _ _ _ _ h => (by rw [memsF] at h; cases h))⟩
  | succ f ih =>
    obtain ⟨ii, im⟩ := ih
    refine ⟨fun deep acc l v r h => ?_, fun deep ns is l v r h => ?_⟩
    · rw [itemsF] at h
      cases h1 : valF f deep l with
      | fail r e => rw [h1] at h; cases h
      | ok v1 r1 =>
        rw [h1] at h
        simp only at h
        cases h2 : oneB [44, 93] (skipB r1) with
        | fail r e => rw [h2] at h; cases h
        | ok c r2 =>
          rw [h2] at h
          simp only at h
          split at h
          · simp only [PR.ok.injEq] at h; rw [← h.1]; rfl
          · exact ii _ _ _ _ _ h
    · rw [memsF] at h
      cases h1 : textB (skipB l) with
      | fail r e => rw [h1] at h; cases h
      | ok s r1 =>
        rw [h1] at h
        simp only at h
        split at h
        · cases h
        · cases h2 : oneB [58] (skipB (r1.drop 1)) with
          | fail r e => rw [h2] at h; cases h
          | ok c r2 =>
            rw [h2] at h
            simp only at h
            cases h3 : valF f deep r2 with
            | fail r e => rw [h3] at h; cases h
            | ok v1 r3 =>
              rw [h3] at h
              simp only at h
              cases h4 : oneB [44, 125] (skipB r3) with
              | fail r e => rw [h4] at h; cases h
              | ok c2 r4 =>
                rw [h4] at h
                simp only at h
                split at h
                · simp only [PR.ok.injEq] at h; rw [← h.1]; rfl
                · exact im _ _ _ _ _ _ h
/-- How a value that was read begins; its kind by its first byte; how deep it stands says nothing of one that holds no others. -/
theorem val_head {f deep : Nat} {l r : B} {v : J} (h : valF f deep l = .ok v r) : ∃ f' c q, f = f' + 1 ∧ skipB l = c :: q ∧ c ≠ 93 ∧ c ≠ 125 ∧ ((c = 91 ∨ c = 123) → v.kind = 4 ∨ v.kind = 5) ∧ (c = 34 → v.kind = 3) ∧ (v.kind ≠ 4 → v.kind ≠ 5 → ∀ d, valF f d l = .ok v r) := by
  cases f with
  | zero => rw [valF] at h; cases h
  | succ f =>
    have h0' := h
    rw [valF] at h
    cases h0 : skipB l with
    | nil => rw [h0] at h; cases h
    | cons c q =>
      rw [h0] at h
      simp only at h
      refine ⟨f, c, q, rfl, rfl, ?_, ?_, ?_, ?_, ?_⟩
      · rintro rfl
        revert h
        simp [show digB 93 = false from rfl]
      · rintro rfl
        revert h
        simp [show digB 125 = false from rfl]
      · intro hc
        rw [if_pos hc] at h
        split at h
        · cases h
        · split at h
          · cases h2 : skipB q with
            | nil => rw [h2] at h; cases h
            | cons d q2 =>
              rw [h2] at h
              simp only at h
              split at h
              · simp only [PR.ok.injEq] at h; rw [← h.1]; exact .inl rfl
              · exact .inl ((parts_kind f).1 _ _ _ _ _ h)
          · cases h2 : skipB q with
            | nil => rw [h2] at h; cases h
            | cons d q2 =>
              rw [h2] at h
              simp only at h
              split at h
              · simp only [PR.ok.injEq] at h; rw [← h.1]; exact .inr rfl
              · exact .inr ((parts_kind f).2 _ _ _ _ _ _ h)
      · rintro rfl
        rw [if_neg (by decide), if_pos rfl] at h
        cases h2 : textB (34 :: q) with
        | fail r e => rw [h2] at h; cases h
        | ok s r1 => rw [h2] at h; simp only [PR.ok.injEq] at h; rw [← h.1]; rfl
      · intro hk4 hk5 d
        have hc : ¬ (c = 91 ∨ c = 123) := by
          intro hc
          rw [if_pos hc] at h
          split at h
          · cases h
          · split at h
            · cases h2 : skipB q with
              | nil => rw [h2] at h; cases h
              | cons d q2 =>
                rw [h2] at h
                simp only at h
                split at h
                · simp only [PR.ok.injEq] at h; rw [← h.1] at hk4; exact hk4 rfl
                · exact hk4 ((parts_kind f).1 _ _ _ _ _ h)
            · cases h2 : skipB q with
              | nil => rw [h2] at h; cases h
              | cons d q2 =>
                rw [h2] at h
                simp only at h
                split at h
                · simp only [PR.ok.injEq] at h; rw [← h.1] at hk5; exact hk5 rfl
                · exact hk5 ((parts_kind f).2 _ _ _ _ _ _ h)
        rw [valF, h0]
        simp only
        rw [if_neg hc] at h ⊢
        exact h
/-- P4.9: a beginning of a print. -/
theorem text_first {v : J} (hc : Can 0 v) (hk : 3 ≤ v.kind) : ∃ c q, textJ v = c :: q ∧ (c = 34 ∨ c = 91 ∨ c = 123) := by
  cases v with
  | mk k n t ns is =>
    obtain ⟨-, hb, -, -⟩ := check_parts hc.1
    have hk' : 3 ≤ k := hk
    rw [textJ]
    rw [if_neg (by omega), if_neg (by omega), if_neg (by omega)]
    split
    · exact ⟨_, _, rfl, .inl rfl⟩
    · split
      · exact ⟨_, _, rfl, .inr (.inl rfl)⟩
      · exact ⟨_, _, rfl, .inr (.inr rfl)⟩
theorem cut_whole {v : J} (hc : Can 0 v) (hk : 3 ≤ v.kind) {p b : B} (h : textJ v = p ++ b) (hb : b ≠ []) : wholeP p = .fail [] 40 := by
  have hr := reads_all v 0 hc.1 hc.2 (fuelB (p ++ b)) [] (fun c r e => by cases e) (by rw [h]; unfold fuelB; omega)
  rw [List.append_nil, h] at hr
  have hx := (parts_ext (b := b) (fuelB p)).1 0 p (fuelB (p ++ b)) (by unfold fuelB; omega) (by unfold fuelB; simp only [List.length_append]; omega)
  unfold wholeP
  cases h1 : valF (fuelB p) 0 p with
  | fail r e =>
    simp only
    by_cases hr' : r = []
    · subst hr'; rw [(hx.near _ h1).1]
    · have := hx.far _ _ h1 hr'
      rw [hr] at this; cases this
  | ok w r =>
    exfalso
    have hT : NotNum w := by
      obtain ⟨f', c, q, -, h2, -, -, h3, h4, -⟩ := val_head h1
      obtain ⟨c0, q0, h5, h6⟩ := text_first hc hk
      cases p with
      | nil => cases h2
      | cons d p' =>
        rw [h, List.cons_append] at h5
        simp only [List.cons.injEq] at h5
        obtain ⟨rfl, -⟩ := h5
        have hbl : blankB d = false := by rcases h6 with rfl | rfl | rfl <;> rfl
        rw [skip_head hbl] at h2
        simp only [List.cons.injEq] at h2
        obtain ⟨rfl, -⟩ := h2
        unfold NotNum
        rcases h6 with h6 | h6 | h6
        · rw [h4 h6]; decide
        · rcases h3 (.inl h6) with h7 | h7 <;> rw [h7] <;> decide
        · rcases h3 (.inr h6) with h7 | h7 <;> rw [h7] <;> decide
    have := hx.ok _ _ h1 (.inl hT)
    rw [hr] at this
    simp only [PR.ok.injEq] at this
    have h2 := this.2
    have : b = [] := by
      have := congrArg List.length h2
      rw [List.length_append] at this
      exact List.eq_nil_of_length_eq_zero (by simp at this; omega)
    exact hb this
theorem cut_law {v : J} (hw : wfJ v = true) {s : B} (h : printJ v = (s, 0)) (hk : 3 ≤ v.kind) {k : Nat} (hkl : k < s.length) : parseJ (s.take k) = (J0, k, 40) := by
  obtain ⟨h1, rfl, h3⟩ := print_ok h
  have := cut_whole ⟨h1, hw⟩ hk (p := (textJ v).take k) (b := (textJ v).drop k) (List.take_append_drop k _).symm (by
    intro e; have := congrArg List.length e; rw [List.length_drop] at this; simp at this; omega)
  rw [parse_fail (by rw [List.length_take]; omega) this, List.length_take]
  simp only [List.length_nil, Nat.sub_zero]
  rw [Nat.min_eq_left (by omega)]

/-! Lists in lists. -/
def nestJ : Nat → J → J
  | 0, v => v
  | n + 1, v => .mk 4 0 [] [] [nestJ n v]
def nestB : Nat → B → B
  | 0, s => s
  | n + 1, s => 91 :: (nestB n s ++ [93])
def restB : Nat → B → B
  | 0, r => r
  | _ + 1, _ => []
theorem nestB_len : ∀ (n : Nat) (s : B), (nestB n s).length = s.length + 2 * n
  | 0, s => rfl
  | n + 1, s => by simp [nestB, nestB_len n s]; omega
theorem skip_skip (l : B) : skipB (skipB l) = skipB l := by
  cases h : skipB l with
  | nil => rfl
  | cons c q =>
    have hb : blankB c = false := by
      cases hb : blankB c with
      | false => rfl
      | true =>
        exfalso
        unfold skipB at h
        have : ∀ l : B, l.dropWhile blankB = c :: q → blankB c = false := by
          intro l
          induction l with
          | nil => intro h; cases h
          | cons d l ih =>
            rw [List.dropWhile_cons]
            split
            · exact ih
            · rename_i hd; intro h; cases h; simpa using hd
        rw [this l h] at hb; cases hb
    exact skip_head hb
theorem val_skip (f deep : Nat) (l : B) : valF f deep (skipB l) = valF f deep l ∨ f = 0 := by
  cases f with
  | zero => exact .inr rfl
  | succ f => left; rw [valF, valF, skip_skip]
theorem nest_reads {s r0 : B} {u : J} (h0 : ∀ f deep, 2 * s.length + 1 ≤ f → valF f deep s = .ok u r0) (hr : Blank r0) : ∀ (n deep f : Nat) (b : B), deep + n ≤ 16 → Stop b → 2 * (nestB n s ++ b).length + 1 ≤ f →
    valF f deep (nestB n s ++ b) = .ok (nestJ n u) (restB n r0 ++ b)
  | 0, deep, f, b, _, hb, hf => by
    have hx := (parts_ext (b := b) (2 * s.length + 1)).1 deep s f (Nat.le_refl _) (by simp only [nestB, List.length_append] at hf; omega)
    exact hx.ok _ _ (h0 _ _ (Nat.le_refl _)) (.inr (.inr hb))
  | n + 1, deep, 0, b, _, _, hf => by omega
  | n + 1, deep, f + 1, b, hn, hb, hf => by
    have ih := nest_reads h0 hr n (deep + 1) (f - 1) (93 :: b) (by omega) (stop_cons (by decide)) (by simp [nestB] at hf ⊢; omega)
    obtain ⟨f1, rfl⟩ : ∃ g, f = g + 1 := ⟨f - 1, by simp [nestB] at hf; omega⟩
    simp only [Nat.add_sub_cancel] at ih
    obtain ⟨f', c, q, hf', h1, h2, -, -, -, -⟩ := val_head ih
    have e : nestB (n + 1) s ++ b = 91 :: (nestB n s ++ 93 :: b) := by simp [nestB]
    rw [e, valF, skip_head (by decide)]
    simp only
    rw [if_pos (.inl trivial), if_neg (by omega), if_pos trivial, h1]
    simp only
    rw [if_neg h2, ← h1, itemsF]
    rcases val_skip f1 (deep + 1) (nestB n s ++ 93 :: b) with h3 | h3
    · rw [h3, ih]
      simp only
      have hrb : Blank (restB n r0) := by cases n with
        | zero => exact hr
        | succ n => exact fun c h => by cases h
      rw [skip_blank hrb, skip_head (by decide), show oneB [44, 93] (93 :: b) = .ok 93 b from rfl]
      rfl
    · omega
theorem nest_deep {s : B} : ∀ (n deep f : Nat) (b : B), deep ≤ 16 → 16 < deep + n → 2 * (nestB n s ++ b).length + 1 ≤ f →
    ∃ r, valF f deep (nestB n s ++ b) = .fail r 41 ∧ r.length + (16 - deep) = (nestB n s ++ b).length
  | 0, deep, f, b, h1, h2, hf => by omega
  | n + 1, deep, 0, b, _, _, hf => by omega
  | n + 1, deep, f + 1, b, h1, h2, hf => by
    have e : nestB (n + 1) s ++ b = 91 :: (nestB n s ++ 93 :: b) := by simp [nestB]
    by_cases hd : 16 ≤ deep
    · refine ⟨91 :: (nestB n s ++ 93 :: b), ?_, by rw [e]; omega⟩
      rw [e, valF, skip_head (by decide)]
      simp only
      rw [if_pos (.inl trivial), if_pos hd]
    · obtain ⟨f1, rfl⟩ : ∃ g, f = g + 1 := ⟨f - 1, by simp [nestB] at hf; omega⟩
      obtain ⟨r, ih, hl⟩ := nest_deep (s := s) n (deep + 1) f1 (93 :: b) (by omega) (by omega) (by simp [nestB] at hf ⊢; omega)
      obtain ⟨m, rfl⟩ : ∃ m, n = m + 1 := ⟨n - 1, by omega⟩
      have e2 : nestB (m + 1) s ++ 93 :: b = 91 :: (nestB m s ++ [93] ++ 93 :: b) := by simp [nestB]
      refine ⟨r, ?_, by rw [e]; simp at hl ⊢; omega⟩
      rw [e, valF, skip_head (by decide)]
      simp only
      rw [if_pos (.inl trivial), if_neg hd, if_pos trivial, e2, skip_head (by decide)]
      simp only
      rw [if_neg (by decide), itemsF, ← e2, ih]
theorem nest_check {u : J} (hk : u.kind ≠ 4 ∧ u.kind ≠ 5) (h : Can 0 u) : ∀ (n deep : Nat), deep ≤ 16 → (deep + n ≤ 16 → checkJ deep (nestJ n u) = 0) ∧ (16 < deep + n → checkJ deep (nestJ n u) = 41)
  | 0, deep, hd => by
    refine ⟨fun _ => ?_, fun h => by omega⟩
    cases u with
    | mk k n t ns is =>
      obtain ⟨h1, h2, h3, h4⟩ := check_parts h.1
      have hk4 : k ≠ 4 := hk.1
      have hk5 : k ≠ 5 := hk.2
      have e : ∀ d, deeper k d = d := fun d => by unfold deeper; rw [if_neg]; intro h; exact h.elim hk4 hk5
      have hi : is = [] := by
        rcases blank_kinds h2 with ⟨_, _, _, _, h⟩ | ⟨_, _, _, _, h⟩ | ⟨_, _, _, h⟩ | ⟨_, _, _, h, _⟩ | ⟨h, _⟩ | ⟨h, _⟩
        · exact h
        · exact h
        · exact h
        · exact h
        · exact absurd h hk4
        · exact absurd h hk5
      subst hi
      show checkJ deep (.mk k n t ns []) = 0
      rw [checkJ, e, if_neg (by omega), h2, twice_nodup.2 h3]
      simp [checksJ]
  | n + 1, deep, hd => by
    have e : deeper 4 deep = deep + 1 := by unfold deeper; rw [if_pos (.inl rfl)]
    have hb : blankJ (.mk 4 0 [] [] [nestJ n u]) = true := rfl
    constructor
    · intro h'
      have ih := (nest_check hk h n (deep + 1) (by omega)).1 (by omega)
      show checkJ deep (.mk 4 0 [] [] [nestJ n u]) = 0
      rw [checkJ, e, if_neg (by omega), hb]
      simp [twiceL, checksJ, ih]
    · intro h'
      show checkJ deep (.mk 4 0 [] [] [nestJ n u]) = 41
      by_cases hd' : deep = 16
      · subst hd'
        rw [checkJ, e, if_pos (by decide)]
      · have ih := (nest_check hk h n (deep + 1) (by omega)).2 (by omega)
        rw [checkJ, e, if_neg (by omega), hb]
        simp [twiceL, checksJ, ih]
theorem deep_law {s : B} {u : J} {at1 : Nat} (h : parseJ s = (u, at1, 0)) (hs : s.length ≤ 1000) (hk : u.kind < 4) {n : Nat} (hn : n < 40) :
    (16 < n → parseJ (nestB n s) = (J0, 16, 41) ∧ checkJ 0 (nestJ n u) = 41) ∧ (n ≤ 16 → parseJ (nestB n s) = (nestJ n u, 0, 0) ∧ checkJ 0 (nestJ n u) = 0) := by
  obtain ⟨hc, -, h1, -⟩ := parse_can h
  have hk' : u.kind ≠ 4 ∧ u.kind ≠ 5 := by omega
  have hlen := nestB_len n s
  have hck := nest_check hk' hc n 0 (by omega)
  constructor
  · intro h16
    refine ⟨?_, hck.2 (by omega)⟩
    obtain ⟨r, h2, h3⟩ := nest_deep (s := s) n 0 (fuelB (nestB n s)) [] (by omega) (by omega) (by unfold fuelB; simp)
    rw [List.append_nil] at h2 h3
    rw [parse_fail (s := nestB n s) (r := r) (e := 41) (by omega) (by unfold wholeP; rw [h2])]
    congr 2
    omega
  · intro h16
    refine ⟨?_, hck.1 (by omega)⟩
    unfold wholeP at h1
    cases h2 : valF (fuelB s) 0 s with
    | fail r e => rw [h2] at h1; cases h1
    | ok v r =>
      rw [h2] at h1
      simp only at h1
      cases h3 : skipB r with
      | cons c q => rw [h3] at h1; cases h1
      | nil =>
        rw [h3] at h1
        simp only [PR.ok.injEq] at h1
        obtain ⟨rfl, -⟩ := h1
        have hbl : Blank r := by
          unfold skipB at h3
          clear h2
          induction r with
          | nil => exact fun c h => by cases h
          | cons d r ih =>
            rw [List.dropWhile_cons] at h3
            split at h3
            · rename_i hd
              intro c hc
              rcases List.mem_cons.1 hc with rfl | hc
              · exact hd
              · exact ih h3 c hc
            · cases h3
        have h0 : ∀ f deep, 2 * s.length + 1 ≤ f → valF f deep s = .ok v r := by
          intro f deep hf
          obtain ⟨f', c, q, _, _, _, _, _, _, h5⟩ := val_head h2
          rw [val_fuel hf (f' := fuelB s) (by unfold fuelB; omega)]
          exact h5 hk'.1 hk'.2 deep
        have := nest_reads h0 hbl n 0 (fuelB (nestB n s)) [] (by omega) (fun c r e => by cases e) (by unfold fuelB; simp)
        rw [List.append_nil, List.append_nil] at this
        refine parse_ok (r := []) (by omega) ?_
        unfold wholeP
        rw [this]
        simp only
        have hrb : Blank (restB n r) := by cases n with
          | zero => exact hbl
          | succ n => exact fun c h => by cases h
        rw [blank_skip hrb]
end Go.Proofs.YthkpbgpgcpkiiaaGreatDoor
