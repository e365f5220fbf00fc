/- JSON: which values can be, how they are printed, as plain functions. Conditions: none. JSON: what the parser's parts leave is shorter; enough fuel is enough. Conditions: none. JSON: what more bytes behind a text do to the parser. Conditions: none. -/
import Derived.Test.YtigdjnfnkjfkmaaGreatDoorJsonA
import Derived.Lib.ItoaNum
namespace Go.Proofs.YtigdjnfnkjfkmaaGreatDoor
set_option linter.unusedVariables false
set_option linter.unusedSimpArgs false
set_option maxRecDepth 100000

/-- Have all fields but those of a kind their zero value? -/
def blankJ : J → Bool
  | .mk k n t ns is =>
    if k = 0 then n == 0 && t.isEmpty && ns.isEmpty && is.isEmpty
    else if k = 1 then (n == 0 || n == 1) && t.isEmpty && ns.isEmpty && is.isEmpty
    else if k = 2 then t.isEmpty && ns.isEmpty && is.isEmpty
    else if k = 3 then n == 0 && ns.isEmpty && is.isEmpty && wholeL t
    else if k = 4 then n == 0 && t.isEmpty && ns.isEmpty
    else if k = 5 then n == 0 && t.isEmpty && ns.length == is.length && wholeL ns.flatten && ns.all wholeL
    else false
/-- Does a name stand twice? -/
def twiceL : List B → Bool
  | [] => false
  | s :: l => l.contains s || twiceL l
def deeper (k : Int) (deep : Nat) : Nat := if k = 4 ∨ k = 5 then deep + 1 else deep
mutual
/-- The first error of a value that stands in so many others. -/
def checkJ (deep : Nat) : J → Nat
  | .mk k n t ns is =>
    if 16 < deeper k deep then 41
    else if blankJ (.mk k n t ns is) = false then 1
    else if twiceL ns then 43
    else checksJ (deeper k deep) is
def checksJ (deep : Nat) : List J → Nat
  | [] => 0
  | v :: l => if checkJ deep v = 0 then checksJ deep l else checkJ deep v
end

/-- Texts as JSON. -/
def hexc (n : Nat) : UInt8 := [48, 49, 50, 51, 52, 53, 54, 55, 56, 57, 97, 98, 99, 100, 101, 102].getD n 0
def quoteC (c : UInt8) : B := if c = 34 ∨ c = 92 then [92, c] else if c < 32 then [92, 117, 48, 48, hexc (c.toNat / 16), hexc (c.toNat % 16)] else [c]
def quoteB (s : B) : B := 34 :: (s.flatMap quoteC ++ [34])
/-- Texts by their bytes. -/
def ltB : B → B → Bool
  | [], [] => false
  | [], _ :: _ => true
  | _ :: _, [] => false
  | a :: x, b :: y => if a < b then true else if b < a then false else ltB x y
def insP {α : Type} (p : B × α) : List (B × α) → List (B × α)
  | [] => [p]
  | q :: l => if ltB p.1 q.1 then p :: q :: l else q :: insP p l
/-- Pairs by rising names. -/
def sortP {α : Type} (l : List (B × α)) : List (B × α) := l.foldr insP []
def joinB : List B → B
  | [] => []
  | [x] => x
  | x :: y :: l => x ++ 44 :: joinB (y :: l)
def memB (p : B × B) : B := quoteB p.1 ++ 58 :: p.2
mutual
/-- The print of a value that can be. -/
def textJ : J → B
  | .mk k n t ns is =>
    if k = 0 then [110, 117, 108, 108]
    else if k = 1 then (if n = 1 then [116, 114, 117, 101] else [102, 97, 108, 115, 101])
    else if k = 2 then Lib.itoa n
    else if k = 3 then quoteB t
    else if k = 4 then 91 :: (joinB (textsJ is) ++ [93])
    else 123 :: (joinB ((sortP (ns.zip (textsJ is))).map memB) ++ [125])
def textsJ : List J → List B
  | [] => []
  | v :: l => textJ v :: textsJ l
end
/-- What Print tells. -/
def printJ (v : J) : B × Nat := if checkJ 0 v ≠ 0 then ([], checkJ 0 v) else if 65536 < (textJ v).length then ([], 4) else (textJ v, 0)
def sameJ (a b : J) : Bool := checkJ 0 a == 0 && checkJ 0 b == 0 && textJ a == textJ b
mutual
/-- The value with its members by rising names. -/
def canonJ : J → J
  | .mk k n t ns is => if k = 5 then .mk k n t ((sortP (ns.zip (canonsJ is))).map (·.1)) ((sortP (ns.zip (canonsJ is))).map (·.2)) else .mk k n t ns (canonsJ is)
def canonsJ : List J → List J
  | [] => []
  | v :: l => canonJ v :: canonsJ l
end
end Go.Proofs.YtigdjnfnkjfkmaaGreatDoor
namespace Go.Proofs.YtigdjnfnkjfkmaaGreatDoor
set_option linter.unusedVariables false
set_option linter.unusedSimpArgs false
set_option maxRecDepth 100000

theorem one_ok {of l r : B} {c : UInt8} (h : oneB of l = .ok c r) : l = c :: r ∧ of.contains c = true := by
  cases l with
  | nil => cases h
  | cons d l =>
    simp only [oneB] at h
    split at h
    · rename_i hc; cases h; exact ⟨rfl, hc⟩
    · cases h
theorem one_fail {of l r : B} {e : Nat} (h : oneB of l = .fail r e) : r = l ∧ e = 40 := by
  cases l with
  | nil => cases h; exact ⟨rfl, rfl⟩
  | cons d l =>
    simp only [oneB] at h
    split at h
    · cases h
    · cases h; exact ⟨rfl, rfl⟩
theorem skip_le (l : B) : (skipB l).length ≤ l.length := (List.dropWhile_sublist _).length_le
theorem word_ok : ∀ {w l r : B} {u : Unit}, wordB w l = .ok u r → l = w ++ r
  | [], l, r, u, h => by cases h; rfl
  | c :: w, l, r, u, h => by
    rw [wordB] at h
    cases h1 : oneB [c] l with
    | fail r e => rw [h1] at h; cases h
    | ok d r1 =>
      rw [h1] at h
      obtain ⟨rfl, hc⟩ := one_ok h1
      have : d = c := by simpa using hc
      subst this
      rw [word_ok h]; rfl
theorem num_ok (neg z : Bool) : ∀ {l r : B} {n m : Int}, numB neg z n l = .ok m r → r.length < l.length
  | [], r, n, m, h => by cases h
  | c :: l, r, n, m, h => by
    rw [numB.eq_def] at h
    simp only at h
    split at h
    · cases h
    · cases l with
      | nil => cases h; simp
      | cons d l =>
        simp only at h
        split at h
        · have := num_ok neg z h
          simp only [List.length_cons] at this ⊢; omega
        · split at h
          · cases h
          · cases h; simp
theorem number_ok {l r : B} {n : Int} (h : numberB l = .ok n r) : r.length < l.length := by
  cases l with
  | nil => cases h
  | cons m l =>
    simp only [numberB] at h
    split at h
    · cases h1 : oneB digitsL l with
      | fail r e => rw [h1] at h; cases h
      | ok c r1 =>
        rw [h1] at h
        have := num_ok _ _ h
        simp; omega
    · cases h1 : oneB digitsL (m :: l) with
      | fail r e => rw [h1] at h; cases h
      | ok c r1 =>
        rw [h1] at h
        exact num_ok _ _ h
theorem hexGo_ok (two : B) : ∀ {m n k : Nat} {l r : B}, hexGo two m n l = .ok k r → r.length + m = l.length
  | 0, n, k, l, r, h => by cases h; rfl
  | m + 1, n, k, l, r, h => by
    rw [hexGo] at h
    generalize (if m = 2 ∧ n = 13 then two else hexDL) = of at h
    cases h1 : oneB of l with
    | fail r e => rw [h1] at h; cases h
    | ok c r1 =>
      rw [h1] at h
      have := hexGo_ok two h
      rw [(one_ok h1).1, List.length_cons]; omega
theorem esc_ok {l r b : B} (h : escB l = .ok b r) : r.length < l.length := by
  unfold escB at h
  cases h1 : oneB escL l with
  | fail r e => rw [h1] at h; cases h
  | ok c r1 =>
    rw [h1] at h
    have hl := (one_ok h1).1
    subst hl
    simp only at h
    cases h2 : ctlB c with
    | some d => rw [h2] at h; cases h; simp
    | none =>
      rw [h2] at h
      simp only at h
      split at h
      · cases h; simp
      · cases h3 : hexB loTwo r1 with
        | fail r e => rw [h3] at h; cases h
        | ok n r2 =>
          rw [h3] at h
          have l3 := hexGo_ok _ h3
          simp only at h
          split at h
          · cases h4 : wordB [92, 117] r2 with
            | fail r e => rw [h4] at h; cases h
            | ok u r3 =>
              rw [h4] at h
              have l4 := word_ok h4
              subst l4
              simp only at h
              cases r3 with
              | nil => cases h
              | cons d r3 =>
                simp only at h
                split at h
                · cases h
                · cases h5 : hexB hiTwo (d :: r3) with
                  | fail r e => rw [h5] at h; cases h
                  | ok m r4 =>
                    rw [h5] at h
                    have l5 := hexGo_ok _ h5
                    simp only [PR.ok.injEq] at h
                    obtain ⟨_, rfl⟩ := h
                    simp at l3 l5 ⊢; omega
          · cases h
            simp; omega
theorem charF_ok : ∀ {f k : Nat} {l r b : B}, charF f k l = .ok b r → k < l.length → r.length + k < l.length ∧ l = b ++ r
  | 0, k, l, r, b, h, hk => by cases h
  | f + 1, k, l, r, b, h, hk => by
    rw [charF] at h
    split at h
    · cases h
      exact ⟨by rw [List.length_drop]; omega, (List.take_append_drop _ _).symm⟩
    · split at h
      · cases h
      · split at h
        · cases h
        · have := charF_ok h (by omega)
          exact ⟨by omega, this.2⟩
theorem char_ok {l r b : B} (hl : l ≠ []) (h : charB l = .ok b r) : r.length < l.length ∧ l = b ++ r := by
  have := charF_ok h (List.length_pos_iff.2 hl)
  exact ⟨by omega, this.2⟩
theorem textF_ok : ∀ {f : Nat} {acc l r b : B}, textF f acc l = .ok b r → r.length ≤ l.length ∧ ∃ r', r = 34 :: r'
  | 0, acc, l, r, b, h => by cases h
  | f + 1, acc, l, r, b, h => by
    rw [textF.eq_def] at h
    simp only at h
    cases l with
    | nil => cases h
    | cons c l =>
      simp only at h
      split at h
      · rename_i hc; cases h; exact ⟨Nat.le_refl _, l, by rw [hc]⟩
      · split at h
        · cases h
        · split at h
          · cases h1 : escB l with
            | fail r e => rw [h1] at h; cases h
            | ok b1 r1 =>
              rw [h1] at h
              have l1 := esc_ok h1
              obtain ⟨h2, h3⟩ := textF_ok h
              exact ⟨by simp; omega, h3⟩
          · cases h1 : charB (c :: l) with
            | fail r e => rw [h1] at h; cases h
            | ok b1 r1 =>
              rw [h1] at h
              have l1 := (char_ok (by simp) h1).1
              obtain ⟨h2, h3⟩ := textF_ok h
              exact ⟨by simp at l1 ⊢; omega, h3⟩
theorem text_ok {l r b : B} (h : textB l = .ok b r) : r.length < l.length ∧ ∃ r', r = 34 :: r' := by
  unfold textB at h
  cases h1 : oneB [34] l with
  | fail r e => rw [h1] at h; cases h
  | ok c r1 =>
    rw [h1] at h
    obtain ⟨rfl, _⟩ := one_ok h1
    obtain ⟨h2, h3⟩ := textF_ok h
    exact ⟨by simp; omega, h3⟩
theorem map_ok {α β : Type} {g : α → β} {x : PR α} {v : β} {r : B} (h : mapPR g x = .ok v r) : ∃ a, x = .ok a r ∧ v = g a := by
  cases x with
  | ok a r' => cases h; exact ⟨a, rfl, rfl⟩
  | fail r' e => cases h
theorem parts_ok : ∀ f : Nat, (∀ deep l v r, valF f deep l = .ok v r → r.length < l.length) ∧ (∀ deep acc l v r, itemsF f deep acc l = .ok v r → r.length < l.length) ∧ (∀ deep ns is l v r, memsF f deep ns is l = .ok v r → r.length < l.length) := by
  intro f
  induction f with
  | zero => exact ⟨(fun _ _ _ _ h => (by rw [valF] at h; cases h)), (fun _ _ _ _ _ h => (by rw [itemsF] at h; cases h)), (fun _ _ _ _ _ _ h => (by rw [memsF] at h; cases h))⟩
  | succ f ih =>
    obtain ⟨iv, ii, im⟩ := ih
    refine ⟨fun deep l v r h => ?_, fun deep acc l v r h => ?_, fun deep ns is l v r h => ?_⟩
    · rw [valF] at h
      have hs := skip_le l
      cases h0 : skipB l with
      | nil => rw [h0] at h; cases h
      | cons c l1 =>
        rw [h0] at h hs
        simp only [List.length_cons] at hs
        simp only at h
        split at h
        · split at h
          · cases h
          · have hs1 := skip_le l1
            split at h
            · cases h2 : skipB l1 with
              | nil => rw [h2] at h; cases h
              | cons d l2 =>
                rw [h2] at h hs1
                simp only [List.length_cons] at hs1
                simp only at h
                split at h
                · cases h; omega
                · have := ii _ _ _ _ _ h
                  simp only [List.length_cons] at this; omega
            · cases h2 : skipB l1 with
              | nil => rw [h2] at h; cases h
              | cons d l2 =>
                rw [h2] at h hs1
                simp only [List.length_cons] at hs1
                simp only at h
                split at h
                · cases h; omega
                · have := im _ _ _ _ _ _ h
                  simp only [List.length_cons] at this; omega
        · split at h
          · cases h2 : textB (c :: l1) with
            | fail r e => rw [h2] at h; cases h
            | ok s r1 =>
              rw [h2] at h
              have := (text_ok h2).1
              cases h
              rw [List.length_drop]
              simp only [List.length_cons] at this; omega
          · split at h
            · obtain ⟨_, h2, _⟩ := map_ok h
              have := congrArg List.length (word_ok h2)
              simp at this; omega
            · split at h
              · obtain ⟨_, h2, _⟩ := map_ok h
                have := congrArg List.length (word_ok h2)
                simp at this; omega
              · split at h
                · obtain ⟨_, h2, _⟩ := map_ok h
                  have := congrArg List.length (word_ok h2)
                  simp at this; omega
                · split at h
                  · obtain ⟨_, h2, _⟩ := map_ok h
                    have := number_ok h2
                    simp only [List.length_cons] at this; omega
                  · cases h
    · rw [itemsF] at h
      cases h1 : valF f deep l with
      | fail r e => rw [h1] at h; cases h
      | ok v1 r1 =>
        rw [h1] at h
        have l1 := iv _ _ _ _ h1
        have l2 := skip_le r1
        simp only at h
        cases h2 : oneB [44, 93] (skipB r1) with
        | fail r e => rw [h2] at h; cases h
        | ok c r2 =>
          rw [h2] at h
          have l3 := congrArg List.length (one_ok h2).1
          simp only [List.length_cons] at l3
          simp only at h
          split at h
          · cases h; omega
          · have := ii _ _ _ _ _ h
            omega
    · rw [memsF] at h
      have l0 := skip_le l
      cases h1 : textB (skipB l) with
      | fail r e => rw [h1] at h; cases h
      | ok s r1 =>
        rw [h1] at h
        have l1 := (text_ok h1).1
        simp only at h
        split at h
        · cases h
        · have l2 := skip_le (r1.drop 1)
          rw [List.length_drop] at l2
          cases h2 : oneB [58] (skipB (r1.drop 1)) with
          | fail r e => rw [h2] at h; cases h
          | ok c r2 =>
            rw [h2] at h
            have l3 := congrArg List.length (one_ok h2).1
            simp only [List.length_cons] at l3
            simp only at h
            cases h3 : valF f deep r2 with
            | fail r e => rw [h3] at h; cases h
            | ok v1 r3 =>
              rw [h3] at h
              have l4 := iv _ _ _ _ h3
              have l5 := skip_le r3
              simp only at h
              cases h4 : oneB [44, 125] (skipB r3) with
              | fail r e => rw [h4] at h; cases h
              | ok c2 r4 =>
                rw [h4] at h
                have l6 := congrArg List.length (one_ok h4).1
                simp only [List.length_cons] at l6
                simp only at h
                split at h
                · cases h; omega
                · have := im _ _ _ _ _ _ h
                  omega
theorem val_ok {f deep : Nat} {l r : B} {v : J} (h : valF f deep l = .ok v r) : r.length < l.length := (parts_ok f).1 _ _ _ _ h
end Go.Proofs.YtigdjnfnkjfkmaaGreatDoor
namespace Go.Proofs.YtigdjnfnkjfkmaaGreatDoor
set_option linter.unusedVariables false
set_option linter.unusedSimpArgs false
set_option maxRecDepth 100000

/-- No byte that goes on with a number. -/
def Stop (b : B) : Prop := ∀ c r, b = c :: r → digB c = false ∧ c ≠ 46 ∧ c ≠ 101 ∧ c ≠ 69
def Blank (b : B) : Prop := ∀ c ∈ b, blankB c = true
/-- What stands behind the text does this. T: what was read may be followed by anything. -/
structure Ext {α : Type} (b : B) (T : α → Prop) (x y : PR α) : Prop where
  ok : ∀ v r, x = .ok v r → T v ∨ r ≠ [] ∨ Stop b → y = .ok v (r ++ b)
  far : ∀ r e, x = .fail r e → r ≠ [] → y = .fail (r ++ b) e
  near : ∀ e, x = .fail [] e → e = 40 ∧ (Blank b → ∃ r', y = .fail r' 40 ∧ r'.length ≤ b.length)
theorem ext_far {α : Type} {b : B} {T : α → Prop} {r : B} {e : Nat} (hr : r ≠ []) : Ext b T (.fail r e : PR α) (.fail (r ++ b) e) := ⟨(fun _ _ h => (by cases h)), (fun _ _ h _ => (by cases h; rfl)), (fun _ h => (by cases h; exact absurd rfl hr))⟩
theorem ext_near {α : Type} {b : B} {T : α → Prop} {y : PR α} (h : Blank b → ∃ r', y = .fail r' 40 ∧ r'.length ≤ b.length) : Ext b T (.fail [] 40 : PR α) y := ⟨(fun _ _ h => (by cases h)), (fun _ _ h hr => (by cases h; exact absurd rfl hr)), (fun _ h' => (by cases h'; exact ⟨rfl, h⟩))⟩
/-- A part that failed: so did the whole. -/
theorem Ext.fails {α β : Type} {b : B} {T : α → Prop} {T' : β → Prop} {r : B} {e : Nat} {x y : PR α} {z : PR β} (h : Ext b T x y) (hx : x = .fail r e) (hz : ∀ r e, y = .fail r e → z = .fail r e) : Ext b T' (.fail r e : PR β) z := by
  cases r with
  | nil =>
    obtain ⟨he, hn⟩ := h.near e hx
    subst he
    exact ext_near fun hb => by obtain ⟨r', h3, h4⟩ := hn hb; exact ⟨r', hz _ _ h3, h4⟩
  | cons d r => rw [hz _ _ (h.far _ _ hx (by simp))]; exact ext_far (by simp)
theorem Ext.map {α β : Type} {b : B} {T : α → Prop} {T' : β → Prop} {x y : PR α} (h : Ext b T x y) (g : α → β) (ht : ∀ a, T' (g a) → T a) : Ext b T' (mapPR g x) (mapPR g y) := by
  cases x with
  | ok a r =>
    refine ⟨(fun v r' hv hc => ?_), (fun _ _ h => (by cases h)), (fun _ h => (by cases h))⟩
    cases hv
    rw [h.ok _ _ rfl (hc.imp (ht a) id)]; rfl
  | fail r e => exact h.fails rfl fun r e hy => by rw [hy]; rfl
theorem tail_len : ∀ {n : Nat} {lo hi : UInt8} {l : B}, tailB n lo hi l = true → n ≤ l.length
  | 0, lo, hi, l, _ => Nat.zero_le _
  | n + 1, lo, hi, [], h => by rw [tailB] at h; cases h
  | n + 1, lo, hi, d :: l, h => by
    rw [tailB] at h
    simp only [Bool.and_eq_true] at h
    have := tail_len h.2
    simp; omega
theorem longB_lo (c : UInt8) : (longB c).1 = 0 ∨ (0x80 ≤ (longB c).2.1 ∧ (longB c).1 ≤ 4 ∧ 1 ≤ (longB c).1) := by
  unfold longB
  split
  · right; decide
  split
  · right; decide
  split
  · right; decide
  split
  · right; decide
  split
  · right; decide
  split
  · right; decide
  split
  · right; decide
  split
  · right; decide
  · left; rfl
theorem wholeF_mono : ∀ {n m : Nat} {l : B}, l.length ≤ n → l.length ≤ m → wholeF n l = wholeF m l
  | 0, m, l, h, _ => by
    have hl : l = [] := List.eq_nil_of_length_eq_zero (by omega)
    subst hl
    cases m with
    | zero => rfl
    | succ m => rw [wholeF, wholeF]; rfl
  | n + 1, 0, l, _, h => by
    have hl : l = [] := List.eq_nil_of_length_eq_zero (by omega)
    subst hl
    rw [wholeF, wholeF]; rfl
  | n + 1, m + 1, l, h1, h2 => by
    rw [wholeF, wholeF]
    split
    · rfl
    · split
      · rfl
      · have : (l.drop (firstB l)).length ≤ l.length - 1 := by rw [List.length_drop]; omega
        exact wholeF_mono (by omega) (by omega)
theorem whole_step {l : B} (hl : l ≠ []) : wholeL l = if firstB l = 0 then false else wholeL (l.drop (firstB l)) := by
  unfold wholeL
  cases l with
  | nil => exact absurd rfl hl
  | cons c r =>
    rw [List.length_cons, wholeF, if_neg (by simp)]
    split
    · rfl
    · refine wholeF_mono ?_ (Nat.le_refl _)
      rw [List.length_drop, List.length_cons]; omega
end Go.Proofs.YtigdjnfnkjfkmaaGreatDoor
