/- Plain laws of a parser: a run goes on where it stopped; the requests of bytes. Conditions: none. The plain law of chunks: a body in chunks is the body that comes at once. Conditions: the body is no longer than 32768 bytes. The plain law of letters: names of headers in other letters change nothing. Conditions: none. The law HttpdCase (blotterlaw08): names of headers in other letters. Conditions: none. Bytes cut at places (blotterlaw08's pieces). Conditions: the bytes are few. The plain law of answers: what is read, and that what is written is read as it was. Conditions: none. -/
import Derived.Test.YtgdelmkgdfhdpaaGreatDoorLaw
import Derived.Test.YtgdelmkgdfhdpaaGreatDoorMachL
import Derived.Test.YtgdelmkgdfhdpaaGreatDoorWriteH
namespace Go.Proofs.YtgdelmkgdfhdpaaGreatDoor
open Go.RowKit
set_option linter.unusedVariables false
set_option linter.unusedSimpArgs false
set_option maxRecDepth 100000

/-- A run goes on where it stopped. -/
theorem run_app : ∀ (l : B) (x : Mc) (r : B), (runM x l).2.1 = 1 → (runM x l).1 = l.length ∧ runM x (l ++ r) = ((runM (runM x l).2.2 r).1 + l.length, (runM (runM x l).2.2 r).2) := by
  intro l
  induction l with
  | nil => intro x r h; exact ⟨rfl, rfl⟩
  | cons c l ih =>
    intro x r h
    by_cases h1 : stepSt x c = 1
    · have e : ∀ r : B, runM x (c :: r) = ((runM (stepX x c) r).1 + 1, (runM (stepX x c) r).2) := fun r => by rw [runM, if_pos h1]
      rw [e] at h ⊢
      obtain ⟨g1, g2⟩ := ih (stepX x c) r h
      refine ⟨by simp only [List.length_cons]; omega, ?_⟩
      rw [List.cons_append, e, g2]; rfl
    · have e : ∀ r : B, runM x (c :: r) = (1, stepSt x c, stepX x c) := fun r => by rw [runM, if_neg h1]
      rw [e] at h; exact absurd h h1
/-- The machine behind some bytes of those that wait. -/
theorem next_law {m : Mc} {wait : B} {taken : Nat} (ht : taken ≤ wait.length) (h : (runM mc0 (wait.take taken)).2 = (1, m)) :
    runM mc0 wait = ((runM m (wait.drop taken)).1 + taken, (runM m (wait.drop taken)).2) := by
  obtain ⟨_, h2⟩ := run_app (wait.take taken) mc0 (wait.drop taken) (by rw [h])
  rw [List.take_append_drop, h, List.length_take, Nat.min_eq_left ht] at h2
  exact h2
/-- What refuses bytes refuses them with more behind. -/
theorem refuse_law (l r : B) (h : (progParse l).2.2 ≠ 1) : progParse (l ++ r) = progParse l := by
  have hs : (runM mc0 l).2.1 ≠ 1 := by
    intro h0
    unfold progParse finP at h; rw [if_pos (by rw [h0]; decide)] at h; exact h h0
  obtain ⟨⟨g0, g1⟩, g2, g3⟩ := run_cut l mc0 hs
  have := g2 (l.drop (runM mc0 l).1 ++ r)
  rw [← List.append_assoc, List.take_append_drop] at this
  unfold progParse; rw [this]
/-- The requests of bytes, the status behind them, what is left. -/
def seqL (l : B) : List Req × Nat × B :=
  if h : (progParse l).2.2 = 0 then ((progParse l).1 :: (seqL (l.drop (progParse l).2.1)).1, (seqL (l.drop (progParse l).2.1)).2) else ([], (progParse l).2.2, l)
termination_by l.length
decreasing_by all_goals (have := (cut_law l h).1; rw [List.length_drop]; omega)
theorem seq_ne : ∀ (n : Nat) (l : B), l.length = n → (seqL l).2.1 ≠ 0 := by
  intro n
  induction n using Nat.strongRecOn with
  | _ n ih =>
    intro l hl
    rw [seqL]
    by_cases h : (progParse l).2.2 = 0
    · have := (cut_law l h).1
      rw [dif_pos h]; exact ih (l.drop (progParse l).2.1).length (by rw [List.length_drop]; omega) _ rfl
    · rw [dif_neg h]; exact h
theorem seq_app : ∀ (n : Nat) (a b : B), a.length = n →
    ((seqL a).2.1 ≠ 1 → (seqL (a ++ b)).1 = (seqL a).1 ∧ (seqL (a ++ b)).2.1 = (seqL a).2.1) ∧
    ((seqL a).2.1 = 1 → seqL (a ++ b) = ((seqL a).1 ++ (seqL ((seqL a).2.2 ++ b)).1, (seqL ((seqL a).2.2 ++ b)).2)) := by
  intro n
  induction n using Nat.strongRecOn with
  | _ n ih =>
    intro a b hl
    by_cases h : (progParse a).2.2 = 0
    · obtain ⟨⟨c1, c2⟩, c3, _⟩ := cut_law a h
      have e : progParse (a ++ b) = progParse a := refuse_law a b (by rw [h]; decide)
      have ed : (a ++ b).drop (progParse a).2.1 = a.drop (progParse a).2.1 ++ b := by rw [List.drop_append_of_le_length c2]
      have ea : seqL a = ((progParse a).1 :: (seqL (a.drop (progParse a).2.1)).1, (seqL (a.drop (progParse a).2.1)).2) := by rw [seqL, dif_pos h]
      have eb : seqL (a ++ b) = ((progParse a).1 :: (seqL (a.drop (progParse a).2.1 ++ b)).1, (seqL (a.drop (progParse a).2.1 ++ b)).2) := by
        rw [seqL, dif_pos (by rw [e]; exact h), e, ed]
      obtain ⟨i1, i2⟩ := ih (a.drop (progParse a).2.1).length (by rw [List.length_drop]; omega) (a.drop (progParse a).2.1) b rfl
      rw [ea, eb]
      refine ⟨fun hne => ?_, fun he => ?_⟩
      · obtain ⟨j1, j2⟩ := i1 hne
        exact ⟨by simp only [j1], j2⟩
      · have := i2 he
        simp only [this, List.cons_append]
    · have ea : seqL a = ([], (progParse a).2.2, a) := by rw [seqL, dif_neg h]
      rw [ea]
      refine ⟨fun hne => ?_, fun he => rfl⟩
      have e : progParse (a ++ b) = progParse a := refuse_law a b hne
      rw [seqL, dif_neg (by rw [e]; exact h), e]; exact ⟨rfl, rfl⟩
end Go.Proofs.YtgdelmkgdfhdpaaGreatDoor
namespace Go.Proofs.YtgdelmkgdfhdpaaGreatDoor
open Go.RowKit
set_option linter.unusedVariables false
set_option linter.unusedSimpArgs false
set_option maxRecDepth 100000

theorem where_skip (t : B) : ∀ a s : B, (13 : UInt8) ∉ a → whereL (13 :: t) (a ++ s) = a.length + whereL (13 :: t) s := by
  intro a
  induction a with
  | nil => intro s _; simp
  | cons c a ih =>
    intro s h
    simp only [List.mem_cons, not_or] at h
    have hp : ((13 : UInt8) :: t).isPrefixOf (c :: (a ++ s)) = false := by simp [List.isPrefixOf, h.1]
    rw [List.cons_append, whereL, hp, List.length_cons, ih s h.2]; simp; omega
theorem where_skip4 (a s : B) (h : (13 : UInt8) ∉ a) : whereL crL (a ++ s) = a.length + whereL crL s := where_skip [10, 13, 10] a s h
theorem where_crlf (c : UInt8) (r : B) (hc : c ≠ 13) : whereL crL (13 :: 10 :: c :: r) = 2 + whereL crL (c :: r) := by
  have hc' : ¬ (13 : UInt8) = c := fun e => hc e.symm
  have h1 : crL.isPrefixOf (13 :: 10 :: c :: r) = false := by simp [crL, List.isPrefixOf, hc']
  have h2 : crL.isPrefixOf (10 :: c :: r) = false := by simp [crL, List.isPrefixOf]
  rw [whereL, h1, whereL, h2]; simp; omega
theorem cut_cons (a s : B) (h : (13 : UInt8) ∉ a) : cutL (a ++ 13 :: 10 :: s) = a :: cutL s := by
  have hw : whereL [13, 10] (a ++ 13 :: 10 :: s) = a.length := by
    rw [where_skip _ _ _ h, whereL, if_pos (by simp [List.isPrefixOf])]; rfl
  rw [cutL, dif_pos (by rw [hw]; simp), hw, List.take_left]
  have : (a ++ 13 :: 10 :: s).drop (a.length + 2) = s := by rw [← List.drop_drop, List.drop_left]; rfl
  rw [this]
theorem cut_last (a : B) (h : (13 : UInt8) ∉ a) : cutL a = [a] := by
  have hw : whereL [13, 10] a = a.length := by
    have := where_skip [10] a [] h
    rw [List.append_nil] at this; rw [this]; rfl
  rw [cutL, dif_neg (by rw [hw]; omega)]
def ln1 : B := [80, 79, 83, 84, 32, 47, 120, 32, 72, 84, 84, 80, 47, 49, 46, 49]
def ln2 : B := [104, 111, 115, 116, 58, 32, 97]
def head3 (x : B) : B := ln1 ++ 13 :: 10 :: (ln2 ++ 13 :: 10 :: x)
theorem head3_law (x rest : B) (c : UInt8) (r : B) (hx : x = c :: r) (h13 : (13 : UInt8) ∉ x) (h10 : (10 : UInt8) ∉ x) (hl : x.length ≤ 8000) (hf : fieldOk x = true) :
    refParse (head3 x ++ crL ++ rest) = parse3 [80, 79, 83, 84] [47, 120] [(hoL, [97]), fieldOf x] (27 + x.length) (bodyL [(hoL, [97]), fieldOf x] rest) := by
  have hc13 : c ≠ 13 := fun e => h13 (by rw [hx, e]; simp)
  have e1 : head3 x ++ crL ++ rest = ln1 ++ 13 :: 10 :: 104 :: ([111, 115, 116, 58, 32, 97] ++ 13 :: 10 :: c :: (r ++ (crL ++ rest))) := by
    unfold head3; rw [hx]; simp [ln2, ln1]
  have hw : whereL crL (head3 x ++ crL ++ rest) = 27 + x.length := by
    rw [e1, where_skip4 ln1 _ (by decide), where_crlf _ _ (by decide)]
    have e2 : (104 : UInt8) :: ([111, 115, 116, 58, 32, 97] ++ 13 :: 10 :: c :: (r ++ (crL ++ rest))) = ln2 ++ 13 :: 10 :: c :: (r ++ (crL ++ rest)) := rfl
    rw [e2, where_skip4 ln2 _ (by decide), where_crlf _ _ hc13]
    have e3 : c :: (r ++ (crL ++ rest)) = x ++ (crL ++ rest) := by rw [hx]; rfl
    rw [e3, where_skip4 _ _ h13]
    have e4 : whereL crL (crL ++ rest) = 0 := by
      show whereL (13 :: [10, 13, 10]) (13 :: 10 :: 13 :: 10 :: rest) = 0
      rw [whereL, if_pos (by simp [List.isPrefixOf])]
    rw [e4]; simp [ln1, ln2]; omega
  have hlen : (head3 x).length = 27 + x.length := by simp [head3, ln1, ln2]; omega
  have ht : (head3 x ++ crL ++ rest).take (27 + x.length) = head3 x := by
    rw [List.append_assoc, ← hlen, List.take_left]
  have hd : (head3 x ++ crL ++ rest).drop (27 + x.length + 4) = rest := by
    rw [← hlen, show (head3 x).length + 4 = (head3 x ++ crL).length by simp [crL], List.drop_left]
  have hcut : cutL (head3 x) = [ln1, ln2, x] := by
    unfold head3; rw [cut_cons _ _ (by decide), cut_cons _ _ (by decide), cut_last _ h13]
  have hcr : ([ln1, ln2, x] : List B).any hasCR = false := by
    have hx2 : hasCR x = false := by simp [hasCR, memB, h13, h10]
    simp only [List.any_cons, hx2, List.any_nil]; decide
  unfold refParse
  rw [hw, ht, hd, hcut, hcr]
  rw [if_neg (by omega), if_neg (by rw [List.length_append, List.length_append, hlen]; have e4 : crL.length = 4 := rfl; omega), if_neg (by decide)]
  unfold parse2
  have hl1 : lineL (([ln1, ln2, x] : List B).headD []) = ([80, 79, 83, 84], [47, 120], 0) := rfl
  have hf1 : fieldOk ln2 = true := by decide
  have hf2 : fieldOf ln2 = (hoL, [97]) := by decide
  have hfl : fieldsL 0 ([ln1, ln2, x] : List B).tail = ([(hoL, [97]), fieldOf x], 0) := by
    show fieldsL 0 [ln2, x] = _
    rw [fieldsL, if_neg (by decide), if_neg (by rw [hf1]; decide), fieldsL, if_neg (by decide), if_neg (by rw [hf]; decide), fieldsL, hf2]; rfl
  rw [hl1, hfl]; rfl
/-- A length's line. -/
def clLine (d : B) : B := clL ++ 58 :: 32 :: d
theorem bare_of (d : B) (h : ∀ c ∈ d, isB 5 c = false) : bareL (32 :: d) = d := by
  have q : ∀ l : B, (∀ c ∈ l, isB 5 c = false) → l.dropWhile (isB 5) = l := by
    intro l hl
    cases l with
    | nil => rfl
    | cons c r => rw [List.dropWhile_cons, if_neg (by rw [hl c (by simp)]; decide)]
  unfold bareL
  rw [List.dropWhile_cons, if_pos (by decide), q d h, q d.reverse (fun c hc => h c (by simpa using hc)), List.reverse_reverse]
theorem digit_facts {c : UInt8} (h : isB 1 c = true) : 48 ≤ c.toNat ∧ c.toNat ≤ 57 := by
  have : (48 ≤ (c.toNat : Int)) ∧ (c.toNat : Int) ≤ 57 := by simpa [isB, inB] using h
  omega
theorem digit_not {c k : UInt8} (h : isB 1 c = true) (hk : k.toNat < 48) : c ≠ k := by
  intro e; subst e; have := digit_facts h; omega
theorem digit_said {c : UInt8} (h : isB 1 c = true) : isB 6 c = true := by
  have := digit_facts h
  simp [isB, inB]; omega
theorem digit_gap {c : UInt8} (h : isB 1 c = true) : isB 5 c = false := by
  have := digit_facts h
  simp [isB]; omega
theorem clLine_ok (d : B) (h : d.all (isB 1) = true) (hl : d.length ≤ 9) : fieldOk (clLine d) = true ∧ fieldOf (clLine d) = (clL, d) := by
  have ha : ∀ c ∈ d, isB 1 c = true := fun c hc => by simpa using List.all_eq_true.1 h c hc
  have e1 : eatL 4 (clLine d) = 14 := rfl
  have e2 : (clLine d).drop 15 = 32 :: d := rfl
  have e3 : trimL (32 :: d) = d := by rw [trim_bare, bare_of d (fun c hc => digit_gap (ha c hc))]
  have e4 : (clLine d).length = d.length + 16 := by simp [clLine, clL]
  constructor
  · unfold fieldOk
    rw [e1, e2, e3, e4]
    have a6 : d.all (isB 6) = true := List.all_eq_true.2 fun c hc => digit_said (ha c hc)
    have g : (clLine d).getD 14 0 = 58 := rfl
    rw [g]
    simp [allL, a6]; omega
  · unfold fieldOf
    rw [e1, e2, e3]
    have : lowL ((clLine d).take 14) = clL := by
      have : (clLine d).take 14 = clL := rfl
      rw [this]; decide
    rw [this]
theorem plain_chunk (d body : B) (h : d.all (isB 1) = true) (h1 : 1 ≤ d.length) (hl : d.length ≤ 9) (hn : numF d = body.length) (hb : body.length ≤ 32768) :
    refParse (head3 (clLine d) ++ crL ++ body) = (⟨[80, 79, 83, 84], [47, 120], [(hoL, [97]), (clL, d)], body⟩, (head3 (clLine d) ++ crL ++ body).length, 0) := by
  obtain ⟨k1, k2⟩ := clLine_ok d h hl
  have ha : ∀ c ∈ d, isB 1 c = true := fun c hc => by simpa using List.all_eq_true.1 h c hc
  have e4 : (clLine d).length = d.length + 16 := by simp [clLine, clL]
  have n13 : (13 : UInt8) ∉ clLine d := by
    unfold clLine; simp only [List.mem_append, List.mem_cons, not_or]
    exact ⟨by decide, by decide, by decide, fun hm => digit_not (ha _ hm) (by decide) rfl⟩
  have n10 : (10 : UInt8) ∉ clLine d := by
    unfold clLine; simp only [List.mem_append, List.mem_cons, not_or]
    exact ⟨by decide, by decide, by decide, fun hm => digit_not (ha _ hm) (by decide) rfl⟩
  rw [head3_law (clLine d) body 99 ([111, 110, 116, 101, 110, 116, 45, 108, 101, 110, 103, 116, 104] ++ 58 :: 32 :: d) rfl n13 n10 (by omega) k1, k2]
  have v1 : valuesL [(hoL, [97]), (clL, d)] teL = [] := rfl
  have v2 : valuesL [(hoL, [97]), (clL, d)] hoL = [[97]] := rfl
  have v3 : valuesL [(hoL, [97]), (clL, d)] clL = [d] := by
    unfold valuesL
    have q1 : (hoL == clL) = false := by decide
    have q2 : (clL == clL) = true := by decide
    simp only [List.filter_cons, q1, q2, List.filter_nil, Bool.false_eq_true, if_false, if_true, List.map_cons, List.map_nil]
  have hbody : bodyL [(hoL, [97]), (clL, d)] body = (body, body.length, 0) := by
    unfold bodyL
    rw [v1, v2, v3]
    have hN : numL d = (body.length : Int) := by
      unfold numL allL; rw [h]; simp [h1, hl, hn]
    rw [if_neg (by simp), if_neg (by simp), if_neg (by simp)]
    show (if 0 = 1 then chunkL [] 0 body else plainL (numL d) body) = _
    rw [if_neg (by decide)]
    rw [hN]
    unfold plainL
    rw [if_neg (by omega), if_neg (by omega), if_neg (by omega)]
    simp
  rw [hbody]
  have hlen : (head3 (clLine d) ++ crL ++ body).length = 27 + (clLine d).length + 4 + body.length := by simp [head3, ln1, ln2, crL]; omega
  rw [hlen]; rfl
/-- A chunk's number. -/
def hexDig (n : Nat) : UInt8 := hexL.getD n 0
def hexD (n : Nat) : B := if n < 16 then [hexDig n] else hexD (n / 16) ++ [hexDig (n % 16)]
theorem hexDig_law : ∀ n, n < 16 → hexN (hexDig n) = n := by decide
theorem hexD_law : ∀ n, (∀ c ∈ hexD n, isHex c = true) ∧ hexF (hexD n) = n ∧ 1 ≤ (hexD n).length ∧ ∀ k, n < 16 ^ (k + 1) → (hexD n).length ≤ k + 1 := by
  intro n
  induction n using Nat.strongRecOn with
  | _ n ih =>
    rw [hexD]
    by_cases h : n < 16
    · rw [if_pos h]
      have := hexDig_law n h
      refine ⟨fun c hc => ?_, ?_, by simp, fun k _ => by simp⟩
      · simp only [List.mem_singleton] at hc; subst hc; simp [isHex, this, h]
      · simp [hexF, this]
    · rw [if_neg h]
      obtain ⟨i1, i2, i3, i4⟩ := ih (n / 16) (by omega)
      have := hexDig_law (n % 16) (by omega)
      refine ⟨fun c hc => ?_, ?_, by simp, fun k hk => ?_⟩
      · rcases List.mem_append.1 hc with hc | hc
        · exact i1 c hc
        · simp only [List.mem_singleton] at hc; subst hc; simp [isHex, this]; omega
      · unfold hexF at *
        rw [List.foldl_append, i2]; simp only [List.foldl_cons, List.foldl_nil, this]; omega
      · cases k with
        | zero => omega
        | succ k =>
          have := i4 k (by rw [Nat.pow_succ] at hk; omega)
          rw [List.length_append]; simp only [List.length_cons, List.length_nil]; omega
def chunkOf (p : B) : B := if p = [] then [] else hexD p.length ++ 13 :: 10 :: (p ++ [13, 10])
def codedL (ps : List B) : B := ps.flatMap chunkOf ++ [48, 13, 10, 13, 10]
theorem digits_app (d : B) (r : B) (hd : ∀ c ∈ d, isHex c = true) : digitsN (d ++ 13 :: r) = d.length := by
  unfold digitsN
  have h13 : isHex 13 = false := by decide
  induction d with
  | nil => rw [List.nil_append, List.takeWhile_cons, h13]; rfl
  | cons c d ih =>
    rw [List.cons_append, List.takeWhile_cons, hd c (by simp), if_pos rfl, List.length_cons, List.length_cons, ih fun x hx => hd x (by simp [hx])]
theorem ends_crlf (r : B) : endsL (13 :: 10 :: r) = 0 := rfl
theorem coded_law : ∀ (ps : List B) (acc : B) (p : Nat), acc.length + ps.flatten.length ≤ 32768 → chunkL acc p (codedL ps) = (acc ++ ps.flatten, p + (codedL ps).length, 0) := by
  intro ps
  induction ps with
  | nil =>
    intro acc p _
    rw [chunkL]
    have d1 : digitsN (codedL []) = 1 := by decide
    rw [d1]
    have d2 : hexF ((codedL []).take 1) = 0 := by decide
    rw [d2, if_neg (by decide), if_neg (by decide), if_neg (by decide), if_neg (by omega), if_neg (by omega), if_neg (by decide), if_pos rfl]
    simp [codedL]
  | cons q ps ih =>
    intro acc p hl
    by_cases hq : q = []
    · have e : codedL (q :: ps) = codedL ps := by simp [codedL, List.flatMap_cons, chunkOf, hq]
      rw [e, hq]; simpa using ih acc p (by simpa [hq] using hl)
    · have hq1 : 1 ≤ q.length := by cases q with | nil => exact absurd rfl hq | cons c r => simp
      rw [List.flatten_cons, List.length_append] at hl
      obtain ⟨i1, i2, i3, i4⟩ := hexD_law q.length
      have i4 := i4 3 (by omega)
      have e : codedL (q :: ps) = hexD q.length ++ 13 :: 10 :: (q ++ 13 :: 10 :: codedL ps) := by simp [codedL, List.flatMap_cons, chunkOf, hq]
      have dN : digitsN (codedL (q :: ps)) = (hexD q.length).length := by rw [e]; exact digits_app _ _ i1
      have eL : (codedL (q :: ps)).length = (hexD q.length).length + (q.length + ((codedL ps).length + 4)) := by rw [e]; simp; omega
      rw [chunkL, dN]
      have tk : (codedL (q :: ps)).take (hexD q.length).length = hexD q.length := by rw [e, List.take_left]
      have dr : ∀ k, (codedL (q :: ps)).drop ((hexD q.length).length + k) = (13 :: 10 :: (q ++ 13 :: 10 :: codedL ps)).drop k := fun k => by rw [e, ← List.drop_drop, List.drop_left]
      have dr0 : (codedL (q :: ps)).drop (hexD q.length).length = 13 :: 10 :: (q ++ 13 :: 10 :: codedL ps) := dr 0
      have dr2 : (codedL (q :: ps)).drop ((hexD q.length).length + 2) = q ++ 13 :: 10 :: codedL ps := dr 2
      have dr3 : (codedL (q :: ps)).drop ((hexD q.length).length + 2 + q.length) = 13 :: 10 :: codedL ps := by rw [← List.drop_drop, dr2, List.drop_left]
      have dr4 : (codedL (q :: ps)).drop ((hexD q.length).length + 4 + q.length) = codedL ps := by
        rw [show (hexD q.length).length + 4 + q.length = (hexD q.length).length + 2 + q.length + 2 by omega, ← List.drop_drop, dr3]; rfl
      rw [tk, i2, dr0, dr2, dr3, dr4, ends_crlf, ends_crlf, List.take_left]
      rw [if_neg (by omega), if_neg (by omega), if_neg (by simp), if_neg (by omega), if_neg (by omega), if_neg (by simp), if_neg (by omega), dif_neg (by omega)]
      rw [ih _ _ (by rw [List.length_append]; omega), eL]
      simp only [List.flatten_cons, List.append_assoc, Prod.mk.injEq, true_and, and_true]; omega
def ckLine : B := teL ++ 58 :: 32 :: [67, 104, 117, 110, 107, 101, 100]
theorem coded_chunk (ps : List B) (hl : ps.flatten.length ≤ 32768) :
    refParse (head3 ckLine ++ crL ++ codedL ps) = (⟨[80, 79, 83, 84], [47, 120], [(hoL, [97]), (teL, [67, 104, 117, 110, 107, 101, 100])], ps.flatten⟩, (head3 ckLine ++ crL ++ codedL ps).length, 0) := by
  have hlen : ∀ r : B, (head3 ckLine ++ crL ++ r).length = 27 + ckLine.length + 4 + r.length := fun r => by simp [head3, ln1, ln2, crL]; omega
  have k2 : fieldOf ckLine = (teL, [67, 104, 117, 110, 107, 101, 100]) := by decide
  rw [head3_law ckLine _ 116 [114, 97, 110, 115, 102, 101, 114, 45, 101, 110, 99, 111, 100, 105, 110, 103, 58, 32, 67, 104, 117, 110, 107, 101, 100] rfl (by decide) (by decide) (by decide) (by decide), k2]
  have v1 : valuesL [(hoL, [97]), (teL, [67, 104, 117, 110, 107, 101, 100])] teL = [[67, 104, 117, 110, 107, 101, 100]] := by decide
  have v2 : valuesL [(hoL, [97]), (teL, [67, 104, 117, 110, 107, 101, 100])] hoL = [[97]] := by decide
  have v3 : valuesL [(hoL, [97]), (teL, [67, 104, 117, 110, 107, 101, 100])] clL = [] := by decide
  have hbody : bodyL [(hoL, [97]), (teL, [67, 104, 117, 110, 107, 101, 100])] (codedL ps) = (ps.flatten, (codedL ps).length, 0) := by
    unfold bodyL
    rw [v1, v2, v3, if_neg (by decide), if_neg (by decide)]
    show (if 1 = 1 then chunkL [] 0 (codedL ps) else plainL 0 (codedL ps)) = _
    rw [if_pos rfl, coded_law ps [] 0 (by simpa using hl)]; simp
  rw [hbody, hlen]; rfl
end Go.Proofs.YtgdelmkgdfhdpaaGreatDoor
namespace Go.Proofs.YtgdelmkgdfhdpaaGreatDoor
open Go.RowKit
set_option linter.unusedVariables false
set_option linter.unusedSimpArgs false
set_option maxRecDepth 100000

/-- The names of headers in other letters. -/
def letB (c : UInt8) : Bool := inB 97 122 c || inB 65 90 c
def caseG (f : Nat → Bool) : Bool → Nat → B → B
  | _, _, [] => []
  | nm, i, c :: r => if c = 10 then c :: caseG f true (i + 1) r else if c = 58 then c :: caseG f false (i + 1) r
      else (if nm = true ∧ f i = true ∧ letB c = true then c ^^^ 32 else c) :: caseG f nm (i + 1) r
def caseL (f : Nat → Bool) (b : B) : B := caseG f false 0 (b.take (whereL crL b)) ++ b.drop (whereL crL b)
def kap (c : UInt8) : UInt8 := if letB c then 97 else c
theorem all_bytes (p : UInt8 → Bool) (h : (List.range 256).all (fun n => p (UInt8.ofNat n)) = true) (c : UInt8) : p c = true := by
  have := List.all_eq_true.1 h c.toNat (List.mem_range.2 c.toNat_lt)
  rwa [UInt8.ofNat_toNat] at this
theorem flip_kap (c : UInt8) (h : letB c = true) : kap (c ^^^ 32) = kap c := by
  have := all_bytes (fun c => !letB c || kap (c ^^^ 32) == kap c) (by decide) c
  simpa [h] using this
theorem flip_word (c : UInt8) (h : letB c = true) : isB 4 (c ^^^ 32) = true ∧ isB 4 c = true := by
  have := all_bytes (fun c => !letB c || (isB 4 (c ^^^ 32) && isB 4 c)) (by decide) c
  simpa [h] using this
theorem flip_low (c : UInt8) (h : letB c = true) : lowB (c ^^^ 32) = lowB c := by
  have := all_bytes (fun c => !letB c || lowB (c ^^^ 32) == lowB c) (by decide) c
  simpa [h] using this
theorem case_kap (f : Nat → Bool) : ∀ (l : B) (nm : Bool) (i : Nat), (caseG f nm i l).map kap = l.map kap := by
  intro l
  induction l with
  | nil => intro nm i; rfl
  | cons c r ih =>
    intro nm i
    rw [caseG]
    split
    · rw [List.map_cons, ih, List.map_cons]
    split
    · rw [List.map_cons, ih, List.map_cons]
    · rw [List.map_cons, ih, List.map_cons]
      split
      · rename_i h; rw [flip_kap c h.2.2]
      · rfl
theorem case_len (f : Nat → Bool) (l : B) (nm : Bool) (i : Nat) : (caseG f nm i l).length = l.length := by
  have := congrArg List.length (case_kap f l nm i)
  simpa using this
/-- Marks are found where they were. -/
def Mark (t : B) : Prop := ∀ x ∈ t, letB x = false
theorem kap_eq {c x : UInt8} (hx : letB x = false) : kap c = x ↔ c = x := by
  unfold kap
  constructor
  · intro h
    by_cases hc : letB c = true
    · rw [if_pos hc] at h; subst h; exact absurd hx (by decide)
    · rw [if_neg hc] at h; exact h
  · intro h; subst h; rw [if_neg (by rw [hx]; decide)]
theorem prefix_kap : ∀ (t s : B), Mark t → t.isPrefixOf (s.map kap) = t.isPrefixOf s := by
  intro t
  induction t with
  | nil => intro s _; simp [List.isPrefixOf]
  | cons x t ih =>
    intro s ht
    cases s with
    | nil => rfl
    | cons c s =>
      rw [List.map_cons, List.isPrefixOf, List.isPrefixOf, ih s fun y hy => ht y (by simp [hy])]
      have := kap_eq (c := c) (ht x (by simp))
      congr 1
      rw [Bool.eq_iff_iff, beq_iff_eq, beq_iff_eq]
      exact ⟨fun e => (this.1 e.symm).symm, fun e => (this.2 e.symm).symm⟩
theorem where_kap (t : B) (ht : Mark t) : ∀ s : B, whereL t (s.map kap) = whereL t s := by
  intro s
  induction s with
  | nil => rfl
  | cons c s ih =>
    rw [whereL, ← prefix_kap t (c :: s) ht, ← ih, List.map_cons, whereL]
theorem where_same {t a b : B} (ht : Mark t) (h : a.map kap = b.map kap) : whereL t a = whereL t b := by
  rw [← where_kap t ht a, h, where_kap t ht b]
theorem cr_same {a b : B} (h : a.map kap = b.map kap) : hasCR a = hasCR b := by
  have q : ∀ (x : UInt8) (l : B), letB x = false → memB x (l.map kap) = memB x l := by
    intro x l hx
    rw [Bool.eq_iff_iff]; unfold memB
    rw [List.contains_iff_mem, List.contains_iff_mem, List.mem_map]
    constructor
    · rintro ⟨c, hc, he⟩; rw [kap_eq hx] at he; subst he; exact hc
    · intro hc; exact ⟨x, hc, (kap_eq hx).2 rfl⟩
  unfold hasCR
  rw [← q 13 a (by decide), ← q 10 a (by decide), h, q 13 b (by decide), q 10 b (by decide)]
theorem cut_kap : ∀ (n : Nat) (s : B), s.length = n → cutL (s.map kap) = (cutL s).map (List.map kap) := by
  have hm : Mark [13, 10] := by intro x hx; simp at hx; rcases hx with rfl | rfl <;> decide
  intro n
  induction n using Nat.strongRecOn with
  | _ n ih =>
    intro s hl
    by_cases h : whereL [13, 10] s < s.length
    · rw [cutL, dif_pos (by rw [where_kap _ hm]; simpa using h), cutL.eq_def s, dif_pos h, where_kap _ hm, List.map_cons, ← List.map_take, ← List.map_drop]
      rw [ih (s.drop (whereL [13, 10] s + 2)).length (by rw [List.length_drop]; omega) _ rfl]
    · rw [cutL, dif_neg (by rw [where_kap _ hm]; simpa using h), cutL.eq_def s, dif_neg h]; rfl
theorem any_same {a b : B} (h : a.map kap = b.map kap) : (cutL a).any hasCR = (cutL b).any hasCR := by
  have q : ∀ s : B, (cutL s).any hasCR = (cutL (s.map kap)).any hasCR := by
    intro s
    rw [cut_kap _ s rfl, List.any_map]
    congr 1
    funext x
    have : (List.map kap x).map kap = x.map kap := by
      rw [List.map_map]; refine List.map_congr_left fun c _ => ?_
      show kap (kap c) = kap c
      have := all_bytes (fun c => kap (kap c) == kap c) (by decide) c
      simpa using this
    exact (cr_same this).symm
  rw [q a, h, ← q b]
/-- The lines. -/
def caseLs (f : Nat → Bool) : Bool → Nat → List B → List B
  | _, _, [] => []
  | nm, i, x :: l => caseG f nm i x :: caseLs f true (i + x.length + 2) l
theorem case_app (f : Nat → Bool) : ∀ (a : B) (nm : Bool) (i : Nat) (s : B), (10 : UInt8) ∉ a → caseG f nm i (a ++ 13 :: 10 :: s) = caseG f nm i a ++ 13 :: 10 :: caseG f true (i + a.length + 2) s := by
  intro a
  induction a with
  | nil =>
    intro nm i s _
    have e13 : ¬ (nm = true ∧ f i = true ∧ letB 13 = true) := fun h => absurd h.2.2 (by decide)
    rw [List.nil_append, caseG.eq_2, if_neg (by decide), if_neg (by decide), if_neg e13, caseG.eq_2, if_pos rfl]; rfl
  | cons c a ih =>
    intro nm i s h
    simp only [List.mem_cons, not_or] at h
    have hc : ¬ c = 10 := fun e => h.1 e.symm
    have e : i + 1 + a.length + 2 = i + (c :: a).length + 2 := by simp; omega
    rw [List.cons_append, caseG, if_neg hc, caseG, if_neg hc]
    by_cases h58 : c = 58
    · rw [if_pos h58, if_pos h58, ih _ _ _ h.2, e]; rfl
    · rw [if_neg h58, if_neg h58, ih _ _ _ h.2, e]; rfl
theorem mem_kap {a b : B} (h : a.map kap = b.map kap) (x : UInt8) (hx : letB x = false) : x ∈ a → x ∈ b := by
  intro ha
  have : x ∈ a.map kap := List.mem_map.2 ⟨x, ha, (kap_eq hx).2 rfl⟩
  rw [h] at this
  obtain ⟨c, hc, he⟩ := List.mem_map.1 this
  rw [kap_eq hx] at he; subst he; exact hc
theorem not_cr {x : B} (h : hasCR x = false) : (13 : UInt8) ∉ x ∧ (10 : UInt8) ∉ x := by
  unfold hasCR memB at h
  simp only [Bool.or_eq_false_iff, List.contains_eq_mem, decide_eq_false_iff_not] at h
  exact h
theorem cut_case (f : Nat → Bool) : ∀ (n : Nat) (l : B), l.length = n → ∀ (nm : Bool) (i : Nat), (cutL l).any hasCR = false → cutL (caseG f nm i l) = caseLs f nm i (cutL l) := by
  intro n
  induction n using Nat.strongRecOn with
  | _ n ih =>
    intro l hl nm i hcr
    by_cases h : whereL [13, 10] l < l.length
    · have e : cutL l = l.take (whereL [13, 10] l) :: cutL (l.drop (whereL [13, 10] l + 2)) := by rw [cutL, dif_pos h]
      rw [e, List.any_cons, Bool.or_eq_false_iff] at hcr
      obtain ⟨n13, n10⟩ := not_cr hcr.1
      obtain ⟨r, hr⟩ := whereL_at [13, 10] l h
      have el : l = l.take (whereL [13, 10] l) ++ 13 :: 10 :: r := by
        conv => lhs; rw [← List.take_append_drop (whereL [13, 10] l) l, ← hr]
        rfl
      have er : l.drop (whereL [13, 10] l + 2) = r := by rw [← List.drop_drop, ← hr]; rfl
      rw [e, er, caseLs]
      rw [er] at hcr
      generalize ha : l.take (whereL [13, 10] l) = a at *
      conv => lhs; rw [el]
      rw [case_app f a nm i r n10, cut_cons _ _ (fun hm => n13 (mem_kap (case_kap f a nm i) 13 (by decide) hm))]
      have hlr : r.length < n := by
        have := congrArg List.length el
        simp only [List.length_append, List.length_cons] at this; omega
      rw [ih r.length hlr r rfl true _ hcr.2]
    · have e : cutL l = [l] := by rw [cutL, dif_neg h]
      rw [e] at hcr ⊢
      have hm : Mark [13, 10] := by intro x hx; simp at hx; rcases hx with rfl | rfl <;> decide
      rw [cutL, dif_neg (by rw [where_same hm (case_kap f l nm i), case_len]; exact h)]; rfl
theorem case_off (f : Nat → Bool) : ∀ (l : B) (i : Nat), (10 : UInt8) ∉ l → caseG f false i l = l := by
  intro l
  induction l with
  | nil => intro i _; rfl
  | cons c r ih =>
    intro i h
    simp only [List.mem_cons, not_or] at h
    have hc : ¬ c = 10 := fun e => h.1 e.symm
    rw [caseG, if_neg hc]
    by_cases h58 : c = 58
    · rw [if_pos h58, ih _ h.2]
    · rw [if_neg h58, if_neg (by intro h; exact absurd h.1 (by decide)), ih _ h.2]
theorem case_field (f : Nat → Bool) : ∀ (l : B) (i : Nat), (10 : UInt8) ∉ l →
    eatL 4 (caseG f true i l) = eatL 4 l ∧ lowL ((caseG f true i l).take (eatL 4 l)) = lowL (l.take (eatL 4 l)) ∧
      (((caseG f true i l).getD (eatL 4 l) 0 = 58 ↔ l.getD (eatL 4 l) 0 = 58) ∧ (l.getD (eatL 4 l) 0 = 58 → (caseG f true i l).drop (eatL 4 l + 1) = l.drop (eatL 4 l + 1))) := by
  intro l
  induction l with
  | nil => intro i _; exact ⟨rfl, rfl, Iff.rfl, fun _ => rfl⟩
  | cons c r ih =>
    intro i h
    simp only [List.mem_cons, not_or] at h
    have hc : ¬ c = 10 := fun e => h.1 e.symm
    rw [caseG, if_neg hc]
    by_cases h58 : c = 58
    · subst h58
      rw [if_pos rfl, case_off f r _ h.2]
      exact ⟨rfl, rfl, Iff.rfl, fun _ => rfl⟩
    · rw [if_neg h58]
      obtain ⟨i1, i2, i3, i4⟩ := ih (i + 1) h.2
      generalize hd : (if true = true ∧ f i = true ∧ letB c = true then c ^^^ 32 else c) = d
      have hw : isB 4 d = isB 4 c ∧ lowB d = lowB c ∧ (isB 4 c = false → d = c) := by
        rw [← hd]; split
        · rename_i hh
          obtain ⟨w1, w2⟩ := flip_word c hh.2.2
          exact ⟨by rw [w1, w2], flip_low c hh.2.2, fun e => by rw [w2] at e; cases e⟩
        · exact ⟨rfl, rfl, fun _ => rfl⟩
      rw [eatL_cons, eatL_cons, hw.1]
      by_cases hb : isB 4 c = true
      · rw [if_pos hb, if_pos hb, i1]
        refine ⟨rfl, ?_, ?_, ?_⟩
        · rw [List.take_succ_cons, List.take_succ_cons]
          unfold lowL at *
          rw [List.map_cons, List.map_cons, i2, hw.2.1]
        · rw [List.getD_cons_succ, List.getD_cons_succ]; exact i3
        · rw [List.getD_cons_succ]; intro hh; rw [List.drop_succ_cons, List.drop_succ_cons]; exact i4 hh
      · have hb' : isB 4 c = false := by simpa using hb
        have hdc := hw.2.2 hb'
        rw [if_neg hb, if_neg hb, hdc]
        refine ⟨rfl, rfl, Iff.rfl, fun hh => absurd hh ?_⟩
        simpa using h58
theorem field_case (f : Nat → Bool) (l : B) (i : Nat) (h : (10 : UInt8) ∉ l) : fieldOk (caseG f true i l) = fieldOk l ∧ (fieldOk l = true → fieldOf (caseG f true i l) = fieldOf l) := by
  obtain ⟨i1, i2, i3, i4⟩ := case_field f l i h
  by_cases k : l.getD (eatL 4 l) 0 = 58
  · have hd := i4 k
    refine ⟨?_, fun _ => ?_⟩
    · unfold fieldOk; rw [i1, hd, case_len, decide_eq_decide.2 i3]
    · unfold fieldOf; rw [i1, i2, hd]
  · have k2 : ¬ (caseG f true i l).getD (eatL 4 l) 0 = 58 := fun e => k (i3.1 e)
    have e1 : fieldOk l = false := by unfold fieldOk; rw [decide_eq_false k]; simp
    have e2 : fieldOk (caseG f true i l) = false := by unfold fieldOk; rw [i1, decide_eq_false k2]; simp
    rw [e1, e2]; exact ⟨rfl, fun h => by cases h⟩
theorem fields_case (f : Nat → Bool) : ∀ (L : List B) (k i : Nat), L.any hasCR = false → fieldsL k (caseLs f true i L) = fieldsL k L := by
  intro L
  induction L with
  | nil => intro k i _; rfl
  | cons x L ih =>
    intro k i h
    rw [List.any_cons, Bool.or_eq_false_iff] at h
    obtain ⟨f1, f2⟩ := field_case f x i (not_cr h.1).2
    rw [caseLs, fieldsL, fieldsL, f1, ih _ _ h.2]
    by_cases hf : fieldOk x = false
    · rw [if_pos hf, if_pos hf]
    · rw [f2 (by simpa using hf)]
theorem case_law (f : Nat → Bool) (b : B) : refParse (caseL f b) = refParse b := by
  have hm : Mark crL := by intro x hx; simp [crL] at hx; rcases hx with rfl | rfl | rfl | rfl <;> decide
  have hwl := whereL_le crL b
  have hk : (caseL f b).map kap = b.map kap := by
    unfold caseL
    rw [List.map_append, case_kap, ← List.map_append, List.take_append_drop]
  have hw : whereL crL (caseL f b) = whereL crL b := where_same hm hk
  have hl : (caseL f b).length = b.length := by have := congrArg List.length hk; simpa using this
  have hlt : (caseG f false 0 (b.take (whereL crL b))).length = whereL crL b := by rw [case_len, List.length_take]; omega
  have ht : (caseL f b).take (whereL crL b) = caseG f false 0 (b.take (whereL crL b)) := by
    unfold caseL
    rw [List.take_append_of_le_length (by omega), List.take_of_length_le (by omega)]
  have hd : (caseL f b).drop (whereL crL b + 4) = b.drop (whereL crL b + 4) := by
    unfold caseL
    rw [← List.drop_drop]
    conv => lhs; arg 2; arg 1; rw [← hlt]
    rw [List.drop_left, List.drop_drop]
  unfold refParse
  rw [hw, hl, ht, hd, any_same (case_kap f (b.take (whereL crL b)) false 0)]
  by_cases k1 : 8192 < whereL crL b ∧ (whereL crL b < b.length ∨ 8196 ≤ whereL crL b)
  · rw [if_pos k1, if_pos k1]
  rw [if_neg k1, if_neg k1]
  by_cases k2 : whereL crL b = b.length
  · rw [if_pos k2, if_pos k2]
  rw [if_neg k2, if_neg k2]
  by_cases k3 : (cutL (b.take (whereL crL b))).any hasCR = true
  · rw [if_pos k3, if_pos k3]
  rw [if_neg k3, if_neg k3]
  have k4 : (cutL (b.take (whereL crL b))).any hasCR = false := by simpa using k3
  rw [cut_case f _ _ rfl false 0 k4]
  have hne := cutL_ne (b.take (whereL crL b))
  generalize cutL (b.take (whereL crL b)) = L at *
  cases L with
  | nil => exact absurd rfl hne
  | cons x L =>
    rw [List.any_cons, Bool.or_eq_false_iff] at k4
    rw [caseLs, case_off f x 0 (not_cr k4.1).2]
    have e := fields_case f L 0 (0 + x.length + 2) k4.2
    generalize caseLs f true (0 + x.length + 2) L = M at *
    unfold parse2
    simp only [List.headD_cons, List.tail_cons, e]
    rfl
end Go.Proofs.YtgdelmkgdfhdpaaGreatDoor
namespace Go.Proofs.YtgdelmkgdfhdpaaGreatDoor
open Go.RowKit
set_option linter.unusedVariables false
set_option linter.unusedSimpArgs false
set_option maxRecDepth 100000

theorem bindex_any (l : B) (A : Option Addr) (c g : Nat) (w : World) (hR : Rd w 1 (.slice A l.length c) l.length (bytesV l)) (hl : l.length ≤ 1048576) (hN : A = none → c = 0)
    (hg : Rd w 1 (.slice (some ⟨g, 0, none⟩) 4 4) 4 (bytesV crL)) (hG : Glob w) :
    Calls Tryz.prog 30 #[.slice A l.length c, .slice (some ⟨g, 0, none⟩) 4 4] w fun e w' => e = .returned (.int .i64 (if whereL crL l < l.length then (whereL crL l : Int) else -1)) ∧ Below w.heap.size w w' := by
  cases A with
  | none =>
    have hc := hN rfl
    subst hc
    have hl0 : l = [] := by obtain ⟨_, A', c', h2, _, _, h5, _⟩ := hR; cases h2; exact List.eq_nil_of_length_eq_zero (h5 rfl)
    subst hl0
    refine (Tryz.bytes_Index_nil (some ⟨g, 0, none⟩) 4 4 w (by decide) (fun h => by cases h)).mono ?_
    rintro e w' ⟨rfl, rfl⟩
    exact ⟨rfl, Below.refl _ _⟩
  | some a =>
    have hnc : l.length ≤ c := by obtain ⟨_, A', c', h2, h3, _⟩ := hR; cases h2; exact h3
    obtain ⟨_, A', c', h2, _, _, _, h6⟩ := hR
    cases h2
    obtain ⟨hsp, hcell⟩ := h6 a rfl
    obtain ⟨m, hm⟩ := hG
    have hadd : ∀ i, a.add i = ⟨a.block, a.off + i, none⟩ := fun i => by
      unfold Addr.add; split
      · rename_i h; subst h; cases a; simp at hsp; subst hsp; rfl
      · rfl
    have hr : ∀ k : B, ∀ x ∈ intsOf k, 0 ≤ x ∧ x < 256 := by
      intro k x hx
      unfold intsOf at hx
      obtain ⟨c, _, rfl⟩ := List.mem_map.1 hx
      have := c.toNat_lt
      omega
    have h := Tryz.bytes_Index_at a ⟨g, 0, none⟩ l.length c 4 4 (intsOf l) (intsOf crL) m w (by simp [intsOf]) rfl (hr l) (hr crL) (fun i hi => by
        rw [hadd, hcell i _ (bytesV_at (List.getElem?_eq_getElem hi))]
        simp [intsOf, List.getD_eq_getElem?_getD, List.getElem?_eq_getElem hi]) (fun i hi => by
        obtain ⟨_, A', c', h2, _, _, _, h6⟩ := hg
        cases h2
        have := (h6 ⟨g, 0, none⟩ rfl).2 i _ (bytesV_at (List.getElem?_eq_getElem (show i < crL.length from hi)))
        have e : (⟨g, 0, none⟩ : Addr).add i = ⟨g, 0 + i, none⟩ := by unfold Addr.add; split <;> simp_all
        rw [e, this]
        simp [intsOf, List.getD_eq_getElem?_getD, List.getElem?_eq_getElem (show i < crL.length from hi)]) hnc (by omega) (by decide) hm
    rw [bytesOf_ints, bytesOf_ints, index_where crL (by decide)] at h
    refine h.mono ?_
    rintro e w' ⟨rfl, q, rfl⟩
    exact ⟨rfl, below_drewN _ _ _⟩
theorem own_store {w : World} {base g cap : Nat} {l : B} (h : w.ownsRow base 5 1 (.slice (some ⟨g, 0, none⟩) l.length cap) l.length (bytesV l)) (k : Nat) (c : UInt8) :
    (w.setCell ⟨g, k, none⟩ (.int .u8 c.toNat)).ownsRow base 5 1 (.slice (some ⟨g, 0, none⟩) l.length cap) (l.set k c).length (bytesV (l.set k c)) := by
  obtain ⟨h1, h2 | ⟨g', cap', cur, hv, hb, hg, hc, hm, hs, htk⟩⟩ := h
  · cases h2.1
  · cases hv
    rw [List.length_set]
    refine ⟨by rw [bytesV_len, List.length_set, Nat.mul_one], .inr ⟨g, cap, cur.set! k (.int .u8 c.toNat), rfl, hb, heap_set_own hg k _, hc, hm, by simpa using hs, ?_⟩⟩
    have e : (cur.set! k (.int .u8 c.toNat)).toList = cur.toList.set k (.int .u8 c.toNat) := by simp [Array.set!]
    rw [e, List.take_set, htk]
    unfold bytesV
    rw [List.map_set]
theorem xor_val (c : UInt8) : bits .xor .u8 (c.toNat : Int) 32 = ((c ^^^ 32).toNat : Int) := by
  have := all_bytes (fun c => decide (bits .xor .u8 (c.toNat : Int) 32 = ((c ^^^ 32).toNat : Int))) (by decide +kernel) c
  simpa using this

/-- What the loop has done behind k bytes. -/
structure Inv (f : Nat → Bool) (l : B) (E k : Nat) (nb : Bool) (m : B) : Prop where
  len : m.length = l.length
  dr : m.drop k = l.drop k
  cs : caseG f false 0 (l.take E) = m.take k ++ caseG f nb k ((l.take E).drop k)
theorem Inv.cons {f : Nat → Bool} {l : B} {E k : Nat} {nb : Bool} {m : B} {c : UInt8} (h : Inv f l E k nb m) (hk : k < E) (hE : E ≤ l.length) (hc : m[k]? = some c) :
    (l.take E).drop k = c :: (l.take E).drop (k + 1) ∧ l.drop k = c :: l.drop (k + 1) ∧ m.drop (k + 1) = l.drop (k + 1) := by
  have hkl : k < l.length := by omega
  have hkm : k < m.length := by rw [h.len]; exact hkl
  have h1 : l.drop k = l[k] :: l.drop (k + 1) := List.drop_eq_getElem_cons hkl
  have h2 : m.drop k = m[k] :: m.drop (k + 1) := List.drop_eq_getElem_cons hkm
  rw [List.getElem?_eq_getElem hkm] at hc
  have hc' := Option.some.inj hc
  rw [h.dr, h1, hc'] at h2
  injection h2 with e1 e2
  have hkE : k < (l.take E).length := by rw [List.length_take]; omega
  have h3 : (l.take E).drop k = (l.take E)[k] :: (l.take E).drop (k + 1) := List.drop_eq_getElem_cons hkE
  rw [List.getElem_take, e1] at h3
  rw [e1] at h1
  exact ⟨h3, h1, e2.symm⟩
theorem Inv.step {f : Nat → Bool} {l : B} {E k : Nat} {nb nb' : Bool} {m : B} {c c' : UInt8} (h : Inv f l E k nb m) (hk : k < E) (hE : E ≤ l.length) (hc : m[k]? = some c)
    (hg : ∀ r, caseG f nb k (c :: r) = c' :: caseG f nb' (k + 1) r) : Inv f l E (k + 1) nb' (m.set k c') := by
  obtain ⟨h1, h2, h3⟩ := h.cons hk hE hc
  have hkm : k < m.length := (List.getElem?_eq_some_iff.1 hc).1
  refine ⟨by rw [List.length_set]; exact h.len, ?_, ?_⟩
  · rw [List.drop_set_of_lt (by omega)]; exact h3
  · rw [h.cs, h1, hg]
    have e : (m.set k c').take (k + 1) = m.take k ++ [c'] := by
      rw [List.take_add_one, List.take_set_of_le (by omega), List.getElem?_set_self hkm]; rfl
    rw [e]; simp
theorem set_self {m : B} {k : Nat} {c : UInt8} (h : m[k]? = some c) : m.set k c = m := by
  obtain ⟨h1, h2⟩ := List.getElem?_eq_some_iff.1 h
  rw [← h2]; exact List.set_getElem_self h1
theorem Inv.lf {f : Nat → Bool} {l : B} {E k : Nat} {nb : Bool} {m : B} (h : Inv f l E k nb m) (hk : k < E) (hE : E ≤ l.length) (hc : m[k]? = some 10) : Inv f l E (k + 1) true m := by
  have := h.step (nb' := true) (c' := 10) hk hE hc (fun r => by rw [caseG, if_pos rfl])
  rwa [set_self hc] at this
theorem Inv.colon {f : Nat → Bool} {l : B} {E k : Nat} {nb : Bool} {m : B} (h : Inv f l E k nb m) (hk : k < E) (hE : E ≤ l.length) (hc : m[k]? = some 58) : Inv f l E (k + 1) false m := by
  have := h.step (nb' := false) (c' := 58) hk hE hc (fun r => by rw [caseG, if_neg (by decide), if_pos rfl])
  rwa [set_self hc] at this
theorem Inv.keep {f : Nat → Bool} {l : B} {E k : Nat} {nb : Bool} {m : B} {c : UInt8} (h : Inv f l E k nb m) (hk : k < E) (hE : E ≤ l.length) (hc : m[k]? = some c) (h1 : c ≠ 10) (h2 : c ≠ 58) (h3 : ¬ (nb = true ∧ f k = true ∧ letB c = true)) : Inv f l E (k + 1) nb m := by
  have := h.step (nb' := nb) (c' := c) hk hE hc (fun r => by rw [caseG, if_neg h1, if_neg h2, if_neg h3])
  rwa [set_self hc] at this
theorem Inv.flip {f : Nat → Bool} {l : B} {E k : Nat} {m : B} {c : UInt8} (h : Inv f l E k true m) (hk : k < E) (hE : E ≤ l.length) (hc : m[k]? = some c) (h1 : c ≠ 10) (h2 : c ≠ 58) (h3 : f k = true ∧ letB c = true) : Inv f l E (k + 1) true (m.set k (c ^^^ 32)) :=
  h.step (nb' := true) (c' := c ^^^ 32) hk hE hc (fun r => by rw [caseG, if_neg h1, if_neg h2, if_pos ⟨rfl, h3⟩])
theorem Inv.whole {f : Nat → Bool} {l : B} {E : Nat} {nb : Bool} {m : B} (h : Inv f l E E nb m) (hE : whereL crL l = E) : m = caseL f l := by
  have h1 : (l.take E).drop E = [] := List.drop_of_length_le (by rw [List.length_take]; omega)
  have h2 := h.cs
  rw [h1] at h2
  unfold caseL
  rw [hE, h2]
  show m = (m.take E ++ []) ++ l.drop E
  rw [List.append_nil, ← h.dr, List.take_append_drop]
theorem let_of {c : UInt8} : letB c = true ↔ ((97 ≤ (c.toNat : Int) ∧ (c.toNat : Int) ≤ 122) ∨ (65 ≤ (c.toNat : Int) ∧ (c.toNat : Int) ≤ 90)) := by
  unfold letB inB
  simp only [Bool.or_eq_true, Bool.and_eq_true, decide_eq_true_eq]
/-- Which letters are turned. -/
def turnF (z : Int) (i : Nat) : Bool := bits .and .u64 (z / 2 ^ (i % 64)) 1 == 1

end Go.Proofs.YtgdelmkgdfhdpaaGreatDoor
namespace Go.Proofs.YtgdelmkgdfhdpaaGreatDoor
open Go.RowKit
set_option linter.unusedVariables false
set_option linter.unusedSimpArgs false
set_option maxRecDepth 100000

theorem rowP : Row Tryz.prog 62 23 (.slice none 0 0) 1 24 := ⟨Tryz.underlying62, info_parts (by kernel_rfl), rfl, by decide, by decide⟩
/-- A list of numbers that came in. -/
def Ints (w : World) (v : Value) (zs : List Int) : Prop := ∃ A c, v = .slice A zs.length c ∧ (A = none → zs = []) ∧ zs.length ≤ c ∧ c ≤ maxLen ∧ ∀ j z, zs[j]? = some z → ∃ b o, A = some ⟨b, o, none⟩ ∧ w.cell? ⟨b, o + j, none⟩ = some (.int .i64 z)
theorem Ints.below {w w' : World} {v : Value} {zs : List Int} (h : Ints w v zs) (hb : Below w.heap.size w w') : Ints w' v zs := by
  obtain ⟨A, c, h1, h2, h3, h4, h5⟩ := h
  exact ⟨A, c, h1, h2, h3, h4, fun j z hj => by obtain ⟨b, o, e, hc⟩ := h5 j z hj; exact ⟨b, o, e, Below.keeps hb hc⟩⟩
theorem part_take {w : World} {A : Option Addr} {c k : Nat} {l : B} (h : Part w (.slice A l.length c, l)) (hk : k ≤ l.length) : Part w (.slice A k c, l.take k) := by
  refine ⟨rd_take h.1 hk, fun n' c' e => ?_⟩
  simp only [Value.slice.injEq] at e
  obtain ⟨rfl, _, rfl⟩ := e
  exact h.2 _ _ rfl
theorem part_drop {w : World} {b o c k : Nat} {l : B} (h : Part w (.slice (some ⟨b, o, none⟩) l.length c, l)) (hk : k ≤ l.length) :
    Part w (.slice (some ⟨b, o + k, none⟩) (l.length - k) (c - k), l.drop k) := by
  refine ⟨?_, fun n' c' e => by simp at e⟩
  obtain ⟨_, A, c', h2, h3, h4, h5, h6⟩ := h.1
  cases h2
  have hl : (l.drop k).length = l.length - k := List.length_drop ..
  refine ⟨by rw [bytesV_len]; omega, _, _, by rw [hl], by simp only at h3 ⊢; omega, by omega, (fun h => by cases h), fun a ha => ?_⟩
  cases ha
  refine ⟨rfl, fun j u hj => ?_⟩
  have := (h6 ⟨b, o, none⟩ rfl).2 (k + j) u (by unfold bytesV at hj ⊢; rw [List.getElem?_map] at hj ⊢; rwa [List.getElem?_drop] at hj)
  rw [← Nat.add_assoc] at this; exact this

/-- A part of bytes, wherever these are read. -/
def PartOf (v : Value) (l : B) (p : Value × B) : Prop := ∀ W, Part W (v, l) → Part W p

theorem flatP_push (vs : List (Value × B)) (v : Value) (l : B) : flatP (vs ++ [(v, l)]) = flatP vs ++ l := by simp [flatP]
theorem part_empty (w : World) (b o : Nat) : Part w (.slice (some ⟨b, o, none⟩) 0 0, []) :=
  ⟨⟨rfl, _, _, rfl, Nat.le_refl _, by decide, fun _ => rfl, fun a ha => by cases ha; exact ⟨rfl, fun j u hj => by cases hj⟩⟩, fun n c e => by cases e⟩
theorem own_part2 {w : World} {v : Value} {l : B} (h : Rd w 1 v l.length (bytesV l)) (hN : ∀ n c, v = .slice none n c → c = 0) :
    (v = .slice none 0 0 ∧ l = []) ∨ ∃ b o c, v = .slice (some ⟨b, o, none⟩) l.length c ∧ ∀ j u, (bytesV l)[j]? = some u → w.cell? ⟨b, o + j, none⟩ = some u := by
  obtain ⟨_, A, c, rfl, _, _, h5, h6⟩ := h
  cases A with
  | none =>
    have h0 := h5 rfl
    have hc := hN _ _ rfl
    subst hc
    exact .inl ⟨by rw [h0], List.eq_nil_of_length_eq_zero h0⟩
  | some a =>
    obtain ⟨hsp, hcl⟩ := h6 a rfl
    obtain ⟨b, o, q⟩ := a
    simp only at hsp
    subst hsp
    exact .inr ⟨b, o, c, rfl, hcl⟩
theorem oneCell_sl (A : Option Addr) (n c : Nat) : ∀ u ∈ [Value.slice A n c], u.oneCell' = true := by intro u hu; simp at hu; subst hu; rfl

end Go.Proofs.YtgdelmkgdfhdpaaGreatDoor
namespace Go.Proofs.YtgdelmkgdfhdpaaGreatDoor
open Go.RowKit
set_option linter.unusedVariables false
set_option linter.unusedSimpArgs false
set_option maxRecDepth 100000

/-- An answer. -/
structure Ans where
  s : Int
  h : List (B × B)
  b : B
def noAns : Ans := ⟨0, [], []⟩
/-- The status that a first line tells; 0: none. -/
def statusL (f : B) : Nat := match wordsT.find? (fun p => firstA p.1.toNat == f) with
  | some p => p.1.toNat
  | none => 0
def clPre : B := [99, 111, 110, 116, 101, 110, 116, 45, 108, 101, 110, 103, 116, 104, 58, 32]
def digL (d : B) : Int := if 0 ≤ numL d ∧ Lib.decDigits (numL d).toNat = d then numL d else -1
/-- The number that a head's last line tells; -1: none. -/
def lenL (s : B) : Int := if clPre.isPrefixOf s then digL (s.drop 16) else -1
def colL : B := [58, 32]
def fieldA (s : B) : Option (B × B) :=
  if whereL colL s < s.length ∧ writtenL (s.take (whereL colL s)) (s.drop (whereL colL s + 2)) = true then some (s.take (whereL colL s), s.drop (whereL colL s + 2)) else none
def fieldsA : List B → Option (List (B × B))
  | [] => some []
  | s :: l => match fieldA s with
    | none => none
    | some h => match fieldsA l with
      | none => none
      | some t => some (h :: t)
def lastL (l : List B) : B := l.getLastD []
def bodyA (st : Nat) (l : List B) : Option (List (B × B) × Nat) :=
  if 32 < l.length then none
  else if st = 101 then (fieldsA l).map fun h => (h, 0)
  else if l = [] then none
  else if lenL (lastL l) < 0 then none
  else (fieldsA l.dropLast).map fun h => (h, (lenL (lastL l)).toNat)
def headR (ls : List B) : Option (Nat × List (B × B) × Nat) :=
  if statusL (ls.headD []) = 0 then none else (bodyA (statusL (ls.headD [])) ls.tail).map fun p => (statusL (ls.headD []), p.1, p.2)
def endR (l : B) (k : Nat) : Option (Nat × List (B × B) × Nat) → Ans × Nat × Nat
  | none => (noAns, 0, 80)
  | some (s, h, n) => if 32768 < n then (noAns, 0, 81) else if l.length - k - 4 < n then (noAns, 0, 2) else (⟨s, h, (l.drop (k + 4)).take n⟩, k + 4 + n, 0)
/-- The answer with which bytes begin, how many it has, and why there is none. -/
def readA (l : B) : Ans × Nat × Nat :=
  if 8192 < whereL crL l ∧ (whereL crL l < l.length ∨ 8196 ≤ whereL crL l) then (noAns, 0, 80)
  else if whereL crL l = l.length then (noAns, 0, 2)
  else endR l (whereL crL l) (headR (cutL (l.take (whereL crL l))))

/-- Digits. -/
theorem dec_digitR : ∀ n, n < 10 → isB 1 (UInt8.ofNat (48 + n)) = true ∧ (UInt8.ofNat (48 + n)).toNat - 48 = n := by decide
theorem dec_lawR : ∀ n, (Lib.decDigits n).all (isB 1) = true ∧ numF (Lib.decDigits n) = n ∧ 1 ≤ (Lib.decDigits n).length := by
  intro n
  induction n using Nat.strongRecOn with
  | _ n ih =>
    rw [Lib.decDigits]
    by_cases h : n < 10
    · rw [dif_pos h]
      obtain ⟨d1, d2⟩ := dec_digitR n h
      generalize UInt8.ofNat (48 + n) = c at *
      exact ⟨by simp [d1], by simp [numF, d2], by simp⟩
    · rw [dif_neg h]
      obtain ⟨i1, i2, i3⟩ := ih (n / 10) (by omega)
      obtain ⟨d1, d2⟩ := dec_digitR (n % 10) (by omega)
      generalize UInt8.ofNat (48 + n % 10) = c at *
      exact ⟨by simp only [List.all_append, i1]; simp [d1], by rw [numF_snoc, i2, d2]; omega, by simp⟩
theorem num_dec (n : Nat) (hn : n < 1000000000) : numL (Lib.decDigits n) = n := by
  obtain ⟨h1, h2, h3⟩ := dec_lawR n
  have h4 := dec_lenC n 8 (by omega)
  unfold numL allL
  rw [h1, h2]
  simp [h3, h4]
theorem dig_dec (n : Nat) (hn : n < 1000000000) : digL (Lib.decDigits n) = n := by
  unfold digL
  rw [num_dec n hn]
  simp
theorem dec3_law (n : Nat) (h1 : 100 ≤ n) (h2 : n < 1000) : Lib.decDigits n = dec3 n := by
  rw [Lib.decDigits, dif_neg (by omega), Lib.decDigits, dif_neg (by omega), Lib.decDigits, dif_pos (by omega)]
  unfold dec3
  rw [Nat.div_div_eq_div_mul]
  rfl
def firstD (n : Nat) : B := httpL ++ dec3 n ++ [32] ++ reasonL n
theorem firstD_law (n : Nat) (h1 : 100 ≤ n) (h2 : n < 1000) : firstA n = firstD n := by unfold firstA firstD; rw [dec3_law n h1 h2]
theorem word_lt : ∀ p ∈ wordsT, 101 ≤ p.1 ∧ p.1 ≤ 507 := by decide +kernel
theorem statusD (f : B) : statusL f = match wordsT.find? (fun p => firstD p.1.toNat == f) with | some p => p.1.toNat | none => 0 := by
  unfold statusL
  have e : wordsT.find? (fun p => firstA p.1.toNat == f) = wordsT.find? (fun p => firstD p.1.toNat == f) := by
    have : ∀ l : List (Int × B), (∀ p ∈ l, 101 ≤ p.1 ∧ p.1 ≤ 507) → l.find? (fun p => firstA p.1.toNat == f) = l.find? (fun p => firstD p.1.toNat == f) := by
      intro l
      induction l with
      | nil => intro _; rfl
      | cons p l ih =>
        intro h
        have hp := h p (List.mem_cons_self ..)
        rw [List.find?_cons, List.find?_cons, firstD_law p.1.toNat (by omega) (by omega), ih fun q hq => h q (List.mem_cons_of_mem _ hq)]
    exact this _ word_lt
  rw [e]
theorem status_words : ∀ p ∈ wordsT, (match wordsT.find? (fun q => firstD q.1.toNat == firstD p.1.toNat) with | some q => q.1.toNat | none => 0) = p.1.toNat ∧ (13 : UInt8) ∉ firstD p.1.toNat := by decide +kernel
theorem word_of {n : Nat} (h : reasonL n ≠ []) : ∃ p ∈ wordsT, p.1 = n := by
  unfold reasonL at h
  cases hf : wordsT.find? (fun p => p.1 == (n : Int)) with
  | none => rw [hf] at h; exact absurd rfl h
  | some p =>
    have hm := List.mem_of_find?_eq_some hf
    have hs := List.find?_some hf
    simp only [beq_iff_eq] at hs
    exact ⟨p, hm, hs⟩
theorem status_law {n : Nat} (h : reasonL n ≠ []) : statusL (firstA n) = n ∧ (13 : UInt8) ∉ firstA n ∧ firstA n ≠ [] := by
  obtain ⟨p, hp, he⟩ := word_of h
  have hb := word_lt p hp
  have hn : p.1.toNat = n := by omega
  obtain ⟨h1, h2⟩ := status_words p hp
  rw [hn] at h1 h2
  rw [statusD, firstD_law n (by omega) (by omega)]
  exact ⟨h1, h2, by unfold firstD httpL; simp⟩

/-- A header's line; lines put together. -/
def lineB (h : B × B) : B := h.1 ++ 58 :: 32 :: h.2
def joinC : List B → B
  | [] => []
  | [x] => x
  | x :: y :: t => x ++ 13 :: 10 :: joinC (y :: t)
theorem where_skipC (c : UInt8) (t : B) : ∀ a s : B, c ∉ a → whereL (c :: t) (a ++ s) = a.length + whereL (c :: t) s := by
  intro a
  induction a with
  | nil => intro s _; simp
  | cons d a ih =>
    intro s h
    simp only [List.mem_cons, not_or] at h
    have hp : (c :: t).isPrefixOf (d :: (a ++ s)) = false := by simp [List.isPrefixOf, h.1]
    rw [List.cons_append, whereL, hp, List.length_cons, ih s h.2]; simp; omega
theorem all_not {k : Nat} {c : UInt8} {l : B} (h : l.all (isB k) = true) (hc : isB k c = false) : c ∉ l := fun hm => by
  have := List.all_eq_true.1 h c hm
  rw [hc] at this
  cases this
theorem written_facts {n v : B} (h : writtenL n v = true) : (58 : UInt8) ∉ n ∧ (13 : UInt8) ∉ n ∧ (13 : UInt8) ∉ v ∧ n ≠ [] := by
  unfold writtenL tokenL valueL at h
  simp only [Bool.and_eq_true, decide_eq_true_eq] at h
  obtain ⟨⟨⟨⟨⟨h1, _⟩, h2⟩, _⟩, _⟩, _, h3⟩ := h
  exact ⟨all_not h2 (by decide), all_not h2 (by decide), all_not h3 (by decide), fun e => by rw [e] at h1; simp at h1⟩
theorem field_line {h : B × B} (hw : writtenL h.1 h.2 = true) : fieldA (lineB h) = some h := by
  obtain ⟨h1, _⟩ := written_facts hw
  have e : whereL colL (lineB h) = h.1.length := by
    unfold lineB colL
    rw [where_skipC 58 [32] _ _ h1, whereL, if_pos (by simp [List.isPrefixOf])]; rfl
  have e1 : (lineB h).take h.1.length = h.1 := by unfold lineB; rw [List.take_left]
  have e2 : (lineB h).drop (h.1.length + 2) = h.2 := by unfold lineB; rw [← List.drop_drop, List.drop_left]; rfl
  unfold fieldA
  rw [e, e1, e2, if_pos ⟨by simp [lineB], hw⟩]
theorem fields_lines : ∀ hs : List (B × B), okH hs = true → fieldsA (hs.map lineB) = some hs
  | [], _ => rfl
  | h :: t, ho => by
    unfold okH at ho
    simp only [List.all_cons, Bool.and_eq_true] at ho
    rw [List.map_cons, fieldsA, field_line ho.1]
    simp only
    rw [fields_lines t ho.2]
def Lok (ls : List B) : Prop := ∀ x ∈ ls, (13 : UInt8) ∉ x ∧ x ≠ []
theorem joinC_head (y : B) (t : List B) (hy : (13 : UInt8) ∉ y ∧ y ≠ []) : ∃ c r, joinC (y :: t) = c :: r ∧ c ≠ 13 := by
  obtain ⟨h1, h2⟩ := hy
  cases y with
  | nil => exact absurd rfl h2
  | cons c y =>
    have hc : c ≠ 13 := fun e => h1 (by rw [e]; simp)
    cases t with
    | nil => exact ⟨c, y, rfl, hc⟩
    | cons z t => exact ⟨c, _, rfl, hc⟩
theorem where_join (r : B) : ∀ ls : List B, ls ≠ [] → Lok ls → whereL crL (joinC ls ++ (crL ++ r)) = (joinC ls).length
  | [], h, _ => absurd rfl h
  | [x], _, ho => by
    have h13 := (ho x (by simp)).1
    show whereL crL (x ++ (crL ++ r)) = x.length
    rw [where_skip4 _ _ h13]
    have : whereL crL (crL ++ r) = 0 := by
      show whereL crL (13 :: 10 :: 13 :: 10 :: r) = 0
      rw [whereL, if_pos (by simp [crL, List.isPrefixOf])]
    omega
  | x :: y :: t, _, ho => by
    have h13 := (ho x (by simp)).1
    have ih := where_join r (y :: t) (by simp) (fun z hz => ho z (by simp at hz ⊢; exact .inr hz))
    obtain ⟨c, q, hj, hc⟩ := joinC_head y t (ho y (by simp))
    have e : joinC (x :: y :: t) ++ (crL ++ r) = x ++ (13 :: 10 :: (joinC (y :: t) ++ (crL ++ r))) := by simp [joinC]
    rw [e, where_skip4 _ _ h13]
    have e2 : (joinC (x :: y :: t)).length = x.length + (2 + (joinC (y :: t)).length) := by simp [joinC]; omega
    rw [e2, ← ih, hj, List.cons_append, where_crlf c _ hc]
theorem cut_join : ∀ ls : List B, ls ≠ [] → Lok ls → cutL (joinC ls) = ls
  | [], h, _ => absurd rfl h
  | [x], _, ho => cut_last x (ho x (by simp)).1
  | x :: y :: t, _, ho => by
    have h13 := (ho x (by simp)).1
    have ih := cut_join (y :: t) (by simp) (fun z hz => ho z (by simp at hz ⊢; exact .inr hz))
    show cutL (x ++ 13 :: 10 :: joinC (y :: t)) = _
    rw [cut_cons _ _ h13, ih]
theorem where_cut (t : B) : ∀ (l : B) (k : Nat), k < whereL t l + t.length → k ≤ l.length → whereL t (l.take k) = k
  | [], k, _, hk => by simp at hk; subst hk; rfl
  | c :: r, 0, _, _ => rfl
  | c :: r, k + 1, h, hk => by
    rw [List.take_succ_cons]
    by_cases hp : t.isPrefixOf (c :: r.take k) = true
    · have h1 := List.isPrefixOf_iff_prefix.1 hp
      have h2 : t <+: c :: r := h1.trans (by rw [← List.take_succ_cons]; exact List.take_prefix _ _)
      have h3 := h1.length_le
      have h4 : whereL t (c :: r) = 0 := by rw [whereL, if_pos (List.isPrefixOf_iff_prefix.2 h2)]
      rw [List.length_cons, List.length_take] at h3
      simp at hk
      omega
    · rw [whereL, if_neg hp]
      have ih := where_cut t r k (by
        by_cases hq : t.isPrefixOf (c :: r) = true
        · rw [whereL, if_pos hq] at h; omega
        · rw [whereL, if_neg hq] at h; omega) (by simpa using hk)
      rw [ih]
theorem read_join (ls : List B) (x : B) (hne : ls ≠ []) (ho : Lok ls) (hl : (joinC ls).length ≤ 8192) :
    readA (joinC ls ++ (crL ++ x)) = endR (joinC ls ++ (crL ++ x)) (joinC ls).length (headR ls) := by
  have hw := where_join x ls hne ho
  unfold readA
  have hlen : (joinC ls ++ (crL ++ x)).length = (joinC ls).length + (4 + x.length) := by simp [crL]; omega
  rw [hw, if_neg (by omega), if_neg (by omega), List.take_left, cut_join ls hne ho]
theorem read_short (ls : List B) (x : B) (k : Nat) (hne : ls ≠ []) (ho : Lok ls) (hl : (joinC ls).length ≤ 8192) (hk : k < (joinC ls).length + 4) :
    readA ((joinC ls ++ (crL ++ x)).take k) = (noAns, 0, 2) := by
  have hlen : (joinC ls ++ (crL ++ x)).length = (joinC ls).length + (4 + x.length) := by simp [crL]; omega
  have hw := where_cut crL (joinC ls ++ (crL ++ x)) k (by rw [where_join x ls hne ho]; simp [crL]; omega) (by omega)
  have hkl : ((joinC ls ++ (crL ++ x)).take k).length = k := by rw [List.length_take]; omega
  unfold readA
  rw [hw, hkl, if_neg (by omega), if_pos rfl]
/-- The lines of an answer's head. -/
def linesA (s : Nat) (hs : List (B × B)) (n : Nat) : List B := firstA s :: (moreH s hs n).map lineB
theorem linesH_join : ∀ (x : B) (hs : List (B × B)), x ++ [13, 10] ++ linesH hs = joinC (x :: hs.map lineB) ++ [13, 10]
  | x, [] => by simp [linesH, joinC]
  | x, h :: t => by
    have e : linesH (h :: t) = lineB h ++ [13, 10] ++ linesH t := by simp [linesH, lineH, lineB]
    rw [e, linesH_join (lineB h) t]
    show _ = (x ++ 13 :: 10 :: joinC (lineB h :: t.map lineB)) ++ [13, 10]
    simp
theorem head_join (s : Nat) (hs : List (B × B)) (n : Nat) : headA s hs n = joinC (linesA s hs n) ++ [13, 10] := by
  unfold headA linesA
  rw [Int.toNat_natCast]
  exact linesH_join _ _
theorem lok_lines {s : Nat} {hs : List (B × B)} {n : Nat} (hr : reasonL s ≠ []) (ho : okH hs = true) : Lok (linesA s hs n) := by
  intro x hx
  unfold linesA at hx
  rcases List.mem_cons.1 hx with rfl | hx
  · exact (status_law hr).2
  · obtain ⟨h, hm, rfl⟩ := List.mem_map.1 hx
    have hh : h ∈ hs ∨ h = (clN, Lib.decDigits n) := by
      unfold moreH at hm
      split at hm
      · exact .inl hm
      · simpa using hm
    rcases hh with hh | rfl
    · obtain ⟨h1, h2, h3, h4⟩ := written_facts (List.all_eq_true.1 ho h hh)
      exact ⟨by unfold lineB; simp [h2, h3], by unfold lineB; simp⟩
    · have := all_not (dec_lawR n).1 (show isB 1 13 = false by decide)
      exact ⟨by unfold lineB clN; simp [this], by unfold lineB; simp⟩
theorem head_lines {s : Nat} {hs : List (B × B)} {b : B} (hr : reasonL s ≠ []) (ho : okH hs = true) (hl : hs.length < 32) (hb : b.length ≤ 32768) (h1 : s = 101 → b = []) :
    headR (linesA s hs b.length) = some (s, hs, b.length) := by
  obtain ⟨p, hp, he⟩ := word_of hr
  have hpb := word_lt p hp
  have hst := (status_law hr).1
  unfold headR linesA
  rw [List.headD_cons, List.tail_cons, hst, if_neg (by omega)]
  by_cases h : s = 101
  · have hb0 := h1 h
    subst h hb0
    have em : moreH ((101 : Nat) : Int) hs ([] : B).length = hs := by unfold moreH; rw [if_pos (by decide)]
    rw [em]
    unfold bodyA
    rw [if_neg (by simp; omega), if_pos rfl, fields_lines _ ho]
    rfl
  · have h' : ¬ (s : Int) = 101 := by omega
    have em : moreH (s : Int) hs b.length = hs ++ [(clN, Lib.decDigits b.length)] := by unfold moreH; rw [if_neg h']
    rw [em, List.map_append, List.map_cons, List.map_nil]
    unfold bodyA
    have e1 : lastL (hs.map lineB ++ [lineB (clN, Lib.decDigits b.length)]) = lineB (clN, Lib.decDigits b.length) := by unfold lastL; simp
    have e2 : lenL (lineB (clN, Lib.decDigits b.length)) = b.length := by
      unfold lenL
      have e3 : lineB (clN, Lib.decDigits b.length) = clPre ++ Lib.decDigits b.length := by simp [lineB, clN, clPre]
      have e4 : clPre.isPrefixOf (clPre ++ Lib.decDigits b.length) = true := List.isPrefixOf_iff_prefix.2 (List.prefix_append _ _)
      rw [e3, e4, if_pos rfl]
      have e5 : (clPre ++ Lib.decDigits b.length).drop 16 = Lib.decDigits b.length := by
        have : (16 : Nat) = clPre.length := rfl
        rw [this, List.drop_left]
      rw [e5, dig_dec _ (by omega)]
    rw [e1, e2, if_neg (by simp; omega), if_neg h, if_neg (by simp), if_neg (by omega), List.dropLast_concat, fields_lines _ ho]
    simp
/-- What is written is read as it was, whatever stands behind; a beginning of it is too short. -/
theorem back_law (s : Int) (hs : List (B × B)) (b W : B) (h : writeE s hs b = (0, W)) :
    (∀ x, readA (W ++ x) = (⟨s, hs, b⟩, W.length, 0)) ∧ (∀ k, k < W.length → readA (W.take k) = (noAns, 0, 2)) ∧ 1 ≤ W.length := by
  unfold writeE at h
  by_cases hr : reasonL s = []
  · rw [if_pos hr] at h; cases h
  rw [if_neg hr] at h
  by_cases ho : okH hs = false
  · rw [if_pos ho] at h; cases h
  rw [if_neg ho] at h
  have ho' : okH hs = true := by simpa using ho
  by_cases h32 : 32 ≤ hs.length
  · rw [if_pos h32] at h; cases h
  rw [if_neg h32] at h
  by_cases hb : 32768 < b.length ∨ (s = 101 ∧ 0 < b.length)
  · rw [if_pos hb] at h; cases h
  rw [if_neg hb] at h
  split at h
  · cases h
  rename_i hlong
  obtain ⟨n, rfl, hn1, hn2⟩ := reason_some hr
  have hW : headA n hs b.length ++ [13, 10] ++ b = W := (Prod.mk.inj h).2
  have hj := head_join n hs b.length
  have e : ∀ x, W ++ x = joinC (linesA n hs b.length) ++ (crL ++ (b ++ x)) := fun x => by rw [← hW, hj]; simp [crL]
  have hJ : (joinC (linesA n hs b.length)).length ≤ 8192 := by rw [hj, List.length_append] at hlong; simp at hlong; omega
  have hne : linesA n hs b.length ≠ [] := by unfold linesA; simp
  have hok := lok_lines (n := b.length) hr ho'
  have hH := head_lines (b := b) hr ho' (by omega) (by omega) (fun h => by
    have : ¬ 0 < b.length := fun h0 => hb (.inr ⟨by omega, h0⟩)
    exact List.eq_nil_of_length_eq_zero (by omega))
  have hWl : W.length = (joinC (linesA n hs b.length)).length + 4 + b.length := by
    have := congrArg List.length (e [])
    simp [crL] at this
    omega
  generalize linesA n hs b.length = ls at *
  refine ⟨fun x => ?_, fun k hk => ?_, by omega⟩
  · rw [e x, read_join ls _ hne hok hJ, hH]
    have hd : (joinC ls ++ (crL ++ (b ++ x))).drop ((joinC ls).length + 4) = b ++ x := by rw [← List.drop_drop, List.drop_left]; rfl
    have hl : (joinC ls ++ (crL ++ (b ++ x))).length = (joinC ls).length + (4 + (b.length + x.length)) := by simp [crL]; omega
    unfold endR
    simp only
    rw [if_neg (by omega), if_neg (by omega), hd, List.take_left, hWl]
  · have e0 : W = joinC ls ++ (crL ++ b) := by have := e []; simpa using this
    by_cases hk2 : k < (joinC ls).length + 4
    · rw [e0]
      exact read_short ls b k hne hok hJ hk2
    · have ek : W.take k = joinC ls ++ (crL ++ b.take (k - (joinC ls).length - 4)) := by
        rw [e0, List.take_append, List.take_append, List.take_of_length_le (by omega), List.take_of_length_le (by simp [crL]; omega)]
        rfl
      rw [ek, read_join ls _ hne hok hJ, hH]
      have hl : (joinC ls ++ (crL ++ b.take (k - (joinC ls).length - 4))).length = k := by
        rw [← ek, List.length_take]; omega
      unfold endR
      simp only
      rw [if_neg (by omega), hl, if_pos (by omega)]
end Go.Proofs.YtgdelmkgdfhdpaaGreatDoor
