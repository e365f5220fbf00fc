/- The plain law of chunks: a body in chunks is the body that comes at once. Conditions: the body is no longer than 32768 bytes. -/
import Derived.Test.YtmhgnaemafohfaaDoorLawE
namespace Go.Proofs.YtmhgnaemafohfaaDoor
open Go.RowKit
set_option linter.unusedVariables false
set_option linter.unusedSimpArgs false
set_option maxRecDepth 100000

theorem where_skip (t : B) : ∀ a s : B, (13 : UInt8) ∉ a → whereL (13 :: t) (a ++ s) = a.length + whereL (13 :: t) s := by
  intro a
  induction a with
  | nil => intro s _; simp
  | cons c a ih =>
    intro s h
    simp only [List.mem_cons, not_or] at h
    have hp : ((13 : UInt8) :: t).isPrefixOf (c :: (a ++ s)) = false := by simp [List.isPrefixOf, h.1]
    rw [List.cons_append, whereL, hp, List.length_cons, ih s h.2]; simp; omega
theorem where_skip4 (a s : B) (h : (13 : UInt8) ∉ a) : whereL crL (a ++ s) = a.length + whereL crL s := where_skip [10, 13, 10] a s h
theorem where_crlf (c : UInt8) (r : B) (hc : c ≠ 13) : whereL crL (13 :: 10 :: c :: r) = 2 + whereL crL (c :: r) := by
  have hc' : ¬ (13 : UInt8) = c := fun e => hc e.symm
  have h1 : crL.isPrefixOf (13 :: 10 :: c :: r) = false := by simp [crL, List.isPrefixOf, hc']
  have h2 : crL.isPrefixOf (10 :: c :: r) = false := by simp [crL, List.isPrefixOf]
  rw [whereL, h1, whereL, h2]; simp; omega
theorem cut_cons (a s : B) (h : (13 : UInt8) ∉ a) : cutL (a ++ 13 :: 10 :: s) = a :: cutL s := by
  have hw : whereL [13, 10] (a ++ 13 :: 10 :: s) = a.length := by
    rw [where_skip _ _ _ h, whereL, if_pos (by simp [List.isPrefixOf])]; rfl
  rw [cutL, dif_pos (by rw [hw]; simp), hw, List.take_left]
  have : (a ++ 13 :: 10 :: s).drop (a.length + 2) = s := by rw [← List.drop_drop, List.drop_left]; rfl
  rw [this]
theorem cut_last (a : B) (h : (13 : UInt8) ∉ a) : cutL a = [a] := by
  have hw : whereL [13, 10] a = a.length := by
    have := where_skip [10] a [] h
    rw [List.append_nil] at this; rw [this]; rfl
  rw [cutL, dif_neg (by rw [hw]; omega)]
def ln1 : B := [80, 79, 83, 84, 32, 47, 120, 32, 72, 84, 84, 80, 47, 49, 46, 49]
def ln2 : B := [104, 111, 115, 116, 58, 32, 97]
def head3 (x : B) : B := ln1 ++ 13 :: 10 :: (ln2 ++ 13 :: 10 :: x)
theorem head3_law (x rest : B) (c : UInt8) (r : B) (hx : x = c :: r) (h13 : (13 : UInt8) ∉ x) (h10 : (10 : UInt8) ∉ x) (hl : x.length ≤ 8000) (hf : fieldOk x = true) :
    refParse (head3 x ++ crL ++ rest) = parse3 [80, 79, 83, 84] [47, 120] [(hoL, [97]), fieldOf x] (27 + x.length) (bodyL [(hoL, [97]), fieldOf x] rest) := by
  have hc13 : c ≠ 13 := fun e => h13 (by rw [hx, e]; simp)
  have e1 : head3 x ++ crL ++ rest = ln1 ++ 13 :: 10 :: 104 :: ([111, 115, 116, 58, 32, 97] ++ 13 :: 10 :: c :: (r ++ (crL ++ rest))) := by
    unfold head3; rw [hx]; simp [ln2, ln1]
  have hw : whereL crL (head3 x ++ crL ++ rest) = 27 + x.length := by
    rw [e1, where_skip4 ln1 _ (by decide), where_crlf _ _ (by decide)]
    have e2 : (104 : UInt8) :: ([111, 115, 116, 58, 32, 97] ++ 13 :: 10 :: c :: (r ++ (crL ++ rest))) = ln2 ++ 13 :: 10 :: c :: (r ++ (crL ++ rest)) := rfl
    rw [e2, where_skip4 ln2 _ (by decide), where_crlf _ _ hc13]
    have e3 : c :: (r ++ (crL ++ rest)) = x ++ (crL ++ rest) := by rw [hx]; rfl
    rw [e3, where_skip4 _ _ h13]
    have e4 : whereL crL (crL ++ rest) = 0 := by
      show whereL (13 :: [10, 13, 10]) (13 :: 10 :: 13 :: 10 :: rest) = 0
      rw [whereL, if_pos (by simp [List.isPrefixOf])]
    rw [e4]; simp [ln1, ln2]; omega
  have hlen : (head3 x).length = 27 + x.length := by simp [head3, ln1, ln2]; omega
  have ht : (head3 x ++ crL ++ rest).take (27 + x.length) = head3 x := by
    rw [List.append_assoc, ← hlen, List.take_left]
  have hd : (head3 x ++ crL ++ rest).drop (27 + x.length + 4) = rest := by
    rw [← hlen, show (head3 x).length + 4 = (head3 x ++ crL).length by simp [crL], List.drop_left]
  have hcut : cutL (head3 x) = [ln1, ln2, x] := by
    unfold head3; rw [cut_cons _ _ (by decide), cut_cons _ _ (by decide), cut_last _ h13]
  have hcr : ([ln1, ln2, x] : List B).any hasCR = false := by
    have hx2 : hasCR x = false := by simp [hasCR, memB, h13, h10]
    simp only [List.any_cons, hx2, List.any_nil]; decide
  unfold refParse
  rw [hw, ht, hd, hcut, hcr]
  rw [if_neg (by omega), if_neg (by rw [List.length_append, List.length_append, hlen]; have e4 : crL.length = 4 := rfl; omega), if_neg (by decide)]
  unfold parse2
  have hl1 : lineL (([ln1, ln2, x] : List B).headD []) = ([80, 79, 83, 84], [47, 120], 0) := rfl
  have hf1 : fieldOk ln2 = true := by decide
  have hf2 : fieldOf ln2 = (hoL, [97]) := by decide
  have hfl : fieldsL 0 ([ln1, ln2, x] : List B).tail = ([(hoL, [97]), fieldOf x], 0) := by
    show fieldsL 0 [ln2, x] = _
    rw [fieldsL, if_neg (by decide), if_neg (by rw [hf1]; decide), fieldsL, if_neg (by decide), if_neg (by rw [hf]; decide), fieldsL, hf2]; rfl
  rw [hl1, hfl]; rfl
/-- A length's line. -/
def clLine (d : B) : B := clL ++ 58 :: 32 :: d
theorem bare_of (d : B) (h : ∀ c ∈ d, isB 5 c = false) : bareL (32 :: d) = d := by
  have q : ∀ l : B, (∀ c ∈ l, isB 5 c = false) → l.dropWhile (isB 5) = l := by
    intro l hl
    cases l with
    | nil => rfl
    | cons c r => rw [List.dropWhile_cons, if_neg (by rw [hl c (by simp)]; decide)]
  unfold bareL
  rw [List.dropWhile_cons, if_pos (by decide), q d h, q d.reverse (fun c hc => h c (by simpa using hc)), List.reverse_reverse]
theorem digit_facts {c : UInt8} (h : isB 1 c = true) : 48 ≤ c.toNat ∧ c.toNat ≤ 57 := by
  have : (48 ≤ (c.toNat : Int)) ∧ (c.toNat : Int) ≤ 57 := by simpa [isB, inB] using h
  omega
theorem digit_not {c k : UInt8} (h : isB 1 c = true) (hk : k.toNat < 48) : c ≠ k := by
  intro e; subst e; have := digit_facts h; omega
theorem digit_said {c : UInt8} (h : isB 1 c = true) : isB 6 c = true := by
  have := digit_facts h
  simp [isB, inB]; omega
theorem digit_gap {c : UInt8} (h : isB 1 c = true) : isB 5 c = false := by
  have := digit_facts h
  simp [isB]; omega
theorem clLine_ok (d : B) (h : d.all (isB 1) = true) (hl : d.length ≤ 9) : fieldOk (clLine d) = true ∧ fieldOf (clLine d) = (clL, d) := by
  have ha : ∀ c ∈ d, isB 1 c = true := fun c hc => by simpa using List.all_eq_true.1 h c hc
  have e1 : eatL 4 (clLine d) = 14 := rfl
  have e2 : (clLine d).drop 15 = 32 :: d := rfl
  have e3 : trimL (32 :: d) = d := by rw [trim_bare, bare_of d (fun c hc => digit_gap (ha c hc))]
  have e4 : (clLine d).length = d.length + 16 := by simp [clLine, clL]
  constructor
  · unfold fieldOk
    rw [e1, e2, e3, e4]
    have a6 : d.all (isB 6) = true := List.all_eq_true.2 fun c hc => digit_said (ha c hc)
    have g : (clLine d).getD 14 0 = 58 := rfl
    rw [g]
    simp [allL, a6]; omega
  · unfold fieldOf
    rw [e1, e2, e3]
    have : lowL ((clLine d).take 14) = clL := by
      have : (clLine d).take 14 = clL := rfl
      rw [this]; decide
    rw [this]
theorem plain_chunk (d body : B) (h : d.all (isB 1) = true) (h1 : 1 ≤ d.length) (hl : d.length ≤ 9) (hn : numF d = body.length) (hb : body.length ≤ 32768) :
    refParse (head3 (clLine d) ++ crL ++ body) = (⟨[80, 79, 83, 84], [47, 120], [(hoL, [97]), (clL, d)], body⟩, (head3 (clLine d) ++ crL ++ body).length, 0) := by
  obtain ⟨k1, k2⟩ := clLine_ok d h hl
  have ha : ∀ c ∈ d, isB 1 c = true := fun c hc => by simpa using List.all_eq_true.1 h c hc
  have e4 : (clLine d).length = d.length + 16 := by simp [clLine, clL]
  have n13 : (13 : UInt8) ∉ clLine d := by
    unfold clLine; simp only [List.mem_append, List.mem_cons, not_or]
    exact ⟨by decide, by decide, by decide, fun hm => digit_not (ha _ hm) (by decide) rfl⟩
  have n10 : (10 : UInt8) ∉ clLine d := by
    unfold clLine; simp only [List.mem_append, List.mem_cons, not_or]
    exact ⟨by decide, by decide, by decide, fun hm => digit_not (ha _ hm) (by decide) rfl⟩
  rw [head3_law (clLine d) body 99 ([111, 110, 116, 101, 110, 116, 45, 108, 101, 110, 103, 116, 104] ++ 58 :: 32 :: d) rfl n13 n10 (by omega) k1, k2]
  have v1 : valuesL [(hoL, [97]), (clL, d)] teL = [] := rfl
  have v2 : valuesL [(hoL, [97]), (clL, d)] hoL = [[97]] := rfl
  have v3 : valuesL [(hoL, [97]), (clL, d)] clL = [d] := by
    unfold valuesL
    have q1 : (hoL == clL) = false := by decide
    have q2 : (clL == clL) = true := by decide
    simp only [List.filter_cons, q1, q2, List.filter_nil, Bool.false_eq_true, if_false, if_true, List.map_cons, List.map_nil]
  have hbody : bodyL [(hoL, [97]), (clL, d)] body = (body, body.length, 0) := by
    unfold bodyL
    rw [v1, v2, v3]
    have hN : numL d = (body.length : Int) := by
      unfold numL allL; rw [h]; simp [h1, hl, hn]
    rw [if_neg (by simp), if_neg (by simp), if_neg (by simp)]
    show (if 0 = 1 then chunkL [] 0 body else plainL (numL d) body) = _
    rw [if_neg (by decide)]
    rw [hN]
    unfold plainL
    rw [if_neg (by omega), if_neg (by omega), if_neg (by omega)]
    simp
  rw [hbody]
  have hlen : (head3 (clLine d) ++ crL ++ body).length = 27 + (clLine d).length + 4 + body.length := by simp [head3, ln1, ln2, crL]; omega
  rw [hlen]; rfl
/-- A chunk's number. -/
def hexDig (n : Nat) : UInt8 := hexL.getD n 0
def hexD (n : Nat) : B := if n < 16 then [hexDig n] else hexD (n / 16) ++ [hexDig (n % 16)]
theorem hexDig_law : ∀ n, n < 16 → hexN (hexDig n) = n := by decide
theorem hexD_law : ∀ n, (∀ c ∈ hexD n, isHex c = true) ∧ hexF (hexD n) = n ∧ 1 ≤ (hexD n).length ∧ ∀ k, n < 16 ^ (k + 1) → (hexD n).length ≤ k + 1 := by
  intro n
  induction n using Nat.strongRecOn with
  | _ n ih =>
    rw [hexD]
    by_cases h : n < 16
    · rw [if_pos h]
      have := hexDig_law n h
      refine ⟨fun c hc => ?_, ?_, by simp, fun k _ => by simp⟩
      · simp only [List.mem_singleton] at hc; subst hc; simp [isHex, this, h]
      · simp [hexF, this]
    · rw [if_neg h]
      obtain ⟨i1, i2, i3, i4⟩ := ih (n / 16) (by omega)
      have := hexDig_law (n % 16) (by omega)
      refine ⟨fun c hc => ?_, ?_, by simp, fun k hk => ?_⟩
      · rcases List.mem_append.1 hc with hc | hc
        · exact i1 c hc
        · simp only [List.mem_singleton] at hc; subst hc; simp [isHex, this]; omega
      · unfold hexF at *
        rw [List.foldl_append, i2]; simp only [List.foldl_cons, List.foldl_nil, this]; omega
      · cases k with
        | zero => omega
        | succ k =>
          have := i4 k (by rw [Nat.pow_succ] at hk; omega)
          rw [List.length_append]; simp only [List.length_cons, List.length_nil]; omega
def chunkOf (p : B) : B := if p = [] then [] else hexD p.length ++ 13 :: 10 :: (p ++ [13, 10])
def codedL (ps : List B) : B := ps.flatMap chunkOf ++ [48, 13, 10, 13, 10]
theorem digits_app (d : B) (r : B) (hd : ∀ c ∈ d, isHex c = true) : digitsN (d ++ 13 :: r) = d.length := by
  unfold digitsN
  have h13 : isHex 13 = false := by decide
  induction d with
  | nil => rw [List.nil_append, List.takeWhile_cons, h13]; rfl
  | cons c d ih =>
    rw [List.cons_append, List.takeWhile_cons, hd c (by simp), if_pos rfl, List.length_cons, List.length_cons, ih fun x hx => hd x (by simp [hx])]
theorem ends_crlf (r : B) : endsL (13 :: 10 :: r) = 0 := rfl
theorem coded_law : ∀ (ps : List B) (acc : B) (p : Nat), acc.length + ps.flatten.length ≤ 32768 → chunkL acc p (codedL ps) = (acc ++ ps.flatten, p + (codedL ps).length, 0) := by
  intro ps
  induction ps with
  | nil =>
    intro acc p _
    rw [chunkL]
    have d1 : digitsN (codedL []) = 1 := by decide
    rw [d1]
    have d2 : hexF ((codedL []).take 1) = 0 := by decide
    rw [d2, if_neg (by decide), if_neg (by decide), if_neg (by decide), if_neg (by omega), if_neg (by omega), if_neg (by decide), if_pos rfl]
    simp [codedL]
  | cons q ps ih =>
    intro acc p hl
    by_cases hq : q = []
    · have e : codedL (q :: ps) = codedL ps := by simp [codedL, List.flatMap_cons, chunkOf, hq]
      rw [e, hq]; simpa using ih acc p (by simpa [hq] using hl)
    · have hq1 : 1 ≤ q.length := by cases q with | nil => exact absurd rfl hq | cons c r => simp
      rw [List.flatten_cons, List.length_append] at hl
      obtain ⟨i1, i2, i3, i4⟩ := hexD_law q.length
      have i4 := i4 3 (by omega)
      have e : codedL (q :: ps) = hexD q.length ++ 13 :: 10 :: (q ++ 13 :: 10 :: codedL ps) := by simp [codedL, List.flatMap_cons, chunkOf, hq]
      have dN : digitsN (codedL (q :: ps)) = (hexD q.length).length := by rw [e]; exact digits_app _ _ i1
      have eL : (codedL (q :: ps)).length = (hexD q.length).length + (q.length + ((codedL ps).length + 4)) := by rw [e]; simp; omega
      rw [chunkL, dN]
      have tk : (codedL (q :: ps)).take (hexD q.length).length = hexD q.length := by rw [e, List.take_left]
      have dr : ∀ k, (codedL (q :: ps)).drop ((hexD q.length).length + k) = (13 :: 10 :: (q ++ 13 :: 10 :: codedL ps)).drop k := fun k => by rw [e, ← List.drop_drop, List.drop_left]
      have dr0 : (codedL (q :: ps)).drop (hexD q.length).length = 13 :: 10 :: (q ++ 13 :: 10 :: codedL ps) := dr 0
      have dr2 : (codedL (q :: ps)).drop ((hexD q.length).length + 2) = q ++ 13 :: 10 :: codedL ps := dr 2
      have dr3 : (codedL (q :: ps)).drop ((hexD q.length).length + 2 + q.length) = 13 :: 10 :: codedL ps := by rw [← List.drop_drop, dr2, List.drop_left]
      have dr4 : (codedL (q :: ps)).drop ((hexD q.length).length + 4 + q.length) = codedL ps := by
        rw [show (hexD q.length).length + 4 + q.length = (hexD q.length).length + 2 + q.length + 2 by omega, ← List.drop_drop, dr3]; rfl
      rw [tk, i2, dr0, dr2, dr3, dr4, ends_crlf, ends_crlf, List.take_left]
      rw [if_neg (by omega), if_neg (by omega), if_neg (by simp), if_neg (by omega), if_neg (by omega), if_neg (by simp), if_neg (by omega), dif_neg (by omega)]
      rw [ih _ _ (by rw [List.length_append]; omega), eL]
      simp only [List.flatten_cons, List.append_assoc, Prod.mk.injEq, true_and, and_true]; omega
def ckLine : B := teL ++ 58 :: 32 :: [67, 104, 117, 110, 107, 101, 100]
theorem coded_chunk (ps : List B) (hl : ps.flatten.length ≤ 32768) :
    refParse (head3 ckLine ++ crL ++ codedL ps) = (⟨[80, 79, 83, 84], [47, 120], [(hoL, [97]), (teL, [67, 104, 117, 110, 107, 101, 100])], ps.flatten⟩, (head3 ckLine ++ crL ++ codedL ps).length, 0) := by
  have hlen : ∀ r : B, (head3 ckLine ++ crL ++ r).length = 27 + ckLine.length + 4 + r.length := fun r => by simp [head3, ln1, ln2, crL]; omega
  have k2 : fieldOf ckLine = (teL, [67, 104, 117, 110, 107, 101, 100]) := by decide
  rw [head3_law ckLine _ 116 [114, 97, 110, 115, 102, 101, 114, 45, 101, 110, 99, 111, 100, 105, 110, 103, 58, 32, 67, 104, 117, 110, 107, 101, 100] rfl (by decide) (by decide) (by decide) (by decide), k2]
  have v1 : valuesL [(hoL, [97]), (teL, [67, 104, 117, 110, 107, 101, 100])] teL = [[67, 104, 117, 110, 107, 101, 100]] := by decide
  have v2 : valuesL [(hoL, [97]), (teL, [67, 104, 117, 110, 107, 101, 100])] hoL = [[97]] := by decide
  have v3 : valuesL [(hoL, [97]), (teL, [67, 104, 117, 110, 107, 101, 100])] clL = [] := by decide
  have hbody : bodyL [(hoL, [97]), (teL, [67, 104, 117, 110, 107, 101, 100])] (codedL ps) = (ps.flatten, (codedL ps).length, 0) := by
    unfold bodyL
    rw [v1, v2, v3, if_neg (by decide), if_neg (by decide)]
    show (if 1 = 1 then chunkL [] 0 (codedL ps) else plainL 0 (codedL ps)) = _
    rw [if_pos rfl, coded_law ps [] 0 (by simpa using hl)]; simp
  rw [hbody, hlen]; rfl
end Go.Proofs.YtmhgnaemafohfaaDoor
