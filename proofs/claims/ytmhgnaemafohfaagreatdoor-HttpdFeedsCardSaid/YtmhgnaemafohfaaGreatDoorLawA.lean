/- The plain law of the machine behind the head: plain bytes, chunks (httpd against blotterref08). Conditions: none. -/
import Derived.Test.YtmhgnaemafohfaaGreatDoorMachK
namespace Go.Proofs.YtmhgnaemafohfaaGreatDoor
open Go.RowKit
set_option linter.unusedVariables false
set_option linter.unusedSimpArgs false
set_option maxRecDepth 100000

/-- What is left of a run: the body, the place behind it, the status. -/
def finB (p : Nat) (r : Nat × Nat × Mc) : B × Nat × Nat := if r.2.1 ≠ 0 then ([], 0, r.2.1) else (r.2.2.b, p + r.1, 0)
theorem finB_nil (p : Nat) (x : Mc) : finB p (runM x []) = ([], 0, 1) := by simp [finB, runM]
theorem finB_go {x : Mc} {c : UInt8} (h : stepSt x c = 1) (p : Nat) (l : B) : finB p (runM x (c :: l)) = finB (p + 1) (runM (stepX x c) l) := by
  have e : runM x (c :: l) = ((runM (stepX x c) l).1 + 1, (runM (stepX x c) l).2) := by rw [runM, if_pos h]
  rw [e]; unfold finB
  by_cases h2 : (runM (stepX x c) l).2.1 = 0
  · simp only [h2, ne_eq, not_true_eq_false, if_false]; rw [show p + ((runM (stepX x c) l).1 + 1) = p + 1 + (runM (stepX x c) l).1 by omega]
  · simp only [ne_eq, h2, not_false_eq_true, if_true]
theorem finB_bad {x : Mc} {c : UInt8} {n : Nat} (h : stepSt x c = n) (h0 : n ≠ 0) (h1 : n ≠ 1) (p : Nat) (l : B) : finB p (runM x (c :: l)) = ([], 0, n) := by
  subst h; rw [runM, if_neg h1]; simp [finB, h0]
theorem finB_end {x : Mc} {c : UInt8} (h : stepSt x c = 0) (p : Nat) (l : B) : finB p (runM x (c :: l)) = ((stepX x c).b, p + 1, 0) := by
  rw [runM, if_neg (by omega)]; simp [finB, h]

theorem ends_cases (l : B) : (endsL l = 0 ∧ ∃ r, l = 13 :: 10 :: r) ∨ (endsL l = 1 ∧ (l = [] ∨ l = [13])) ∨ (endsL l = 400 ∧ ((∃ c r, l = c :: r ∧ c ≠ 13) ∨ ∃ d r, l = 13 :: d :: r ∧ d ≠ 10)) := by
  have q : ∀ (c k : UInt8), c.toNat = k.toNat ↔ c = k := fun c k => ⟨fun h => UInt8.toNat_inj.1 h, fun h => h ▸ rfl⟩
  cases l with
  | nil => exact .inr (.inl ⟨rfl, .inl rfl⟩)
  | cons c l =>
    by_cases hc : c = 13
    · subst hc
      cases l with
      | nil => exact .inr (.inl ⟨rfl, .inr rfl⟩)
      | cons d r =>
        by_cases hd : d = 10
        · subst hd; exact .inl ⟨rfl, r, rfl⟩
        · refine .inr (.inr ⟨?_, .inr ⟨d, r, rfl, hd⟩⟩)
          have : ¬ d.toNat = 10 := fun h => hd ((q d 10).1 h)
          simp [endsL, ends1, this]
    · refine .inr (.inr ⟨?_, .inl ⟨c, l, rfl, hc⟩⟩)
      have : ¬ c.toNat = 13 := fun h => hc ((q c 13).1 h)
      simp [endsL, this]

/-- A line's end behind a chunk. -/
theorem lineC_law (x : Mc) (hx : x.st = .lineC) (p : Nat) (l : B) :
    finB p (runM x l) = if endsL l ≠ 0 then ([], 0, endsL l) else finB (p + 2) (runM { x with st := .sizes } (l.drop 2)) := by
  have s1 : ∀ c, stepSt x c = if c = 13 then 1 else 400 := fun c => by simp [stepSt, hx]
  have s2 : ∀ c, stepX x c = { x with st := .endC } := fun c => by simp [stepX, hx]
  have t1 : ∀ c, stepSt { x with st := .endC } c = if c = 10 then 1 else 400 := fun c => by simp [stepSt]
  have t2 : ∀ c, stepX { x with st := .endC } c = { x with st := .sizes } := fun c => by simp [stepX]
  rcases ends_cases l with ⟨h, r, rfl⟩ | ⟨h, rfl | rfl⟩ | ⟨h, ⟨c, r, rfl, hc⟩ | ⟨d, r, rfl, hd⟩⟩
  · rw [if_neg (by simp [h]), finB_go (by rw [s1]; rfl), s2, finB_go (by rw [t1]; rfl), t2]; rfl
  · rw [h, if_pos (by simp), finB_nil]
  · rw [h, if_pos (by simp), finB_go (by rw [s1]; rfl), finB_nil]
  · rw [h, if_pos (by simp), finB_bad (n := 400) (by rw [s1, if_neg hc]) (by simp) (by simp)]
  · rw [h, if_pos (by simp), finB_go (by rw [s1]; rfl), s2, finB_bad (n := 400) (by rw [t1, if_neg hd]) (by simp) (by simp)]
theorem lineE_law (x : Mc) (hx : x.st = .lineE) (p : Nat) (l : B) :
    finB p (runM x l) = if endsL l ≠ 0 then ([], 0, endsL l) else (x.b, p + 2, 0) := by
  have s1 : ∀ c, stepSt x c = if c = 13 then 1 else 400 := fun c => by simp [stepSt, hx]
  have s2 : ∀ c, stepX x c = { x with st := .endE } := fun c => by simp [stepX, hx]
  have t1 : ∀ c, stepSt { x with st := .endE } c = if c = 10 then 0 else 400 := fun c => by simp [stepSt]
  have t2 : ∀ c, stepX { x with st := .endE } c = { x with st := .endE } := fun c => by simp [stepX]
  rcases ends_cases l with ⟨h, r, rfl⟩ | ⟨h, rfl | rfl⟩ | ⟨h, ⟨c, r, rfl, hc⟩ | ⟨d, r, rfl, hd⟩⟩
  · rw [if_neg (by simp [h]), finB_go (by rw [s1]; rfl), s2, finB_end (by rw [t1]; rfl), t2]
  · rw [h, if_pos (by simp), finB_nil]
  · rw [h, if_pos (by simp), finB_go (by rw [s1]; rfl), finB_nil]
  · rw [h, if_pos (by simp), finB_bad (n := 400) (by rw [s1, if_neg hc]) (by simp) (by simp)]
  · rw [h, if_pos (by simp), finB_go (by rw [s1]; rfl), s2, finB_bad (n := 400) (by rw [t1, if_neg hd]) (by simp) (by simp)]
/-- A chunk's bytes. -/
theorem chunk_law : ∀ (l : B) (x : Mc) (p : Nat), x.st = .chunk → 1 ≤ x.left →
    finB p (runM x l) = if l.length < x.left then ([], 0, 1) else finB (p + x.left) (runM { x with st := .lineC, b := x.b ++ l.take x.left, left := 0 } (l.drop x.left)) := by
  intro l
  induction l with
  | nil => intro x p hx h1; rw [finB_nil, if_pos (by simp only [List.length_nil]; omega)]
  | cons c l ih =>
    intro x p hx h1
    rw [finB_go (by simp [stepSt, hx])]
    have e : stepX x c = { x with st := if x.left = 1 then .lineC else .chunk, b := x.b ++ [c], left := x.left - 1 } := by simp [stepX, hx, chunkStep, plainStep]
    rw [e]
    by_cases h : x.left = 1
    · have q : ¬ (c :: l).length < x.left := by simp [h]
      simp only [if_neg q]; simp [h]
    · obtain ⟨n, hn⟩ : ∃ n, x.left = n + 2 := ⟨x.left - 2, by omega⟩
      rw [ih _ _ (by simp [h]) (by simp only; omega)]
      simp only [hn, List.length_cons, Nat.add_sub_cancel]
      have : n + 2 - 1 = n + 1 := rfl
      simp only [this, List.take_succ_cons, List.drop_succ_cons, List.append_assoc, List.singleton_append]
      by_cases h2 : l.length < n + 1
      · rw [if_pos h2, if_pos (by omega)]
      · rw [if_neg h2, if_neg (by omega)]; congr 1; omega
/-- A body of a given length. -/
theorem plain_law : ∀ (l : B) (x : Mc) (p : Nat), x.st = .plain → 1 ≤ x.left →
    finB p (runM x l) = if l.length < x.left then ([], 0, 1) else (x.b ++ l.take x.left, p + x.left, 0) := by
  intro l
  induction l with
  | nil => intro x p hx h1; rw [finB_nil, if_pos (by simp only [List.length_nil]; omega)]
  | cons c l ih =>
    intro x p hx h1
    have e : stepX x c = plainStep x c := by simp [stepX, hx]
    by_cases h : x.left = 1
    · rw [finB_end (by simp [stepSt, hx, plainSt, h]), if_neg (by simp [h]), e]; simp [h, plainStep]
    · obtain ⟨n, hn⟩ : ∃ n, x.left = n + 2 := ⟨x.left - 2, by omega⟩
      rw [finB_go (by simp [stepSt, hx, plainSt, h]), e]
      rw [ih _ _ rfl (by simp only [plainStep]; omega)]
      simp only [plainStep, hn, List.length_cons]
      have : n + 2 - 1 = n + 1 := rfl
      simp only [this, List.take_succ_cons, List.append_assoc, List.singleton_append]
      by_cases h2 : l.length < n + 1
      · rw [if_pos h2, if_pos (by omega)]
      · rw [if_neg h2, if_neg (by omega)]; congr 2; omega
/-- A chunk's number. -/
def hexG (a : Nat) (l : B) : Nat := l.foldl (fun n c => 16 * n + hexN c) a
theorem digits_law : ∀ (l : B) (x : Mc) (p : Nat), x.st = .sizes → x.many ≤ 8 →
    finB p (runM x l) = if 8 < x.many + digitsN l then ([], 0, 400) else if digitsN l < l.length ∧ x.many + digitsN l = 0 then ([], 0, 400)
      else if endsL (l.drop (digitsN l)) ≠ 0 then ([], 0, endsL (l.drop (digitsN l)))
      else if 32768 < hexG x.left (l.take (digitsN l)) + x.b.length then ([], 0, 413)
      else finB (p + digitsN l + 2) (runM (sized { x with left := hexG x.left (l.take (digitsN l)), many := x.many + digitsN l }) (l.drop (digitsN l + 2))) := by
  intro l
  induction l with
  | nil =>
    intro x p hx h1
    rw [finB_nil, if_neg (by simp [digitsN]; omega), if_neg (by simp), if_pos (by simp [endsL])]; simp [endsL]
  | cons c l ih =>
    intro x p hx h1
    have st : stepSt x c = sizesSt x c := by simp [stepSt, hx]
    have sx : stepX x c = sizesStep x c := by simp [stepX, hx]
    by_cases hc : isHex c
    · have hn : hexN c < 16 := by simpa [isHex] using hc
      have d : digitsN (c :: l) = digitsN l + 1 := by simp [digitsN, List.takeWhile_cons, hc]
      by_cases h8 : x.many = 8
      · rw [finB_bad (n := 400) (by rw [st, sizesSt, if_neg (by omega), if_pos (.inl hn)]) (by simp) (by simp), if_pos (by omega)]
      · rw [finB_go (by rw [st, sizesSt, if_pos (by omega)]), sx, sizesStep, if_pos hn, ih _ _ rfl (by simp only; omega), d]
        have e1 : x.many + 1 + digitsN l = x.many + (digitsN l + 1) := by omega
        simp only [List.drop_succ_cons, List.take_succ_cons, List.length_cons, e1]
        have e3 : p + 1 + digitsN l + 2 = p + (digitsN l + 1) + 2 := by omega
        rw [e3]
        have e4 : hexG x.left (c :: l.take (digitsN l)) = hexG (16 * x.left + hexN c) (l.take (digitsN l)) := rfl
        rw [e4]
        have e5 : (digitsN l + 1 < l.length + 1) ↔ digitsN l < l.length := by omega
        have e6 : ¬ (x.many + (digitsN l + 1) = 0) := by omega
        simp only [e6, and_false, if_false]
        rw [hx]
    · have hn : ¬ hexN c < 16 := by simpa [isHex] using hc
      have d : digitsN (c :: l) = 0 := by simp [digitsN, List.takeWhile_cons, hc]
      rw [d, if_neg (by omega)]
      by_cases h0 : x.many = 0
      · rw [if_pos ⟨by simp, by omega⟩, finB_bad (n := 400) (by rw [st, sizesSt, if_neg (by omega), if_pos (.inr (.inl h0))]) (by simp) (by simp)]
      · rw [if_neg (by omega)]
        have ss : ∀ c', ¬ hexN c' < 16 → stepSt x c' = if c' = 13 then 1 else 400 := fun c' hc' => by
          simp only [stepSt, hx, sizesSt]; rw [if_neg (by omega)]
          by_cases h13 : c' = 13 <;> simp [h13, h0, hc']
          rw [h13] at hc'; omega
        have s2 : sizesStep x c = { x with st := .endS } := by rw [sizesStep, if_neg hn]
        have t1 : ∀ c, stepSt { x with st := .endS } c = if c = 10 then sizedSt x else 400 := fun c => by simp [stepSt, sizedSt]
        have t2 : ∀ c, stepX { x with st := .endS } c = sized x := fun c => by simp [stepX, sized]
        rcases ends_cases (c :: l) with ⟨h, r, hr⟩ | ⟨h, hr | hr⟩ | ⟨h, ⟨c', r, hr, hc'⟩ | ⟨d', r, hr, hd⟩⟩
        · injection hr with e1 e2
          subst e1; subst e2
          have q : endsL (List.drop 0 (13 :: 10 :: r)) = 0 := h
          rw [if_neg (by rw [q]; simp), finB_go (by rw [ss _ hn]; rfl), sx, s2]
          have q2 : hexG x.left (List.take 0 (13 :: 10 :: r)) = x.left := rfl
          rw [q2]
          by_cases h3 : 32768 < x.left + x.b.length
          · rw [if_pos h3, finB_bad (n := 413) (by rw [t1, if_pos rfl, sizedSt, if_pos h3]) (by simp) (by simp)]
          · rw [if_neg h3, finB_go (by rw [t1, if_pos rfl, sizedSt, if_neg h3]), t2]; rfl
        · cases hr
        · injection hr with e1 e2
          subst e1; subst e2
          rw [if_pos (by simp [endsL, ends1]), finB_go (by rw [ss _ hn]; rfl), finB_nil]; rfl
        · injection hr with e1 e2
          subst e1; subst e2
          have q : endsL (List.drop 0 (c :: l)) = 400 := h
          rw [q, if_pos (by simp), finB_bad (n := 400) (by rw [ss _ hn, if_neg hc']) (by simp) (by simp)]
        · injection hr with e1 e2
          subst e1; subst e2
          have q : endsL (List.drop 0 (13 :: d' :: r)) = 400 := h
          rw [q, if_pos (by simp), finB_go (by rw [ss _ hn]; rfl), sx, s2, finB_bad (n := 400) (by rw [t1, if_neg hd]) (by simp) (by simp)]
theorem ends_len {l : B} (h : endsL l = 0) : 2 ≤ l.length := by
  rcases ends_cases l with ⟨_, r, rfl⟩ | ⟨h1, _⟩ | ⟨h1, _⟩ <;> simp_all
/-- A body in chunks. -/
theorem sizes_law : ∀ (n : Nat) (l : B) (x : Mc) (p : Nat), l.length = n → x.st = .sizes → x.many = 0 → x.left = 0 → x.b.length ≤ 32768 →
    finB p (runM x l) = chunkL x.b p l := by
  intro n
  induction n using Nat.strongRecOn with
  | _ n ih =>
    intro l x p hl hx hm h0 hb
    rw [digits_law l x p hx (by omega), chunkL, hm, h0, Nat.zero_add]
    have eF : hexG 0 (l.take (digitsN l)) = hexF (l.take (digitsN l)) := rfl
    rw [eF]
    generalize hF : hexF (l.take (digitsN l)) = F
    by_cases c1 : 8 < digitsN l
    · rw [if_pos c1, if_pos c1]
    rw [if_neg c1, if_neg c1]
    by_cases c2 : digitsN l < l.length ∧ digitsN l = 0
    · rw [if_pos c2, if_pos c2]
    rw [if_neg c2, if_neg c2]
    by_cases c3 : endsL (l.drop (digitsN l)) ≠ 0
    · rw [if_pos c3, if_pos c3]
    rw [if_neg c3, if_neg c3]
    have k3 := ends_len (Decidable.not_not.1 c3)
    rw [List.length_drop] at k3
    by_cases c4 : 32768 < F + x.b.length
    · rw [if_pos c4, if_pos (by omega)]
    rw [if_neg c4, if_neg (by omega)]
    by_cases f0 : F = 0
    · subst f0
      have es : sized { x with left := 0, many := digitsN l } = { x with st := .lineE, left := 0, many := 0 } := by simp [sized]
      rw [es, lineE_law _ rfl, if_neg (Nat.not_lt_zero _), Nat.add_zero]
      by_cases c5 : endsL (l.drop (digitsN l + 2)) ≠ 0
      · rw [if_pos c5, if_pos c5]
      · rw [if_neg c5, if_neg c5, if_pos rfl]; rfl
    · have es : sized { x with left := F, many := digitsN l } = { x with st := .chunk, left := F, many := 0 } := by simp [sized]; omega
      rw [es, chunk_law _ _ _ rfl (by simp only; omega)]
      simp only [List.length_drop]
      by_cases c5 : l.length - (digitsN l + 2) < F
      · rw [if_pos c5, if_pos c5]
      rw [if_neg c5, if_neg c5, lineC_law _ rfl, List.drop_drop]
      by_cases c6 : endsL (l.drop (digitsN l + 2 + F)) ≠ 0
      · rw [if_pos c6, if_pos c6]
      rw [if_neg c6, if_neg c6, if_neg f0]
      have k6 := ends_len (Decidable.not_not.1 c6)
      rw [List.length_drop] at k6
      rw [dif_neg (by omega), List.drop_drop]
      have e1 : digitsN l + 2 + F + 2 = digitsN l + 4 + F := by omega
      rw [e1, ih (l.length - (digitsN l + 4 + F)) (by omega) _ _ _ (by rw [List.length_drop]) rfl rfl rfl]
      · simp only; congr 1; omega
      · simp only [List.length_append, List.length_take, List.length_drop]; omega

/-- The head's parts are kept. -/
theorem step_keeps {x : Mc} (hx : x.st ≠ .heads) (c : UInt8) : (stepX x c).st ≠ .heads ∧ (stepX x c).m = x.m ∧ (stepX x c).p = x.p ∧ (stepX x c).h = x.h := by
  unfold stepX
  split
  · rename_i h; exact absurd h hx
  · unfold sizesStep; split <;> simp
  · simp [plainStep]
  · simp only [chunkStep, plainStep]; split <;> simp
  · simp only [sized]; split <;> simp
  all_goals simp [*]
theorem run_keeps : ∀ (l : B) {x : Mc}, x.st ≠ .heads → (runM x l).2.2.m = x.m ∧ (runM x l).2.2.p = x.p ∧ (runM x l).2.2.h = x.h := by
  intro l
  induction l with
  | nil => intro x hx; simp [runM]
  | cons c l ih =>
    intro x hx
    obtain ⟨h1, h2, h3, h4⟩ := step_keeps hx c
    rw [runM]; split
    · obtain ⟨g2, g3, g4⟩ := ih h1
      simp only
      exact ⟨g2.trans h2, g3.trans h3, g4.trans h4⟩
    · exact ⟨h2, h3, h4⟩
/-- What the program's Parse answers. -/
def finP (p : Nat) (r : Nat × Nat × Mc) : Req × Nat × Nat := if r.2.1 ≠ 0 then (noReq, 0, r.2.1) else (⟨r.2.2.m, r.2.2.p, r.2.2.h, r.2.2.b⟩, p + r.1, 0)
def progParse (l : B) : Req × Nat × Nat := finP 0 (runM mc0 l)
theorem finP_go {x : Mc} {c : UInt8} (h : stepSt x c = 1) (p : Nat) (l : B) : finP p (runM x (c :: l)) = finP (p + 1) (runM (stepX x c) l) := by
  have e : runM x (c :: l) = ((runM (stepX x c) l).1 + 1, (runM (stepX x c) l).2) := by rw [runM, if_pos h]
  rw [e]; unfold finP
  by_cases h2 : (runM (stepX x c) l).2.1 = 0
  · simp only [h2, ne_eq, not_true_eq_false, if_false]; rw [show p + ((runM (stepX x c) l).1 + 1) = p + 1 + (runM (stepX x c) l).1 by omega]
  · simp only [ne_eq, h2, not_false_eq_true, if_true]
theorem finP_one {x : Mc} {c : UInt8} (h : stepSt x c ≠ 1) (p : Nat) (l : B) : finP p (runM x (c :: l)) = finP (p + 1) (0, stepSt x c, stepX x c) := by
  rw [runM, if_neg h]; simp [finP]
/-- Behind the head. -/
theorem finP_body {x : Mc} (hx : x.st ≠ .heads) (l : B) (p n : Nat) (b : B × Nat × Nat) (h : finB p (runM x l) = b) :
    finP (n + p) (runM x l) = if b.2.2 ≠ 0 then (noReq, 0, b.2.2) else (⟨x.m, x.p, x.h, b.1⟩, n + b.2.1, 0) := by
  obtain ⟨h1, h2, h3⟩ := run_keeps l hx
  subst h
  unfold finP finB
  by_cases hs : (runM x l).2.1 = 0
  · simp [hs, h1, h2, h3, Nat.add_assoc]
  · simp [hs]
end Go.Proofs.YtmhgnaemafohfaaGreatDoor
