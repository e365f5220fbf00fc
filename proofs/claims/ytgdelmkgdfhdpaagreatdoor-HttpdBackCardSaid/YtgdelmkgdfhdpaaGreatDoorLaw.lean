/- The plain law of the machine behind the head: plain bytes, chunks (httpd against blotterref08). Conditions: none. The plain law of a head: its first line and its fields. Conditions: the lines are no longer than 8192 bytes. The plain law of Parse: the program answers as the reference. Conditions: none. Plain laws of Parse: what is taken is taken from its beginning alone, and its statuses are few. Conditions: none. -/
import Derived.Test.YtgdelmkgdfhdpaaGreatDoorMachE
namespace Go.Proofs.YtgdelmkgdfhdpaaGreatDoor
open Go.RowKit
set_option linter.unusedVariables false
set_option linter.unusedSimpArgs false
set_option maxRecDepth 100000

/-- What is left of a run: the body, the place behind it, the status. -/
def finB (p : Nat) (r : Nat × Nat × Mc) : B × Nat × Nat := if r.2.1 ≠ 0 then ([], 0, r.2.1) else (r.2.2.b, p + r.1, 0)
theorem finB_nil (p : Nat) (x : Mc) : finB p (runM x []) = ([], 0, 1) := by simp [finB, runM]
theorem finB_go {x : Mc} {c : UInt8} (h : stepSt x c = 1) (p : Nat) (l : B) : finB p (runM x (c :: l)) = finB (p + 1) (runM (stepX x c) l) := by
  have e : runM x (c :: l) = ((runM (stepX x c) l).1 + 1, (runM (stepX x c) l).2) := by rw [runM, if_pos h]
  rw [e]; unfold finB
  by_cases h2 : (runM (stepX x c) l).2.1 = 0
  · simp only [h2, ne_eq, not_true_eq_false, if_false]; rw [show p + ((runM (stepX x c) l).1 + 1) = p + 1 + (runM (stepX x c) l).1 by omega]
  · simp only [ne_eq, h2, not_false_eq_true, if_true]
theorem finB_bad {x : Mc} {c : UInt8} {n : Nat} (h : stepSt x c = n) (h0 : n ≠ 0) (h1 : n ≠ 1) (p : Nat) (l : B) : finB p (runM x (c :: l)) = ([], 0, n) := by
  subst h; rw [runM, if_neg h1]; simp [finB, h0]
theorem finB_end {x : Mc} {c : UInt8} (h : stepSt x c = 0) (p : Nat) (l : B) : finB p (runM x (c :: l)) = ((stepX x c).b, p + 1, 0) := by
  rw [runM, if_neg (by omega)]; simp [finB, h]

theorem ends_cases (l : B) : (endsL l = 0 ∧ ∃ r, l = 13 :: 10 :: r) ∨ (endsL l = 1 ∧ (l = [] ∨ l = [13])) ∨ (endsL l = 400 ∧ ((∃ c r, l = c :: r ∧ c ≠ 13) ∨ ∃ d r, l = 13 :: d :: r ∧ d ≠ 10)) := by
  have q : ∀ (c k : UInt8), c.toNat = k.toNat ↔ c = k := fun c k => ⟨fun h => UInt8.toNat_inj.1 h, fun h => h ▸ rfl⟩
  cases l with
  | nil => exact .inr (.inl ⟨rfl, .inl rfl⟩)
  | cons c l =>
    by_cases hc : c = 13
    · subst hc
      cases l with
      | nil => exact .inr (.inl ⟨rfl, .inr rfl⟩)
      | cons d r =>
        by_cases hd : d = 10
        · subst hd; exact .inl ⟨rfl, r, rfl⟩
        · refine .inr (.inr ⟨?_, .inr ⟨d, r, rfl, hd⟩⟩)
          have : ¬ d.toNat = 10 := fun h => hd ((q d 10).1 h)
          simp [endsL, ends1, this]
    · refine .inr (.inr ⟨?_, .inl ⟨c, l, rfl, hc⟩⟩)
      have : ¬ c.toNat = 13 := fun h => hc ((q c 13).1 h)
      simp [endsL, this]

/-- A line's end behind a chunk. -/
theorem lineC_law (x : Mc) (hx : x.st = .lineC) (p : Nat) (l : B) :
    finB p (runM x l) = if endsL l ≠ 0 then ([], 0, endsL l) else finB (p + 2) (runM { x with st := .sizes } (l.drop 2)) := by
  have s1 : ∀ c, stepSt x c = if c = 13 then 1 else 400 := fun c => by simp [stepSt, hx]
  have s2 : ∀ c, stepX x c = { x with st := .endC } := fun c => by simp [stepX, hx]
  have t1 : ∀ c, stepSt { x with st := .endC } c = if c = 10 then 1 else 400 := fun c => by simp [stepSt]
  have t2 : ∀ c, stepX { x with st := .endC } c = { x with st := .sizes } := fun c => by simp [stepX]
  rcases ends_cases l with ⟨h, r, rfl⟩ | ⟨h, rfl | rfl⟩ | ⟨h, ⟨c, r, rfl, hc⟩ | ⟨d, r, rfl, hd⟩⟩
  · rw [if_neg (by simp [h]), finB_go (by rw [s1]; rfl), s2, finB_go (by rw [t1]; rfl), t2]; rfl
  · rw [h, if_pos (by simp), finB_nil]
  · rw [h, if_pos (by simp), finB_go (by rw [s1]; rfl), finB_nil]
  · rw [h, if_pos (by simp), finB_bad (n := 400) (by rw [s1, if_neg hc]) (by simp) (by simp)]
  · rw [h, if_pos (by simp), finB_go (by rw [s1]; rfl), s2, finB_bad (n := 400) (by rw [t1, if_neg hd]) (by simp) (by simp)]
theorem lineE_law (x : Mc) (hx : x.st = .lineE) (p : Nat) (l : B) :
    finB p (runM x l) = if endsL l ≠ 0 then ([], 0, endsL l) else (x.b, p + 2, 0) := by
  have s1 : ∀ c, stepSt x c = if c = 13 then 1 else 400 := fun c => by simp [stepSt, hx]
  have s2 : ∀ c, stepX x c = { x with st := .endE } := fun c => by simp [stepX, hx]
  have t1 : ∀ c, stepSt { x with st := .endE } c = if c = 10 then 0 else 400 := fun c => by simp [stepSt]
  have t2 : ∀ c, stepX { x with st := .endE } c = { x with st := .endE } := fun c => by simp [stepX]
  rcases ends_cases l with ⟨h, r, rfl⟩ | ⟨h, rfl | rfl⟩ | ⟨h, ⟨c, r, rfl, hc⟩ | ⟨d, r, rfl, hd⟩⟩
  · rw [if_neg (by simp [h]), finB_go (by rw [s1]; rfl), s2, finB_end (by rw [t1]; rfl), t2]
  · rw [h, if_pos (by simp), finB_nil]
  · rw [h, if_pos (by simp), finB_go (by rw [s1]; rfl), finB_nil]
  · rw [h, if_pos (by simp), finB_bad (n := 400) (by rw [s1, if_neg hc]) (by simp) (by simp)]
  · rw [h, if_pos (by simp), finB_go (by rw [s1]; rfl), s2, finB_bad (n := 400) (by rw [t1, if_neg hd]) (by simp) (by simp)]
/-- A chunk's bytes. -/
theorem chunk_law : ∀ (l : B) (x : Mc) (p : Nat), x.st = .chunk → 1 ≤ x.left →
    finB p (runM x l) = if l.length < x.left then ([], 0, 1) else finB (p + x.left) (runM { x with st := .lineC, b := x.b ++ l.take x.left, left := 0 } (l.drop x.left)) := by
  intro l
  induction l with
  | nil => intro x p hx h1; rw [finB_nil, if_pos (by simp only [List.length_nil]; omega)]
  | cons c l ih =>
    intro x p hx h1
    rw [finB_go (by simp [stepSt, hx])]
    have e : stepX x c = { x with st := if x.left = 1 then .lineC else .chunk, b := x.b ++ [c], left := x.left - 1 } := by simp [stepX, hx, chunkStep, plainStep]
    rw [e]
    by_cases h : x.left = 1
    · have q : ¬ (c :: l).length < x.left := by simp [h]
      simp only [if_neg q]; simp [h]
    · obtain ⟨n, hn⟩ : ∃ n, x.left = n + 2 := ⟨x.left - 2, by omega⟩
      rw [ih _ _ (by simp [h]) (by simp only; omega)]
      simp only [hn, List.length_cons, Nat.add_sub_cancel]
      have : n + 2 - 1 = n + 1 := rfl
      simp only [this, List.take_succ_cons, List.drop_succ_cons, List.append_assoc, List.singleton_append]
      by_cases h2 : l.length < n + 1
      · rw [if_pos h2, if_pos (by omega)]
      · rw [if_neg h2, if_neg (by omega)]; congr 1; omega
/-- A body of a given length. -/
theorem plain_law : ∀ (l : B) (x : Mc) (p : Nat), x.st = .plain → 1 ≤ x.left →
    finB p (runM x l) = if l.length < x.left then ([], 0, 1) else (x.b ++ l.take x.left, p + x.left, 0) := by
  intro l
  induction l with
  | nil => intro x p hx h1; rw [finB_nil, if_pos (by simp only [List.length_nil]; omega)]
  | cons c l ih =>
    intro x p hx h1
    have e : stepX x c = plainStep x c := by simp [stepX, hx]
    by_cases h : x.left = 1
    · rw [finB_end (by simp [stepSt, hx, plainSt, h]), if_neg (by simp [h]), e]; simp [h, plainStep]
    · obtain ⟨n, hn⟩ : ∃ n, x.left = n + 2 := ⟨x.left - 2, by omega⟩
      rw [finB_go (by simp [stepSt, hx, plainSt, h]), e]
      rw [ih _ _ rfl (by simp only [plainStep]; omega)]
      simp only [plainStep, hn, List.length_cons]
      have : n + 2 - 1 = n + 1 := rfl
      simp only [this, List.take_succ_cons, List.append_assoc, List.singleton_append]
      by_cases h2 : l.length < n + 1
      · rw [if_pos h2, if_pos (by omega)]
      · rw [if_neg h2, if_neg (by omega)]; congr 2; omega
/-- A chunk's number. -/
def hexG (a : Nat) (l : B) : Nat := l.foldl (fun n c => 16 * n + hexN c) a
theorem digits_law : ∀ (l : B) (x : Mc) (p : Nat), x.st = .sizes → x.many ≤ 8 →
    finB p (runM x l) = if 8 < x.many + digitsN l then ([], 0, 400) else if digitsN l < l.length ∧ x.many + digitsN l = 0 then ([], 0, 400)
      else if endsL (l.drop (digitsN l)) ≠ 0 then ([], 0, endsL (l.drop (digitsN l)))
      else if 32768 < hexG x.left (l.take (digitsN l)) + x.b.length then ([], 0, 413)
      else finB (p + digitsN l + 2) (runM (sized { x with left := hexG x.left (l.take (digitsN l)), many := x.many + digitsN l }) (l.drop (digitsN l + 2))) := by
  intro l
  induction l with
  | nil =>
    intro x p hx h1
    rw [finB_nil, if_neg (by simp [digitsN]; omega), if_neg (by simp), if_pos (by simp [endsL])]; simp [endsL]
  | cons c l ih =>
    intro x p hx h1
    have st : stepSt x c = sizesSt x c := by simp [stepSt, hx]
    have sx : stepX x c = sizesStep x c := by simp [stepX, hx]
    by_cases hc : isHex c
    · have hn : hexN c < 16 := by simpa [isHex] using hc
      have d : digitsN (c :: l) = digitsN l + 1 := by simp [digitsN, List.takeWhile_cons, hc]
      by_cases h8 : x.many = 8
      · rw [finB_bad (n := 400) (by rw [st, sizesSt, if_neg (by omega), if_pos (.inl hn)]) (by simp) (by simp), if_pos (by omega)]
      · rw [finB_go (by rw [st, sizesSt, if_pos (by omega)]), sx, sizesStep, if_pos hn, ih _ _ rfl (by simp only; omega), d]
        have e1 : x.many + 1 + digitsN l = x.many + (digitsN l + 1) := by omega
        simp only [List.drop_succ_cons, List.take_succ_cons, List.length_cons, e1]
        have e3 : p + 1 + digitsN l + 2 = p + (digitsN l + 1) + 2 := by omega
        rw [e3]
        have e4 : hexG x.left (c :: l.take (digitsN l)) = hexG (16 * x.left + hexN c) (l.take (digitsN l)) := rfl
        rw [e4]
        have e5 : (digitsN l + 1 < l.length + 1) ↔ digitsN l < l.length := by omega
        have e6 : ¬ (x.many + (digitsN l + 1) = 0) := by omega
        simp only [e6, and_false, if_false]
        rw [hx]
    · have hn : ¬ hexN c < 16 := by simpa [isHex] using hc
      have d : digitsN (c :: l) = 0 := by simp [digitsN, List.takeWhile_cons, hc]
      rw [d, if_neg (by omega)]
      by_cases h0 : x.many = 0
      · rw [if_pos ⟨by simp, by omega⟩, finB_bad (n := 400) (by rw [st, sizesSt, if_neg (by omega), if_pos (.inr (.inl h0))]) (by simp) (by simp)]
      · rw [if_neg (by omega)]
        have ss : ∀ c', ¬ hexN c' < 16 → stepSt x c' = if c' = 13 then 1 else 400 := fun c' hc' => by
          simp only [stepSt, hx, sizesSt]; rw [if_neg (by omega)]
          by_cases h13 : c' = 13 <;> simp [h13, h0, hc']
          rw [h13] at hc'; omega
        have s2 : sizesStep x c = { x with st := .endS } := by rw [sizesStep, if_neg hn]
        have t1 : ∀ c, stepSt { x with st := .endS } c = if c = 10 then sizedSt x else 400 := fun c => by simp [stepSt, sizedSt]
        have t2 : ∀ c, stepX { x with st := .endS } c = sized x := fun c => by simp [stepX, sized]
        rcases ends_cases (c :: l) with ⟨h, r, hr⟩ | ⟨h, hr | hr⟩ | ⟨h, ⟨c', r, hr, hc'⟩ | ⟨d', r, hr, hd⟩⟩
        · injection hr with e1 e2
          subst e1; subst e2
          have q : endsL (List.drop 0 (13 :: 10 :: r)) = 0 := h
          rw [if_neg (by rw [q]; simp), finB_go (by rw [ss _ hn]; rfl), sx, s2]
          have q2 : hexG x.left (List.take 0 (13 :: 10 :: r)) = x.left := rfl
          rw [q2]
          by_cases h3 : 32768 < x.left + x.b.length
          · rw [if_pos h3, finB_bad (n := 413) (by rw [t1, if_pos rfl, sizedSt, if_pos h3]) (by simp) (by simp)]
          · rw [if_neg h3, finB_go (by rw [t1, if_pos rfl, sizedSt, if_neg h3]), t2]; rfl
        · cases hr
        · injection hr with e1 e2
          subst e1; subst e2
          rw [if_pos (by simp [endsL, ends1]), finB_go (by rw [ss _ hn]; rfl), finB_nil]; rfl
        · injection hr with e1 e2
          subst e1; subst e2
          have q : endsL (List.drop 0 (c :: l)) = 400 := h
          rw [q, if_pos (by simp), finB_bad (n := 400) (by rw [ss _ hn, if_neg hc']) (by simp) (by simp)]
        · injection hr with e1 e2
          subst e1; subst e2
          have q : endsL (List.drop 0 (13 :: d' :: r)) = 400 := h
          rw [q, if_pos (by simp), finB_go (by rw [ss _ hn]; rfl), sx, s2, finB_bad (n := 400) (by rw [t1, if_neg hd]) (by simp) (by simp)]
theorem ends_len {l : B} (h : endsL l = 0) : 2 ≤ l.length := by
  rcases ends_cases l with ⟨_, r, rfl⟩ | ⟨h1, _⟩ | ⟨h1, _⟩ <;> simp_all
/-- A body in chunks. -/
theorem sizes_law : ∀ (n : Nat) (l : B) (x : Mc) (p : Nat), l.length = n → x.st = .sizes → x.many = 0 → x.left = 0 → x.b.length ≤ 32768 →
    finB p (runM x l) = chunkL x.b p l := by
  intro n
  induction n using Nat.strongRecOn with
  | _ n ih =>
    intro l x p hl hx hm h0 hb
    rw [digits_law l x p hx (by omega), chunkL, hm, h0, Nat.zero_add]
    have eF : hexG 0 (l.take (digitsN l)) = hexF (l.take (digitsN l)) := rfl
    rw [eF]
    generalize hF : hexF (l.take (digitsN l)) = F
    by_cases c1 : 8 < digitsN l
    · rw [if_pos c1, if_pos c1]
    rw [if_neg c1, if_neg c1]
    by_cases c2 : digitsN l < l.length ∧ digitsN l = 0
    · rw [if_pos c2, if_pos c2]
    rw [if_neg c2, if_neg c2]
    by_cases c3 : endsL (l.drop (digitsN l)) ≠ 0
    · rw [if_pos c3, if_pos c3]
    rw [if_neg c3, if_neg c3]
    have k3 := ends_len (Decidable.not_not.1 c3)
    rw [List.length_drop] at k3
    by_cases c4 : 32768 < F + x.b.length
    · rw [if_pos c4, if_pos (by omega)]
    rw [if_neg c4, if_neg (by omega)]
    by_cases f0 : F = 0
    · subst f0
      have es : sized { x with left := 0, many := digitsN l } = { x with st := .lineE, left := 0, many := 0 } := by simp [sized]
      rw [es, lineE_law _ rfl, if_neg (Nat.not_lt_zero _), Nat.add_zero]
      by_cases c5 : endsL (l.drop (digitsN l + 2)) ≠ 0
      · rw [if_pos c5, if_pos c5]
      · rw [if_neg c5, if_neg c5, if_pos rfl]; rfl
    · have es : sized { x with left := F, many := digitsN l } = { x with st := .chunk, left := F, many := 0 } := by simp [sized]; omega
      rw [es, chunk_law _ _ _ rfl (by simp only; omega)]
      simp only [List.length_drop]
      by_cases c5 : l.length - (digitsN l + 2) < F
      · rw [if_pos c5, if_pos c5]
      rw [if_neg c5, if_neg c5, lineC_law _ rfl, List.drop_drop]
      by_cases c6 : endsL (l.drop (digitsN l + 2 + F)) ≠ 0
      · rw [if_pos c6, if_pos c6]
      rw [if_neg c6, if_neg c6, if_neg f0]
      have k6 := ends_len (Decidable.not_not.1 c6)
      rw [List.length_drop] at k6
      rw [dif_neg (by omega), List.drop_drop]
      have e1 : digitsN l + 2 + F + 2 = digitsN l + 4 + F := by omega
      rw [e1, ih (l.length - (digitsN l + 4 + F)) (by omega) _ _ _ (by rw [List.length_drop]) rfl rfl rfl]
      · simp only; congr 1; omega
      · simp only [List.length_append, List.length_take, List.length_drop]; omega

/-- The head's parts are kept. -/
theorem step_keeps {x : Mc} (hx : x.st ≠ .heads) (c : UInt8) : (stepX x c).st ≠ .heads ∧ (stepX x c).m = x.m ∧ (stepX x c).p = x.p ∧ (stepX x c).h = x.h := by
  unfold stepX
  split
  · rename_i h; exact absurd h hx
  · unfold sizesStep; split <;> simp
  · simp [plainStep]
  · simp only [chunkStep, plainStep]; split <;> simp
  · simp only [sized]; split <;> simp
  all_goals simp [*]
theorem run_keeps : ∀ (l : B) {x : Mc}, x.st ≠ .heads → (runM x l).2.2.m = x.m ∧ (runM x l).2.2.p = x.p ∧ (runM x l).2.2.h = x.h := by
  intro l
  induction l with
  | nil => intro x hx; simp [runM]
  | cons c l ih =>
    intro x hx
    obtain ⟨h1, h2, h3, h4⟩ := step_keeps hx c
    rw [runM]; split
    · obtain ⟨g2, g3, g4⟩ := ih h1
      simp only
      exact ⟨g2.trans h2, g3.trans h3, g4.trans h4⟩
    · exact ⟨h2, h3, h4⟩
/-- What the program's Parse answers. -/
def finP (p : Nat) (r : Nat × Nat × Mc) : Req × Nat × Nat := if r.2.1 ≠ 0 then (noReq, 0, r.2.1) else (⟨r.2.2.m, r.2.2.p, r.2.2.h, r.2.2.b⟩, p + r.1, 0)
def progParse (l : B) : Req × Nat × Nat := finP 0 (runM mc0 l)
theorem finP_go {x : Mc} {c : UInt8} (h : stepSt x c = 1) (p : Nat) (l : B) : finP p (runM x (c :: l)) = finP (p + 1) (runM (stepX x c) l) := by
  have e : runM x (c :: l) = ((runM (stepX x c) l).1 + 1, (runM (stepX x c) l).2) := by rw [runM, if_pos h]
  rw [e]; unfold finP
  by_cases h2 : (runM (stepX x c) l).2.1 = 0
  · simp only [h2, ne_eq, not_true_eq_false, if_false]; rw [show p + ((runM (stepX x c) l).1 + 1) = p + 1 + (runM (stepX x c) l).1 by omega]
  · simp only [ne_eq, h2, not_false_eq_true, if_true]
theorem finP_one {x : Mc} {c : UInt8} (h : stepSt x c ≠ 1) (p : Nat) (l : B) : finP p (runM x (c :: l)) = finP (p + 1) (0, stepSt x c, stepX x c) := by
  rw [runM, if_neg h]; simp [finP]
/-- Behind the head. -/
theorem finP_body {x : Mc} (hx : x.st ≠ .heads) (l : B) (p n : Nat) (b : B × Nat × Nat) (h : finB p (runM x l) = b) :
    finP (n + p) (runM x l) = if b.2.2 ≠ 0 then (noReq, 0, b.2.2) else (⟨x.m, x.p, x.h, b.1⟩, n + b.2.1, 0) := by
  obtain ⟨h1, h2, h3⟩ := run_keeps l hx
  subst h
  unfold finP finB
  by_cases hs : (runM x l).2.1 = 0
  · simp [hs, h1, h2, h3, Nat.add_assoc]
  · simp [hs]
end Go.Proofs.YtgdelmkgdfhdpaaGreatDoor
namespace Go.Proofs.YtgdelmkgdfhdpaaGreatDoor
open Go.RowKit
set_option linter.unusedVariables false
set_option linter.unusedSimpArgs false
set_option maxRecDepth 100000

theorem whereL_at (t : B) : ∀ s : B, whereL t s < s.length → t <+: s.drop (whereL t s) := by
  intro s
  induction s with
  | nil => intro h; simp [whereL] at h
  | cons c r ih =>
    intro h
    by_cases hp : t.isPrefixOf (c :: r)
    · have e : whereL t (c :: r) = 0 := by rw [whereL, if_pos hp]
      rw [e]; exact List.isPrefixOf_iff_prefix.1 hp
    · have e : whereL t (c :: r) = whereL t r + 1 := by rw [whereL, if_neg hp]
      rw [e] at h ⊢
      rw [List.drop_succ_cons]; exact ih (by simpa using h)
theorem whereL_not (t : B) : ∀ (s : B) (k : Nat), k < whereL t s → ¬ t <+: s.drop k := by
  intro s
  induction s with
  | nil => intro k h; simp [whereL] at h
  | cons c r ih =>
    intro k h
    by_cases hp : t.isPrefixOf (c :: r)
    · rw [whereL, if_pos hp] at h; omega
    · rw [whereL, if_neg hp] at h
      cases k with
      | zero => intro hh; exact hp (List.isPrefixOf_iff_prefix.2 hh)
      | succ k => rw [List.drop_succ_cons]; exact ih k (by omega)
theorem suffix_at (s : B) (k : Nat) (hk : k + 1 ≤ s.length) : crL.isSuffixOf (s.take (k + 1)) = true ↔ 4 ≤ k + 1 ∧ crL <+: s.drop (k + 1 - 4) := by
  have hl : (s.take (k + 1)).length = k + 1 := by rw [List.length_take]; omega
  rw [List.isSuffixOf_iff_suffix]
  by_cases h4 : 4 ≤ k + 1
  · rw [List.suffix_iff_eq_drop, List.prefix_iff_eq_take, hl, List.drop_take]
    have : k + 1 - (k + 1 - crL.length) = crL.length := by show k + 1 - (k + 1 - 4) = 4; omega
    rw [this]; simp only [h4, true_and]; rfl
  · constructor
    · intro h; have := h.length_le; rw [hl] at this; have h5 : crL.length = 4 := rfl; omega
    · intro h; omega
theorem where_eat : ∀ s : B, whereL [32] s = eatL 7 s := by
  intro s
  induction s with
  | nil => rfl
  | cons c r ih =>
    rw [eatL_cons, whereL, ih]
    by_cases h : c = 32
    · subst h; simp [List.isPrefixOf, isB]
    · have h2 : ¬ (c.toNat : Int) = 32 := fun e => h (UInt8.toNat_inj.1 (by show c.toNat = 32; omega))
      have h3 : ([32] : B).isPrefixOf (c :: r) = false := by simp [List.isPrefixOf]; exact fun e => h e.symm
      have h4 : isB 7 c = true := by show ((c.toNat : Int) != 32) = true; simpa using h2
      rw [h3, h4]; rfl
theorem allL_false (l : B) (a b k : Nat) : allL l a b k = false ↔ l.all (isB k) = false ∨ l.length < a ∨ b < l.length := by
  unfold allL
  cases l.all (isB k)
  · simp
  · simp only [Bool.true_and, Bool.and_eq_false_iff, decide_eq_false_iff_not, Bool.true_eq_false, false_or]; omega
theorem line3_law (m t v : B) (hm : m ≠ []) (ht : t ≠ []) (hl : t.length ≤ 8192) :
    open3 m t v = (line3 m t v).2.2 ∧ (open3 m t v = 0 → line3 m t v = (m, t, 0)) := by
  have hm1 : 1 ≤ m.length := by cases m with | nil => exact absurd rfl hm | cons c r => simp
  have ht1 : 1 ≤ t.length := by cases t with | nil => exact absurd rfl ht | cons c r => simp
  have hpf : ([47] : B).isPrefixOf t = false ↔ t.getD 0 0 ≠ 47 := by
    cases t with
    | nil => exact absurd rfl ht
    | cons c r => simp [List.isPrefixOf]; exact ⟨fun h e => h e.symm, fun h e => h e.symm⟩
  have c1 : (eatL 7 v ≠ v.length ∨ allL m 1 16 2 = false ∨ [47].isPrefixOf t = false ∨ allL t 1 8192 3 = false) ↔
      (eatL 7 v < v.length ∨ (16 < m.length ∨ m.all (isB 2) = false ∨ t.getD 0 0 ≠ 47 ∨ t.all (isB 3) = false)) := by
    rw [allL_false, allL_false, hpf]
    have := eatL_le 7 v
    constructor
    · rintro (h | (h | h | h) | h | (h | h | h))
      · exact .inl (by omega)
      · exact .inr (.inr (.inl h))
      · omega
      · exact .inr (.inl h)
      · exact .inr (.inr (.inr (.inl h)))
      · exact .inr (.inr (.inr (.inr h)))
      · omega
      · omega
    · rintro (h | h | h | h | h)
      · exact .inl (by omega)
      · exact .inr (.inl (.inr (.inr h)))
      · exact .inr (.inl (.inl h))
      · exact .inr (.inr (.inl h))
      · exact .inr (.inr (.inr (.inl h)))
  unfold open3 line3
  rw [where_eat]
  by_cases k1 : eatL 7 v < v.length
  · rw [if_pos (.inr (.inr (.inr k1))), if_pos (c1.2 (.inl k1))]; exact ⟨rfl, fun h => by cases h⟩
  by_cases k2 : (16 < m.length ∨ m.all (isB 2) = false ∨ t.getD 0 0 ≠ 47 ∨ t.all (isB 3) = false)
  · rw [if_pos (c1.2 (.inr k2)), if_pos k2]
    split <;> exact ⟨rfl, fun h => by cases h⟩
  rw [if_neg (fun h => (c1.1 h).elim k1 k2), if_neg k2]
  by_cases k3 : v = []
  · subst k3; rw [if_pos (.inr (.inr (.inl rfl))), if_pos (.inl (by simp))]; exact ⟨rfl, fun h => by cases h⟩
  rw [if_neg (by rintro (h | h | h | h); exact hm h; exact ht h; exact k3 h; exact k1 h)]
  by_cases k4 : ([72, 84, 84, 80, 47] : B).isPrefixOf v = false
  · rw [if_pos (show Lib.hasPrefix v [72, 84, 84, 80, 47] = false from k4), if_pos (.inr (.inl k4))]; exact ⟨rfl, fun h => by cases h⟩
  have k4' : ([72, 84, 84, 80, 47] : B).isPrefixOf v = true := by simpa using k4
  obtain ⟨n, rfl⟩ := List.isPrefixOf_iff_prefix.1 k4'
  have en : Lib.trimPrefix ([72, 84, 84, 80, 47] ++ n) [72, 84, 84, 80, 47] = n := by unfold Lib.trimPrefix Lib.hasPrefix; rw [if_pos k4']; rfl
  have k4'' : ¬ Lib.hasPrefix ([72, 84, 84, 80, 47] ++ n) [72, 84, 84, 80, 47] = false := k4
  rw [if_neg k4'', en]
  have c2 : (([72, 84, 84, 80, 47] ++ n).length ≠ 8 ∨ ([72, 84, 84, 80, 47] : B).isPrefixOf ([72, 84, 84, 80, 47] ++ n) = false ∨ isB 1 (([72, 84, 84, 80, 47] ++ n).getD 5 0) = false ∨ ([72, 84, 84, 80, 47] ++ n).getD 6 0 ≠ 46 ∨ isB 1 (([72, 84, 84, 80, 47] ++ n).getD 7 0) = false) ↔
      (n.length ≠ 3 ∨ isB 1 (n.getD 0 0) = false ∨ n.getD 1 0 ≠ 46 ∨ isB 1 (n.getD 2 0) = false) := by
    have e : ([72, 84, 84, 80, 47] ++ n).length = n.length + 5 := by simp
    rw [e]
    have g5 : ([72, 84, 84, 80, 47] ++ n).getD 5 0 = n.getD 0 0 := rfl
    have g6 : ([72, 84, 84, 80, 47] ++ n).getD 6 0 = n.getD 1 0 := rfl
    have g7 : ([72, 84, 84, 80, 47] ++ n).getD 7 0 = n.getD 2 0 := rfl
    rw [g5, g6, g7, k4']
    constructor
    · rintro (h | h | h)
      · exact .inl (by omega)
      · cases h
      · exact .inr h
    · rintro (h | h)
      · exact .inl (by omega)
      · exact .inr (.inr h)
  unfold open4
  by_cases k5 : (n.length ≠ 3 ∨ isB 1 (n.getD 0 0) = false ∨ n.getD 1 0 ≠ 46 ∨ isB 1 (n.getD 2 0) = false)
  · rw [if_pos k5, if_pos (c2.2 k5)]; exact ⟨rfl, fun h => by cases h⟩
  rw [if_neg k5, if_neg (fun h => k5 (c2.1 h))]
  by_cases k6 : n = [49, 46, 49]
  · subst k6
    rw [if_neg (show ¬ ([49, 46, 49] : B) ≠ [49, 46, 49] from fun h => h rfl), if_neg (show ¬ ([72, 84, 84, 80, 47] ++ [49, 46, 49] : B) ≠ [72, 84, 84, 80, 47, 49, 46, 49] from fun h => h rfl)]
    by_cases k7 : m ≠ [71, 69, 84] ∧ m ≠ [80, 79, 83, 84] ∧ m ≠ [80, 85, 84] ∧ m ≠ [68, 69, 76, 69, 84, 69]
    · rw [if_pos ⟨k7.1, k7.2.2.1, k7.2.1, k7.2.2.2⟩, if_pos k7]; exact ⟨rfl, fun h => by cases h⟩
    rw [if_neg (fun h => k7 ⟨h.1, h.2.2.1, h.2.1, h.2.2.2⟩), if_neg k7]
    by_cases k8 : 1024 < t.length
    · rw [if_pos k8, if_pos k8]; exact ⟨rfl, fun h => by cases h⟩
    · rw [if_neg k8, if_neg k8]; exact ⟨rfl, fun _ => rfl⟩
  · rw [if_pos k6, if_pos (by intro h; exact k6 (by simpa using h))]; exact ⟨rfl, fun h => by cases h⟩
theorem line_law (s : B) (hs : s.length ≤ 8192) : openL s = (lineL s).2.2 ∧ (openL s = 0 → lineL s = (openM s, openM (openR s), 0)) := by
  have b4 : ∀ n, (bad n).2.2 = n := fun _ => rfl
  have ha := eatL_le 7 s
  have h8 := eatL_le 7 (s.drop (eatL 7 s + 1))
  unfold openL lineL openM openR
  rw [where_eat, where_eat]
  by_cases k1 : eatL 7 s = s.length
  · rw [if_neg (by omega), if_pos (.inr k1)]; exact ⟨rfl, fun h => by cases h⟩
  by_cases k0 : eatL 7 s = 0
  · rw [if_pos (show eatL 7 s = 0 ∨ eatL 7 s = s.length from .inl k0)]
    split
    · unfold open3; rw [if_pos (.inl (by rw [k0]; rfl))]; exact ⟨rfl, fun h => by cases h⟩
    · exact ⟨rfl, fun h => by cases h⟩
  rw [if_neg (show ¬ (eatL 7 s = 0 ∨ eatL 7 s = s.length) by omega)]
  unfold line2
  have hd : (s.drop (eatL 7 s + 1)).length = s.length - (eatL 7 s + 1) := List.length_drop ..
  generalize he : s.drop (eatL 7 s + 1) = r at *
  by_cases k2 : eatL 7 r = r.length
  · rw [if_neg (by omega), if_pos (.inr k2)]; exact ⟨rfl, fun h => by cases h⟩
  by_cases k3 : eatL 7 r = 0
  · rw [if_pos (show eatL 7 r = 0 ∨ eatL 7 r = r.length from .inl k3)]
    split
    · unfold open3; rw [if_pos (.inr (.inl (by rw [k3]; rfl)))]; exact ⟨rfl, fun h => by cases h⟩
    · exact ⟨rfl, fun h => by cases h⟩
  rw [if_neg (show ¬ (eatL 7 r = 0 ∨ eatL 7 r = r.length) by omega), if_pos (by omega)]
  refine line3_law _ _ _ ?_ ?_ ?_
  · intro h; have := congrArg List.length h; rw [List.length_take, List.length_nil] at this; omega
  · intro h; have := congrArg List.length h; rw [List.length_take, List.length_nil] at this; omega
  · rw [List.length_take]; omega
theorem drop_eat (k : Nat) : ∀ s : B, s.drop (eatL k s) = s.dropWhile (isB k) := by
  intro s
  induction s with
  | nil => rfl
  | cons c r ih =>
    rw [eatL_cons, List.dropWhile_cons]
    by_cases h : isB k c = true
    · rw [if_pos h, if_pos h, List.drop_succ_cons, ih]
    · rw [if_neg h, if_neg h]; rfl
theorem trim_bare (s : B) : trimL s = bareL s := by
  unfold trimL bareL lastN
  rw [drop_eat]
  have hp : (List.dropWhile (isB 5) (s.dropWhile (isB 5)).reverse).reverse <+: s.dropWhile (isB 5) := by
    have h := List.dropWhile_suffix (isB 5) (l := (s.dropWhile (isB 5)).reverse)
    rw [← List.reverse_prefix, List.reverse_reverse] at h; exact h
  have := List.prefix_iff_eq_take.1 hp
  rw [List.length_reverse] at this
  exact this.symm
theorem dropWhile_twice (p : UInt8 → Bool) : ∀ s : B, (s.dropWhile p).dropWhile p = s.dropWhile p := by
  intro s
  induction s with
  | nil => rfl
  | cons c r ih =>
    rw [List.dropWhile_cons]
    by_cases h : p c = true
    · rw [if_pos h, ih]
    · rw [if_neg h, List.dropWhile_cons, if_neg h]
theorem bare_bare (s : B) : bareL (bareL s) = bareL s := by
  have h1 : (bareL s).dropWhile (isB 5) = bareL s := by
    have hp : bareL s <+: s.dropWhile (isB 5) := by
      have h := List.dropWhile_suffix (isB 5) (l := (s.dropWhile (isB 5)).reverse)
      rw [← List.reverse_prefix, List.reverse_reverse] at h; exact h
    obtain ⟨r, hr⟩ := hp
    cases hb : bareL s with
    | nil => rfl
    | cons c t =>
      rw [hb] at hr
      have h2 := dropWhile_twice (isB 5) s
      rw [← hr, List.cons_append, List.dropWhile_cons] at h2
      rw [List.dropWhile_cons]
      by_cases h : isB 5 c = true
      · rw [if_pos h] at h2
        have := congrArg List.length h2
        have l2 := (List.dropWhile_suffix (isB 5) (l := t ++ r)).length_le
        rw [this, List.length_cons] at l2; omega
      · rw [if_neg h]
  show ((List.dropWhile (isB 5) (bareL s)).reverse.dropWhile (isB 5)).reverse = bareL s
  rw [h1]
  unfold bareL
  rw [List.reverse_reverse, dropWhile_twice]
theorem colon_law : ∀ s : B, (eatL 4 s < s.length ∧ s.getD (eatL 4 s) 0 = 58 ↔ whereL [58] s < s.length ∧ (s.take (whereL [58] s)).all (isB 4) = true) ∧
    (whereL [58] s < s.length ∧ (s.take (whereL [58] s)).all (isB 4) = true → eatL 4 s = whereL [58] s) := by
  intro s
  induction s with
  | nil => simp [whereL]
  | cons c r ih =>
    rw [eatL_cons]
    by_cases h : c = 58
    · subst h
      have h3 : ([58] : B).isPrefixOf (58 :: r) = true := by simp [List.isPrefixOf]
      have h4 : isB 4 58 = false := by decide
      have e : whereL [58] (58 :: r) = 0 := by rw [whereL, if_pos h3]
      rw [e, h4]; simp
    · have h3 : ([58] : B).isPrefixOf (c :: r) = false := by simp [List.isPrefixOf]; exact fun e => h e.symm
      have e : whereL [58] (c :: r) = whereL [58] r + 1 := by rw [whereL, h3]; rfl
      rw [e, List.take_succ_cons, List.all_cons]
      by_cases h4 : isB 4 c = true
      · rw [h4, if_pos rfl, Bool.true_and, List.getD_cons_succ, List.length_cons]
        exact ⟨⟨fun q => ⟨by have := (ih.1.1 ⟨by omega, q.2⟩).1; omega, (ih.1.1 ⟨by omega, q.2⟩).2⟩, fun q => ⟨by have := (ih.1.2 ⟨by omega, q.2⟩).1; omega, (ih.1.2 ⟨by omega, q.2⟩).2⟩⟩,
          fun q => by rw [ih.2 ⟨by omega, q.2⟩]⟩
      · have h5 : isB 4 c = false := by simpa using h4
        rw [h5]; simp [h]
theorem field_law (s : B) (hs : s.length ≤ 8192) : fieldOk s = fOk s ∧ (fOk s = true → fieldOf s = fOf s) := by
  obtain ⟨h1, h2⟩ := colon_law s
  by_cases k : whereL [58] s < s.length ∧ (s.take (whereL [58] s)).all (isB 4) = true
  · have e := h2 k
    obtain ⟨k1, k2⟩ := h1.2 k
    have hl : (bareL (s.drop (whereL [58] s + 1))).length ≤ 8192 := by
      rw [← trim_bare]; unfold trimL; rw [List.length_take, List.length_drop, List.length_drop]; omega
    refine ⟨?_, fun _ => ?_⟩
    · rw [Bool.eq_iff_iff]
      unfold fieldOk fOk tokenL valueL fName fRest allL
      simp only [trim_bare, bare_bare, Bool.and_eq_true, decide_eq_true_eq, k1, k2, and_true, List.length_take]
      rw [e] at k1 k2 ⊢
      simp only [k1, k2, k.2, true_and, and_true, Nat.zero_le, hl]
      constructor
      · rintro ⟨⟨h1, h2⟩, h3⟩; exact ⟨⟨by omega, by omega⟩, h3⟩
      · rintro ⟨⟨h1, h2⟩, h3⟩; exact ⟨⟨by omega, by omega⟩, h3⟩
    · unfold fieldOf fOf fName fRest
      rw [trim_bare, e]
  · have n1 : fieldOk s = false := by
      cases hh : fieldOk s with
      | false => rfl
      | true =>
        unfold fieldOk at hh
        simp only [Bool.and_eq_true, decide_eq_true_eq] at hh
        exact absurd (h1.1 ⟨hh.1.1.2, hh.1.2⟩) k
    have n2 : fOk s = false := by
      cases hh : fOk s with
      | false => rfl
      | true =>
        unfold fOk tokenL fName at hh
        simp only [Bool.and_eq_true, decide_eq_true_eq] at hh
        exact absurd ⟨hh.1.1, hh.1.2.2⟩ k
    rw [n1, n2]; exact ⟨rfl, fun h => by cases h⟩
theorem fields_law : ∀ (l : List B) (hs : List (B × B)), (∀ s ∈ l, s.length ≤ 8192) → hs.length ≤ 32 →
    fieldsP hs l = if (fieldsL hs.length l).2 = 0 then (0, hs ++ (fieldsL hs.length l).1) else ((fieldsL hs.length l).2, []) := by
  intro l
  induction l with
  | nil => intro hs _ _; simp [fieldsP, fieldsL]
  | cons s l ih =>
    intro hs hl hn
    obtain ⟨f1, f2⟩ := field_law s (hl s (by simp))
    rw [fieldsP]
    by_cases h : hs.length = 32
    · have e : fSt hs.length s = 431 := by rw [fSt, if_pos h]
      have eL : fieldsL hs.length (s :: l) = ([], 431) := by rw [fieldsL, if_pos (by omega)]
      rw [e, eL]; rfl
    · by_cases hf : fOk s = true
      · have e : fSt hs.length s = 0 := by rw [fSt, if_neg h, if_pos hf]
        have eL : fieldsL hs.length (s :: l) = fin [fOf s] (fieldsL (hs.length + 1) l) := by
          rw [fieldsL, if_neg (by omega), if_neg (by simp [f1, hf]), f2 hf]
        rw [e, if_pos rfl, eL, ih _ (fun x hx => hl x (by simp [hx])) (by simp; omega)]
        have e2 : (hs ++ [fOf s]).length = hs.length + 1 := by simp
        rw [e2]
        unfold fin
        by_cases hz : (fieldsL (hs.length + 1) l).2 = 0
        · simp only [hz, if_true]; simp
        · simp only [hz, if_false]
      · have e : fSt hs.length s = 400 := by rw [fSt, if_neg h, if_neg hf]
        have eL : fieldsL hs.length (s :: l) = ([], 400) := by
          rw [fieldsL, if_neg (by omega), if_pos (by rw [f1]; simpa using hf)]
        rw [e, eL]; rfl
end Go.Proofs.YtgdelmkgdfhdpaaGreatDoor
namespace Go.Proofs.YtgdelmkgdfhdpaaGreatDoor
open Go.RowKit
set_option linter.unusedVariables false
set_option linter.unusedSimpArgs false
set_option maxRecDepth 100000

/-- The head, byte by byte. -/
theorem headX_of (x : Mc) (hd : B) (h0 : B) : headX { mc0 with head := h0 } hd = headX mc0 hd := rfl
theorem heads_law (s : B) : ∀ (n k : Nat), s.length - k = n → k ≤ s.length → k < whereL crL s + 4 → k ≤ 8195 →
    finP k (runM { mc0 with head := s.take k } (s.drop k)) =
      if 8192 < whereL crL s ∧ (whereL crL s < s.length ∨ 8196 ≤ whereL crL s) then (noReq, 0, 431)
      else if whereL crL s = s.length then (noReq, 0, 1)
      else if headSt (s.take (whereL crL s + 4)) = 1 then finP (whereL crL s + 4) (runM (headX mc0 (s.take (whereL crL s + 4))) (s.drop (whereL crL s + 4)))
      else finP (whereL crL s + 4) (0, headSt (s.take (whereL crL s + 4)), headX mc0 (s.take (whereL crL s + 4))) := by
  have hwl := whereL_le crL s
  have found : whereL crL s < s.length → whereL crL s + 4 ≤ s.length := by
    intro h
    have := (whereL_at crL s h).length_le
    rw [List.length_drop] at this
    have e : crL.length = 4 := rfl
    omega
  intro n
  induction n with
  | zero =>
    intro k hn hk hw h8
    have : k = s.length := by omega
    subst this
    have hns : whereL crL s = s.length := by
      rcases Nat.lt_or_ge (whereL crL s) s.length with h | h
      · have := found h; omega
      · omega
    rw [List.drop_length, if_neg (by omega), if_pos hns]; rfl
  | succ n ih =>
    intro k hn hk hw h8
    have hks : k < s.length := by omega
    rw [List.drop_eq_getElem_cons hks]
    have et : ∀ r : B, r = s.take k → r ++ [s[k]] = s.take (k + 1) := fun r hr => by rw [hr, List.take_add_one, List.getElem?_eq_getElem hks]; rfl
    have st : stepSt { mc0 with head := s.take k } s[k] = headsSt { mc0 with head := s.take k } s[k] := rfl
    have sx : stepX { mc0 with head := s.take k } s[k] = headsStep { mc0 with head := s.take k } s[k] := rfl
    have hl : (s.take (k + 1)).length = k + 1 := by rw [List.length_take]; omega
    have e1 : headsSt { mc0 with head := s.take k } s[k] = if crL.isSuffixOf (s.take (k + 1)) then headSt (s.take (k + 1)) else if 8196 ≤ k + 1 then 431 else 1 := by
      unfold headsSt; simp only [et _ rfl, hl]
    have e2 : headsStep { mc0 with head := s.take k } s[k] = if crL.isSuffixOf (s.take (k + 1)) then headX mc0 (s.take (k + 1)) else { mc0 with head := s.take (k + 1) } := by
      unfold headsStep; simp only [et _ rfl, headX_of]
    by_cases hs : crL.isSuffixOf (s.take (k + 1)) = true
    · obtain ⟨h4, hp⟩ := (suffix_at s k (by omega)).1 hs
      have hk4 : ¬ k + 1 - 4 < whereL crL s := fun h => whereL_not crL s _ h hp
      have hwe : whereL crL s + 4 = k + 1 := by omega
      rw [if_neg (by omega), if_neg (by omega), hwe]
      rw [if_pos hs] at e1 e2
      by_cases h1 : headSt (s.take (k + 1)) = 1
      · rw [if_pos h1, finP_go (by rw [st, e1, h1]), sx, e2]
      · rw [if_neg h1, finP_one (by rw [st, e1]; exact h1), st, sx, e1, e2]
    · rw [if_neg hs] at e1 e2
      have hw2 : k + 1 < whereL crL s + 4 := by
        rcases Nat.lt_or_ge (k + 1) (whereL crL s + 4) with h | h
        · exact h
        · have hwe : whereL crL s + 4 = k + 1 := by omega
          refine absurd ((suffix_at s k (by omega)).2 ⟨by omega, ?_⟩) hs
          have : k + 1 - 4 = whereL crL s := by omega
          rw [this]; exact whereL_at crL s (by omega)
      by_cases hb : 8196 ≤ k + 1
      · rw [if_pos hb] at e1
        rw [finP_one (by rw [st, e1]; simp), st, e1, if_pos (by omega)]; rfl
      · rw [if_neg hb] at e1
        rw [finP_go (by rw [st, e1]), sx, e2, ih (k + 1) (by omega) (by omega) hw2 (by omega)]
theorem plainL0 (s : B) : plainL 0 s = ([], 0, 0) := by
  have h : ¬ ((s.length : Int) < 0) := by omega
  unfold plainL; rw [if_neg (by omega), if_neg (by omega), if_neg h]; rfl
theorem getD_head (l : List B) : l.getD 0 [] = firstL l := by cases l <;> rfl
/-- Behind the head: the body's law. -/
theorem body_law (x : Mc) (hx : x.b = []) (hl : x.left = 0) (hm : x.many = 0) (n : Nat) (s : B) :
    (if measL x.h = 1 then finP n (runM { x with st := if (valuesL x.h teL).length = 1 then .sizes else .plain, left := if (valuesL x.h teL).length = 1 then x.left else numF (firstL (valuesL x.h clL)) } s)
      else if measL x.h = 0 then (⟨x.m, x.p, x.h, []⟩, n, 0) else (noReq, 0, measL x.h)) =
      if (bodyL x.h s).2.2 ≠ 0 then (noReq, 0, (bodyL x.h s).2.2) else (⟨x.m, x.p, x.h, (bodyL x.h s).1⟩, n + (bodyL x.h s).2.1, 0) := by
  unfold measL bodyL
  rw [getD_head, getD_head, getD_head]
  generalize hC : (valuesL x.h teL).length = C
  generalize hH : (valuesL x.h hoL).length = H
  generalize hS : (valuesL x.h clL).length = S
  generalize firstL (valuesL x.h teL) = X
  generalize firstL (valuesL x.h hoL) = Y
  generalize firstL (valuesL x.h clL) = Z
  unfold measF
  by_cases k1 : 1 < C ∨ (C = 1 ∧ lowL X ≠ ckL)
  · simp only [if_pos k1]; simp
  simp only [if_neg k1]
  by_cases k2 : H ≠ 1 ∨ Y = []
  · have : H ≠ 1 ∨ Y = [] ∨ 1 < C + S := k2.elim .inl (fun h => .inr (.inl h))
    simp only [if_pos k2, if_pos this]; simp
  by_cases k3 : 1 < C + S
  · have : H ≠ 1 ∨ Y = [] ∨ 1 < C + S := .inr (.inr k3)
    simp only [if_neg k2, if_pos k3, if_pos this]; simp
  have k4 : ¬ (H ≠ 1 ∨ Y = [] ∨ 1 < C + S) := fun h => k2 (h.elim .inl (fun h => h.elim .inr (fun h => absurd h k3)))
  simp only [if_neg k2, if_neg k3, if_neg k4]
  by_cases k5 : C = 1
  · simp only [if_pos k5, if_true]
    refine finP_body (x := { x with st := .sizes, left := x.left }) (by simp) s 0 n _ ?_
    exact (sizes_law _ s { x with st := .sizes, left := x.left } 0 rfl rfl hm hl (by simp [hx])).trans (by rw [hx])
  simp only [if_neg k5]
  by_cases k6 : S = 0
  · have : ¬ S = 1 := by omega
    simp only [if_pos k6, if_neg this, plainL0]; simp
  have k7 : S = 1 := by omega
  simp only [if_neg k6, if_pos k7]
  by_cases k8 : Z = [] ∨ 9 < Z.length ∨ Z.all (isB 1) = false
  · have : allL Z 1 9 1 = false := by
      rw [allL_false]
      rcases k8 with h | h | h
      · subst h; exact .inr (.inl (by simp))
      · exact .inr (.inr h)
      · exact .inl h
    simp only [if_pos k8]
    simp [numL, this, plainL]
  have kA : allL Z 1 9 1 = true := by
    cases h : allL Z 1 9 1 with
    | true => rfl
    | false =>
      rw [allL_false] at h
      refine absurd ?_ k8
      rcases h with h | h | h
      · exact .inr (.inr h)
      · exact .inl (List.eq_nil_of_length_eq_zero (by omega))
      · exact .inr (.inl h)
  have kN : numL Z = (numF Z : Int) := by rw [numL, if_pos kA]
  rw [kN]
  simp only [if_neg k8]
  by_cases k9 : 32768 < numF Z
  · have h1 : ¬ ((numF Z : Int) < 0) := by omega
    have h2 : (32768 : Int) < numF Z := by omega
    simp only [if_pos k9, plainL, if_neg h1, if_pos h2]; simp
  have h1 : ¬ ((numF Z : Int) < 0) := by omega
  have h2 : ¬ ((32768 : Int) < numF Z) := by omega
  simp only [if_neg k9]
  by_cases kz : numF Z = 0
  · simp only [if_pos kz]
    rw [kz]; simp only [Int.ofNat_zero, Int.natCast_zero, plainL0]; simp
  · simp only [if_neg kz, if_true]
    refine finP_body (x := { x with st := .plain, left := numF Z }) (by simp) s 0 n _ ?_
    rw [plain_law s _ 0 rfl (by show 1 ≤ numF Z; omega)]
    simp only [plainL, if_neg h1, if_neg h2, hx, List.nil_append, Nat.zero_add]
    by_cases hs : s.length < numF Z
    · have h3 : (s.length : Int) < numF Z := by omega
      rw [if_pos hs, if_pos h3]
    · have h3 : ¬ (s.length : Int) < numF Z := by omega
      rw [if_neg hs, if_neg h3]; simp
/-- The program's Parse answers as the reference. -/
theorem parse_law (s : B) : progParse s = refParse s := by
  unfold progParse refParse
  have hwl := whereL_le crL s
  have h0 := heads_law s s.length 0 (by omega) (by omega) (by omega) (by omega)
  have e0 : { mc0 with head := s.take 0 } = mc0 := rfl
  rw [e0, List.drop_zero] at h0
  rw [h0]
  by_cases k1 : 8192 < whereL crL s ∧ (whereL crL s < s.length ∨ 8196 ≤ whereL crL s)
  · rw [if_pos k1, if_pos k1]
  rw [if_neg k1, if_neg k1]
  by_cases k2 : whereL crL s = s.length
  · rw [if_pos k2, if_pos k2]
  rw [if_neg k2, if_neg k2]
  have hw4 : whereL crL s + 4 ≤ s.length := by
    have := (whereL_at crL s (by omega)).length_le
    rw [List.length_drop] at this
    have e : crL.length = 4 := rfl
    omega
  have hw8 : whereL crL s ≤ 8192 := by omega
  have hd1 : (s.take (whereL crL s + 4)).length - 4 = whereL crL s := by rw [List.length_take]; omega
  have hd2 : (s.take (whereL crL s + 4)).take (whereL crL s) = s.take (whereL crL s) := by rw [List.take_take]; congr 1; omega
  unfold headSt headX
  rw [hd1, hd2]
  have hlen : ∀ x ∈ cutL (s.take (whereL crL s)), x.length ≤ 8192 := fun x hx => by
    have := cutL_mem _ x hx
    rw [List.length_take] at this; omega
  generalize hL : cutL (s.take (whereL crL s)) = L at *
  have hlen1 : (L.headD []).length ≤ 8192 := by
    cases L with
    | nil => simp
    | cons a r => exact hlen a (by simp)
  have hlen2 : ∀ x ∈ L.tail, x.length ≤ 8192 := fun x hx => hlen x (List.mem_of_mem_tail hx)
  generalize hn : whereL crL s = w at *
  generalize hst : s.take (w + 4) = hd at *
  by_cases k3 : L.any hasCR = true
  · simp only [k3, if_true]; simp [finP]
  have k3' : L.any hasCR = false := by simpa using k3
  simp only [k3', Bool.false_eq_true, if_false]
  unfold parse2
  obtain ⟨l1, l2⟩ := line_law _ hlen1
  rw [← l1]
  by_cases k4 : openL (L.headD []) = 0
  · have l3 := l2 k4
    simp only [k4, ne_eq, not_true_eq_false, if_false, l3]
    have hf := fields_law L.tail [] hlen2 (by simp)
    simp only [List.length_nil, List.nil_append] at hf
    by_cases k5 : (fieldsL 0 L.tail).2 = 0
    · rw [if_pos k5] at hf
      simp only [hf, k5, not_true_eq_false, if_false]
      have hb := body_law { mc0 with head := hd, m := openM (L.headD []), p := openM (openR (L.headD [])), h := (fieldsL 0 L.tail).1 } rfl rfl rfl (w + 4) (s.drop (w + 4))
      simp only at hb
      unfold parse3
      rw [← hb]
      by_cases k6 : measL (fieldsL 0 L.tail).1 = 1
      · rw [if_pos k6, if_pos k6]
      · rw [if_neg k6, if_neg k6]
        by_cases k7 : measL (fieldsL 0 L.tail).1 = 0
        · rw [if_pos k7, k7]; simp [finP]; rfl
        · rw [if_neg k7]; simp [finP, k7]
    · rw [if_neg k5] at hf
      have hge := fieldsP_ge L.tail []
      rw [hf] at hge
      have k6 : ¬ (fieldsL 0 L.tail).2 = 1 := by simp only at hge; omega
      simp only [hf, k5, not_false_eq_true, if_true, k6, if_false]
      simp [finP, k5]
  · have hge := openL_ge (L.headD [])
    have k6 : ¬ openL (L.headD []) = 1 := by omega
    simp only [k4, ne_eq, not_false_eq_true, if_true, k6, if_false]
    simp only [finP, ne_eq, k4, not_false_eq_true, if_true]
end Go.Proofs.YtgdelmkgdfhdpaaGreatDoor
namespace Go.Proofs.YtgdelmkgdfhdpaaGreatDoor
open Go.RowKit
set_option linter.unusedVariables false
set_option linter.unusedSimpArgs false
set_option maxRecDepth 100000

/-- What is taken is taken from its beginning alone. -/
theorem run_cut : ∀ (l : B) (x : Mc), (runM x l).2.1 ≠ 1 → (1 ≤ (runM x l).1 ∧ (runM x l).1 ≤ l.length) ∧
    (∀ behind : B, runM x (l.take (runM x l).1 ++ behind) = runM x l) ∧ ∀ k, k < (runM x l).1 → (runM x (l.take k)).2.1 = 1 := by
  intro l
  induction l with
  | nil => intro x h; exact absurd rfl h
  | cons c l ih =>
    intro x h
    by_cases h1 : stepSt x c = 1
    · have e : ∀ r : B, runM x (c :: r) = ((runM (stepX x c) r).1 + 1, (runM (stepX x c) r).2) := fun r => by rw [runM, if_pos h1]
      rw [e] at h ⊢
      obtain ⟨⟨g1, g2⟩, g3, g4⟩ := ih (stepX x c) h
      refine ⟨⟨by simp only; omega, by simp only [List.length_cons]; omega⟩, fun behind => ?_, fun k hk => ?_⟩
      · simp only [List.take_succ_cons, List.cons_append]; rw [e, g3]
      · cases k with
        | zero => rfl
        | succ k =>
          simp only [List.take_succ_cons]; rw [e]
          exact g4 k (by simp only at hk; omega)
    · have e : ∀ r : B, runM x (c :: r) = (1, stepSt x c, stepX x c) := fun r => by rw [runM, if_neg h1]
      rw [e]
      refine ⟨⟨Nat.le_refl _, by simp⟩, fun behind => ?_, fun k hk => ?_⟩
      · simp only [List.take_succ_cons, List.cons_append]; rw [e]
      · have : k = 0 := by simp only at hk; omega
        subst this; rfl
theorem cut_law (l : B) (h : (progParse l).2.2 = 0) : (1 ≤ (progParse l).2.1 ∧ (progParse l).2.1 ≤ l.length) ∧
    (∀ behind : B, progParse (l.take (progParse l).2.1 ++ behind) = progParse l) ∧ ∀ k, k < (progParse l).2.1 → progParse (l.take k) = (noReq, 0, 1) := by
  have hs : (runM mc0 l).2.1 = 0 := by
    by_cases h0 : (runM mc0 l).2.1 = 0
    · exact h0
    · unfold progParse finP at h; rw [if_pos h0] at h; exact absurd h h0
  have hn : (progParse l).2.1 = (runM mc0 l).1 := by unfold progParse finP; rw [if_neg (by simp [hs])]; simp
  obtain ⟨g1, g2, g3⟩ := run_cut l mc0 (by rw [hs]; decide)
  rw [hn]
  refine ⟨g1, fun behind => ?_, fun k hk => ?_⟩
  · unfold progParse; rw [g2]
  · unfold progParse finP; rw [g3 k hk]; rfl
theorem not_law (l : B) (h : (progParse l).2.2 ≠ 0) : (progParse l).2.1 = 0 ∧ (progParse l).1 = noReq := by
  unfold progParse finP at h ⊢
  by_cases h0 : (runM mc0 l).2.1 = 0
  · rw [if_neg (by simp [h0])] at h; exact absurd rfl h
  · rw [if_pos h0]; exact ⟨rfl, rfl⟩

/-- The statuses. -/
def OneOf (n : Nat) : Prop := n ∈ [1, 400, 413, 414, 431, 501, 505]
theorem ends_one (l : B) : endsL l = 0 ∨ OneOf (endsL l) := by
  rcases ends_cases l with ⟨h, _⟩ | ⟨h, _⟩ | ⟨h, _⟩ <;> rw [h] <;> simp [OneOf]
theorem line_one (s : B) : (lineL s).2.2 = 0 ∨ OneOf (lineL s).2.2 := by
  unfold lineL line2 line3
  repeat' split
  all_goals first | exact .inl rfl | exact .inr (by simp [OneOf, bad])
theorem fields_one : ∀ (l : List B) (i : Nat), i ≤ 32 → ((fieldsL i l).2 = 0 ∧ (fieldsL i l).1.length + i ≤ 32 ∧ ∀ h ∈ (fieldsL i l).1, lowL h.1 = h.1) ∨ OneOf (fieldsL i l).2 := by
  have low2 : ∀ l : B, lowL (lowL l) = lowL l := by
    intro l
    unfold lowL
    rw [List.map_map]
    refine List.map_congr_left fun c _ => ?_
    have : ∀ c : UInt8, lowB (lowB c) = lowB c := by
      intro c
      by_cases hc : isB 2 c = true
      · have h1 : (65 ≤ c.toNat) ∧ c.toNat ≤ 90 := by
          have : (65 ≤ (c.toNat : Int)) ∧ (c.toNat : Int) ≤ 90 := by simpa [isB, inB] using hc
          omega
        have e : lowB c = c + 32 := by unfold lowB; rw [if_pos hc]
        have h2 : (c + 32).toNat = c.toNat + 32 := by rw [UInt8.toNat_add]; have : (32 : UInt8).toNat = 32 := rfl; omega
        rw [e]; unfold lowB
        rw [if_neg]
        simp [isB, inB, h2]; omega
      · have e : lowB c = c := by unfold lowB; rw [if_neg hc]
        rw [e, e]
    exact this c
  intro l
  induction l with
  | nil => intro i hi; exact .inl ⟨rfl, by simpa [fieldsL] using hi, fun h hh => by simp [fieldsL] at hh⟩
  | cons s l ih =>
    intro i hi
    rw [fieldsL]
    by_cases h1 : 32 ≤ i
    · rw [if_pos h1]; exact .inr (by simp [OneOf])
    rw [if_neg h1]
    by_cases h2 : fieldOk s = false
    · rw [if_pos h2]; exact .inr (by simp [OneOf])
    rw [if_neg h2]
    unfold fin
    rcases ih (i + 1) (by omega) with ⟨h3, h4, h5⟩ | h3
    · rw [if_pos h3]
      refine .inl ⟨rfl, ?_, fun h hh => ?_⟩
      · rw [List.length_append]; simp only [List.length_cons, List.length_nil]; omega
      · rcases List.mem_append.1 hh with hh | hh
        · simp only [List.mem_singleton] at hh; subst hh; exact low2 _
        · exact h5 h hh
    · rw [if_neg (fun e => by rw [e] at h3; simp [OneOf] at h3)]; exact .inr h3
theorem chunk_one : ∀ (n : Nat) (acc : B) (p : Nat) (l : B), l.length = n → acc.length ≤ 32768 →
    ((chunkL acc p l).2.2 = 0 ∧ (chunkL acc p l).1.length ≤ 32768 ∧ (chunkL acc p l).2.1 ≤ p + l.length) ∨ OneOf (chunkL acc p l).2.2 := by
  intro n
  induction n using Nat.strongRecOn with
  | _ n ih =>
    intro acc p l hl ha
    rw [chunkL]
    by_cases c1 : 8 < digitsN l
    · rw [if_pos c1]; exact .inr (by simp [OneOf])
    rw [if_neg c1]
    by_cases c2 : digitsN l < l.length ∧ digitsN l = 0
    · rw [if_pos c2]; exact .inr (by simp [OneOf])
    rw [if_neg c2]
    by_cases c3 : endsL (l.drop (digitsN l)) ≠ 0
    · rw [if_pos c3]; exact .inr ((ends_one _).resolve_left c3)
    rw [if_neg c3]
    have k3 := ends_len (Decidable.not_not.1 c3)
    rw [List.length_drop] at k3
    by_cases c4 : 32768 - acc.length < hexF (l.take (digitsN l))
    · rw [if_pos c4]; exact .inr (by simp [OneOf])
    rw [if_neg c4]
    by_cases c5 : l.length - (digitsN l + 2) < hexF (l.take (digitsN l))
    · rw [if_pos c5]; exact .inr (by simp [OneOf])
    rw [if_neg c5]
    by_cases c6 : endsL (l.drop (digitsN l + 2 + hexF (l.take (digitsN l)))) ≠ 0
    · rw [if_pos c6]; exact .inr ((ends_one _).resolve_left c6)
    rw [if_neg c6]
    have k6 := ends_len (Decidable.not_not.1 c6)
    rw [List.length_drop] at k6
    by_cases c7 : hexF (l.take (digitsN l)) = 0
    · rw [if_pos c7]; exact .inl ⟨rfl, ha, by simp only; omega⟩
    rw [if_neg c7, dif_neg (by omega)]
    have := ih (l.length - (digitsN l + 4 + hexF (l.take (digitsN l)))) (by omega) (acc ++ (l.drop (digitsN l + 2)).take (hexF (l.take (digitsN l)))) (p + (digitsN l + 4 + hexF (l.take (digitsN l))))
      (l.drop (digitsN l + 4 + hexF (l.take (digitsN l)))) (by rw [List.length_drop]) (by rw [List.length_append, List.length_take, List.length_drop]; omega)
    rw [List.length_drop] at this
    rcases this with ⟨h1, h2, h3⟩ | h1
    · exact .inl ⟨h1, h2, by omega⟩
    · exact .inr h1
/-- A header's value, whatever the letters of its name. -/
def findL (hs : List (B × B)) (nm : B) : Option B := (hs.find? fun h => lowL h.1 == lowL nm).map (·.2)
theorem find_host (hs : List (B × B)) (hl : ∀ h ∈ hs, lowL h.1 = h.1) (h1 : (valuesL hs hoL).length = 1) : findL hs hoL = some ((valuesL hs hoL).getD 0 []) := by
  have e : lowL hoL = hoL := by decide
  unfold findL valuesL at *
  rw [e]
  have e2 : (hs.find? fun h => lowL h.1 == hoL) = hs.find? fun h => h.1 == hoL := by
    clear h1
    induction hs with
    | nil => rfl
    | cons h t ih => rw [List.find?_cons, List.find?_cons, hl h (by simp), ih fun x hx => hl x (by simp [hx])]
  rw [e2, ← List.head?_filter]
  cases hf : hs.filter fun h => h.1 == hoL with
  | nil => rw [hf] at h1; simp at h1
  | cons a t => rfl
theorem body_one (h : List (B × B)) (s : B) : ((bodyL h s).2.2 = 0 ∧ (bodyL h s).1.length ≤ 32768 ∧ (bodyL h s).2.1 ≤ s.length ∧ (valuesL h hoL).length = 1 ∧ (valuesL h hoL).getD 0 [] ≠ []) ∨ OneOf (bodyL h s).2.2 := by
  unfold bodyL
  by_cases c1 : 1 < (valuesL h teL).length ∨ ((valuesL h teL).length = 1 ∧ lowL ((valuesL h teL).getD 0 []) ≠ ckL)
  · rw [if_pos c1]; exact .inr (by simp [OneOf])
  rw [if_neg c1]
  by_cases c2 : (valuesL h hoL).length ≠ 1 ∨ (valuesL h hoL).getD 0 [] = [] ∨ 1 < (valuesL h teL).length + (valuesL h clL).length
  · rw [if_pos c2]; exact .inr (by simp [OneOf])
  rw [if_neg c2]
  have k1 : (valuesL h hoL).length = 1 := by omega
  have k2 : (valuesL h hoL).getD 0 [] ≠ [] := fun e => c2 (.inr (.inl e))
  by_cases c3 : (valuesL h teL).length = 1
  · rw [if_pos c3]
    rcases chunk_one _ [] 0 s rfl (by simp) with ⟨h1, h2, h3⟩ | h1
    · exact .inl ⟨h1, h2, by omega, k1, k2⟩
    · exact .inr h1
  rw [if_neg c3]
  generalize (if (valuesL h clL).length = 1 then numL ((valuesL h clL).getD 0 []) else 0) = n
  unfold plainL
  by_cases p1 : n < 0
  · rw [if_pos p1]; exact .inr (by simp [OneOf])
  rw [if_neg p1]
  by_cases p2 : 32768 < n
  · rw [if_pos p2]; exact .inr (by simp [OneOf])
  rw [if_neg p2]
  by_cases p3 : (s.length : Int) < n
  · rw [if_pos p3]; exact .inr (by simp [OneOf])
  rw [if_neg p3]
  exact .inl ⟨rfl, by rw [List.length_take]; omega, by simp only; omega, k1, k2⟩
/-- What is answered is a request, or one of few statuses. -/
theorem one_law (l : B) : ((refParse l).2.2 = 0 ∧ 0 < (refParse l).2.1 ∧ (refParse l).2.1 ≤ l.length ∧ (refParse l).1.b.length ≤ 32768 ∧ (refParse l).1.h.length ≤ 32 ∧ ∃ v, v ≠ [] ∧ findL (refParse l).1.h hoL = some v) ∨
    (OneOf (refParse l).2.2 ∧ (refParse l).2.1 = 0 ∧ (refParse l).1 = noReq) := by
  have hwl := whereL_le crL l
  unfold refParse
  by_cases k1 : 8192 < whereL crL l ∧ (whereL crL l < l.length ∨ 8196 ≤ whereL crL l)
  · rw [if_pos k1]; exact .inr ⟨by simp [OneOf], rfl, rfl⟩
  rw [if_neg k1]
  by_cases k2 : whereL crL l = l.length
  · rw [if_pos k2]; exact .inr ⟨by simp [OneOf], rfl, rfl⟩
  rw [if_neg k2]
  have hw4 : whereL crL l + 4 ≤ l.length := by
    have := (whereL_at crL l (by omega)).length_le
    rw [List.length_drop] at this
    have e : crL.length = 4 := rfl
    omega
  by_cases k3 : (cutL (l.take (whereL crL l))).any hasCR = true
  · rw [if_pos k3]; exact .inr ⟨by simp [OneOf], rfl, rfl⟩
  rw [if_neg k3]
  generalize cutL (l.take (whereL crL l)) = L
  unfold parse2
  by_cases k4 : (lineL (L.headD [])).2.2 ≠ 0
  · rw [if_pos k4]; exact .inr ⟨(line_one _).resolve_left k4, rfl, rfl⟩
  rw [if_neg k4]
  rcases fields_one L.tail 0 (by omega) with ⟨f1, f2, f3⟩ | f1
  · rw [if_neg (by simp [f1])]
    unfold parse3
    rcases body_one (fieldsL 0 L.tail).1 (l.drop (whereL crL l + 4)) with ⟨b1, b2, b3, b4, b5⟩ | b1
    · rw [if_neg (by simp [b1])]
      rw [List.length_drop] at b3
      refine .inl ⟨rfl, by simp only; omega, by simp only; omega, b2, by simp only; omega, _, b5, find_host _ f3 b4⟩
    · have : (bodyL (fieldsL 0 L.tail).1 (l.drop (whereL crL l + 4))).2.2 ≠ 0 := fun e => by rw [e] at b1; simp [OneOf] at b1
      rw [if_pos this]; exact .inr ⟨b1, rfl, rfl⟩
  · have : (fieldsL 0 L.tail).2 ≠ 0 := fun e => by rw [e] at f1; simp [OneOf] at f1
    rw [if_pos this]; exact .inr ⟨f1, rfl, rfl⟩
/-- A request that is read, one that is none. -/
def wakeA : B := [71, 69, 84, 32, 47, 97, 32, 72, 84, 84, 80, 47, 49, 46, 49, 13, 10, 72, 111, 115, 116, 58, 32, 97, 13, 10, 13, 10, 120]
def wakeB : B := [71, 69, 84, 32, 47, 97, 32, 72, 84, 84, 80, 47, 49, 46, 48, 13, 10, 13, 10]
theorem wakeA_law : progParse wakeA = (⟨[71, 69, 84], [47, 97], [(hoL, [97])], []⟩, 28, 0) := by
  rw [parse_law]
  have h1 : whereL crL wakeA = 24 := by decide
  have h2 : cutL (wakeA.take 24) = [[71, 69, 84, 32, 47, 97, 32, 72, 84, 84, 80, 47, 49, 46, 49], [72, 111, 115, 116, 58, 32, 97]] := by
    rw [cutL, dif_pos (by decide), cutL, dif_neg (by decide)]; decide
  unfold refParse
  rw [h1, h2]
  rfl
theorem wakeB_law : progParse wakeB = (noReq, 0, 505) := by
  rw [parse_law]
  have h1 : whereL crL wakeB = 15 := by decide
  have h2 : cutL (wakeB.take 15) = [[71, 69, 84, 32, 47, 97, 32, 72, 84, 84, 80, 47, 49, 46, 48]] := by
    rw [cutL, dif_neg (by decide)]; decide
  unfold refParse
  rw [h1, h2]
  rfl
end Go.Proofs.YtgdelmkgdfhdpaaGreatDoor
