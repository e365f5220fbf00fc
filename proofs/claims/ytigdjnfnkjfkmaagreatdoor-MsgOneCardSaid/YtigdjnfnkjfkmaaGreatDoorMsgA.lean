/- Messages: names, mutations, their prints. Plain. Conditions: none. Messages: which may be, and their prints. Plain. Conditions: none. Messages: what a value tells. Plain. Conditions: none. Messages: a value that tells a message is the message's own value, but for the order of members. Plain. Conditions: none. -/
import Derived.Test.YtigdjnfnkjfkmaaGreatDoorJsonH
namespace Go.Proofs.YtigdjnfnkjfkmaaGreatDoor
set_option linter.unusedVariables false
set_option linter.unusedSimpArgs false
set_option maxRecDepth 100000

/-- A name's bytes. -/
def nameC (c : UInt8) : Bool := c == 46 || c == 45 || c == 95 || (decide (48 ≤ c) && decide (c ≤ 57)) || (decide (97 ≤ c) && decide (c ≤ 122)) || (decide (65 ≤ c) && decide (c ≤ 90))
/-- Is a text somebody's name? -/
def nameL (s : B) : Bool := s.all nameC && !s.isEmpty && decide (s.length ≤ 24)
/-- May a text be a title, a comment? -/
def wordsL (s : B) : Bool := !s.isEmpty && decide (s.length ≤ 512) && wholeL s
structure Mu where
  kind : Int
  issue : B
  name : B
  text : B
structure Lo where
  client : B
  id : Int
  m : Mu
/-- What a kind's name must be: empty (0), a name (1), a name or empty (2). -/
def needN (k : Int) : Nat := if k = 4 then 2 else if 5 ≤ k ∧ k ≤ 9 then 1 else 0
/-- What its text must be: empty (0), words (1), a status (2). -/
def needT (k : Int) : Nat := if k = 1 ∨ k = 2 ∨ k = 5 ∨ k = 6 then 1 else if k = 3 then 2 else 0
def openL : B := [111, 112, 101, 110]
def closedL : B := [99, 108, 111, 115, 101, 100]
/-- The place of the first field that can't be; -1: a mutation that can. -/
def mayM (m : Mu) : Int :=
  if m.kind < 1 ∨ 10 < m.kind then 0
  else if nameL m.issue = false then 1
  else if (needN m.kind = 0 ∧ m.name ≠ []) ∨ (needN m.kind = 1 ∧ nameL m.name = false) ∨ (needN m.kind = 2 ∧ nameL m.name = false ∧ m.name ≠ []) then 2
  else if (needT m.kind = 0 ∧ m.text ≠ []) ∨ (needT m.kind = 1 ∧ wordsL m.text = false) ∨ (needT m.kind = 2 ∧ m.text ≠ openL ∧ m.text ≠ closedL) then 3
  else -1
def mayLo (x : Lo) : Bool := nameL x.client && decide (1 ≤ x.id) && decide (mayM x.m = -1)

def numJ (n : Int) : J := .mk 2 n [] [] []
def txtJ (s : B) : J := .mk 3 0 s [] []
def objJ (l : List (B × J)) : J := .mk 5 0 [] (l.map (·.1)) (l.map (·.2))
def kindN : B := [107, 105, 110, 100]
def issueN : B := [105, 115, 115, 117, 101]
def nameN : B := [110, 97, 109, 101]
def textN : B := [116, 101, 120, 116]
def clientN : B := [99, 108, 105, 101, 110, 116]
def idN : B := [105, 100]
def mN : B := [109]
def mutJ (m : Mu) : J := objJ [(kindN, numJ m.kind), (issueN, txtJ m.issue), (nameN, txtJ m.name), (textN, txtJ m.text)]
def logJ (x : Lo) : J := objJ [(clientN, txtJ x.client), (idN, numJ x.id), (mN, mutJ x.m)]
theorem text_num (n : Int) : textJ (numJ n) = Lib.itoa n := by unfold numJ; rw [textJ, if_neg (by decide), if_neg (by decide), if_pos rfl]
theorem text_txt (s : B) : textJ (txtJ s) = quoteB s := by unfold txtJ; rw [textJ, if_neg (by decide), if_neg (by decide), if_neg (by decide), if_pos rfl]
theorem text_obj (l : List (B × J)) : textJ (objJ l) = 123 :: (joinB ((sortP (l.map fun p => (p.1, textJ p.2))).map memB) ++ [125]) := by
  unfold objJ
  rw [textJ, if_neg (by decide), if_neg (by decide), if_neg (by decide), if_neg (by decide), if_neg (by decide), texts_map]
  have hz : (l.map (·.1)).zip ((l.map (·.2)).map textJ) = l.map fun p => (p.1, textJ p.2) := by
    induction l with
    | nil => rfl
    | cons p l ih => simp only [List.map_cons, List.zip_cons_cons, ih]
  rw [hz]
/-- A mutation's print. -/
theorem text_mut (m : Mu) : textJ (mutJ m) = 123 :: (joinB [memB (issueN, quoteB m.issue), memB (kindN, Lib.itoa m.kind), memB (nameN, quoteB m.name), memB (textN, quoteB m.text)] ++ [125]) := by
  unfold mutJ
  rw [text_obj]
  simp only [List.map_cons, List.map_nil, text_num, text_txt]
  rfl
theorem text_log (x : Lo) : textJ (logJ x) = 123 :: (joinB [memB (clientN, quoteB x.client), memB (idN, Lib.itoa x.id), memB (mN, textJ (mutJ x.m))] ++ [125]) := by
  unfold logJ
  rw [text_obj]
  simp only [List.map_cons, List.map_nil, text_num, text_txt]
  rfl
theorem name_whole {s : B} (h : nameL s = true) : wholeL s = true := by
  have hall : ∀ c ∈ s, c < 128 := fun c hc => by
    unfold nameL at h
    simp only [Bool.and_eq_true, List.all_eq_true] at h
    have h1 := h.1.1 c hc
    have hf : ∀ n : Nat, n < 256 → nameC (UInt8.ofNat n) = true → UInt8.ofNat n < 128 := by decide +kernel
    have := hf c.toNat c.toNat_lt
    rw [UInt8.ofNat_toNat] at this
    exact this h1
  clear h
  induction s with
  | nil => rfl
  | cons c s ih =>
    have h1 := hall c (by simp)
    have hf : firstB (c :: s) = 1 := by
      have h9 : (longB c).1 = 1 := longB_ascii.2 h1
      rw [firstB, if_neg (by rw [h9]; decide), h9]
      rfl
    rw [whole_step (by simp), hf, if_neg (by decide)]
    exact ih fun d hd => hall d (by simp [hd])
theorem can_num {n : Int} (h1 : -9223372036854775808 ≤ n) (h2 : n ≤ 9223372036854775807) {deep : Nat} (hd : deep ≤ 16) : Can deep (numJ n) := can_plain hd ⟨by decide, by decide⟩ rfl h1 h2
theorem can_txt {s : B} (h : wholeL s = true) {deep : Nat} (hd : deep ≤ 16) : Can deep (txtJ s) :=
  can_plain hd ⟨by decide, by decide⟩ (by rw [blankJ, if_neg (by decide), if_neg (by decide), if_neg (by decide), if_pos rfl, h]; rfl) (by omega) (by omega)
theorem can_obj {deep : Nat} (hd : deep < 16) {l : List (B × J)} (hn : (l.map (·.1)).Nodup) (hw : ∀ p ∈ l, wholeL p.1 = true) (h : ∀ p ∈ l, Can (deep + 1) p.2) : Can deep (objJ l) := by
  unfold objJ
  refine can_object hd (by simp) hn (fun s hs => ?_) (fun v hv => ?_)
  · obtain ⟨p, hp, rfl⟩ := List.mem_map.1 hs; exact hw p hp
  · obtain ⟨p, hp, rfl⟩ := List.mem_map.1 hv; exact h p hp
theorem name_len {s : B} (h : nameL s = true) : s.length ≤ 24 ∧ s ≠ [] := by
  unfold nameL at h
  simp only [Bool.and_eq_true, decide_eq_true_eq, Bool.not_eq_true'] at h
  refine ⟨h.2, fun e => ?_⟩
  rw [e] at h; exact absurd h.1.2 (by decide)
theorem words_len {s : B} (h : wordsL s = true) : s.length ≤ 512 ∧ wholeL s = true := by
  unfold wordsL at h
  simp only [Bool.and_eq_true, decide_eq_true_eq] at h
  exact ⟨h.1.2, h.2⟩
theorem may_parts {m : Mu} (h : mayM m = -1) : 1 ≤ m.kind ∧ m.kind ≤ 10 ∧ nameL m.issue = true ∧ wholeL m.name = true ∧ m.name.length ≤ 24 ∧ wholeL m.text = true ∧ m.text.length ≤ 512 := by
  unfold mayM at h
  by_cases h1 : m.kind < 1 ∨ 10 < m.kind
  · rw [if_pos h1] at h; cases h
  rw [if_neg h1] at h
  by_cases h2 : nameL m.issue = false
  · rw [if_pos h2] at h; cases h
  rw [if_neg h2] at h
  by_cases h3 : (needN m.kind = 0 ∧ m.name ≠ []) ∨ (needN m.kind = 1 ∧ nameL m.name = false) ∨ (needN m.kind = 2 ∧ nameL m.name = false ∧ m.name ≠ [])
  · rw [if_pos h3] at h; cases h
  rw [if_neg h3] at h
  by_cases h4 : (needT m.kind = 0 ∧ m.text ≠ []) ∨ (needT m.kind = 1 ∧ wordsL m.text = false) ∨ (needT m.kind = 2 ∧ m.text ≠ openL ∧ m.text ≠ closedL)
  · rw [if_pos h4] at h; cases h
  have hN : needN m.kind = 0 ∨ needN m.kind = 1 ∨ needN m.kind = 2 := by
    unfold needN; split
    · exact .inr (.inr rfl)
    · split
      · exact .inr (.inl rfl)
      · exact .inl rfl
  have hT : needT m.kind = 0 ∨ needT m.kind = 1 ∨ needT m.kind = 2 := by
    unfold needT; split
    · exact .inr (.inl rfl)
    · split
      · exact .inr (.inr rfl)
      · exact .inl rfl
  have hname : m.name = [] ∨ nameL m.name = true := by
    rcases hN with e | e | e
    · left
      by_cases hn : m.name = []
      · exact hn
      · exact absurd (.inl ⟨e, hn⟩) h3
    · right
      cases hn : nameL m.name with
      | true => rfl
      | false => exact absurd (.inr (.inl ⟨e, hn⟩)) h3
    · by_cases hn : m.name = []
      · exact .inl hn
      · right
        cases hn2 : nameL m.name with
        | true => rfl
        | false => exact absurd (.inr (.inr ⟨e, hn2, hn⟩)) h3
  have htext : m.text = [] ∨ wordsL m.text = true ∨ m.text = openL ∨ m.text = closedL := by
    rcases hT with e | e | e
    · left
      by_cases hn : m.text = []
      · exact hn
      · exact absurd (.inl ⟨e, hn⟩) h4
    · right; left
      cases hn : wordsL m.text with
      | true => rfl
      | false => exact absurd (.inr (.inl ⟨e, hn⟩)) h4
    · right; right
      by_cases ho : m.text = openL
      · exact .inl ho
      · right
        by_cases hc : m.text = closedL
        · exact hc
        · exact absurd (.inr (.inr ⟨e, ho, hc⟩)) h4
  refine ⟨by omega, by omega, by simpa using h2, ?_, ?_, ?_, ?_⟩
  · rcases hname with e | e
    · rw [e]; rfl
    · exact name_whole e
  · rcases hname with e | e
    · rw [e]; exact Nat.zero_le _
    · exact (name_len e).1
  · rcases htext with e | e | e | e
    · rw [e]; rfl
    · exact (words_len e).2
    · rw [e]; rfl
    · rw [e]; rfl
  · rcases htext with e | e | e | e
    · rw [e]; exact Nat.zero_le _
    · exact (words_len e).1
    · rw [e]; decide
    · rw [e]; decide
theorem can_mut {m : Mu} (h : mayM m = -1) {deep : Nat} (hd : deep < 16) : Can deep (mutJ m) := by
  obtain ⟨h1, h2, h3, h4, h5, h6, h7⟩ := may_parts h
  unfold mutJ
  refine can_obj hd (by simp; decide) (fun p hp => ?_) (fun p hp => ?_)
  · simp only [List.mem_cons, List.not_mem_nil, or_false] at hp
    rcases hp with rfl | rfl | rfl | rfl <;> rfl
  · simp only [List.mem_cons, List.not_mem_nil, or_false] at hp
    rcases hp with rfl | rfl | rfl | rfl
    · exact can_num (by show _ ≤ m.kind; omega) (by show m.kind ≤ _; omega) (by omega)
    · exact can_txt (name_whole h3) (by omega)
    · exact can_txt h4 (by omega)
    · exact can_txt h6 (by omega)
theorem mayLo_parts {x : Lo} (h : mayLo x = true) : nameL x.client = true ∧ 1 ≤ x.id ∧ mayM x.m = -1 := by
  unfold mayLo at h
  simp only [Bool.and_eq_true, decide_eq_true_eq] at h
  exact ⟨h.1.1, h.1.2, h.2⟩
theorem can_log {x : Lo} (h : mayLo x = true) (hi : x.id ≤ 9223372036854775807) {deep : Nat} (hd : deep < 15) : Can deep (logJ x) := by
  obtain ⟨h1, h2, h3⟩ := mayLo_parts h
  unfold logJ
  refine can_obj (by omega) (by simp; decide) (fun p hp => ?_) (fun p hp => ?_)
  · simp only [List.mem_cons, List.not_mem_nil, or_false] at hp
    rcases hp with rfl | rfl | rfl <;> rfl
  · simp only [List.mem_cons, List.not_mem_nil, or_false] at hp
    rcases hp with rfl | rfl | rfl
    · exact can_txt (name_whole h1) (by omega)
    · exact can_num (by show _ ≤ x.id; omega) hi (by omega)
    · exact can_mut h3 (by omega)
theorem itoa_le {n : Int} (h1 : -9223372036854775808 ≤ n) (h2 : n ≤ 9223372036854775807) : (Lib.itoa n).length ≤ 21 := Lib.itoa_length_le n h1 h2
/-- How long a mutation's print is. -/
theorem mut_len {m : Mu} (h : mayM m = -1) : (textJ (mutJ m)).length ≤ 3500 := by
  obtain ⟨h1, h2, h3, h4, h5, h6, h7⟩ := may_parts h
  have q1 := quote_len m.issue
  have q2 := quote_len m.name
  have q3 := quote_len m.text
  have q4 := (name_len h3).1
  have q5 := itoa_le (n := m.kind) (by omega) (by omega)
  have k1 : (quoteB issueN).length = 7 := by decide
  have k2 : (quoteB kindN).length = 6 := by decide
  have k3 : (quoteB nameN).length = 6 := by decide
  have k4 : (quoteB textN).length = 6 := by decide
  rw [text_mut]
  simp only [joinB, memB, List.length_cons, List.length_append, List.length_nil, k1, k2, k3, k4]
  omega
theorem log_len {x : Lo} (h : mayLo x = true) (hi : x.id ≤ 9223372036854775807) : (textJ (logJ x)).length ≤ 3720 := by
  obtain ⟨h1, h2, h3⟩ := mayLo_parts h
  have q1 := quote_len x.client
  have q2 := (name_len h1).1
  have q3 := mut_len h3
  have q5 := itoa_le (n := x.id) (by omega) hi
  have k1 : (quoteB clientN).length = 8 := by decide
  have k2 : (quoteB idN).length = 4 := by decide
  have k3 : (quoteB mN).length = 3 := by decide
  rw [text_log]
  simp only [joinB, memB, List.length_cons, List.length_append, List.length_nil, k1, k2, k3]
  omega
theorem print_log {x : Lo} (h : mayLo x = true) (hi : x.id ≤ 9223372036854775807) : printJ (logJ x) = (textJ (logJ x), 0) := by
  rw [print_zero (can_log h hi (by omega)).1, if_neg (by have := log_len h hi; omega)]
end Go.Proofs.YtigdjnfnkjfkmaaGreatDoor
namespace Go.Proofs.YtigdjnfnkjfkmaaGreatDoor
set_option linter.unusedVariables false
set_option linter.unusedSimpArgs false
set_option maxRecDepth 100000

structure Ms where
  kind : Int
  client : B
  sfrom : Int
  cookie : Int
  last : Int
  top : Int
  list : List Lo
def verB (n : Int) : Bool := decide (0 ≤ n) && decide (n ≤ 1099511627776)
/-- Of one client, one number behind the other. -/
def chainB (c : B) : List Lo → Bool
  | [] => true
  | [x] => x.client == c
  | x :: y :: l => x.client == c && decide (y.id - 1 = x.id) && chainB c (y :: l)
def allB (l : List Lo) : Bool := l.all mayLo && decide (l.length ≤ 8)
/-- May a message be? -/
def okMs (m : Ms) : Bool :=
  if m.kind = 1 then nameL m.client && !m.list.isEmpty && allB m.list && chainB m.client m.list && m.sfrom == 0 && m.cookie == 0 && m.last == 0 && m.top == 0
  else if m.kind = 2 then decide (0 ≤ m.last) && verB m.top && m.client.isEmpty && m.sfrom == 0 && m.cookie == 0 && m.list.isEmpty
  else if m.kind = 3 then nameL m.client && verB m.cookie && m.sfrom == 0 && m.last == 0 && m.top == 0 && m.list.isEmpty
  else if m.kind = 4 then verB m.sfrom && verB m.top && decide (0 ≤ m.last) && decide (m.cookie ≤ m.top) && m.cookie - m.sfrom == m.list.length && allB m.list && m.client.isEmpty
  else if m.kind = 5 then verB m.top && m.client.isEmpty && m.sfrom == 0 && m.cookie == 0 && m.last == 0 && m.list.isEmpty
  else false
def typeN : B := [116, 121, 112, 101]
def listN : B := [108, 105, 115, 116]
def lastN : B := [108, 97, 115, 116]
def topN : B := [116, 111, 112]
def cookieN : B := [99, 111, 111, 107, 105, 101]
def fromN : B := [102, 114, 111, 109]
def pushN : B := [112, 117, 115, 104]
def pushedN : B := [112, 117, 115, 104, 101, 100]
def pullN : B := [112, 117, 108, 108]
def patchN : B := [112, 97, 116, 99, 104]
def pokeN : B := [112, 111, 107, 101]
def itemJ (x : Lo) : J := objJ [(idN, numJ x.id), (mN, mutJ x.m)]
def listJ (l : List J) : J := .mk 4 0 [] [] l
/-- A message as a value. -/
def msgJ (m : Ms) : J :=
  if m.kind = 1 then objJ [(typeN, txtJ pushN), (clientN, txtJ m.client), (listN, listJ (m.list.map itemJ))]
  else if m.kind = 2 then objJ [(typeN, txtJ pushedN), (lastN, numJ m.last), (topN, numJ m.top)]
  else if m.kind = 3 then objJ [(typeN, txtJ pullN), (clientN, txtJ m.client), (cookieN, numJ m.cookie)]
  else if m.kind = 4 then objJ [(typeN, txtJ patchN), (fromN, numJ m.sfrom), (cookieN, numJ m.cookie), (lastN, numJ m.last), (topN, numJ m.top), (listN, listJ (m.list.map logJ))]
  else objJ [(typeN, txtJ pokeN), (topN, numJ m.top)]
theorem text_list (l : List J) : textJ (listJ l) = 91 :: (joinB (l.map textJ) ++ [93]) := by
  unfold listJ
  rw [textJ, if_neg (by decide), if_neg (by decide), if_neg (by decide), if_neg (by decide), if_pos rfl, texts_map]
theorem text_item (x : Lo) : textJ (itemJ x) = 123 :: (joinB [memB (idN, Lib.itoa x.id), memB (mN, textJ (mutJ x.m))] ++ [125]) := by
  unfold itemJ
  rw [text_obj]
  simp only [List.map_cons, List.map_nil, text_num]
  rfl
/-- A message's print. -/
def msgT (m : Ms) : B :=
  if m.kind = 1 then 123 :: (joinB [memB (clientN, quoteB m.client), memB (listN, 91 :: (joinB (m.list.map fun x => textJ (itemJ x)) ++ [93])), memB (typeN, quoteB pushN)] ++ [125])
  else if m.kind = 2 then 123 :: (joinB [memB (lastN, Lib.itoa m.last), memB (topN, Lib.itoa m.top), memB (typeN, quoteB pushedN)] ++ [125])
  else if m.kind = 3 then 123 :: (joinB [memB (clientN, quoteB m.client), memB (cookieN, Lib.itoa m.cookie), memB (typeN, quoteB pullN)] ++ [125])
  else if m.kind = 4 then 123 :: (joinB [memB (cookieN, Lib.itoa m.cookie), memB (fromN, Lib.itoa m.sfrom), memB (lastN, Lib.itoa m.last), memB (listN, 91 :: (joinB (m.list.map fun x => textJ (logJ x)) ++ [93])), memB (topN, Lib.itoa m.top), memB (typeN, quoteB patchN)] ++ [125])
  else 123 :: (joinB [memB (topN, Lib.itoa m.top), memB (typeN, quoteB pokeN)] ++ [125])
theorem text_msg (m : Ms) : textJ (msgJ m) = msgT m := by
  unfold msgJ msgT
  split
  · rw [text_obj]
    simp only [List.map_cons, List.map_nil, text_num, text_txt, text_list, List.map_map]
    rfl
  · split
    · rw [text_obj]
      simp only [List.map_cons, List.map_nil, text_num, text_txt]
      rfl
    · split
      · rw [text_obj]
        simp only [List.map_cons, List.map_nil, text_num, text_txt]
        rfl
      · split
        · rw [text_obj]
          simp only [List.map_cons, List.map_nil, text_num, text_txt, text_list, List.map_map]
          rfl
        · rw [text_obj]
          simp only [List.map_cons, List.map_nil, text_num, text_txt]
          rfl
theorem join_fits {l : List B} {k : Nat} (h : ∀ s ∈ l, s.length ≤ k) : (joinB l).length ≤ l.length * (k + 1) := by
  induction l with
  | nil => exact Nat.zero_le _
  | cons s l ih =>
    rw [join_run]
    have h1 := h s (by simp)
    have h2 : (l.flatMap fun y => 44 :: y).length ≤ l.length * (k + 1) := by
      clear ih h1
      induction l with
      | nil => exact Nat.zero_le _
      | cons t l ih =>
        have h3 := h t (by simp)
        have h4 := ih (fun u hu => h u (by simp at hu; rcases hu with rfl | hu <;> simp_all))
        rw [List.flatMap_cons, List.length_append, List.length_cons, List.length_cons, Nat.succ_mul]
        omega
    rw [List.length_append, List.length_cons, Nat.succ_mul]
    omega
theorem item_len {x : Lo} (h : mayLo x = true) (hi : x.id ≤ 9223372036854775807) : (textJ (itemJ x)).length ≤ 3720 := by
  obtain ⟨h1, h2, h3⟩ := mayLo_parts h
  have q3 := mut_len h3
  have q5 := itoa_le (n := x.id) (by omega) hi
  have k2 : (quoteB idN).length = 4 := by decide
  have k3 : (quoteB mN).length = 3 := by decide
  rw [text_item]
  simp only [joinB, memB, List.length_cons, List.length_append, List.length_nil, k2, k3]
  omega
theorem can_item {x : Lo} (h : mayLo x = true) (hi : x.id ≤ 9223372036854775807) {deep : Nat} (hd : deep < 15) : Can deep (itemJ x) := by
  obtain ⟨h1, h2, h3⟩ := mayLo_parts h
  unfold itemJ
  refine can_obj (by omega) (by simp; decide) (fun p hp => ?_) (fun p hp => ?_)
  · simp only [List.mem_cons, List.not_mem_nil, or_false] at hp
    rcases hp with rfl | rfl <;> rfl
  · simp only [List.mem_cons, List.not_mem_nil, or_false] at hp
    rcases hp with rfl | rfl
    · exact can_num (by show _ ≤ x.id; omega) hi (by omega)
    · exact can_mut h3 (by omega)
theorem all_parts {l : List Lo} (h : allB l = true) : (∀ x ∈ l, mayLo x = true) ∧ l.length ≤ 8 := by
  unfold allB at h
  simp only [Bool.and_eq_true, List.all_eq_true, decide_eq_true_eq] at h
  exact h
theorem ver_parts {n : Int} (h : verB n = true) : 0 ≤ n ∧ n ≤ 1099511627776 := by
  unfold verB at h
  simpa using h
/-- A message that may be has a text that fits. -/
theorem msg_fits {m : Ms} (h : okMs m = true) (hl : m.last ≤ 9223372036854775807) (hi : ∀ x ∈ m.list, x.id ≤ 9223372036854775807) : Can 0 (msgJ m) ∧ (textJ (msgJ m)).length ≤ 32768 := by
  have kt : (quoteB typeN).length = 6 := by decide
  have kc : (quoteB clientN).length = 8 := by decide
  have kl : (quoteB listN).length = 6 := by decide
  have ka : (quoteB lastN).length = 6 := by decide
  have ko : (quoteB topN).length = 5 := by decide
  have kk : (quoteB cookieN).length = 8 := by decide
  have kf : (quoteB fromN).length = 6 := by decide
  have k1 : (quoteB pushN).length = 6 := by decide
  have k2 : (quoteB pushedN).length = 8 := by decide
  have k3 : (quoteB pullN).length = 6 := by decide
  have k4 : (quoteB patchN).length = 7 := by decide
  have k5 : (quoteB pokeN).length = 6 := by decide
  rw [text_msg]
  unfold okMs at h
  unfold msgJ msgT
  by_cases h1 : m.kind = 1
  · rw [if_pos h1] at h ⊢
    rw [if_pos h1]
    simp only [Bool.and_eq_true] at h
    obtain ⟨⟨⟨⟨⟨⟨⟨g1, g2⟩, g3⟩, g4⟩, -⟩, -⟩, -⟩, -⟩ := h
    obtain ⟨a1, a2⟩ := all_parts g3
    refine ⟨can_obj (by omega) (by simp; decide) (fun p hp => ?_) (fun p hp => ?_), ?_⟩
    · simp only [List.mem_cons, List.not_mem_nil, or_false] at hp
      rcases hp with rfl | rfl | rfl <;> rfl
    · simp only [List.mem_cons, List.not_mem_nil, or_false] at hp
      rcases hp with rfl | rfl | rfl
      · exact can_txt (by decide) (by omega)
      · exact can_txt (name_whole g1) (by omega)
      · refine can_list (by omega) (fun v hv => ?_)
        obtain ⟨x, hx, rfl⟩ := List.mem_map.1 hv
        exact can_item (a1 x hx) (hi x hx) (by omega)
    · have q1 := quote_len m.client
      have q2 := (name_len g1).1
      have q3 := join_fits (l := m.list.map fun x => textJ (itemJ x)) (k := 3720) (fun s hs => by
        obtain ⟨x, hx, rfl⟩ := List.mem_map.1 hs
        exact item_len (a1 x hx) (hi x hx))
      rw [List.length_map] at q3
      have q4 : m.list.length * (3720 + 1) ≤ 8 * 3721 := Nat.mul_le_mul_right _ a2
      simp only [joinB, memB, List.length_cons, List.length_append, List.length_nil, kt, kc, kl, k1]
      omega
  rw [if_neg h1] at h ⊢
  rw [if_neg h1]
  by_cases h2 : m.kind = 2
  · rw [if_pos h2] at h ⊢
    rw [if_pos h2]
    simp only [Bool.and_eq_true, decide_eq_true_eq] at h
    obtain ⟨⟨⟨⟨⟨g1, g2⟩, -⟩, -⟩, -⟩, -⟩ := h
    have v2 := ver_parts g2
    refine ⟨can_obj (by omega) (by simp; decide) (fun p hp => ?_) (fun p hp => ?_), ?_⟩
    · simp only [List.mem_cons, List.not_mem_nil, or_false] at hp
      rcases hp with rfl | rfl | rfl <;> rfl
    · simp only [List.mem_cons, List.not_mem_nil, or_false] at hp
      rcases hp with rfl | rfl | rfl
      · exact can_txt (by decide) (by omega)
      · exact can_num (by show _ ≤ m.last; omega) hl (by omega)
      · exact can_num (by show _ ≤ m.top; omega) (by show m.top ≤ _; omega) (by omega)
    · have q1 := itoa_le (n := m.last) (by omega) hl
      have q2 := itoa_le (n := m.top) (by omega) (by omega)
      simp only [joinB, memB, List.length_cons, List.length_append, List.length_nil, kt, ka, ko, k2]
      omega
  rw [if_neg h2] at h ⊢
  rw [if_neg h2]
  by_cases h3 : m.kind = 3
  · rw [if_pos h3] at h ⊢
    rw [if_pos h3]
    simp only [Bool.and_eq_true] at h
    obtain ⟨⟨⟨⟨⟨g1, g2⟩, -⟩, -⟩, -⟩, -⟩ := h
    have v2 := ver_parts g2
    refine ⟨can_obj (by omega) (by simp; decide) (fun p hp => ?_) (fun p hp => ?_), ?_⟩
    · simp only [List.mem_cons, List.not_mem_nil, or_false] at hp
      rcases hp with rfl | rfl | rfl <;> rfl
    · simp only [List.mem_cons, List.not_mem_nil, or_false] at hp
      rcases hp with rfl | rfl | rfl
      · exact can_txt (by decide) (by omega)
      · exact can_txt (name_whole g1) (by omega)
      · exact can_num (by show _ ≤ m.cookie; omega) (by show m.cookie ≤ _; omega) (by omega)
    · have q1 := quote_len m.client
      have q2 := (name_len g1).1
      have q3 := itoa_le (n := m.cookie) (by omega) (by omega)
      simp only [joinB, memB, List.length_cons, List.length_append, List.length_nil, kt, kc, kk, k3]
      omega
  rw [if_neg h3] at h ⊢
  rw [if_neg h3]
  by_cases h4 : m.kind = 4
  · rw [if_pos h4] at h ⊢
    rw [if_pos h4]
    simp only [Bool.and_eq_true, decide_eq_true_eq, beq_iff_eq] at h
    obtain ⟨⟨⟨⟨⟨⟨g1, g2⟩, g3⟩, g4⟩, g5⟩, g6⟩, -⟩ := h
    have v1 := ver_parts g1
    have v2 := ver_parts g2
    obtain ⟨a1, a2⟩ := all_parts g6
    refine ⟨can_obj (by omega) (by simp; decide) (fun p hp => ?_) (fun p hp => ?_), ?_⟩
    · simp only [List.mem_cons, List.not_mem_nil, or_false] at hp
      rcases hp with rfl | rfl | rfl | rfl | rfl | rfl <;> rfl
    · simp only [List.mem_cons, List.not_mem_nil, or_false] at hp
      rcases hp with rfl | rfl | rfl | rfl | rfl | rfl
      · exact can_txt (by decide) (by omega)
      · exact can_num (by show _ ≤ m.sfrom; omega) (by show m.sfrom ≤ _; omega) (by omega)
      · exact can_num (by show _ ≤ m.cookie; omega) (by show m.cookie ≤ _; omega) (by omega)
      · exact can_num (by show _ ≤ m.last; omega) hl (by omega)
      · exact can_num (by show _ ≤ m.top; omega) (by show m.top ≤ _; omega) (by omega)
      · refine can_list (by omega) (fun v hv => ?_)
        obtain ⟨x, hx, rfl⟩ := List.mem_map.1 hv
        exact can_log (a1 x hx) (hi x hx) (by omega)
    · have q1 := itoa_le (n := m.last) (by omega) hl
      have q2 := itoa_le (n := m.top) (by omega) (by omega)
      have q3 := itoa_le (n := m.cookie) (by omega) (by omega)
      have q4 := itoa_le (n := m.sfrom) (by omega) (by omega)
      have q5 := join_fits (l := m.list.map fun x => textJ (logJ x)) (k := 3720) (fun s hs => by
        obtain ⟨x, hx, rfl⟩ := List.mem_map.1 hs
        exact log_len (a1 x hx) (hi x hx))
      rw [List.length_map] at q5
      have q6 : m.list.length * (3720 + 1) ≤ 8 * 3721 := Nat.mul_le_mul_right _ a2
      simp only [joinB, memB, List.length_cons, List.length_append, List.length_nil, kt, ka, ko, kk, kf, kl, k4]
      omega
  rw [if_neg h4] at h ⊢
  rw [if_neg h4]
  by_cases h5 : m.kind = 5
  · rw [if_pos h5] at h
    simp only [Bool.and_eq_true] at h
    obtain ⟨⟨⟨⟨⟨g2, -⟩, -⟩, -⟩, -⟩, -⟩ := h
    have v2 := ver_parts g2
    refine ⟨can_obj (by omega) (by simp; decide) (fun p hp => ?_) (fun p hp => ?_), ?_⟩
    · simp only [List.mem_cons, List.not_mem_nil, or_false] at hp
      rcases hp with rfl | rfl <;> rfl
    · simp only [List.mem_cons, List.not_mem_nil, or_false] at hp
      rcases hp with rfl | rfl
      · exact can_txt (by decide) (by omega)
      · exact can_num (by show _ ≤ m.top; omega) (by show m.top ≤ _; omega) (by omega)
    · have q2 := itoa_le (n := m.top) (by omega) (by omega)
      simp only [joinB, memB, List.length_cons, List.length_append, List.length_nil, kt, ko, k5]
      omega
  · rw [if_neg h5] at h; cases h
theorem print_msg {m : Ms} (h : okMs m = true) (hl : m.last ≤ 9223372036854775807) (hi : ∀ x ∈ m.list, x.id ≤ 9223372036854775807) : printJ (msgJ m) = (msgT m, 0) := by
  obtain ⟨h1, h2⟩ := msg_fits h hl hi
  rw [print_zero h1.1, if_neg (by omega), text_msg]
end Go.Proofs.YtigdjnfnkjfkmaaGreatDoor
namespace Go.Proofs.YtigdjnfnkjfkmaaGreatDoor
set_option linter.unusedVariables false
set_option linter.unusedSimpArgs false
set_option maxRecDepth 100000

/-- An object's item of a name. -/
def getJ (v : J) (s : B) : Option J := if v.kind = 5 then (if v.names.idxOf s < v.names.length then v.items[v.names.idxOf s]? else none) else none
/-- The items of just these names; was anything not as it must be? -/
def objR (v : J) (l : List B) : Bool × List J := (!(decide (v.kind = 5) && v.names.length == l.length && l.all fun s => (getJ v s).isSome), l.map fun s => (getJ v s).getD J0)
def mnumR (v : J) : Bool × Int := (!decide (v.kind = 2), v.int)
def txtR (v : J) : Bool × B := (!decide (v.kind = 3), v.text)
def mutR (v : J) : Bool × Mu :=
  let l := objR v [kindN, issueN, nameN, textN]
  let a := mnumR (l.2.getD 0 J0); let b := txtR (l.2.getD 1 J0); let c := txtR (l.2.getD 2 J0); let d := txtR (l.2.getD 3 J0)
  (l.1 || a.1 || b.1 || c.1 || d.1, ⟨a.2, b.2, c.2, d.2⟩)
def logR (v : J) : Bool × Lo :=
  let l := objR v [clientN, idN, mN]
  let a := txtR (l.2.getD 0 J0); let b := mnumR (l.2.getD 1 J0); let c := mutR (l.2.getD 2 J0)
  (l.1 || a.1 || b.1 || c.1, ⟨a.2, b.2, c.2⟩)
theorem canon_obj (l : List (B × J)) : canonJ (objJ l) = objJ (sortP (l.map fun p => (p.1, canonJ p.2))) := by
  unfold objJ
  rw [canonJ, if_pos rfl]
  have hz : (l.map (·.1)).zip (canonsJ (l.map (·.2))) = l.map fun p => (p.1, canonJ p.2) := by
    induction l with
    | nil => rfl
    | cons p l ih => simp only [List.map_cons, canonsJ, List.zip_cons_cons, ih]
  rw [hz]
def itemR (c : B) (v : J) : Bool × Lo :=
  let l := objR v [idN, mN]
  let a := mnumR (l.2.getD 0 J0); let b := mutR (l.2.getD 1 J0)
  (l.1 || a.1 || b.1, ⟨c, a.2, b.2⟩)
def listR (v : J) : Bool × List J := (!decide (v.kind = 4), v.items)
/-- What an object of a type tells. -/
def msgR (v : J) (ty : B) : Bool × Ms :=
  if ty = pushN then
    let l := objR v [typeN, clientN, listN]
    let a := txtR (l.2.getD 1 J0); let b := listR (l.2.getD 2 J0); let xs := b.2.map (itemR a.2)
    (l.1 || a.1 || b.1 || xs.any (·.1), ⟨1, a.2, 0, 0, 0, 0, xs.map (·.2)⟩)
  else if ty = pushedN then
    let l := objR v [typeN, lastN, topN]
    let a := mnumR (l.2.getD 1 J0); let b := mnumR (l.2.getD 2 J0)
    (l.1 || a.1 || b.1, ⟨2, [], 0, 0, a.2, b.2, []⟩)
  else if ty = pullN then
    let l := objR v [typeN, clientN, cookieN]
    let a := txtR (l.2.getD 1 J0); let b := mnumR (l.2.getD 2 J0)
    (l.1 || a.1 || b.1, ⟨3, a.2, 0, b.2, 0, 0, []⟩)
  else if ty = patchN then
    let l := objR v [typeN, fromN, cookieN, lastN, topN, listN]
    let a := mnumR (l.2.getD 1 J0); let b := mnumR (l.2.getD 2 J0); let c := mnumR (l.2.getD 3 J0); let d := mnumR (l.2.getD 4 J0); let e := listR (l.2.getD 5 J0); let xs := e.2.map logR
    (l.1 || a.1 || b.1 || c.1 || d.1 || e.1 || xs.any (·.1), ⟨4, [], a.2, b.2, c.2, d.2, xs.map (·.2)⟩)
  else if ty = pokeN then
    let l := objR v [typeN, topN]
    let a := mnumR (l.2.getD 1 J0)
    (l.1 || a.1, ⟨5, [], 0, 0, 0, a.2, []⟩)
  else (false, ⟨0, [], 0, 0, 0, 0, []⟩)
theorem canon_list (l : List J) : canonJ (listJ l) = listJ (l.map canonJ) := by
  have e : canonsJ l = l.map canonJ := by
    induction l with
    | nil => rfl
    | cons v l ih => rw [canonsJ, ih]; rfl
  unfold listJ
  rw [canonJ, if_neg (by decide), e]
end Go.Proofs.YtigdjnfnkjfkmaaGreatDoor
namespace Go.Proofs.YtigdjnfnkjfkmaaGreatDoor
set_option linter.unusedVariables false
set_option linter.unusedSimpArgs false
set_option maxRecDepth 100000

theorem perm_sub : ∀ {ns vs : List B}, ns.Nodup → (∀ s ∈ ns, s ∈ vs) → vs.length = ns.length → ns.Perm vs
  | [], vs, _, _, hl => by rw [List.eq_nil_of_length_eq_zero hl]
  | s :: ns, vs, hn, h, hl => by
    have hs : s ∈ vs := h s (by simp)
    rw [List.nodup_cons] at hn
    have hp := List.perm_cons_erase hs
    have hl2 : (vs.erase s).length = ns.length := by
      have := hp.length_eq
      simp only [List.length_cons] at this hl
      omega
    refine ((perm_sub hn.2 (fun t ht => ?_) hl2).cons s).trans hp.symm
    have hne : t ≠ s := fun e => hn.1 (e ▸ ht)
    exact (List.mem_erase_of_ne hne).2 (h t (by simp [ht]))
theorem zip_get : ∀ {ns : List B} {is : List J}, ns.Nodup → ns.length = is.length → ns.zip is = ns.map fun s => (s, (is[ns.idxOf s]?).getD J0)
  | [], is, _, _ => rfl
  | s :: ns, [], _, h => by cases h
  | s :: ns, v :: is, hn, h => by
    rw [List.nodup_cons] at hn
    rw [List.zip_cons_cons, List.map_cons, zip_get hn.2 (by simpa using h)]
    congr 1
    · simp
    · refine List.map_congr_left fun t ht => ?_
      have hne : (s == t) = false := by
        rw [beq_eq_false_iff_ne]; intro e; exact hn.1 (e ▸ ht)
      rw [List.idxOf_cons, hne]
      simp
theorem canon_congr {a b : List (B × J)} (h : (a.map fun p => (p.1, canonJ p.2)) = b.map fun p => (p.1, canonJ p.2)) : canonJ (objJ a) = canonJ (objJ b) := by
  rw [canon_obj, canon_obj, h]
/-- Of a value that can be, whose members are just these. -/
theorem obj_parts {deep : Nat} {v : J} {ns : List B} {l : List J} (hc : Can deep v) (hn : ns.Nodup) (h : objR v ns = (false, l)) :
    l.length = ns.length ∧ (∀ x ∈ l, Can (deep + 1) x) ∧ canonJ v = canonJ (objJ (ns.zip l)) ∧ (∀ s, (getJ v s).isSome = true → s ∈ ns) ∧ l = ns.map fun s => (getJ v s).getD J0 := by
  obtain ⟨k, n, t, vs, is⟩ := v
  unfold objR at h
  simp only [Prod.mk.injEq, Bool.not_eq_false', Bool.and_eq_true, decide_eq_true_eq, beq_iff_eq, List.all_eq_true] at h
  obtain ⟨⟨⟨h1, h2⟩, h3⟩, rfl⟩ := h
  have h1' : k = 5 := h1
  subst h1'
  have h2' : vs.length = ns.length := h2
  obtain ⟨c1, c2, c3, c4⟩ := check_parts hc.1
  have hde : deeper 5 deep = deep + 1 := by unfold deeper; rw [if_pos (.inr rfl)]
  rw [hde] at c1 c4
  have hw := hc.2
  rw [wfJ] at hw
  simp only [Bool.and_eq_true, decide_eq_true_eq] at hw
  rcases blank_kinds c2 with ⟨e, _⟩ | ⟨e, _⟩ | ⟨e, _⟩ | ⟨e, _⟩ | ⟨e, _⟩ | ⟨_, rfl, rfl, hl, hwf, hws⟩
  · cases e
  · cases e
  · cases e
  · cases e
  · cases e
  have hg : ∀ s, getJ (.mk 5 0 [] vs is) s = if vs.idxOf s < vs.length then is[vs.idxOf s]? else none := fun s => rfl
  have hsome : ∀ s, (getJ (.mk 5 0 [] vs is) s).isSome = true → s ∈ vs := fun s hs => by
    rw [hg] at hs
    by_cases hlt : vs.idxOf s < vs.length
    · exact List.idxOf_lt_length_iff.1 hlt
    · rw [if_neg hlt] at hs; cases hs
  have hp : ns.Perm vs := perm_sub hn (fun s hs => hsome s (h3 s hs)) h2'
  have hgs : ∀ s ∈ vs, (getJ (.mk 5 0 [] vs is) s).getD J0 = (is[vs.idxOf s]?).getD J0 := fun s hs => by
    rw [hg, if_pos (List.idxOf_lt_length_iff.2 hs)]
  have hz : vs.zip is = vs.map fun s => (s, (getJ (.mk 5 0 [] vs is) s).getD J0) := by
    rw [zip_get c3 hl]
    exact List.map_congr_left fun s hs => by rw [hgs s hs]
  have hz2 : ns.zip (ns.map fun s => (getJ (.mk 5 0 [] vs is) s).getD J0) = ns.map fun s => (s, (getJ (.mk 5 0 [] vs is) s).getD J0) := by
    clear hp h3 h2 h2' hn
    induction ns with
    | nil => rfl
    | cons s ns ih => simp only [List.map_cons, List.zip_cons_cons, ih]
  refine ⟨by simp, fun x hx => ?_, ?_, fun s hs => (hp.mem_iff).2 (hsome s hs), rfl⟩
  · obtain ⟨s, hs, rfl⟩ := List.mem_map.1 hx
    have hsv := (hp.mem_iff).1 hs
    have hlt := List.idxOf_lt_length_iff.2 hsv
    have hmem : (is[vs.idxOf s]?).getD J0 ∈ is := by
      rw [List.getElem?_eq_getElem (by omega), Option.getD_some]
      exact List.getElem_mem _
    rw [hgs s hsv]
    exact ⟨c4 _ hmem, (wfs_all.1 hw.2) _ hmem⟩
  · have hv : canonJ (J.mk 5 0 [] vs is) = canonJ (objJ (vs.zip is)) := by
      unfold objJ
      rw [zip_fst hl, zip_snd hl]
    rw [hv, canon_obj, canon_obj, hz2, hz]
    refine congrArg objJ (sort_of_perm ?_ ?_)
    · simp only [List.map_map]
      have : (List.map ((fun p : B × J => p.1) ∘ (fun p : B × J => (p.1, canonJ p.2)) ∘ fun s => (s, (getJ (.mk 5 0 [] vs is) s).getD J0)) vs) = vs := by
        conv => rhs; rw [← List.map_id vs]
        rfl
      rw [this]; exact c3
    · exact ((hp.symm.map _).map _)
theorem num_is {deep : Nat} {x : J} {n : Int} (hc : Can deep x) (h : mnumR x = (false, n)) : x = numJ n ∧ -9223372036854775808 ≤ n ∧ n ≤ 9223372036854775807 := by
  obtain ⟨k, m, t, vs, is⟩ := x
  unfold mnumR at h
  simp only [Prod.mk.injEq, Bool.not_eq_false', decide_eq_true_eq] at h
  obtain ⟨h1, rfl⟩ := h
  have h1' : k = 2 := h1
  subst h1'
  have hw := hc.2
  rw [wfJ] at hw
  simp only [Bool.and_eq_true, decide_eq_true_eq] at hw
  rcases blank_kinds (check_parts hc.1).2.1 with ⟨e, _⟩ | ⟨e, _⟩ | ⟨_, rfl, rfl, rfl⟩ | ⟨e, _⟩ | ⟨e, _⟩ | ⟨e, _⟩
  · cases e
  · cases e
  · exact ⟨rfl, hw.1.1, hw.1.2⟩
  · cases e
  · cases e
  · cases e
theorem txt_is {deep : Nat} {x : J} {s : B} (hc : Can deep x) (h : txtR x = (false, s)) : x = txtJ s := by
  obtain ⟨k, m, t, vs, is⟩ := x
  unfold txtR at h
  simp only [Prod.mk.injEq, Bool.not_eq_false', decide_eq_true_eq] at h
  obtain ⟨h1, rfl⟩ := h
  have h1' : k = 3 := h1
  subst h1'
  rcases blank_kinds (check_parts hc.1).2.1 with ⟨e, _⟩ | ⟨e, _⟩ | ⟨e, _⟩ | ⟨_, rfl, rfl, rfl, _⟩ | ⟨e, _⟩ | ⟨e, _⟩
  · cases e
  · cases e
  · cases e
  · rfl
  · cases e
  · cases e
theorem list_is {deep : Nat} {x : J} {l : List J} (hc : Can deep x) (h : listR x = (false, l)) : x = listJ l ∧ ∀ y ∈ l, Can (deep + 1) y := by
  obtain ⟨k, m, t, vs, is⟩ := x
  unfold listR at h
  simp only [Prod.mk.injEq, Bool.not_eq_false', decide_eq_true_eq] at h
  obtain ⟨h1, rfl⟩ := h
  have h1' : k = 4 := h1
  subst h1'
  obtain ⟨c1, c2, c3, c4⟩ := check_parts hc.1
  have hde : deeper 4 deep = deep + 1 := by unfold deeper; rw [if_pos (.inl rfl)]
  rw [hde] at c4
  have hw := hc.2
  rw [wfJ] at hw
  simp only [Bool.and_eq_true, decide_eq_true_eq] at hw
  rcases blank_kinds c2 with ⟨e, _⟩ | ⟨e, _⟩ | ⟨e, _⟩ | ⟨e, _⟩ | ⟨_, rfl, rfl, rfl⟩ | ⟨e, _⟩
  · cases e
  · cases e
  · cases e
  · cases e
  · exact ⟨rfl, fun y hy => ⟨c4 y hy, (wfs_all.1 hw.2) y hy⟩⟩
  · cases e
theorem pr_eta {α β : Type} (p : α × β) {a : α} (h : p.1 = a) : p = (a, p.2) := by rw [← h]
theorem or_false2 {a b : Bool} (h : (a || b) = false) : a = false ∧ b = false := by cases a <;> cases b <;> simp_all
theorem len1 {α : Type} {l : List α} (h : l.length = 1) : ∃ a, l = [a] := by
  match l, h with
  | [a], _ => exact ⟨a, rfl⟩
theorem len2 {α : Type} {l : List α} (h : l.length = 2) : ∃ a b, l = [a, b] := by
  match l, h with
  | [a, b], _ => exact ⟨a, b, rfl⟩
theorem len3 {α : Type} {l : List α} (h : l.length = 3) : ∃ a b c, l = [a, b, c] := by
  match l, h with
  | [a, b, c], _ => exact ⟨a, b, c, rfl⟩
theorem len4 {α : Type} {l : List α} (h : l.length = 4) : ∃ a b c d, l = [a, b, c, d] := by
  match l, h with
  | [a, b, c, d], _ => exact ⟨a, b, c, d, rfl⟩
theorem len6 {α : Type} {l : List α} (h : l.length = 6) : ∃ a b c d e f, l = [a, b, c, d, e, f] := by
  match l, h with
  | [a, b, c, d, e, f], _ => exact ⟨a, b, c, d, e, f, rfl⟩
theorem mut_is {deep : Nat} {v : J} {m : Mu} (hc : Can deep v) (h : mutR v = (false, m)) : canonJ v = canonJ (mutJ m) := by
  obtain ⟨⟨b, l⟩, hl⟩ : ∃ q, objR v [kindN, issueN, nameN, textN] = q := ⟨_, rfl⟩
  unfold mutR at h
  rw [hl] at h
  simp only [Prod.mk.injEq] at h
  obtain ⟨h, rfl⟩ := h
  obtain ⟨h, h5⟩ := or_false2 h
  obtain ⟨h, h4⟩ := or_false2 h
  obtain ⟨h, h3⟩ := or_false2 h
  obtain ⟨h, h2⟩ := or_false2 h
  subst h
  obtain ⟨p1, p2, p3, _, _⟩ := obj_parts hc (by decide) hl
  obtain ⟨x1, x2, x3, x4, rfl⟩ := len4 p1
  simp only [List.getD_cons_zero, List.getD_cons_succ] at h2 h3 h4 h5 ⊢
  have e1 := (num_is (p2 x1 (by simp)) (pr_eta _ h2)).1
  have e2 := txt_is (p2 x2 (by simp)) (pr_eta _ h3)
  have e3 := txt_is (p2 x3 (by simp)) (pr_eta _ h4)
  have e4 := txt_is (p2 x4 (by simp)) (pr_eta _ h5)
  rw [p3]
  unfold mutJ
  refine canon_congr ?_
  simp only [List.zip_cons_cons, List.zip_nil_left, List.map_cons, List.map_nil]
  rw [← e1, ← e2, ← e3, ← e4]
theorem log_is {deep : Nat} {v : J} {x : Lo} (hc : Can deep v) (h : logR v = (false, x)) : canonJ v = canonJ (logJ x) ∧ -9223372036854775808 ≤ x.id ∧ x.id ≤ 9223372036854775807 ∧ getJ v typeN = none := by
  obtain ⟨⟨b, l⟩, hl⟩ : ∃ q, objR v [clientN, idN, mN] = q := ⟨_, rfl⟩
  unfold logR at h
  rw [hl] at h
  simp only [Prod.mk.injEq] at h
  obtain ⟨h, rfl⟩ := h
  obtain ⟨h, h4⟩ := or_false2 h
  obtain ⟨h, h3⟩ := or_false2 h
  obtain ⟨h, h2⟩ := or_false2 h
  subst h
  obtain ⟨p1, p2, p3, p4, _⟩ := obj_parts hc (by decide) hl
  obtain ⟨x1, x2, x3, rfl⟩ := len3 p1
  simp only [List.getD_cons_zero, List.getD_cons_succ] at h2 h3 h4 ⊢
  have e1 := txt_is (p2 x1 (by simp)) (pr_eta _ h2)
  have e2 := num_is (p2 x2 (by simp)) (pr_eta _ h3)
  have e3 := mut_is (p2 x3 (by simp)) (pr_eta _ h4)
  refine ⟨?_, e2.2.1, e2.2.2, ?_⟩
  · rw [p3]
    unfold logJ
    refine canon_congr ?_
    simp only [List.zip_cons_cons, List.zip_nil_left, List.map_cons, List.map_nil]
    rw [← e1, ← e2.1, ← e3]
  · cases hg : getJ v typeN with
    | none => rfl
    | some y =>
      have := p4 typeN (by rw [hg]; rfl)
      exact absurd this (by decide)
theorem item_is {deep : Nat} {v : J} {c : B} {x : Lo} (hc : Can deep v) (h : itemR c v = (false, x)) : canonJ v = canonJ (itemJ x) ∧ x.client = c ∧ -9223372036854775808 ≤ x.id ∧ x.id ≤ 9223372036854775807 := by
  obtain ⟨⟨b, l⟩, hl⟩ : ∃ q, objR v [idN, mN] = q := ⟨_, rfl⟩
  unfold itemR at h
  rw [hl] at h
  simp only [Prod.mk.injEq] at h
  obtain ⟨h, rfl⟩ := h
  obtain ⟨h, h3⟩ := or_false2 h
  obtain ⟨h, h2⟩ := or_false2 h
  subst h
  obtain ⟨p1, p2, p3, p4, _⟩ := obj_parts hc (by decide) hl
  obtain ⟨x1, x2, rfl⟩ := len2 p1
  simp only [List.getD_cons_zero, List.getD_cons_succ] at h2 h3 ⊢
  have e1 := num_is (p2 x1 (by simp)) (pr_eta _ h2)
  have e2 := mut_is (p2 x2 (by simp)) (pr_eta _ h3)
  refine ⟨?_, trivial, e1.2.1, e1.2.2⟩
  rw [p3]
  unfold itemJ
  refine canon_congr ?_
  simp only [List.zip_cons_cons, List.zip_nil_left, List.map_cons, List.map_nil]
  rw [← e1.1, ← e2]
theorem any_pairs {α : Type} {f : J → Bool × α} : ∀ {l : List J}, (l.map f).any (·.1) = false → ∀ y ∈ l, f y = (false, (f y).2)
  | [], _, y, hy => by cases hy
  | v :: l, h, y, hy => by
    rw [List.map_cons, List.any_cons] at h
    obtain ⟨h1, h2⟩ := or_false2 h
    rcases List.mem_cons.1 hy with rfl | hy
    · exact pr_eta _ h1
    · exact any_pairs h2 y hy
theorem list_canon {l l' : List J} (h : l.map canonJ = l'.map canonJ) : canonJ (listJ l) = canonJ (listJ l') := by rw [canon_list, canon_list, h]
/-- A value that tells a message is the message's own. -/
theorem msg_is {v : J} {ty : B} {m : Ms} (hc : Can 0 v) (ht : (getJ v typeN).getD J0 = txtJ ty) (h : msgR v ty = (false, m)) (hok : okMs m = true) :
    canonJ v = canonJ (msgJ m) ∧ m.last ≤ 9223372036854775807 ∧ (∀ x ∈ m.list, x.id ≤ 9223372036854775807) ∧ (getJ v typeN).isSome = true := by
  have hsome : (getJ v typeN).isSome = true := by
    cases hg : getJ v typeN with
    | none => rw [hg] at ht; cases ht
    | some y => rfl
  unfold msgR at h
  by_cases c1 : ty = pushN
  · rw [if_pos c1] at h
    obtain ⟨⟨b, l⟩, hl⟩ : ∃ q, objR v [typeN, clientN, listN] = q := ⟨_, rfl⟩
    rw [hl] at h
    simp only [Prod.mk.injEq] at h
    obtain ⟨h, rfl⟩ := h
    obtain ⟨h, h4⟩ := or_false2 h
    obtain ⟨h, h3⟩ := or_false2 h
    obtain ⟨h, h2⟩ := or_false2 h
    subst h
    obtain ⟨p1, p2, p3, p4, p5⟩ := obj_parts hc (by decide) hl
    obtain ⟨x0, x1, x2, rfl⟩ := len3 p1
    replace p5 := (List.cons.inj (by simpa only [List.map_cons] using p5)).1
    simp only [List.getD_cons_zero, List.getD_cons_succ] at h2 h3 h4 ⊢
    have e0 : x0 = txtJ ty := p5.trans ht
    have e1 := txt_is (p2 x1 (by simp)) (pr_eta _ h2)
    obtain ⟨e2, e3⟩ := list_is (p2 x2 (by simp)) (pr_eta _ h3)
    have e4 := any_pairs h4
    refine ⟨?_, by show (0 : Int) ≤ _; decide, fun x hx => ?_, hsome⟩
    · rw [p3]
      unfold msgJ
      rw [if_pos rfl]
      refine canon_congr ?_
      simp only [List.zip_cons_cons, List.zip_nil_left, List.map_cons, List.map_nil]
      rw [← e1, e0, c1]
      have e5 : canonJ x2 = canonJ (listJ ((((listR x2).2.map (itemR (txtR x1).2)).map (·.2)).map itemJ)) := by
        refine Eq.trans (congrArg canonJ e2) (list_canon ?_)
        rw [List.map_map, List.map_map, List.map_map]
        exact List.map_congr_left fun y hy => (item_is (e3 y hy) (e4 y hy)).1
      rw [e5]
    · obtain ⟨q, hq, rfl⟩ := List.mem_map.1 hx
      obtain ⟨y, hy, rfl⟩ := List.mem_map.1 hq
      exact (item_is (e3 y hy) (e4 y hy)).2.2.2
  rw [if_neg c1] at h
  by_cases c2 : ty = pushedN
  · rw [if_pos c2] at h
    obtain ⟨⟨b, l⟩, hl⟩ : ∃ q, objR v [typeN, lastN, topN] = q := ⟨_, rfl⟩
    rw [hl] at h
    simp only [Prod.mk.injEq] at h
    obtain ⟨h, rfl⟩ := h
    obtain ⟨h, h3⟩ := or_false2 h
    obtain ⟨h, h2⟩ := or_false2 h
    subst h
    obtain ⟨p1, p2, p3, p4, p5⟩ := obj_parts hc (by decide) hl
    obtain ⟨x0, x1, x2, rfl⟩ := len3 p1
    replace p5 := (List.cons.inj (by simpa only [List.map_cons] using p5)).1
    simp only [List.getD_cons_zero, List.getD_cons_succ] at h2 h3 ⊢
    have e0 : x0 = txtJ ty := p5.trans ht
    have e1 := num_is (p2 x1 (by simp)) (pr_eta _ h2)
    have e2 := num_is (p2 x2 (by simp)) (pr_eta _ h3)
    refine ⟨?_, e1.2.2, (fun x hx => by cases hx), hsome⟩
    rw [p3]
    unfold msgJ
    rw [if_neg (show ¬ (2 : Int) = 1 by decide), if_pos rfl]
    refine canon_congr ?_
    simp only [List.zip_cons_cons, List.zip_nil_left, List.map_cons, List.map_nil]
    rw [← e1.1, ← e2.1, e0, c2]
  rw [if_neg c2] at h
  by_cases c3 : ty = pullN
  · rw [if_pos c3] at h
    obtain ⟨⟨b, l⟩, hl⟩ : ∃ q, objR v [typeN, clientN, cookieN] = q := ⟨_, rfl⟩
    rw [hl] at h
    simp only [Prod.mk.injEq] at h
    obtain ⟨h, rfl⟩ := h
    obtain ⟨h, h3⟩ := or_false2 h
    obtain ⟨h, h2⟩ := or_false2 h
    subst h
    obtain ⟨p1, p2, p3, p4, p5⟩ := obj_parts hc (by decide) hl
    obtain ⟨x0, x1, x2, rfl⟩ := len3 p1
    replace p5 := (List.cons.inj (by simpa only [List.map_cons] using p5)).1
    simp only [List.getD_cons_zero, List.getD_cons_succ] at h2 h3 ⊢
    have e0 : x0 = txtJ ty := p5.trans ht
    have e1 := txt_is (p2 x1 (by simp)) (pr_eta _ h2)
    have e2 := num_is (p2 x2 (by simp)) (pr_eta _ h3)
    refine ⟨?_, by show (0 : Int) ≤ _; decide, (fun x hx => by cases hx), hsome⟩
    rw [p3]
    unfold msgJ
    rw [if_neg (show ¬ (3 : Int) = 1 by decide), if_neg (show ¬ (3 : Int) = 2 by decide), if_pos rfl]
    refine canon_congr ?_
    simp only [List.zip_cons_cons, List.zip_nil_left, List.map_cons, List.map_nil]
    rw [← e1, ← e2.1, e0, c3]
  rw [if_neg c3] at h
  by_cases c4 : ty = patchN
  · rw [if_pos c4] at h
    obtain ⟨⟨b, l⟩, hl⟩ : ∃ q, objR v [typeN, fromN, cookieN, lastN, topN, listN] = q := ⟨_, rfl⟩
    rw [hl] at h
    simp only [Prod.mk.injEq] at h
    obtain ⟨h, rfl⟩ := h
    obtain ⟨h, h7⟩ := or_false2 h
    obtain ⟨h, h6⟩ := or_false2 h
    obtain ⟨h, h5⟩ := or_false2 h
    obtain ⟨h, h4⟩ := or_false2 h
    obtain ⟨h, h3⟩ := or_false2 h
    obtain ⟨h, h2⟩ := or_false2 h
    subst h
    obtain ⟨p1, p2, p3, p4, p5⟩ := obj_parts hc (by decide) hl
    obtain ⟨x0, x1, x2, x3, x4, x5, rfl⟩ := len6 p1
    replace p5 := (List.cons.inj (by simpa only [List.map_cons] using p5)).1
    simp only [List.getD_cons_zero, List.getD_cons_succ] at h2 h3 h4 h5 h6 h7 ⊢
    have e0 : x0 = txtJ ty := p5.trans ht
    have e1 := num_is (p2 x1 (by simp)) (pr_eta _ h2)
    have e2 := num_is (p2 x2 (by simp)) (pr_eta _ h3)
    have e3 := num_is (p2 x3 (by simp)) (pr_eta _ h4)
    have e4 := num_is (p2 x4 (by simp)) (pr_eta _ h5)
    obtain ⟨e5, e6⟩ := list_is (p2 x5 (by simp)) (pr_eta _ h6)
    have e7 := any_pairs h7
    refine ⟨?_, e3.2.2, fun x hx => ?_, hsome⟩
    · rw [p3]
      unfold msgJ
      rw [if_neg (show ¬ (4 : Int) = 1 by decide), if_neg (show ¬ (4 : Int) = 2 by decide), if_neg (show ¬ (4 : Int) = 3 by decide), if_pos rfl]
      refine canon_congr ?_
      simp only [List.zip_cons_cons, List.zip_nil_left, List.map_cons, List.map_nil]
      rw [← e1.1, ← e2.1, ← e3.1, ← e4.1, e0, c4]
      have e8 : canonJ x5 = canonJ (listJ ((((listR x5).2.map logR).map (·.2)).map logJ)) := by
        refine Eq.trans (congrArg canonJ e5) (list_canon ?_)
        rw [List.map_map, List.map_map, List.map_map]
        exact List.map_congr_left fun y hy => (log_is (e6 y hy) (e7 y hy)).1
      rw [e8]
    · obtain ⟨q, hq, rfl⟩ := List.mem_map.1 hx
      obtain ⟨y, hy, rfl⟩ := List.mem_map.1 hq
      exact (log_is (e6 y hy) (e7 y hy)).2.2.1
  rw [if_neg c4] at h
  by_cases c5 : ty = pokeN
  · rw [if_pos c5] at h
    obtain ⟨⟨b, l⟩, hl⟩ : ∃ q, objR v [typeN, topN] = q := ⟨_, rfl⟩
    rw [hl] at h
    simp only [Prod.mk.injEq] at h
    obtain ⟨h, rfl⟩ := h
    obtain ⟨h, h2⟩ := or_false2 h
    subst h
    obtain ⟨p1, p2, p3, p4, p5⟩ := obj_parts hc (by decide) hl
    obtain ⟨x0, x1, rfl⟩ := len2 p1
    replace p5 := (List.cons.inj (by simpa only [List.map_cons] using p5)).1
    simp only [List.getD_cons_zero, List.getD_cons_succ] at h2 ⊢
    have e0 : x0 = txtJ ty := p5.trans ht
    have e1 := num_is (p2 x1 (by simp)) (pr_eta _ h2)
    refine ⟨?_, by show (0 : Int) ≤ _; decide, (fun x hx => by cases hx), hsome⟩
    rw [p3]
    unfold msgJ
    rw [if_neg (show ¬ (5 : Int) = 1 by decide), if_neg (show ¬ (5 : Int) = 2 by decide), if_neg (show ¬ (5 : Int) = 3 by decide), if_neg (show ¬ (5 : Int) = 4 by decide)]
    refine canon_congr ?_
    simp only [List.zip_cons_cons, List.zip_nil_left, List.map_cons, List.map_nil]
    rw [← e1.1, e0, c5]
  · rw [if_neg c5] at h
    simp only [Prod.mk.injEq] at h
    obtain ⟨_, rfl⟩ := h
    cases hok
theorem same_canon {v u : J} (hv : Can 0 v) (hu : Can 0 u) (h : canonJ v = canonJ u) : sameJ v (canonJ u) = true := by
  obtain ⟨h1, h2⟩ := canon_same v 0 hv
  obtain ⟨h3, h4⟩ := canon_same u 0 hu
  unfold sameJ
  rw [hv.1, h3.1, ← h2, h]
  simp
end Go.Proofs.YtigdjnfnkjfkmaaGreatDoor
