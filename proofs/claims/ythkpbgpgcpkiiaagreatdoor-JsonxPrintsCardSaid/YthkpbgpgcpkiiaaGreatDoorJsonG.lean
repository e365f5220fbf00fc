/- JSON: a printed value is read as it was. Conditions: none. -/
import Derived.Test.YthkpbgpgcpkiiaaGreatDoorJsonF
namespace Go.Proofs.YthkpbgpgcpkiiaaGreatDoor
set_option linter.unusedVariables false
set_option linter.unusedSimpArgs false
set_option maxRecDepth 100000

mutual
/-- All numbers are of 64 bits. -/
def wfJ : J → Bool
  | .mk k n t ns is => decide (-9223372036854775808 ≤ n) && decide (n ≤ 9223372036854775807) && wfsJ is
def wfsJ : List J → Bool
  | [] => true
  | v :: l => wfJ v && wfsJ l
end
theorem wfs_all : ∀ {l : List J}, wfsJ l = true ↔ ∀ v ∈ l, wfJ v = true
  | [] => by rw [wfsJ]; simp
  | v :: l => by rw [wfsJ, Bool.and_eq_true, wfs_all]; simp
theorem twice_nodup : ∀ {l : List B}, twiceL l = false ↔ l.Nodup
  | [] => by rw [twiceL]; simp
  | s :: l => by
    rw [twiceL, Bool.or_eq_false_iff, twice_nodup, List.nodup_cons]
    simp
theorem stop_cons {c : UInt8} {b : B} (h : digB c = false ∧ c ≠ 46 ∧ c ≠ 101 ∧ c ≠ 69) : Stop (c :: b) := fun d r e => by cases e; exact h
/-- The parts of what can be. -/
theorem check_parts {deep : Nat} {k n : Int} {t : B} {ns : List B} {is : List J} (h : checkJ deep (.mk k n t ns is) = 0) :
    deeper k deep ≤ 16 ∧ blankJ (.mk k n t ns is) = true ∧ ns.Nodup ∧ ∀ v ∈ is, checkJ (deeper k deep) v = 0 := by
  rw [checkJ] at h
  split at h
  · cases h
  · split at h
    · cases h
    · split at h
      · cases h
      · rename_i h1 h2 h3
        exact ⟨by omega, by simpa using h2, twice_nodup.1 (by simpa using h3), checks_all.1 h⟩
theorem blank_kinds {k n : Int} {t : B} {ns : List B} {is : List J} (h : blankJ (.mk k n t ns is) = true) :
    (k = 0 ∧ n = 0 ∧ t = [] ∧ ns = [] ∧ is = []) ∨ (k = 1 ∧ (n = 0 ∨ n = 1) ∧ t = [] ∧ ns = [] ∧ is = []) ∨ (k = 2 ∧ t = [] ∧ ns = [] ∧ is = []) ∨
    (k = 3 ∧ n = 0 ∧ ns = [] ∧ is = [] ∧ wholeL t = true) ∨ (k = 4 ∧ n = 0 ∧ t = [] ∧ ns = []) ∨
    (k = 5 ∧ n = 0 ∧ t = [] ∧ ns.length = is.length ∧ wholeL ns.flatten = true ∧ ∀ s ∈ ns, wholeL s = true) := by
  rw [blankJ] at h
  split at h
  · simp at h; simp_all
  split at h
  · simp at h; simp_all
  split at h
  · simp at h; simp_all
  split at h
  · simp at h; simp_all
  split at h
  · simp at h; simp_all
  split at h
  · simp at h; simp_all
  · cases h
def Head (l : B) : Prop := ∃ c r, l = c :: r ∧ blankB c = false ∧ c ≠ 93 ∧ c ≠ 125
theorem dig_head {c : UInt8} (h : c = 45 ∨ digB c = true) : blankB c = false ∧ c ≠ 93 ∧ c ≠ 125 ∧ c ≠ 91 ∧ c ≠ 123 ∧ c ≠ 34 ∧ c ≠ 110 ∧ c ≠ 116 ∧ c ≠ 102 := by
  have : ∀ n : Nat, n < 256 → (UInt8.ofNat n = 45 ∨ digB (UInt8.ofNat n) = true) → blankB (UInt8.ofNat n) = false ∧ UInt8.ofNat n ≠ 93 ∧ UInt8.ofNat n ≠ 125 ∧ UInt8.ofNat n ≠ 91 ∧ UInt8.ofNat n ≠ 123 ∧ UInt8.ofNat n ≠ 34 ∧ UInt8.ofNat n ≠ 110 ∧ UInt8.ofNat n ≠ 116 ∧ UInt8.ofNat n ≠ 102 := by decide
  have := this c.toNat c.toNat_lt; rw [UInt8.ofNat_toNat] at this; exact this h
theorem text_head {deep : Nat} {v : J} (h : checkJ deep v = 0) : Head (textJ v) := by
  cases v with
  | mk k n t ns is =>
    obtain ⟨-, hb, -, -⟩ := check_parts h
    rw [textJ]
    rcases blank_kinds hb with ⟨rfl, -⟩ | ⟨rfl, -⟩ | ⟨rfl, -⟩ | ⟨rfl, -⟩ | ⟨rfl, -⟩ | ⟨rfl, -⟩
    · rw [if_pos rfl]; exact ⟨_, _, rfl, by decide, by decide, by decide⟩
    · rw [if_neg (by decide), if_pos rfl]
      split <;> exact ⟨_, _, rfl, by decide, by decide, by decide⟩
    · rw [if_neg (by decide), if_neg (by decide), if_pos rfl]
      obtain ⟨c, r, e, hc⟩ := itoa_cons n
      obtain ⟨h1, h2, h3, -⟩ := dig_head hc
      exact ⟨c, r, e, h1, h2, h3⟩
    · rw [if_neg (by decide), if_neg (by decide), if_neg (by decide), if_pos rfl]
      exact ⟨_, _, rfl, by decide, by decide, by decide⟩
    · rw [if_neg (by decide), if_neg (by decide), if_neg (by decide), if_neg (by decide), if_pos rfl]
      exact ⟨_, _, rfl, by decide, by decide, by decide⟩
    · rw [if_neg (by decide), if_neg (by decide), if_neg (by decide), if_neg (by decide), if_neg (by decide)]
      exact ⟨_, _, rfl, by decide, by decide, by decide⟩
theorem skip_head {c : UInt8} {r : B} (h : blankB c = false) : skipB (c :: r) = c :: r := by
  unfold skipB; rw [List.dropWhile_cons, if_neg (by rw [h]; decide)]
/-- A value's print is read, whatever stands behind. -/
def Reads (deep : Nat) (v : J) : Prop := ∀ (f : Nat) (b : B), Stop b → (textJ v).length ≤ f → valF f deep (textJ v ++ b) = .ok (canonJ v) b
theorem join_cons (x y : B) (l : List B) : joinB (x :: y :: l) = x ++ 44 :: joinB (y :: l) := by rw [joinB]
theorem items_reads {deep : Nat} {b : B} : ∀ {is : List J} {acc : List J} {f : Nat}, is ≠ [] → (∀ v ∈ is, Reads deep v) → (joinB (is.map textJ)).length < f →
    itemsF f deep acc (joinB (is.map textJ) ++ 93 :: b) = .ok (.mk 4 0 [] [] (acc ++ is.map canonJ)) b
  | [], _, _, h, _, _ => absurd rfl h
  | v :: l, acc, 0, _, _, h => by omega
  | [v], acc, f + 1, _, hr, hf => by
    simp only [List.map_cons, List.map_nil, joinB] at hf ⊢
    rw [itemsF, hr v (by simp) f _ (stop_cons (by decide)) (by omega)]
    simp only
    rw [skip_head (by decide), show oneB [44, 93] (93 :: b) = .ok 93 b from rfl]
    simp
  | v :: w :: l, acc, f + 1, _, hr, hf => by
    have ih := items_reads (deep := deep) (b := b) (is := w :: l) (acc := acc ++ [canonJ v]) (f := f) (by simp) (fun u hu => hr u (by simp [List.mem_cons.1 hu])) (by
      rw [List.map_cons, List.map_cons, join_cons, List.length_append, List.length_cons, ← List.map_cons] at hf; omega)
    rw [List.map_cons, List.map_cons, join_cons, List.length_append, List.length_cons] at hf
    rw [List.map_cons, List.map_cons, join_cons, List.append_assoc, List.cons_append, itemsF, hr v (by simp) f _ (stop_cons (by decide)) (by omega)]
    simp only
    rw [skip_head (by decide), show ∀ x, oneB [44, 93] (44 :: x) = .ok 44 x from fun _ => rfl]
    simp only
    rw [if_neg (by decide), ← List.map_cons, ih]
    simp
def memT (q : B × J) : B := memB (q.1, textJ q.2)
theorem mems_reads {deep : Nat} {b : B} : ∀ {S : List (B × J)} {ns : List B} {is : List J} {f : Nat}, S ≠ [] → (∀ q ∈ S, wholeL q.1 = true ∧ Reads deep q.2) → (ns ++ S.map (·.1)).Nodup → (joinB (S.map memT)).length < f →
    memsF f deep ns is (joinB (S.map memT) ++ 125 :: b) = .ok (.mk 5 0 [] (ns ++ S.map (·.1)) (is ++ S.map fun q => canonJ q.2)) b
  | [], _, _, _, h, _, _, _ => absurd rfl h
  | v :: l, ns, is, 0, _, _, _, h => by omega
  | [q], ns, is, f + 1, _, hr, hn, hf => by
    obtain ⟨h1, h2⟩ := hr q (by simp)
    have hns : ns.contains q.1 = false := by
      rw [List.map_cons, List.nodup_append] at hn
      simp only [List.contains_eq_mem, decide_eq_false_iff_not]
      intro h
      exact hn.2.2 _ h _ (by simp) rfl
    have e : joinB ([q].map memT) ++ 125 :: b = quoteB q.1 ++ 58 :: (textJ q.2 ++ 125 :: b) := by simp [joinB, memT, memB]
    have hl : (joinB ([q].map memT)).length = (quoteB q.1).length + 1 + (textJ q.2).length := by simp [joinB, memT, memB]; omega
    have hs : skipB (quoteB q.1 ++ 58 :: (textJ q.2 ++ 125 :: b)) = quoteB q.1 ++ 58 :: (textJ q.2 ++ 125 :: b) := by unfold quoteB; rw [List.cons_append]; exact skip_head (by decide)
    rw [e, memsF, hs, text_quote h1]
    simp only
    rw [hns]
    simp only [Bool.false_eq_true, if_false, List.drop_succ_cons, List.drop_zero]
    rw [skip_head (by decide), show ∀ x, oneB [58] (58 :: x) = .ok 58 x from fun _ => rfl]
    simp only
    rw [h2 f _ (stop_cons (by decide)) (by omega)]
    simp only
    rw [skip_head (by decide), show ∀ x, oneB [44, 125] (125 :: x) = .ok 125 x from fun _ => rfl]
    simp
  | q :: p :: l, ns, is, f + 1, _, hr, hn, hf => by
    obtain ⟨h1, h2⟩ := hr q (by simp)
    have hns : ns.contains q.1 = false := by
      rw [List.map_cons, List.nodup_append] at hn
      simp only [List.contains_eq_mem, decide_eq_false_iff_not]
      intro h
      exact hn.2.2 _ h _ (by simp) rfl
    have hl : (joinB ((q :: p :: l).map memT)).length = (quoteB q.1).length + 1 + (textJ q.2).length + 1 + (joinB ((p :: l).map memT)).length := by
      rw [List.map_cons, List.map_cons, join_cons, List.length_append, List.length_cons, ← List.map_cons]
      have : (memT q).length = (quoteB q.1).length + 1 + (textJ q.2).length := by simp [memT, memB]; omega
      omega
    have ih := mems_reads (deep := deep) (b := b) (S := p :: l) (ns := ns ++ [q.1]) (is := is ++ [canonJ q.2]) (f := f) (by simp) (fun u hu => hr u (by simp [List.mem_cons.1 hu])) (by simpa using hn) (by omega)
    have e : joinB ((q :: p :: l).map memT) ++ 125 :: b = quoteB q.1 ++ 58 :: (textJ q.2 ++ 44 :: (joinB ((p :: l).map memT) ++ 125 :: b)) := by
      rw [List.map_cons, List.map_cons, join_cons, ← List.map_cons]; simp [memT, memB]
    have hs : skipB (quoteB q.1 ++ 58 :: (textJ q.2 ++ 44 :: (joinB ((p :: l).map memT) ++ 125 :: b))) = quoteB q.1 ++ 58 :: (textJ q.2 ++ 44 :: (joinB ((p :: l).map memT) ++ 125 :: b)) := by
      unfold quoteB; rw [List.cons_append]; exact skip_head (by decide)
    rw [e, memsF, hs, text_quote h1]
    simp only
    rw [hns]
    simp only [Bool.false_eq_true, if_false, List.drop_succ_cons, List.drop_zero]
    rw [skip_head (by decide), show ∀ x, oneB [58] (58 :: x) = .ok 58 x from fun _ => rfl]
    simp only
    rw [h2 f _ (stop_cons (by decide)) (by omega)]
    simp only
    rw [skip_head (by decide), show ∀ x, oneB [44, 125] (44 :: x) = .ok 44 x from fun _ => rfl]
    simp only
    rw [if_neg (by decide), ih]
    simp
theorem join_nil_iff {l : List B} (h : ∀ x ∈ l, x ≠ []) : joinB l = [] ↔ l = [] := by
  cases l with
  | nil => simp [joinB]
  | cons x l =>
    cases l with
    | nil => simp [joinB]; exact h x (by simp)
    | cons y l => rw [join_cons]; simp
theorem join_head {l : List B} (hl : l ≠ []) (h : ∀ x ∈ l, Head x) (b : B) : Head (joinB l ++ b) := by
  cases l with
  | nil => exact absurd rfl hl
  | cons x l =>
    obtain ⟨c, r, e, h1⟩ := h x (by simp)
    cases l with
    | nil => rw [joinB, e]; exact ⟨c, _, rfl, h1⟩
    | cons y l => rw [join_cons, e]; exact ⟨c, _, rfl, h1⟩
theorem sort_mem {α : Type} {l : List (B × α)} {q : B × α} : q ∈ sortP l ↔ q ∈ l := (sort_perm l).mem_iff
theorem sort_nil {α : Type} {l : List (B × α)} : sortP l = [] ↔ l = [] := by
  constructor
  · intro h; have := sort_perm l; rw [h] at this; exact this.nil_eq.symm
  · intro h; subst h; rfl
theorem zip_fst {α : Type} : ∀ {ns : List B} {is : List α}, ns.length = is.length → (ns.zip is).map (·.1) = ns
  | [], [], _ => rfl
  | [], _ :: _, h => by simp at h
  | _ :: _, [], h => by simp at h
  | n :: ns, i :: is, h => by simp [zip_fst (ns := ns) (is := is) (by simpa using h)]
theorem zip_snd {α : Type} : ∀ {ns : List B} {is : List α}, ns.length = is.length → (ns.zip is).map (·.2) = is
  | [], [], _ => rfl
  | [], _ :: _, h => by simp at h
  | _ :: _, [], h => by simp at h
  | n :: ns, i :: is, h => by simp [zip_snd (ns := ns) (is := is) (by simpa using h)]
theorem reads_all : ∀ v : J, ∀ deep, checkJ deep v = 0 → wfJ v = true → Reads deep v := by
  intro v
  induction v using J.ind with
  | h k n t ns is ih =>
    intro deep hc hw f b hb hf
    obtain ⟨h1, h2, h3, h4⟩ := check_parts hc
    rw [wfJ] at hw
    simp only [Bool.and_eq_true, decide_eq_true_eq] at hw
    obtain ⟨⟨w1, w2⟩, w3⟩ := hw
    obtain ⟨c0, r0, hhead, -⟩ := text_head hc
    obtain ⟨f, rfl⟩ : ∃ g, f = g + 1 := ⟨f - 1, by rw [hhead] at hf; simp at hf; omega⟩
    clear hhead
    rw [textJ] at hf ⊢
    rw [canonJ]
    rcases blank_kinds h2 with ⟨rfl, rfl, rfl, rfl, rfl⟩ | ⟨rfl, hn, rfl, rfl, rfl⟩ | ⟨rfl, rfl, rfl, rfl⟩ | ⟨rfl, rfl, rfl, rfl, ht⟩ | ⟨rfl, rfl, rfl, rfl⟩ | ⟨rfl, rfl, rfl, hl, hwf, hws⟩
    · rw [if_pos rfl, if_neg (by decide), canonsJ]; rfl
    · rcases hn with rfl | rfl
      · rw [if_neg (by decide), if_pos rfl, if_neg (by decide), if_neg (by decide), canonsJ]; rfl
      · rw [if_neg (by decide), if_pos rfl, if_pos rfl, if_neg (by decide), canonsJ]; rfl
    · rw [if_neg (by decide), if_neg (by decide), if_pos rfl, if_neg (by decide), canonsJ]
      obtain ⟨c, r, e, hcc⟩ := itoa_cons n
      obtain ⟨d1, d2, d3, d4, d5, d6, d7, d8, d9⟩ := dig_head hcc
      have hnum := number_itoa hb w1 w2
      rw [e, List.cons_append] at hnum ⊢
      rw [valF, skip_head d1]
      simp only
      rw [if_neg (by simp [d4, d5]), if_neg d6, if_neg d7, if_neg d8, if_neg d9, if_pos hcc, hnum]; rfl
    · rw [if_neg (by decide), if_neg (by decide), if_neg (by decide), if_pos rfl, if_neg (by decide), canonsJ]
      have htx := text_quote ht b
      have e : quoteB t ++ b = 34 :: (t.flatMap quoteC ++ [34] ++ b) := by simp [quoteB]
      rw [e] at htx ⊢
      rw [valF, skip_head (by decide)]
      simp only
      rw [if_neg (by decide), if_pos trivial, htx]; rfl
    · rw [if_neg (by decide), if_neg (by decide), if_neg (by decide), if_neg (by decide), if_pos rfl] at hf ⊢
      rw [if_neg (by decide), canons_map]
      rw [texts_map] at hf ⊢
      have hd : deeper 4 deep = deep + 1 := by unfold deeper; rw [if_pos (.inl rfl)]
      rw [hd] at h1 h4
      rw [List.cons_append, valF, skip_head (by decide)]
      simp only
      rw [if_pos (.inl trivial), if_neg (by omega), if_pos trivial]
      by_cases he : is = []
      · subst he; rfl
      · have hh := join_head (l := is.map textJ) (by simpa using he) (fun x hx => by obtain ⟨v, hv, rfl⟩ := List.mem_map.1 hx; exact text_head (h4 v hv)) ([93] ++ b)
        rw [← List.append_assoc] at hh
        obtain ⟨c, r, e, g1, g2, g3⟩ := hh
        rw [e, skip_head g1]
        simp only
        rw [if_neg g2, ← e, List.append_assoc]
        have := items_reads (deep := deep + 1) (b := b) (is := is) (acc := []) (f := f) he (fun v hv => ih v hv _ (h4 v hv) (wfs_all.1 w3 v hv)) (by simp at hf; omega)
        rw [List.singleton_append, this]; rfl
    · rw [if_neg (by decide), if_neg (by decide), if_neg (by decide), if_neg (by decide), if_neg (by decide)] at hf ⊢
      rw [if_pos rfl, canons_map]
      rw [texts_map] at hf ⊢
      have hd : deeper 5 deep = deep + 1 := by unfold deeper; rw [if_pos (.inr rfl)]
      rw [hd] at h1 h4
      rw [zip_map_snd, sort_map, List.map_map] at hf ⊢
      rw [zip_map_snd, sort_map, List.map_map, List.map_map]
      have hz : ∀ q ∈ sortP (ns.zip is), q.1 ∈ ns ∧ q.2 ∈ is := fun q hq => ⟨(List.of_mem_zip (sort_mem.1 hq)).1, (List.of_mem_zip (sort_mem.1 hq)).2⟩
      have hnd : ((sortP (ns.zip is)).map (·.1)).Nodup := by
        have := ((sort_perm (ns.zip is)).map (·.1)).nodup_iff
        rw [this, zip_fst hl]; exact h3
      have hnil : sortP (ns.zip is) = [] ↔ is = [] := by
        rw [sort_nil]
        constructor
        · intro h; have := zip_snd hl; rw [h] at this; exact this.symm
        · intro h; subst h; simp
      generalize sortP (ns.zip is) = S at *
      have ef : (memB ∘ fun q : B × J => (q.1, textJ q.2)) = memT := rfl
      rw [ef] at hf ⊢
      rw [List.cons_append, valF, skip_head (by decide)]
      simp only
      rw [if_pos (.inr trivial), if_neg (by omega), if_neg (by decide)]
      by_cases he : S = []
      · subst he; rfl
      · have hh := join_head (l := S.map memT) (by simpa using he) (fun x hx => by obtain ⟨v, hv, rfl⟩ := List.mem_map.1 hx; exact ⟨_, _, rfl, by decide, by decide, by decide⟩) ([125] ++ b)
        rw [← List.append_assoc] at hh
        obtain ⟨c, r, e, g1, g2, g3⟩ := hh
        rw [e, skip_head g1]
        simp only
        rw [if_neg g3, ← e, List.append_assoc]
        have := mems_reads (deep := deep + 1) (b := b) (S := S) (ns := []) (is := []) (f := f) he (fun q hq => ⟨hws _ (hz q hq).1, ih _ (hz q hq).2 _ (h4 _ (hz q hq).2) (wfs_all.1 w3 _ (hz q hq).2)⟩) (by simpa using hnd) (by simp at hf; omega)
        rw [List.singleton_append, this]; rfl
/-- What is printed is read. -/
theorem whole_reads {v : J} (hc : checkJ 0 v = 0) (hw : wfJ v = true) : wholeP (textJ v) = .ok (canonJ v) [] := by
  have := reads_all v 0 hc hw (fuelB (textJ v)) [] (fun c r e => by cases e) (by unfold fuelB; omega)
  rw [List.append_nil] at this
  rw [wholeP, this]; rfl
theorem parse_print {v : J} (hc : checkJ 0 v = 0) (hw : wfJ v = true) (hl : (textJ v).length ≤ 65536) : parseJ (textJ v) = (canonJ v, 0, 0) := by
  rw [parseJ, if_neg (by omega), whole_reads hc hw]
end Go.Proofs.YthkpbgpgcpkiiaaGreatDoor
