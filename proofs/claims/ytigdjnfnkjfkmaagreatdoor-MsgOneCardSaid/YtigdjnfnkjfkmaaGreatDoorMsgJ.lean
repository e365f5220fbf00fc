/- Numbers, lists that may be told. Conditions: the texts are small. Which messages may be: msg.zero, msg.push. Conditions: the texts are small, the numbers are of 64 bits. -/
import Derived.Test.YtigdjnfnkjfkmaaGreatDoorMsgF
namespace Go.Proofs.YtigdjnfnkjfkmaaGreatDoor
open Go.RowKit
set_option linter.unusedVariables false
set_option linter.unusedSimpArgs false
set_option maxRecDepth 100000

set_option maxHeartbeats 4000000 in
theorem within_any (n : Int) (w : World) : Calls Tryz.prog 35 #[.int .i64 n] w fun e w' => e = .returned (.bool (verB n)) ∧ w' = w := by
  have hv : verB n = (decide (0 ≤ n) && decide (n ≤ 1099511627776)) := rfl
  have Hv := Lib.hid hv
  clear hv
  go_enter Tryz.func35, Tryz.ntmps35
  by_cases h : n ≥ 0
  · go_wp2_with fail
    go_ret
    exact ⟨ret_bool (by rw [Hv.out]; simp; omega), rfl⟩
  · go_wp2_with fail
    go_ret
    exact ⟨ret_bool (by rw [Hv.out, decide_eq_false (by omega)]; rfl), rfl⟩
/-- Texts that are small enough to be gone through. -/
def LoS (x : Lo) : Prop := x.client.length ≤ 1048576 ∧ x.m.issue.length ≤ 1048576 ∧ x.m.name.length ≤ 1048576 ∧ x.m.text.length ≤ 1048576
theorem may_lo (x : Lo) (w : World) (h : LoS x) : Calls Tryz.prog 50 #[.agg #[.string (ofL x.client), .int .i64 x.id, .int .i64 x.m.kind, .string (ofL x.m.issue), .string (ofL x.m.name), .string (ofL x.m.text)]] w fun e w' => e = .returned (.bool (mayLo x)) ∧ Below w.heap.size w w' := by
  obtain ⟨h1, h2, h3, h4⟩ := h
  have := pmayLo_any (ofL x.client) x.id x.m.kind (ofL x.m.issue) (ofL x.m.name) (ofL x.m.text) w (by rw [size_ofL]; omega) (by rw [size_ofL]; omega) (by rw [size_ofL]; omega) (by rw [size_ofL]; omega)
  rw [toL_ofL, toL_ofL, toL_ofL, toL_ofL] at this
  exact this
theorem all_take {l : List Lo} {m : Nat} {x : Lo} (hx : l[m]? = some x) (h : mayLo x = false) : l.all mayLo = false := by
  rw [List.all_eq_false]
  exact ⟨x, List.mem_of_getElem? hx, by simp [h]⟩
theorem all_of {l : List Lo} (h : ∀ j x, j < l.length → l[j]? = some x → mayLo x = true) : l.all mayLo = true := by
  rw [List.all_eq_true]
  intro x hx
  obtain ⟨j, hj, rfl⟩ := List.getElem_of_mem hx
  exact h j _ hj (List.getElem?_eq_getElem hj)
set_option maxHeartbeats 8000000 in
theorem listed_any (l : List Lo) (v : Value) (w : World) (hR : RdP (fun b => b < w.heap.size) w 6 v l.length (logsV l)) (hl : l.length ≤ 1048576) (hs : ∀ x ∈ l, LoS x) : Calls Tryz.prog 37 #[v] w fun e w' => e = .returned (.bool (allB l)) ∧ Below w.heap.size w w' := by
  (obtain ⟨A, c, rfl⟩ := hR.shape); (obtain ⟨n, hn⟩ : ∃ n, n = l.length := ⟨_, rfl⟩); (rw [← hn] at hR hl ⊢); (have HN := Lib.hid hn); (have HR := Lib.hid hR); (have HS := Lib.hid hs); (obtain ⟨r, hr⟩ : ∃ r, r = allB l := ⟨_, rfl⟩); (rw [← hr]); (have Hr := Lib.hid hr); (clear hn hR hs hr)
  go_enter Tryz.func37, Tryz.ntmps37
  go_upto_region 2 with fail
  (go_loopw [7] (fun i wr => ∃ m : Nat, m ≤ n ∧ i = .int .i64 m ∧ Hid (∀ j x, j < m → l[j]? = some x → mayLo x = true) ∧ Hid (Below w.heap.size w wr)) (fun i _ => n - (intOf i).toNat))
  case atStart => exact ⟨0, Nat.zero_le _, rfl, (fun j x hj => by omega), Below.refl _ _⟩
  case round =>
    obtain ⟨m, hm, rfl, hall, hb⟩ := hrel
    by_cases hlt : m < n
    · obtain ⟨x, hx⟩ : ∃ x, l[m]? = some x := ⟨_, List.getElem?_eq_getElem (by rw [← HN.out]; exact hlt)⟩
      obtain ⟨ba, oa, ca, eA, hba, j0, j1, j2, j3, j4, j5⟩ := (show RdP (fun b => b < w.heap.size) wr 6 (.slice A n c) l.length (logsV l) by have := HR.out.keep (below_keeps hb.out); rw [HN.out] at this ⊢; exact this).logAt hx
      simp only [Value.slice.injEq] at eA
      obtain ⟨rfl, hjunk, rfl⟩ := eA
      have Hx := Lib.hid hx
      have hK := may_lo x (wr.alloc (.cells #[.string (ofL x.client), .int .i64 x.id, .int .i64 x.m.kind, .string (ofL x.m.issue), .string (ofL x.m.name), .string (ofL x.m.text)] 31)) (HS.out x (List.mem_of_getElem? hx))
      have hb6 := (Below.refl wr.heap.size wr).alloc (Nat.le_refl _) (.cells #[.string (ofL x.client), .int .i64 x.id, .int .i64 x.m.kind, .string (ofL x.m.issue), .string (ofL x.m.name), .string (ofL x.m.text)] 31)
      have hk6 : (wr.alloc (.cells #[.string (ofL x.client), .int .i64 x.id, .int .i64 x.m.kind, .string (ofL x.m.issue), .string (ofL x.m.name), .string (ofL x.m.text)] 31)).heap[wr.heap.size]? = some (.cells #[.string (ofL x.client), .int .i64 x.id, .int .i64 x.m.kind, .string (ofL x.m.issue), .string (ofL x.m.name), .string (ofL x.m.text)] 31 (0, 0)) := heap_alloc_new wr _
      clear hjunk hx
      go_upto_region 4 with fail
      generalize wr.alloc (.cells #[.string (ofL x.client), .int .i64 x.id, .int .i64 x.m.kind, .string (ofL x.m.issue), .string (ofL x.m.name), .string (ofL x.m.text)] 31) = w6 at *
      obtain ⟨d0, d1, d2, d3, d4, d5, hz6⟩ := box6 hk6
      have hbw := hb.out.next hb6
      cases hmx : mayLo x with
      | false =>
        rw [hmx] at hK
        have HK := Lib.hid hK
        have Hr2 := Lib.hid (show r = false by rw [Hr.out]; unfold allB; rw [all_take Hx.out hmx]; rfl)
        have HB := Lib.hid hbw
        clear hK hmx hbw hb6 hk6
        go_wp2_with fail
        (with_reducible refine HK.out.mono ?_); rintro e w7 ⟨rfl, hb7⟩
        have HB7 := Lib.hid (HB.out.next hb7)
        clear hb7
        go_wp2_with fail
        go_ret
        exact ⟨ret_bool Hr2.out.symm, HB7.out⟩
      | true =>
        rw [hmx] at hK
        have HK := Lib.hid hK
        have hall' : Hid (∀ j x, j < m + 1 → l[j]? = some x → mayLo x = true) := fun j y hj hy => by
          rcases Nat.lt_or_ge j m with h | h
          · exact hall.out j y h hy
          · have : j = m := by omega
            subst this
            rw [Hx.out] at hy
            cases hy; exact hmx
        have HB := Lib.hid hbw
        clear hK hmx hbw hb6 hk6 hall
        go_wp2_with fail
        (with_reducible refine HK.out.mono ?_); rintro e w7 ⟨rfl, hb7⟩
        have HB7 := Lib.hid (HB.out.next hb7)
        clear hb7 d0 d1 d2 d3 d4 d5 j0 j1 j2 j3 j4 j5
        go_wp2_with fail
        exact ⟨⟨m + 1, by omega, by go_num, hall', HB7⟩, by simp [intOf]; omega⟩
    · have hmn : m = n := by omega
      subst hmn
      have hrv : r = decide ((m : Int) ≤ 8) := by
        rw [Hr.out]; unfold allB
        rw [all_of (fun j x hj hx => hall.out j x (by rw [HN.out]; exact hj) hx), ← HN.out, Bool.true_and]
        exact decide_eq_decide.2 (by omega)
      have Hrv := Lib.hid hrv
      clear hrv hall
      go_wp2_with fail
      go_ret
      exact ⟨ret_bool Hrv.out.symm, hb.out⟩
end Go.Proofs.YtigdjnfnkjfkmaaGreatDoor
namespace Go.Proofs.YtigdjnfnkjfkmaaGreatDoor
open Go.RowKit
set_option linter.unusedVariables false
set_option linter.unusedSimpArgs false
set_option maxRecDepth 100000

set_option maxHeartbeats 8000000 in
theorem zero_any (k f q a t : Int) (s : ByteArray) (A : Option Addr) (n d : Nat) (w : World) :
    Calls Tryz.prog 38 #[.agg #[.int .i64 k, .string s, .int .i64 f, .int .i64 q, .int .i64 a, .int .i64 t, .slice A n d]] w fun e w' => e = .returned (.bool (s.toList.isEmpty && f == 0 && q == 0 && a == 0 && t == 0 && n == 0)) ∧ Below w.heap.size w w' := by
  have hb1 := (Below.refl w.heap.size w).alloc (Nat.le_refl _) (.cells #[.int .i64 k, .string s, .int .i64 f, .int .i64 q, .int .i64 a, .int .i64 t, .slice A n d] 24)
  have hk1 := CB.new w #[.int .i64 k, .string s, .int .i64 f, .int .i64 q, .int .i64 a, .int .i64 t, .slice A n d] 24
  obtain ⟨r, hr⟩ : ∃ r, r = (s.toList.isEmpty && f == 0 && q == 0 && a == 0 && t == 0 && n == 0) := ⟨_, rfl⟩
  rw [← hr]
  have Hr := Lib.hid hr
  clear hr
  go_enter Tryz.func38, Tryz.ntmps38
  go_upto_region 1 with fail
  generalize w.alloc (.cells #[.int .i64 k, .string s, .int .i64 f, .int .i64 q, .int .i64 a, .int .i64 t, .slice A n d] 24) = w1 at *
  have d1 : w1.cell? ⟨w.heap.size, 1, none⟩ = some (.string s) := hk1.c 1 rfl
  have d2 : w1.cell? ⟨w.heap.size, 2, none⟩ = some (.int .i64 f) := hk1.c 2 rfl
  have d3 : w1.cell? ⟨w.heap.size, 3, none⟩ = some (.int .i64 q) := hk1.c 3 rfl
  have d4 : w1.cell? ⟨w.heap.size, 4, none⟩ = some (.int .i64 a) := hk1.c 4 rfl
  have d5 : w1.cell? ⟨w.heap.size, 5, none⟩ = some (.int .i64 t) := hk1.c 5 rfl
  have d6 : w1.cell? ⟨w.heap.size, 6, none⟩ = some (.slice A n d) := hk1.c 6 rfl
  have HB := Lib.hid hb1
  clear hk1 hb1
  cases h1 : s.toList.isEmpty with
  | false => (go_wp2_with fail; go_ret; exact ⟨ret_bool (by rw [Hr.out]; simp [*]), HB.out⟩)
  | true =>
    by_cases h2 : f = 0
    · by_cases h3 : q = 0
      · by_cases h4 : a = 0
        · by_cases h5 : t = 0
          · by_cases h6 : n = 0
            · have h6' : (n : Int) = 0 := by omega
              have Hr2 := Lib.hid (show r = true by rw [Hr.out, h1, h2, h3, h4, h5, h6]; rfl)
              subst h2 h3 h4 h5
              clear h6
              go_wp2_with fail
              go_ret
              exact ⟨ret_bool Hr2.out.symm, HB.out⟩
            · have h6' : ¬ (n : Int) = 0 := by omega
              have Hr2 := Lib.hid (show r = false by rw [Hr.out, h1, h2, h3, h4, h5, beq_eq_false_iff_ne.2 h6]; rfl)
              subst h2 h3 h4 h5
              clear h6
              go_wp2_with fail
              go_ret
              exact ⟨ret_bool (by rw [Hr2.out]; simp; omega), HB.out⟩
          · (go_wp2_with fail; go_ret; exact ⟨ret_bool (by rw [Hr.out]; simp [*]), HB.out⟩)
        · (go_wp2_with fail; go_ret; exact ⟨ret_bool (by rw [Hr.out]; simp [*]), HB.out⟩)
      · (go_wp2_with fail; go_ret; exact ⟨ret_bool (by rw [Hr.out]; simp [*]), HB.out⟩)
    · (go_wp2_with fail; go_ret; exact ⟨ret_bool (by rw [Hr.out]; simp [*]), HB.out⟩)
/-- Numbers of 64 bits. -/
def I64 (n : Int) : Prop := -9223372036854775808 ≤ n ∧ n ≤ 9223372036854775807
/-- One number behind the other, as the program reckons it. -/
def goodAt (c : B) (l : List Lo) (j : Nat) : Prop := ∀ x, l[j]? = some x → x.client = c ∧ ∀ y, 0 < j → l[j - 1]? = some y → IntKind.i64.wrap (x.id - 1) = y.id
theorem chain_all {c : B} : ∀ {l : List Lo}, chainB c l = true ↔ ∀ j x, l[j]? = some x → x.client = c ∧ ∀ y, 0 < j → l[j - 1]? = some y → x.id - 1 = y.id
  | [] => by simp [chainB]
  | [x] => by
    constructor
    · intro h j z hz
      unfold chainB at h
      cases j with
      | zero => simp at hz; subst hz; exact ⟨by simpa using h, fun y h0 => by omega⟩
      | succ j => simp at hz
    · intro h
      unfold chainB
      simpa using (h 0 x rfl).1
  | x :: y :: l => by
    have ih := chain_all (c := c) (l := y :: l)
    constructor
    · intro h j z hz
      unfold chainB at h
      simp only [Bool.and_eq_true, beq_iff_eq, decide_eq_true_eq] at h
      obtain ⟨⟨h1, h2⟩, h3⟩ := h
      cases j with
      | zero => simp at hz; subst hz; exact ⟨h1, fun y h0 => by omega⟩
      | succ j =>
        simp only [List.getElem?_cons_succ] at hz
        obtain ⟨g1, g2⟩ := ih.1 h3 j z hz
        refine ⟨g1, fun u _ hu => ?_⟩
        cases j with
        | zero =>
          simp at hz hu
          subst hz hu; exact h2
        | succ j =>
          have e : j + 1 + 1 - 1 = j + 1 := by omega
          rw [e, List.getElem?_cons_succ] at hu
          exact g2 u (by omega) (by simpa using hu)
    · intro h
      unfold chainB
      simp only [Bool.and_eq_true, beq_iff_eq, decide_eq_true_eq]
      refine ⟨⟨(h 0 x rfl).1, (h 1 y rfl).2 x (by omega) rfl⟩, ih.2 fun j z hz => ?_⟩
      obtain ⟨g1, g2⟩ := h (j + 1) z (by simpa using hz)
      refine ⟨g1, fun u h0 hu => g2 u (by omega) ?_⟩
      have e : j + 1 - 1 = (j - 1) + 1 := by omega
      rw [e, List.getElem?_cons_succ]; exact hu
theorem good_chain {c : B} {l : List Lo} (hi : ∀ x ∈ l, I64 x.id) (ha : allB l = true) (h : ∀ j, j < l.length → goodAt c l j) : chainB c l = true := by
  refine chain_all.2 fun j x hx => ?_
  obtain ⟨h1, h2⟩ := h j (List.getElem?_eq_some_iff.1 hx).1 x hx
  refine ⟨h1, fun y h0 hy => ?_⟩
  have h3 := h2 y h0 hy
  have h4 := (mayLo_parts ((all_parts ha).1 x (List.mem_of_getElem? hx))).2.1
  have h5 := hi x (List.mem_of_getElem? hx)
  rw [IntWalk.i64_in _ (by unfold I64 at h5; omega)] at h3
  exact h3
theorem chain_good {c : B} {l : List Lo} (hi : ∀ x ∈ l, I64 x.id) (h : chainB c l = true) (j : Nat) : goodAt c l j := fun x hx => by
  obtain ⟨h1, h2⟩ := chain_all.1 h j x hx
  refine ⟨h1, fun y h0 hy => ?_⟩
  have h3 := h2 y h0 hy
  have h4 := hi y (List.mem_of_getElem? hy)
  rw [h3]
  exact IntWalk.i64_in _ (by unfold I64 at h4; omega)
set_option maxHeartbeats 16000000 in
theorem push_any (k f q a t : Int) (c : B) (l : List Lo) (A : Option Addr) (d : Nat) (w : World) (hR : RdP (fun b => b < w.heap.size) w 6 (.slice A l.length d) l.length (logsV l)) (hl : l.length ≤ 1048576) (hs : ∀ x ∈ l, LoS x) (hi : ∀ x ∈ l, I64 x.id) (hc : c.length ≤ 1048576) :
    Calls Tryz.prog 34 #[.agg #[.int .i64 k, .string (ofL c), .int .i64 f, .int .i64 q, .int .i64 a, .int .i64 t, .slice A l.length d]] w fun e w' => e = .returned (.bool (nameL c && !l.isEmpty && allB l && chainB c l)) ∧ Below w.heap.size w w' := by
  obtain ⟨n, hn⟩ : ∃ n, n = l.length := ⟨_, rfl⟩
  have hKL := fun (w' : World) (hb : Below w.heap.size w w') => listed_any l (.slice A n d) w' (by rw [hn]; exact (hR.keep (below_keeps hb)).mono (by decide) (fun b h _ => Nat.lt_of_lt_of_le h hb.size)) hl hs
  have hKN := fun (w' : World) => pname_any (ofL c) w' (by rw [size_ofL]; omega)
  rw [toL_ofL] at hKN
  rw [← hn] at hR hl ⊢
  obtain ⟨r, hr⟩ : ∃ r, r = (nameL c && !l.isEmpty && allB l && chainB c l) := ⟨_, rfl⟩
  rw [← hr]
  have Hr := Lib.hid hr
  have HN := Lib.hid hn
  have HR := Lib.hid hR
  have HKL := Lib.hid hKL
  have HKN := Lib.hid hKN
  have HI := Lib.hid hi
  have hnl : n ≤ 1048576 := hl
  clear hr hn hR hKL hKN hi hl hs
  have hall : ∃ W, W = w.alloc (.cells #[.int .i64 k, .string (ofL c), .int .i64 f, .int .i64 q, .int .i64 a, .int .i64 t, .slice A n d] 24) ∧ CB W w.heap.size #[.int .i64 k, .string (ofL c), .int .i64 f, .int .i64 q, .int .i64 a, .int .i64 t, .slice A n d] 24 ∧ Below w.heap.size w W := ⟨_, rfl, CB.new w _ _, (Below.refl _ _).alloc (Nat.le_refl _) _⟩
  obtain ⟨w1, hw1, hk1, hb1⟩ := hall
  go_enter Tryz.func34, Tryz.ntmps34
  go_upto_region 1 with fail
  rw [← hw1]
  clear hw1
  have d6 : w1.cell? ⟨w.heap.size, 6, none⟩ = some (.slice A n d) := hk1.c 6 rfl
  go_upto_region 2 with fail
  have HB1 := Lib.hid hb1
  have HK1 := Lib.hid hk1
  clear hb1 hk1 d6
  go_loopw [8] (fun i wr => ∃ m : Nat, m ≤ n ∧ i = .int .i64 m ∧ Hid (∀ j, j < m → goodAt c l j) ∧ Hid (Below w1.heap.size w1 wr)) (fun i _ => n - (intOf i).toNat)
  case atStart => exact ⟨0, Nat.zero_le _, rfl, (fun j hj => by omega), Below.refl _ _⟩
  case round =>
    obtain ⟨m, hm, rfl, hall, hb⟩ := hrel
    have hbr := HB1.out.next hb.out
    have hk := HK1.out.below hb.out
    have d1 : wr.cell? ⟨w.heap.size, 1, none⟩ = some (.string (ofL c)) := hk.c 1 rfl
    have d6 : wr.cell? ⟨w.heap.size, 6, none⟩ = some (.slice A n d) := hk.c 6 rfl
    by_cases hlt : m < n
    · obtain ⟨x, hx⟩ : ∃ x, l[m]? = some x := ⟨_, List.getElem?_eq_getElem (by rw [← HN.out]; exact hlt)⟩
      have hRr := (show RdP (fun b => b < w.heap.size) wr 6 (.slice A n d) l.length (logsV l) by have := HR.out.keep (below_keeps hbr); rw [HN.out] at this ⊢; exact this)
      obtain ⟨ba, oa, ca, eA, hba, j0, j1, j2, j3, j4, j5⟩ := hRr.logAt hx
      simp only [Value.slice.injEq] at eA
      obtain ⟨rfl, hjunk, rfl⟩ := eA
      have Hx := Lib.hid hx
      have hb6 := (Below.refl wr.heap.size wr).alloc (Nat.le_refl _) (.cells #[.string (ofL x.client), .int .i64 x.id, .int .i64 x.m.kind, .string (ofL x.m.issue), .string (ofL x.m.name), .string (ofL x.m.text)] 31)
      have hk6 : (wr.alloc (.cells #[.string (ofL x.client), .int .i64 x.id, .int .i64 x.m.kind, .string (ofL x.m.issue), .string (ofL x.m.name), .string (ofL x.m.text)] 31)).heap[wr.heap.size]? = some (.cells #[.string (ofL x.client), .int .i64 x.id, .int .i64 x.m.kind, .string (ofL x.m.issue), .string (ofL x.m.name), .string (ofL x.m.text)] 31 (0, 0)) := heap_alloc_new wr _
      have HRr := Lib.hid hRr
      clear hjunk hx hRr
      go_upto_region 4 with fail
      generalize wr.alloc (.cells #[.string (ofL x.client), .int .i64 x.id, .int .i64 x.m.kind, .string (ofL x.m.issue), .string (ofL x.m.name), .string (ofL x.m.text)] 31) = w6 at *
      obtain ⟨e0, e1, e2, e3, e4, e5, hz6⟩ := box6 hk6
      have d1 := Below.keeps hb6 d1
      have d6 := Below.keeps hb6 d6
      have HB6 := Lib.hid (hb.out.next hb6)
      clear hk6 hk hbr
      by_cases hcl : x.client = c
      · have t1 : ((ofL x.client).toList == (ofL c).toList) = true := by rw [hcl]; exact beq_self_eq_true _
        by_cases hm0 : m = 0
        · have hall' : Hid (∀ j, j < m + 1 → goodAt c l j) := fun j hj => by
            have : j = m := by omega
            subst this
            intro y hy
            rw [Hx.out] at hy; cases hy
            exact ⟨hcl, fun y h0 => by omega⟩
          have hm0' : ¬ (m : Int) > 0 := by omega
          have hm1' : ¬ 0 < m := by omega
          clear hcl hall hm0
          go_quiet (fail)
          have hbn := below_drewN w6.heap.size w6 nq
          have HBn := Lib.hid (HB6.out.next hbn)
          generalize w6.drewN nq = wn at *
          clear hbn
          go_wp2_with fail
          exact ⟨⟨m + 1, by omega, by go_num, hall', HBn⟩, by simp [intOf]; omega⟩
        · obtain ⟨p, hp⟩ : ∃ p, m = p + 1 := ⟨m - 1, by omega⟩
          obtain ⟨y, hy⟩ : ∃ y, l[p]? = some y := ⟨_, List.getElem?_eq_getElem (by rw [← HN.out]; omega)⟩
          obtain ⟨ba', oa', ca', eA', -, -, i1, -, -, -, -⟩ := HRr.out.logAt hy
          have e1' : ba' = ba ∧ oa' = oa := by
            simp only [Value.slice.injEq, Option.some.injEq, Addr.mk.injEq] at eA'
            exact ⟨eA'.1.1.symm, eA'.1.2.1.symm⟩
          obtain ⟨rfl, rfl⟩ := e1'
          clear eA'
          have i1 := Below.keeps hb6 i1
          obtain ⟨z, hz⟩ : ∃ z, IntKind.i64.wrap (x.id - 1) = z := ⟨_, rfl⟩
          have hw0 : IntKind.i64.wrap ((m : Int) - 1) = (p : Int) := by rw [hp]; rw [IntWalk.i64_in _ (by omega)]; omega
          have hp0 : (0 : Int) ≤ (p : Int) := by omega
          have hp1 : (p : Int) < (n : Int) := by omega
          have hm0' : (m : Int) > 0 := by omega
          have hm1' : 0 < m := by omega
          have Hy := Lib.hid hy
          have Hp := Lib.hid hp
          clear hm0 hy hp
          by_cases hzy : z = y.id
          · have hall' : Hid (∀ j, j < m + 1 → goodAt c l j) := fun j hj => by
              rcases Nat.lt_or_ge j m with h | h
              · exact hall.out j h
              · have : j = m := by omega
                subst this
                intro u hu
                rw [Hx.out] at hu; cases hu
                refine ⟨hcl, fun v h0 hv => ?_⟩
                have e : j - 1 = p := by have := Hp.out; omega
                rw [e, Hy.out] at hv; cases hv
                rw [hz, hzy]
            subst hzy
            clear hcl hall
            go_quiet (fail)
            have hbn := below_drewN w6.heap.size w6 nq
            have HBn := Lib.hid (HB6.out.next hbn)
            generalize w6.drewN nq = wn at *
            clear hbn
            go_wp2_with fail
            exact ⟨⟨m + 1, by omega, by go_num, hall', HBn⟩, by simp [intOf]; omega⟩
          · have hzn : (z != y.id) = true := bne_iff_ne.2 hzy
            have Hrf := Lib.hid (show r = false by
              rw [Hr.out]
              cases hch : chainB c l with
              | false => simp
              | true =>
                have := (chain_good HI.out hch m x Hx.out).2 y (by omega) (by have e : m - 1 = p := by have := Hp.out; omega
                                                                              rw [e]; exact Hy.out)
                exact absurd (hz.symm.trans this) hzy)
            clear hcl hall hzy
            go_quiet (fail)
            have hbn := below_drewN w6.heap.size w6 nq
            have HBn := Lib.hid (HB1.out.next (HB6.out.next hbn))
            generalize w6.drewN nq = wn at *
            clear hbn
            go_wp2_with fail
            go_ret
            exact ⟨ret_bool Hrf.out.symm, HBn.out⟩
      · have t1 : ((ofL x.client).toList == (ofL c).toList) = false := by rw [beq_eq_false_iff_ne, toL_ofL, toL_ofL]; exact hcl
        have Hrf := Lib.hid (show r = false by
          rw [Hr.out]
          cases hch : chainB c l with
          | false => simp
          | true => exact absurd (chain_good HI.out hch m x Hx.out).1 hcl)
        clear hcl hall
        go_quiet (fail)
        have hbn := below_drewN w6.heap.size w6 nq
        have HBn := Lib.hid (HB1.out.next (HB6.out.next hbn))
        generalize w6.drewN nq = wn at *
        clear hbn
        go_wp2_with fail
        go_ret
        exact ⟨ret_bool Hrf.out.symm, HBn.out⟩
    · have hmn : m = n := by omega
      subst hmn
      have hch : allB l = true → chainB c l = true := fun ha => good_chain HI.out ha (fun j hj => hall.out j (by rw [HN.out]; exact hj))
      have hre : r = (nameL c && decide (0 < m) && allB l) := by
        rw [Hr.out]
        have e1 : (!l.isEmpty) = decide (0 < m) := by
          rw [HN.out]; cases l <;> simp
        rw [e1]
        cases ha : allB l with
        | false => simp
        | true => rw [hch ha]; simp
      have Hre := Lib.hid hre
      have KN := HKN.out wr
      have HBr := Lib.hid hbr
      have HK := Lib.hid hk
      have HKLr := HKL
      clear hre hch hall hbr hk
      cases hnm : nameL c with
      | false =>
        rw [hnm] at KN
        have KN := Lib.hid KN
        have Hf := Lib.hid (show r = false by rw [Hre.out, hnm]; rfl)
        clear hnm
        go_wp2_with fail
        (with_reducible refine KN.out.mono ?_); rintro e w2 ⟨rfl, hb2⟩
        have HB2 := Lib.hid (HBr.out.next hb2)
        clear hb2
        go_wp2_with fail
        go_ret
        exact ⟨ret_bool Hf.out.symm, HB2.out⟩
      | true =>
        rw [hnm] at KN
        have KN := Lib.hid KN
        have Hnm := Lib.hid hnm
        clear hnm
        go_wp2_with fail
        (with_reducible refine KN.out.mono ?_); rintro e w2 ⟨rfl, hb2⟩
        have HB2 := Lib.hid (HBr.out.next hb2)
        have d6 := Below.keeps hb2 d6
        clear hb2
        by_cases h0 : m = 0
        · have h0' : ¬ (m : Int) > 0 := by omega
          have Hf := Lib.hid (show r = false by rw [Hre.out, decide_eq_false (show ¬ 0 < m by omega)]; simp)
          clear h0
          go_wp2_with fail
          go_ret
          exact ⟨ret_bool Hf.out.symm, HB2.out⟩
        · have h0' : (m : Int) > 0 := by omega
          have Hf := Lib.hid (show r = allB l by rw [Hre.out, Hnm.out, decide_eq_true (show 0 < m by omega)]; simp)
          have KL := Lib.hid (HKLr.out w2 HB2.out)
          clear h0
          go_wp2_with fail
          (with_reducible refine KL.out.mono ?_); rintro e w3 ⟨rfl, hb3⟩
          have HB3 := Lib.hid (HB2.out.next hb3)
          clear hb3
          go_wp2_with fail
          go_ret
          exact ⟨ret_bool Hf.out.symm, HB3.out⟩
end Go.Proofs.YtigdjnfnkjfkmaaGreatDoor
