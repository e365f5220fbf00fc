/- Messages: how mutations lie in memory. Conditions: none. Which mutations of clients may be told, on both sides; a number and a text as values. Conditions: the texts lie in memory. A number and a text as values (msg.number, msg.text). Conditions: none. msg.object: members as an object. Conditions: the members lie in memory. msg.object: what it makes of members. Conditions: the members lie in memory, few of them. -/
import Derived.Test.YtigdjnfnkjfkmaaGreatDoorJLawC
import Derived.Test.YtigdjnfnkjfkmaaGreatDoorMsgA
import Derived.Test.YtigdjnfnkjfkmaaGreatDoorMsgP
namespace Go.Proofs.YtigdjnfnkjfkmaaGreatDoor
open Go.RowKit
set_option linter.unusedVariables false
set_option linter.unusedSimpArgs false
set_option maxRecDepth 100000

theorem RdP.cellAt {P : Nat → Prop} {w : World} {size n : Nat} {v : Value} {cs : List Value} (h : RdP P w size v n cs) {j : Nat} {u : Value} (hj : cs[j]? = some u) :
    ∃ b o c, v = .slice (some ⟨b, o, none⟩) n c ∧ P b ∧ ∀ i x, cs[i]? = some x → w.cell? ⟨b, o + i, none⟩ = some x := by
  have hlt := (List.getElem?_eq_some_iff.1 hj).1
  rcases h.2 with ⟨_, h0⟩ | ⟨⟨k1, A, c, rfl, k3, k4, k5, k6⟩, hP⟩
  · rw [h0] at hj; simp at hj
  cases A with
  | none => have := k5 rfl; subst this; omega
  | some a =>
    obtain ⟨s1, s2⟩ := k6 a rfl
    obtain ⟨b, o, s⟩ := a
    cases s1
    exact ⟨b, o, c, rfl, hP _ _ _ rfl, fun i x hx => s2 _ _ hx⟩
/-- A mutation of a client, its cells. -/
def logV (x : Lo) : List Value := [.string (ofL x.client), .int .i64 x.id, .int .i64 x.m.kind, .string (ofL x.m.issue), .string (ofL x.m.name), .string (ofL x.m.text)]
def logsV (l : List Lo) : List Value := l.flatMap logV
theorem logs_at : ∀ {l : List Lo} {k : Nat} {x : Lo}, l[k]? = some x → ∀ i, i < 6 → (logsV l)[k * 6 + i]? = (logV x)[i]?
  | y :: l, 0, x, h, i, hi => by
    simp only [List.getElem?_cons_zero, Option.some.injEq] at h
    subst h
    unfold logsV
    rw [List.flatMap_cons, List.getElem?_append_left (by show _ < 6; omega), Nat.zero_mul, Nat.zero_add]
  | y :: l, k + 1, x, h, i, hi => by
    simp only [List.getElem?_cons_succ] at h
    have := logs_at h i hi
    unfold logsV at *
    rw [List.flatMap_cons, List.getElem?_append_right (by show 6 ≤ _; omega)]
    rw [← this]
    congr 1
    show (k + 1) * 6 + i - 6 = _
    omega
theorem RdP.logAt {P : Nat → Prop} {w : World} {v : Value} {l : List Lo} (h : RdP P w 6 v l.length (logsV l)) {k : Nat} {x : Lo} (hk : l[k]? = some x) :
    ∃ b o c, v = .slice (some ⟨b, o, none⟩) l.length c ∧ P b ∧ w.cell? ⟨b, o + k * 6, none⟩ = some (.string (ofL x.client)) ∧ w.cell? ⟨b, o + k * 6 + 1, none⟩ = some (.int .i64 x.id) ∧ w.cell? ⟨b, o + k * 6 + 2, none⟩ = some (.int .i64 x.m.kind) ∧
      w.cell? ⟨b, o + k * 6 + 3, none⟩ = some (.string (ofL x.m.issue)) ∧ w.cell? ⟨b, o + k * 6 + 4, none⟩ = some (.string (ofL x.m.name)) ∧ w.cell? ⟨b, o + k * 6 + 5, none⟩ = some (.string (ofL x.m.text)) := by
  obtain ⟨b, o, c, hv, hP, hc⟩ := h.cellAt (logs_at hk 0 (by omega))
  refine ⟨b, o, c, hv, hP, ?_, ?_, ?_, ?_, ?_, ?_⟩
  · exact hc _ _ (logs_at hk 0 (by omega))
  · rw [Nat.add_assoc]; exact hc _ _ (logs_at hk 1 (by omega))
  · rw [Nat.add_assoc]; exact hc _ _ (logs_at hk 2 (by omega))
  · rw [Nat.add_assoc]; exact hc _ _ (logs_at hk 3 (by omega))
  · rw [Nat.add_assoc]; exact hc _ _ (logs_at hk 4 (by omega))
  · rw [Nat.add_assoc]; exact hc _ _ (logs_at hk 5 (by omega))
end Go.Proofs.YtigdjnfnkjfkmaaGreatDoor
namespace Go.Proofs.YtigdjnfnkjfkmaaGreatDoor
open Go.RowKit
set_option linter.unusedVariables false
set_option linter.unusedSimpArgs false
set_option maxRecDepth 100000

theorem box6 {w : World} {b : Nat} {v0 v1 v2 v3 v4 v5 : Value} {ty : TypeId} (h : w.heap[b]? = some (.cells #[v0, v1, v2, v3, v4, v5] ty (0, 0))) :
    w.cell? ⟨b, 0, none⟩ = some v0 ∧ w.cell? ⟨b, 1, none⟩ = some v1 ∧ w.cell? ⟨b, 2, none⟩ = some v2 ∧ w.cell? ⟨b, 3, none⟩ = some v3 ∧ w.cell? ⟨b, 4, none⟩ = some v4 ∧ w.cell? ⟨b, 5, none⟩ = some v5 ∧ b < w.heap.size :=
  ⟨by rw [Lib.cell_of_heap h]; rfl, by rw [Lib.cell_of_heap h]; rfl, by rw [Lib.cell_of_heap h]; rfl, by rw [Lib.cell_of_heap h]; rfl, by rw [Lib.cell_of_heap h]; rfl, by rw [Lib.cell_of_heap h]; rfl, (Array.getElem?_eq_some_iff.1 h).1⟩
theorem may_neg (m : Mu) : (mayM m < 0) ↔ mayM m = -1 := by
  unfold mayM
  split
  · decide
  · split
    · decide
    · split
      · decide
      · split <;> decide
set_option maxHeartbeats 8000000 in
theorem pmayLo_any (c : ByteArray) (i k : Int) (s t u : ByteArray) (w : World) (hc : c.size ≤ 1099511627776) (hs : s.size ≤ 1099511627776) (ht : t.size ≤ 1099511627776) (hu : u.size ≤ 1099511627776) :
    Calls Tryz.prog 50 #[.agg #[.string c, .int .i64 i, .int .i64 k, .string s, .string t, .string u]] w fun e w' => e = .returned (.bool (mayLo ⟨c.toList, i, ⟨k, s.toList, t.toList, u.toList⟩⟩)) ∧ Below w.heap.size w w' := by
  have K1 := Lib.hid (fun wx => pname_any c wx hc)
  have K2 := Lib.hid (fun wx => pmay_any k s t u wx hs ht hu)
  have hb1 := (Below.refl w.heap.size w).alloc (Nat.le_refl _) (.cells #[.string c, .int .i64 i, .int .i64 k, .string s, .string t, .string u] 31)
  have hk1 : (w.alloc (.cells #[.string c, .int .i64 i, .int .i64 k, .string s, .string t, .string u] 31)).heap[w.heap.size]? = some (.cells #[.string c, .int .i64 i, .int .i64 k, .string s, .string t, .string u] 31 (0, 0)) := heap_alloc_new w _
  have hml : mayLo ⟨c.toList, i, ⟨k, s.toList, t.toList, u.toList⟩⟩ = (nameL c.toList && decide (1 ≤ i) && decide (mayM ⟨k, s.toList, t.toList, u.toList⟩ = -1)) := rfl
  have hng := may_neg ⟨k, s.toList, t.toList, u.toList⟩
  have Hml := Lib.hid hml
  clear hml
  generalize mayM ⟨k, s.toList, t.toList, u.toList⟩ = mm at *
  have Hng := Lib.hid hng
  clear hng
  go_enter Tryz.func50, Tryz.ntmps50
  go_upto_region 1 with fail
  generalize w.alloc (.cells #[.string c, .int .i64 i, .int .i64 k, .string s, .string t, .string u] 31) = w1 at *
  obtain ⟨d0, d1, d2, d3, d4, d5, hz1⟩ := box6 hk1
  have HB := Lib.hid hb1
  clear hb1 hk1
  have KA := K1.out w1
  cases hn : nameL c.toList with
  | false =>
    rw [hn] at KA
    have KA := Lib.hid KA
    have Hn := Lib.hid hn
    clear hn
    go_wp2_with fail
    (with_reducible refine KA.out.mono ?_); rintro e w2 ⟨rfl, hb2⟩
    have HB2 := Lib.hid (HB.out.next hb2)
    clear hb2 KA
    go_wp2_with fail
    go_ret
    exact ⟨ret_bool (by rw [Hml.out, Hn.out]; rfl), HB2.out⟩
  | true =>
    rw [hn] at KA
    have KA := Lib.hid KA
    have Hn := Lib.hid hn
    clear hn
    go_wp2_with fail
    (with_reducible refine KA.out.mono ?_); rintro e w2 ⟨rfl, hb2⟩
    have HB2 := Lib.hid (HB.out.next hb2)
    have d0 := Below.keeps hb2 d0
    have d1 := Below.keeps hb2 d1
    have d2 := Below.keeps hb2 d2
    have d3 := Below.keeps hb2 d3
    have d4 := Below.keeps hb2 d4
    have d5 := Below.keeps hb2 d5
    clear hb2 KA
    by_cases h1 : 1 ≤ i
    · have h1' : i ≥ 1 := h1
      have KB := Lib.hid (K2.out w2)
      clear h1
      go_wp2_with fail
      (with_reducible refine KB.out.mono ?_); rintro e w3 ⟨rfl, hb3⟩
      have HB3 := Lib.hid (HB2.out.next hb3)
      clear hb3 KB
      have hh := Hng.out
      by_cases hm : mm < 0
      · have he := hh.1 hm
        have Hr := Lib.hid (show mayLo ⟨c.toList, i, ⟨k, s.toList, t.toList, u.toList⟩⟩ = true by rw [Hml.out, Hn.out, he]; simp; omega)
        clear hh he
        go_wp2_with fail
        go_ret
        exact ⟨ret_bool (by simp [Hr.out, hm]), HB3.out⟩
      · have he : ¬ mm = -1 := fun e => hm (hh.2 e)
        have Hr := Lib.hid (show mayLo ⟨c.toList, i, ⟨k, s.toList, t.toList, u.toList⟩⟩ = false by rw [Hml.out, Hn.out, decide_eq_false he]; simp)
        clear hh he
        go_wp2_with fail
        go_ret
        exact ⟨ret_bool (by simp [Hr.out, hm]), HB3.out⟩
    · have h1' : ¬ i ≥ 1 := h1
      have Hr := Lib.hid (show mayLo ⟨c.toList, i, ⟨k, s.toList, t.toList, u.toList⟩⟩ = false by rw [Hml.out, Hn.out, decide_eq_false h1]; simp)
      clear h1
      go_wp2_with fail
      go_ret
      exact ⟨ret_bool (by rw [Hr.out]), HB2.out⟩
end Go.Proofs.YtigdjnfnkjfkmaaGreatDoor
namespace Go.Proofs.YtigdjnfnkjfkmaaGreatDoor
open Go.RowKit
set_option linter.unusedVariables false
set_option linter.unusedSimpArgs false
set_option maxRecDepth 100000

set_option maxHeartbeats 4000000 in
theorem mnumber_any (n : Int) (w : World) :
    Calls Tryz.prog 27 #[.int .i64 n] w fun e w' => e = .returned (.agg #[.int .i64 2, .int .i64 n, .string ⟨#[]⟩, .slice none 0 0, .slice none 0 0]) ∧ Below w.heap.size w w' := by
  have hb1 := (Below.refl w.heap.size w).alloc (Nat.le_refl _) (.cells #[.int .i64 0, .int .i64 0, .string ⟨#[]⟩, .slice none 0 0, .slice none 0 0] 49)
  have hj1 := JC.new w
  go_enter Tryz.func27, Tryz.ntmps27
  go_upto_region 1 with fail
  generalize w.alloc (.cells #[.int .i64 0, .int .i64 0, .string ⟨#[]⟩, .slice none 0 0, .slice none 0 0] 49) = w1 at *
  have k0 := hj1.c0
  have k1 := hj1.c1
  have k2 := hj1.c2
  have k3 := hj1.c3
  have k4 := hj1.c4
  have f0 := hj1.fz 0
  have f1 := hj1.fz 1
  have f2 := hj1.fz 2
  have f3 := hj1.fz 3
  have f4 := hj1.fz 4
  have hjp := hj1.put 2 n ⟨#[]⟩ (.slice none 0 0) (.slice none 0 0)
  have htp : Touch (fun k => k = w.heap.size) w1 (putJ w1 w.heap.size 2 n ⟨#[]⟩ (.slice none 0 0) (.slice none 0 0)) :=
    (((((Touch.refl (fun k => k = w.heap.size) w1).setCell (p := ⟨w.heap.size, 0, none⟩) rfl _).setCell (p := ⟨w.heap.size, 1, none⟩) rfl _).setCell (p := ⟨w.heap.size, 2, none⟩) rfl _).setCell (p := ⟨w.heap.size, 3, none⟩) rfl _).setCell (p := ⟨w.heap.size, 4, none⟩) rfl _
  have HBf := Lib.hid (hb1.trans (htp.below (fun k hk e => by have e' : k = w.heap.size := e; omega) (by have := hb1.size; exact this)))
  have HJp := Lib.hid hjp
  clear hjp htp hb1
  go_wp2_with fail
  have q0 := HJp.out.c0
  have q1 := HJp.out.c1
  have q2 := HJp.out.c2
  have q3 := HJp.out.c3
  have q4 := HJp.out.c4
  refine bodyPost_ret (v := .agg #[.int .i64 2, .int .i64 n, .string ⟨#[]⟩, .slice none 0 0, .slice none 0 0]) (by simp [results, Tryz.results27, go_sem, q0, q1, q2, q3, q4]) rfl ?_
  exact ⟨rfl, HBf.out⟩
set_option maxHeartbeats 4000000 in
theorem mtext_any (s : ByteArray) (w : World) :
    Calls Tryz.prog 25 #[.string s] w fun e w' => e = .returned (.agg #[.int .i64 3, .int .i64 0, .string s, .slice none 0 0, .slice none 0 0]) ∧ Below w.heap.size w w' := by
  have hb1 := (Below.refl w.heap.size w).alloc (Nat.le_refl _) (.cells #[.int .i64 0, .int .i64 0, .string ⟨#[]⟩, .slice none 0 0, .slice none 0 0] 49)
  have hj1 := JC.new w
  go_enter Tryz.func25, Tryz.ntmps25
  go_upto_region 1 with fail
  generalize w.alloc (.cells #[.int .i64 0, .int .i64 0, .string ⟨#[]⟩, .slice none 0 0, .slice none 0 0] 49) = w1 at *
  have k0 := hj1.c0
  have k1 := hj1.c1
  have k2 := hj1.c2
  have k3 := hj1.c3
  have k4 := hj1.c4
  have f0 := hj1.fz 0
  have f1 := hj1.fz 1
  have f2 := hj1.fz 2
  have f3 := hj1.fz 3
  have f4 := hj1.fz 4
  have hjp := hj1.put 3 0 s (.slice none 0 0) (.slice none 0 0)
  have htp : Touch (fun k => k = w.heap.size) w1 (putJ w1 w.heap.size 3 0 s (.slice none 0 0) (.slice none 0 0)) :=
    (((((Touch.refl (fun k => k = w.heap.size) w1).setCell (p := ⟨w.heap.size, 0, none⟩) rfl _).setCell (p := ⟨w.heap.size, 1, none⟩) rfl _).setCell (p := ⟨w.heap.size, 2, none⟩) rfl _).setCell (p := ⟨w.heap.size, 3, none⟩) rfl _).setCell (p := ⟨w.heap.size, 4, none⟩) rfl _
  have HBf := Lib.hid (hb1.trans (htp.below (fun k hk e => by have e' : k = w.heap.size := e; omega) (by have := hb1.size; exact this)))
  have HJp := Lib.hid hjp
  clear hjp htp hb1
  go_wp2_with fail
  have q0 := HJp.out.c0
  have q1 := HJp.out.c1
  have q2 := HJp.out.c2
  have q3 := HJp.out.c3
  have q4 := HJp.out.c4
  refine bodyPost_ret (v := .agg #[.int .i64 3, .int .i64 0, .string s, .slice none 0 0, .slice none 0 0]) (by simp [results, Tryz.results25, go_sem, q0, q1, q2, q3, q4]) rfl ?_
  exact ⟨rfl, HBf.out⟩
end Go.Proofs.YtigdjnfnkjfkmaaGreatDoor
namespace Go.Proofs.YtigdjnfnkjfkmaaGreatDoor
open Go.RowKit
set_option linter.unusedVariables false
set_option linter.unusedSimpArgs false
set_option maxRecDepth 100000

/-- Members' cells: a name and a value each. -/
def MemV (P : Nat → Prop) (w : World) : List (B × J) → List Value → Prop
  | [], cs => cs = []
  | p :: l, cs => ∃ a b, cs = .string (ofL p.1) :: (a ++ b) ∧ RJ P w p.2 a ∧ MemV P w l b
theorem MemV.len {P : Nat → Prop} {w : World} : ∀ {l : List (B × J)} {cs : List Value}, MemV P w l cs → cs.length = l.length * 6
  | [], cs, h => by rw [MemV] at h; rw [h]; rfl
  | p :: l, cs, h => by
    rw [MemV] at h
    obtain ⟨a, b, rfl, h1, h2⟩ := h
    rw [List.length_cons, List.length_append, h1.len, MemV.len h2, List.length_cons]; omega
theorem MemV.at {P : Nat → Prop} {w : World} : ∀ {l : List (B × J)} {cs : List Value} {k : Nat} {p : B × J}, MemV P w l cs → l[k]? = some p →
    cs[k * 6]? = some (.string (ofL p.1)) ∧ RJ P w p.2 ((cs.drop (k * 6 + 1)).take 5)
  | q :: l, cs, 0, p, h, hk => by
    simp only [List.getElem?_cons_zero, Option.some.injEq] at hk
    subst hk
    rw [MemV] at h
    obtain ⟨a, b, rfl, h1, h2⟩ := h
    refine ⟨by simp, ?_⟩
    rw [Nat.zero_mul, Nat.zero_add, List.drop_succ_cons, List.drop_zero, List.take_append_of_le_length (by rw [h1.len]; exact Nat.le_refl _), List.take_of_length_le (by rw [h1.len]; exact Nat.le_refl _)]
    exact h1
  | q :: l, cs, k + 1, p, h, hk => by
    simp only [List.getElem?_cons_succ] at hk
    rw [MemV] at h
    obtain ⟨a, b, rfl, h1, h2⟩ := h
    obtain ⟨g1, g2⟩ := MemV.at h2 hk
    have e1 : (k + 1) * 6 = (k * 6 + 5) + 1 := by omega
    have e2 : k * 6 + 5 = a.length + k * 6 := by rw [h1.len]; omega
    refine ⟨?_, ?_⟩
    · rw [e1, List.getElem?_cons_succ, e2, List.getElem?_append_right (by omega), Nat.add_sub_cancel_left]
      exact g1
    · have e3 : (k + 1) * 6 + 1 = (a.length + (k * 6 + 1)) + 1 := by rw [h1.len]; omega
      rw [e3, List.drop_succ_cons, List.drop_append]
      have e4 : List.drop (a.length + (k * 6 + 1)) a = [] := List.drop_eq_nil_of_le (by omega)
      rw [e4, List.nil_append, Nat.add_sub_cancel_left]
      exact g2
theorem RdP.memAt {P Q' : Nat → Prop} {w : World} {v : Value} {l : List (B × J)} {cs : List Value} (h : RdP P w 6 v l.length cs) (hM : MemV Q' w l cs) {k : Nat} {p : B × J} (hk : l[k]? = some p) :
    ∃ b o c N Q, v = .slice (some ⟨b, o, none⟩) l.length c ∧ P b ∧ RJ Q' w p.2 [.int .i64 p.2.kind, .int .i64 p.2.int, .string (ofL p.2.text), N, Q] ∧
      w.cell? ⟨b, o + k * 6, none⟩ = some (.string (ofL p.1)) ∧ w.cell? ⟨b, o + k * 6 + 1, none⟩ = some (.int .i64 p.2.kind) ∧ w.cell? ⟨b, o + k * 6 + 2, none⟩ = some (.int .i64 p.2.int) ∧
      w.cell? ⟨b, o + k * 6 + 3, none⟩ = some (.string (ofL p.2.text)) ∧ w.cell? ⟨b, o + k * 6 + 4, none⟩ = some N ∧ w.cell? ⟨b, o + k * 6 + 5, none⟩ = some Q := by
  obtain ⟨g1, g2⟩ := hM.at hk
  obtain ⟨b, o, c, hv, hP, hc⟩ := h.cellAt g1
  cases hp : p.2 with
  | mk kk n t ns is =>
    rw [hp] at g2
    have g3 := g2
    rw [RJ] at g3
    obtain ⟨N, Q, e, -, -⟩ := g3
    rw [e] at g2
    have hat : ∀ j u, j < 5 → ([Value.int .i64 kk, .int .i64 n, .string (ofL t), N, Q])[j]? = some u → w.cell? ⟨b, o + (k * 6 + 1 + j), none⟩ = some u := by
      intro j u hj hu
      rw [← e, List.getElem?_take, if_pos hj, List.getElem?_drop] at hu
      exact hc _ _ hu
    refine ⟨b, o, c, N, Q, hv, hP, g2, hc _ _ g1, ?_, ?_, ?_, ?_, ?_⟩
    · have := hat 0 _ (by omega) rfl; simpa [Nat.add_assoc, J.kind, J.int, J.text] using this
    · have := hat 1 _ (by omega) rfl; simpa [Nat.add_assoc, J.kind, J.int, J.text] using this
    · have := hat 2 _ (by omega) rfl; simpa [Nat.add_assoc, J.kind, J.int, J.text] using this
    · have := hat 3 _ (by omega) rfl; simpa [Nat.add_assoc, J.kind, J.int, J.text] using this
    · have := hat 4 _ (by omega) rfl; simpa [Nat.add_assoc, J.kind, J.int, J.text] using this
end Go.Proofs.YtigdjnfnkjfkmaaGreatDoor
namespace Go.Proofs.YtigdjnfnkjfkmaaGreatDoor
open Go.RowKit
set_option linter.unusedVariables false
set_option linter.unusedSimpArgs false
set_option maxRecDepth 100000

theorem MemV.keep {P : Nat → Prop} {w w' : World} (hk : ∀ b o u, P b → w.cell? ⟨b, o, none⟩ = some u → w'.cell? ⟨b, o, none⟩ = some u) : ∀ {l : List (B × J)} {cs : List Value}, MemV P w l cs → MemV P w' l cs
  | [], cs, h => h
  | p :: l, cs, h => by
    rw [MemV] at h ⊢
    obtain ⟨a, b, e, h1, h2⟩ := h
    exact ⟨a, b, e, RJ.keep hk _ _ h1, MemV.keep hk h2⟩
theorem MemV.mono {P Q : Nat → Prop} {w : World} (hk : ∀ b, P b → b < w.heap.size → Q b) : ∀ {l : List (B × J)} {cs : List Value}, MemV P w l cs → MemV Q w l cs
  | [], cs, h => h
  | p :: l, cs, h => by
    rw [MemV] at h ⊢
    obtain ⟨a, b, e, h1, h2⟩ := h
    exact ⟨a, b, e, RJ.mono hk _ _ h1, MemV.mono hk h2⟩
theorem MemV.cons {P : Nat → Prop} {w : World} {nm : B} {x : J} {N I : Value} {l : List (B × J)} {cs : List Value} (h : RJ P w x [.int .i64 x.kind, .int .i64 x.int, .string (ofL x.text), N, I]) (h2 : MemV P w l cs) : MemV P w ((nm, x) :: l) (.string (ofL nm) :: .int .i64 x.kind :: .int .i64 x.int :: .string (ofL x.text) :: N :: I :: cs) := by
  rw [MemV]; exact ⟨_, _, rfl, h, h2⟩
/-- What msg.object answers: the object of the members. -/
def ObjP (P : Nat → Prop) (x : J) (w : World) (e : Ending) (w' : World) : Prop := ∃ A1 n1 c1 A2 n2 c2, e = .returned (.agg #[.int .i64 5, .int .i64 0, .string ⟨#[]⟩, .slice A1 n1 c1, .slice A2 n2 c2]) ∧
  RJ (fun b => P b ∨ w.heap.size ≤ b) w' x [.int .i64 5, .int .i64 0, .string ⟨#[]⟩, .slice A1 n1 c1, .slice A2 n2 c2] ∧ Below w.heap.size w w'
/-- A value in new memory alone. -/
def NewP (x : J) (w : World) (e : Ending) (w' : World) : Prop := ∃ A1 n1 c1 A2 n2 c2, e = .returned (.agg #[.int .i64 5, .int .i64 0, .string ⟨#[]⟩, .slice A1 n1 c1, .slice A2 n2 c2]) ∧
  RJ (fun b => w.heap.size ≤ b) w' x [.int .i64 5, .int .i64 0, .string ⟨#[]⟩, .slice A1 n1 c1, .slice A2 n2 c2] ∧ Below w.heap.size w w'
set_option maxHeartbeats 16000000 in
theorem mobject_any (P : Nat → Prop) (l : List (B × J)) (v : Value) (cs : List Value) (w : World) (hR : RdP (fun b => b < w.heap.size) w 6 v l.length cs) (hM : MemV P w l cs) (hP : ∀ b, P b → b < w.heap.size) (hl : l.length ≤ 1000) :
    Calls Tryz.prog 29 #[v] w (ObjP P (objJ l) w) := by
  obtain ⟨A, c, rfl⟩ := hR.shape
  obtain ⟨n, hn⟩ : ∃ n, n = l.length := ⟨_, rfl⟩
  rw [← hn] at hR hl ⊢
  have HNN := Lib.hid hn
  have HR := Lib.hid hR
  have HM := Lib.hid hM
  have HP := Lib.hid hP
  clear hn hR hM hP
  have hall : ∃ W, W = ((w.alloc (.cells #[.int .i64 0, .int .i64 0, .string ⟨#[]⟩, .slice none 0 0, .slice none 0 0] 49)).alloc (.cells #[.int .i64 5, .int .i64 0, .string ⟨#[]⟩, .slice none 0 0, .slice none 0 0] 49)) ∧
      JC W w.heap.size 0 0 ⟨#[]⟩ (.slice none 0 0) (.slice none 0 0) ∧ JC W (w.heap.size + 1) 5 0 ⟨#[]⟩ (.slice none 0 0) (.slice none 0 0) ∧ Below w.heap.size w W := by
    refine ⟨_, rfl, (JC.new w).below ((Below.refl _ _).alloc (Nat.le_refl _) _), ?_, ((Below.refl w.heap.size w).alloc (Nat.le_refl _) _).alloc (by simp) _⟩
    have := heap_alloc_new (w.alloc (.cells #[.int .i64 0, .int .i64 0, .string ⟨#[]⟩, .slice none 0 0, .slice none 0 0] 49)) (.cells #[.int .i64 5, .int .i64 0, .string ⟨#[]⟩, .slice none 0 0, .slice none 0 0] 49)
    rw [World.size_alloc] at this; exact this
  obtain ⟨w1, hw1, hj1, hj2, hb1⟩ := hall
  go_enter Tryz.func29, Tryz.ntmps29
  go_upto_region 2 with fail
  rw [← hw1]
  clear hw1
  generalize hva : w.heap.size = va at *
  generalize hvb : va + 1 = vb at *
  have HJ1 := Lib.hid hj1
  have HJ2 := Lib.hid hj2
  have HB1 := Lib.hid hb1
  have hzv : vb < w1.heap.size := hj2.lt
  have hne : ¬ va = vb := by omega
  clear hj1 hj2 hb1
  go_upto_region 3 with fail
  go_loopw [9] (fun i wr => ∃ (m : Nat) (N I : Value) (ys : List Value), m ≤ n ∧ i = .int .i64 m ∧ JC wr vb 5 0 ⟨#[]⟩ N I ∧ wr.ownsRow w1.heap.size 9 1 N m (strs ((l.map (·.1)).take m)) ∧ wr.ownsRow w1.heap.size 49 5 I m ys ∧ Hid (∀ k, N.ownBlock = some k → ¬ I.ownBlock = some k) ∧ Hid (RJs P wr ((l.map (·.2)).take m) ys) ∧ Hid (Touch (fun k => k = vb) w1 wr)) (fun i _ => n - (intOf i).toNat)
  case atStart => exact ⟨0, .slice none 0 0, .slice none 0 0, [], Nat.zero_le _, rfl, HJ2.out, World.ownsRow_nil _ _ _ _, World.ownsRow_nil _ _ _ _, (fun k h => by cases h), by show RJs _ _ _ _; rw [List.take_zero, RJs], Touch.refl _ _⟩
  case round =>
    obtain ⟨m, N, I, ys, hm, rfl, hJ, hN, hO, HNI, HRJ, HT⟩ := hrel
    have hzr : w1.heap.size ≤ wr.heap.size := HT.out.size
    have hBr : Below va w wr := HB1.out.trans (HT.out.below (fun k hk e => by have e' : k = vb := e; omega) (by omega))
    obtain ⟨A1, c1, rfl⟩ := (rd_of_own hN).shape
    obtain ⟨A2, c2, rfl⟩ := (rd_of_own hO).shape
    have HJ := Lib.hid hJ
    have HN := Lib.hid hN
    have HO := Lib.hid hO
    clear hJ hN hO
    by_cases hlt : m < n
    · have hlt' : m < l.length := by rw [← HNN.out]; exact hlt
      obtain ⟨p, hp⟩ : ∃ p, l[m]? = some p := ⟨_, List.getElem?_eq_getElem hlt'⟩
      have hkp : ∀ b o u, b < va → w.cell? ⟨b, o, none⟩ = some u → wr.cell? ⟨b, o, none⟩ = some u := by
        rw [← hva]; exact below_keeps (by rw [hva]; exact hBr)
      obtain ⟨ba, oa, ca, Nx, Qx, eI, _, hRx, j0, j1, j2, j3, j4, j5⟩ := (show RdP (fun b => b < va) wr 6 (.slice A n c) l.length cs by have := HR.out.keep hkp; rw [HNN.out] at this ⊢; exact this).memAt (MemV.keep (fun b o u hb hu => hkp b o u (HP.out b hb) hu) HM.out) hp
      simp only [Value.slice.injEq] at eI
      obtain ⟨rfl, hjunk, rfl⟩ := eI
      obtain ⟨⟨A5, m5, c5, rfl⟩, A6, m6, c6, rfl⟩ := rj_slices hRx
      have Ht1 := Lib.hid (show (l.map (·.1)).take (m + 1) = (l.map (·.1)).take m ++ [p.1] by rw [List.take_add_one, List.getElem?_map, hp]; rfl)
      have Ht2 := Lib.hid (show (l.map (·.2)).take (m + 1) = (l.map (·.2)).take m ++ [p.2] by rw [List.take_add_one, List.getElem?_map, hp]; rfl)
      have HRx := Lib.hid hRx
      have HBr := Lib.hid hBr
      obtain ⟨pn, hpn⟩ : ∃ pn : ByteArray, pn = ofL p.1 := ⟨_, rfl⟩
      have Hpn := Lib.hid hpn
      rw [← hpn] at j0
      have hb6 := (Below.refl wr.heap.size wr).alloc (Nat.le_refl _) (.cells #[.string pn, .int .i64 p.2.kind, .int .i64 p.2.int, .string (ofL p.2.text), .slice A5 m5 c5, .slice A6 m6 c6] 56)
      have hk6 : (wr.alloc (.cells #[.string pn, .int .i64 p.2.kind, .int .i64 p.2.int, .string (ofL p.2.text), .slice A5 m5 c5, .slice A6 m6 c6] 56)).heap[wr.heap.size]? = some (.cells #[.string pn, .int .i64 p.2.kind, .int .i64 p.2.int, .string (ofL p.2.text), .slice A5 m5 c5, .slice A6 m6 c6] 56 (0, 0)) := heap_alloc_new wr _
      clear hjunk hp hpn hRx hBr hlt' hkp
      go_upto_region 5 with fail
      generalize wr.alloc (.cells #[.string pn, .int .i64 p.2.kind, .int .i64 p.2.int, .string (ofL p.2.text), .slice A5 m5 c5, .slice A6 m6 c6] 56) = w6 at *
      obtain ⟨f0, f1, f2, f3, f4, f5, hz6⟩ := box6 hk6
      have hj6 := HJ.out.below hb6
      have HN6 := Lib.hid (own_below HN.out hb6)
      have HO6 := Lib.hid (own_below HO.out hb6)
      have HJ6 := Lib.hid hj6
      have HB6 := Lib.hid hb6
      have HK6 := Lib.hid hk6
      have k3 := hj6.c3
      have e3 := hj6.fz 3
      have k3a := keeps_alloc k3 (.cells #[.string pn] 9)
      have hzw : w1.heap.size ≤ w6.heap.size := by omega
      clear hj6 hb6 hk6 j0 j1 j2 j3 j4 j5
      go_upto_region 6 with (at_builtin; refine wpList_pushL w6 (by rfl) _ _ _ (by rfl) w1.heap.size rowS (.slice A1 m c1) m _ (by rfl) HN6.out [.string pn] _ (by rfl) rfl rfl (oneCell_str _) (by omega) hzw ?_; intro v12 w12 hO12 hT12 hL12; obtain ⟨A12, c12, rfl⟩ := (rd_of_own hO12).shape; have hj12 := HJ6.out.touch hT12 (row_nb HN6.out hzv); have k12 := hj12.c3; have f12 := hj12.fz 3)
      have hNl := fun k hk => (HN.out.lt k hk)
      have hIl := fun k hk => (HO.out.lt k hk)
      have hT13 : Touch (fun k => (Value.slice A1 m c1).ownBlock = some k ∨ k = vb) w6 (w12.setCell ⟨vb, 3, none⟩ (.slice A12 (m + 1) c12)) := (hT12.mono fun k _ h => .inl h).setCell (p := ⟨vb, 3, none⟩) (.inr rfl) _
      have HNI13 : Hid (∀ k, (Value.slice A12 (m + 1) c12).ownBlock = some k → ¬ (Value.slice A2 m c2).ownBlock = some k) := fun k hk hk2 => by
        rcases hL12 k hk with h | h
        · exact HNI.out k h hk2
        · have := (hIl k hk2).2; omega
      have HN13 := Lib.hid (own_touch hO12 ((Touch.refl (fun k => k = vb) w12).setCell (p := ⟨vb, 3, none⟩) rfl (.slice A12 (m + 1) c12)) (row_ne hO12 hzv))
      have HO13 := Lib.hid (own_touch HO6.out hT13 (fun k hk => by
        rintro (h | h)
        · exact HNI.out k h hk
        · exact row_ne HO6.out hzv k hk h))
      have hj13 := hj12.set3 (.slice A12 (m + 1) c12)
      have hvp : ¬ ((Value.slice A1 m c1).ownBlock = some wr.heap.size ∨ wr.heap.size = vb) := by
        rintro (h | h)
        · have := (hNl _ h).2; omega
        · omega
      have hk13 := (hT13.block _ hz6 hvp).trans HK6.out
      have HT13 := Lib.hid hT13
      have hz13 : w6.heap.size ≤ (w12.setCell ⟨vb, 3, none⟩ (.slice A12 (m + 1) c12)).heap.size := hT13.size
      clear hT13 k12 f12 hj12 hO12 hT12 hL12 f0 f1 f2 f3 f4 f5 k3 e3 k3a
      generalize w12.setCell ⟨vb, 3, none⟩ (.slice A12 (m + 1) c12) = wb at *
      obtain ⟨f0, f1, f2, f3, f4, f5, hz14⟩ := box6 hk13
      have k4 := hj13.c4
      have e4 := hj13.fz 4
      have k4a := keeps_alloc k4 (.cells #[.int .i64 p.2.kind, .int .i64 p.2.int, .string (ofL p.2.text), .slice A5 m5 c5, .slice A6 m6 c6] 49)
      have HJ13 := Lib.hid hj13
      have hzb : w1.heap.size ≤ wb.heap.size := by omega
      clear hj13 hk13
      have hmx : m ≤ 1000 := by omega
      go_upto_region 7 with (at_builtin; refine wpList_pushL wb (by rfl) _ _ _ (by rfl) w1.heap.size rowJ (.slice A2 m c2) m _ (by rfl) HO13.out [.int .i64 p.2.kind, .int .i64 p.2.int, .string (ofL p.2.text), .slice A5 m5 c5, .slice A6 m6 c6] _ (by rfl) rfl rfl (one_json HRx.out) (by omega) hzb ?_; intro v14 w14 hO14 hT14 hL14; obtain ⟨A14, c14, rfl⟩ := (rd_of_own hO14).shape; have hj14 := HJ13.out.touch hT14 (row_nb HO13.out hzv); have k14 := hj14.c4; have f14 := hj14.fz 4)
      have hT15 : Touch (fun k => (Value.slice A2 m c2).ownBlock = some k ∨ k = vb) wb (w14.setCell ⟨vb, 4, none⟩ (.slice A14 (m + 1) c14)) := (hT14.mono fun k _ h => .inl h).setCell (p := ⟨vb, 4, none⟩) (.inr rfl) _
      have HNI15 : Hid (∀ k, (Value.slice A12 (m + 1) c12).ownBlock = some k → ¬ (Value.slice A14 (m + 1) c14).ownBlock = some k) := fun k hk hk2 => by
        rcases hL14 k hk2 with h | h
        · exact HNI13.out k hk h
        · have := (HN13.out.lt k hk).2; omega
      have HO15 := Lib.hid (own_touch hO14 ((Touch.refl (fun k => k = vb) w14).setCell (p := ⟨vb, 4, none⟩) rfl (.slice A14 (m + 1) c14)) (row_ne hO14 hzv))
      have HN15 := Lib.hid (own_touch HN13.out hT15 (fun k hk => by
        rintro (h | h)
        · exact HNI13.out k hk h
        · exact row_ne HN13.out hzv k hk h))
      have HJ15 := Lib.hid (hj14.set4 (.slice A14 (m + 1) c14))
      have HT15 : Hid (Touch (fun k => k = vb) w1 (w14.setCell ⟨vb, 4, none⟩ (.slice A14 (m + 1) c14))) :=
        HT.out.under (((Touch.of_below HB6.out).trans (HT13.out.mono (fun k _ h => by exact h.imp .inl id : ∀ k, k < w6.heap.size → ((Value.slice A1 m c1).ownBlock = some k ∨ k = vb) → (((Value.slice A1 m c1).ownBlock = some k ∨ (Value.slice A2 m c2).ownBlock = some k) ∨ k = vb)))).trans (hT15.mono fun k _ h => h.imp .inr id)) (fun k hk h => by
          rcases h with (h | h) | h
          · have := (hNl k h).1; omega
          · have := (hIl k h).1; omega
          · exact h)
      have hkz : ∀ b o u, b < va → wr.cell? ⟨b, o, none⟩ = some u → (w14.setCell ⟨vb, 4, none⟩ (.slice A14 (m + 1) c14)).cell? ⟨b, o, none⟩ = some u := fun b o u hb hu =>
        touch_keeps (P := fun b => b < va) hT15 (fun b hb e => by
          have hb' : b < va := hb
          rcases e with e | e
          · have := (hIl b e).1; omega
          · omega) b o u hb (touch_keeps (P := fun b => b < va) HT13.out (fun b hb e => by
          have hb' : b < va := hb
          rcases e with e | e
          · have := (hNl b e).1; omega
          · omega) b o u hb (below_keeps (P := fun b => b < va) HB6.out b o u hb hu))
      have HRJ15 := Lib.hid (RJs.snoc (RJ.keep (fun b o u hb hu => hkz b o u (HP.out b hb) hu) _ _ HRx.out) (RJs.keep (fun b o u hb hu => hkz b o u (HP.out b hb) hu) HRJ.out))
      clear hT15 hkz hj14 k14 f14 hO14 hT14 hL14 f0 f1 f2 f3 f4 f5 k4 e4 k4a
      generalize w14.setCell ⟨vb, 4, none⟩ (.slice A14 (m + 1) c14) = wz at *
      go_wp2_with fail
      exact ⟨⟨m + 1, .slice A12 (m + 1) c12, .slice A14 (m + 1) c14, _, by omega, by go_num, HJ15.out, by rw [Ht1.out, strs_snoc, ← Hpn.out]; exact HN15.out, HO15.out, HNI15, by rw [Ht2.out]; exact HRJ15, HT15⟩, by simp [intOf]; omega⟩
    · have hmn : m = n := by omega
      subst hmn
      have ht1 : (l.map (·.1)).take m = l.map (·.1) := List.take_of_length_le (by rw [HNN.out, List.length_map]; exact Nat.le_refl _)
      have ht2 : (l.map (·.2)).take m = l.map (·.2) := List.take_of_length_le (by rw [HNN.out, List.length_map]; exact Nat.le_refl _)
      rw [ht1] at HN
      rw [ht2] at HRJ
      have hja := HJ1.out.touch HT.out hne
      have k0 := HJ.out.c0
      have k1 := HJ.out.c1
      have k2 := HJ.out.c2
      have k3 := HJ.out.c3
      have k4 := HJ.out.c4
      have p0 := hja.c0
      have p1 := hja.c1
      have p2 := hja.c2
      have p3 := hja.c3
      have p4 := hja.c4
      have g0 := hja.fz 0
      have g1 := hja.fz 1
      have g2 := hja.fz 2
      have g3 := hja.fz 3
      have g4 := hja.fz 4
      have hjp := hja.put 5 0 ⟨#[]⟩ (.slice A1 m c1) (.slice A2 m c2)
      have htp : Touch (fun k => k = va) wr (putJ wr va 5 0 ⟨#[]⟩ (.slice A1 m c1) (.slice A2 m c2)) :=
        (((((Touch.refl (fun k => k = va) wr).setCell (p := ⟨va, 0, none⟩) rfl _).setCell (p := ⟨va, 1, none⟩) rfl _).setCell (p := ⟨va, 2, none⟩) rfl _).setCell (p := ⟨va, 3, none⟩) rfl _).setCell (p := ⟨va, 4, none⟩) rfl _
      have HJp := Lib.hid hjp
      have hfin : ObjP P (objJ l) w (.returned (.agg #[.int .i64 5, .int .i64 0, .string ⟨#[]⟩, .slice A1 m c1, .slice A2 m c2])) (putJ wr va 5 0 ⟨#[]⟩ (.slice A1 m c1) (.slice A2 m c2)) := by
        refine ⟨A1, m, c1, A2, m, c2, rfl, ?_, ?_⟩
        · rw [hva]
          have hs := htp.size
          refine rj_mk (nn := m) (nm := m) (xs := ys) (by rw [HNN.out, List.length_map]) (by rw [HNN.out, List.length_map]) ?_ ?_ ?_
          · exact own_rdp (own_touch HN.out htp (row_ne HN.out (by omega))) (fun b h => .inr (by omega))
          · exact own_rdp (own_touch HO.out htp (row_ne HO.out (by omega))) (fun b h => .inr (by omega))
          · exact RJs.mono (fun b hb _ => .inl hb) (RJs.keep (touch_keeps htp (fun b hb e => by have h' := HP.out b hb; have e' : b = va := e; omega)) HRJ.out)
        · rw [hva]
          exact hBr.trans (htp.below (fun k hk e => by have e' : k = va := e; omega) (by have := hBr.size; omega))
      have HF := Lib.hid hfin
      clear hjp htp hja hBr hfin
      go_wp2_with fail
      have q0 := HJp.out.c0
      have q1 := HJp.out.c1
      have q2 := HJp.out.c2
      have q3 := HJp.out.c3
      have q4 := HJp.out.c4
      refine bodyPost_ret (v := .agg #[.int .i64 5, .int .i64 0, .string ⟨#[]⟩, .slice A1 m c1, .slice A2 m c2]) (by simp [results, Tryz.results29, go_sem, q0, q1, q2, q3, q4]) rfl ?_
      exact HF.out
end Go.Proofs.YtigdjnfnkjfkmaaGreatDoor
