/- Which mutations may be (tracker.May). Conditions: the texts lie in memory. Which mutations may be, as the reference tells it (blotterref11.May). Conditions: the texts lie in memory. -/
import Derived.Test.YtigdjnfnkjfkmaaGreatDoorMsgO
namespace Go.Proofs.YtigdjnfnkjfkmaaGreatDoor
open Go.RowKit
set_option linter.unusedVariables false
set_option linter.unusedSimpArgs false
set_option maxRecDepth 100000

theorem box4 {w : World} {b : Nat} {v0 v1 v2 v3 : Value} {ty : TypeId} (h : w.heap[b]? = some (.cells #[v0, v1, v2, v3] ty (0, 0))) :
    w.cell? ⟨b, 0, none⟩ = some v0 ∧ w.cell? ⟨b, 1, none⟩ = some v1 ∧ w.cell? ⟨b, 2, none⟩ = some v2 ∧ w.cell? ⟨b, 3, none⟩ = some v3 ∧ b < w.heap.size :=
  ⟨by rw [Lib.cell_of_heap h]; rfl, by rw [Lib.cell_of_heap h]; rfl, by rw [Lib.cell_of_heap h]; rfl, by rw [Lib.cell_of_heap h]; rfl, (Array.getElem?_eq_some_iff.1 h).1⟩
set_option maxHeartbeats 16000000 in
theorem pmay_any (k : Int) (s t u : ByteArray) (w : World) (hs : s.size ≤ 1099511627776) (ht : t.size ≤ 1099511627776) (hu : u.size ≤ 1099511627776) :
    Calls Tryz.prog 73 #[.agg #[.int .i64 k, .string s, .string t, .string u]] w fun e w' => e = .returned (.int .i64 (mayM ⟨k, s.toList, t.toList, u.toList⟩)) ∧ Below w.heap.size w w' := by
  have KS := Lib.hid (fun wx => pname_any s wx hs)
  have KN := Lib.hid (fun wx => pname_any t wx ht)
  have KT := Lib.hid (fun wx => ptext_any u wx hu)
  have hb1 := (Below.refl w.heap.size w).alloc (Nat.le_refl _) (.cells #[.int .i64 k, .string s, .string t, .string u] 29)
  have hk1 : (w.alloc (.cells #[.int .i64 k, .string s, .string t, .string u] 29)).heap[w.heap.size]? = some (.cells #[.int .i64 k, .string s, .string t, .string u] 29 (0, 0)) := heap_alloc_new w _
  go_enter Tryz.func73, Tryz.ntmps73
  go_upto_region 1 with fail
  generalize w.alloc (.cells #[.int .i64 k, .string s, .string t, .string u] 29) = w1 at *
  obtain ⟨d0, d1, d2, d3, hz1⟩ := box4 hk1
  have HB := Lib.hid hb1
  clear hb1 hk1
  by_cases hk : k < 1 ∨ 10 < k
  · have hm : mayM ⟨k, s.toList, t.toList, u.toList⟩ = 0 := by unfold mayM; rw [if_pos hk]
    have Hm := Lib.hid hm
    clear hm
    rcases hk with hk | hk
    · go_wp2_with fail
      go_ret
      exact ⟨by rw [Hm.out]; rfl, HB.out⟩
    · have hk' : ¬ k < 1 := by omega
      have hk2 : k > 10 := hk
      go_wp2_with fail
      go_ret
      exact ⟨by rw [Hm.out]; rfl, HB.out⟩
  · have hk1 : ¬ k < 1 := by omega
    have hk2 : ¬ k > 10 := by omega
    cases hns : nameL s.toList with
    | false =>
      have hm : mayM ⟨k, s.toList, t.toList, u.toList⟩ = 1 := by unfold mayM; rw [if_neg hk, if_pos hns]
      have Hm := Lib.hid hm
      clear hm
      have K := KS.out w1
      rw [hns] at K
      have K := Lib.hid K
      clear hk hns
      go_wp2_with fail
      (with_reducible refine K.out.mono ?_); rintro e w2 ⟨rfl, hbx⟩
      have HB2 := Lib.hid (HB.out.next hbx)
      clear hbx K
      go_wp2_with fail
      go_ret
      exact ⟨by rw [Hm.out]; rfl, HB2.out⟩
    | true =>
      have K := KS.out w1
      rw [hns] at K
      have K := Lib.hid K
      have HNs := Lib.hid hns
      have HKk := Lib.hid hk
      have hkk : k = 1 ∨ k = 2 ∨ k = 3 ∨ k = 4 ∨ k = 5 ∨ k = 6 ∨ k = 7 ∨ k = 8 ∨ k = 9 ∨ k = 10 := by omega
      clear hk hns
      go_wp2_with fail
      (with_reducible refine K.out.mono ?_); rintro e w2 ⟨rfl, hbx⟩
      have HB2 := Lib.hid (HB.out.next hbx)
      ((have d0 := Below.keeps hbx d0); (have d1 := Below.keeps hbx d1); (have d2 := Below.keeps hbx d2); (have d3 := Below.keeps hbx d3))
      clear hbx K
      go_upto_region 5 with fail
      rcases hkk with rfl | rfl | rfl | rfl | rfl | rfl | rfl | rfl | rfl | rfl
      · have KY := KN.out w2
        cases hnt : nameL t.toList with
        | true =>
          have ht1 := Lib.hid (name_len hnt).2
          rw [hnt] at KY
          have KY := Lib.hid KY
          have Hnt := Lib.hid hnt
          clear hnt
          go_wp2_with fail
          (with_reducible refine KY.out.mono ?_); rintro e w3 ⟨rfl, hbx⟩
          have HB3 := Lib.hid (HB2.out.next hbx)
          ((have d0 := Below.keeps hbx d0); (have d1 := Below.keeps hbx d1); (have d2 := Below.keeps hbx d2); (have d3 := Below.keeps hbx d3))
          clear hbx KY
          go_wp2_with fail
          go_ret
          exact ⟨by rw [show mayM _ = (2 : Int) by simp [mayM, needN, needT, HNs.out, ht1.out, Hnt.out]]; rfl, HB3.out⟩
        | false =>
          rw [hnt] at KY
          have KY := Lib.hid KY
          have Hnt := Lib.hid hnt
          clear hnt
          cases ht0 : t.toList.isEmpty with
          | true =>
            have ht1 := Lib.hid (show t.toList = [] by simpa using ht0)
            go_wp2_with fail
            (with_reducible refine KY.out.mono ?_); rintro e w3 ⟨rfl, hbx⟩
            have HB3 := Lib.hid (HB2.out.next hbx)
            ((have d0 := Below.keeps hbx d0); (have d1 := Below.keeps hbx d1); (have d2 := Below.keeps hbx d2); (have d3 := Below.keeps hbx d3))
            clear hbx KY
            have KX := KT.out w3
            cases hw : wordsL u.toList with
            | true =>
              rw [hw] at KX
              have KX := Lib.hid KX
              have Hw := Lib.hid hw
              clear hw
              go_wp2_with fail
              (with_reducible refine KX.out.mono ?_); rintro e w9 ⟨rfl, hbx⟩
              have HB9 := Lib.hid (HB3.out.next hbx)
              clear hbx KX
              go_wp2_with fail
              go_ret
              exact ⟨by rw [show mayM _ = (-1 : Int) by simp [mayM, needN, needT, HNs.out, ht1.out, Hw.out]]; rfl, HB9.out⟩
            | false =>
              rw [hw] at KX
              have KX := Lib.hid KX
              have Hw := Lib.hid hw
              clear hw
              go_wp2_with fail
              (with_reducible refine KX.out.mono ?_); rintro e w9 ⟨rfl, hbx⟩
              have HB9 := Lib.hid (HB3.out.next hbx)
              clear hbx KX
              go_wp2_with fail
              go_ret
              exact ⟨by rw [show mayM _ = (3 : Int) by simp [mayM, needN, needT, HNs.out, ht1.out, Hw.out]]; rfl, HB9.out⟩
          | false =>
            have ht1 := Lib.hid (show ¬ t.toList = [] by intro h; rw [h] at ht0; cases ht0)
            go_wp2_with fail
            (with_reducible refine KY.out.mono ?_); rintro e w3 ⟨rfl, hbx⟩
            have HB3 := Lib.hid (HB2.out.next hbx)
            ((have d0 := Below.keeps hbx d0); (have d1 := Below.keeps hbx d1); (have d2 := Below.keeps hbx d2); (have d3 := Below.keeps hbx d3))
            clear hbx KY
            go_wp2_with fail
            go_ret
            exact ⟨by rw [show mayM _ = (2 : Int) by simp [mayM, needN, needT, HNs.out, ht1.out, Hnt.out]]; rfl, HB3.out⟩
      · have KY := KN.out w2
        cases hnt : nameL t.toList with
        | true =>
          have ht1 := Lib.hid (name_len hnt).2
          rw [hnt] at KY
          have KY := Lib.hid KY
          have Hnt := Lib.hid hnt
          clear hnt
          go_wp2_with fail
          (with_reducible refine KY.out.mono ?_); rintro e w3 ⟨rfl, hbx⟩
          have HB3 := Lib.hid (HB2.out.next hbx)
          ((have d0 := Below.keeps hbx d0); (have d1 := Below.keeps hbx d1); (have d2 := Below.keeps hbx d2); (have d3 := Below.keeps hbx d3))
          clear hbx KY
          go_wp2_with fail
          go_ret
          exact ⟨by rw [show mayM _ = (2 : Int) by simp [mayM, needN, needT, HNs.out, ht1.out, Hnt.out]]; rfl, HB3.out⟩
        | false =>
          rw [hnt] at KY
          have KY := Lib.hid KY
          have Hnt := Lib.hid hnt
          clear hnt
          cases ht0 : t.toList.isEmpty with
          | true =>
            have ht1 := Lib.hid (show t.toList = [] by simpa using ht0)
            go_wp2_with fail
            (with_reducible refine KY.out.mono ?_); rintro e w3 ⟨rfl, hbx⟩
            have HB3 := Lib.hid (HB2.out.next hbx)
            ((have d0 := Below.keeps hbx d0); (have d1 := Below.keeps hbx d1); (have d2 := Below.keeps hbx d2); (have d3 := Below.keeps hbx d3))
            clear hbx KY
            have KX := KT.out w3
            cases hw : wordsL u.toList with
            | true =>
              rw [hw] at KX
              have KX := Lib.hid KX
              have Hw := Lib.hid hw
              clear hw
              go_wp2_with fail
              (with_reducible refine KX.out.mono ?_); rintro e w9 ⟨rfl, hbx⟩
              have HB9 := Lib.hid (HB3.out.next hbx)
              clear hbx KX
              go_wp2_with fail
              go_ret
              exact ⟨by rw [show mayM _ = (-1 : Int) by simp [mayM, needN, needT, HNs.out, ht1.out, Hw.out]]; rfl, HB9.out⟩
            | false =>
              rw [hw] at KX
              have KX := Lib.hid KX
              have Hw := Lib.hid hw
              clear hw
              go_wp2_with fail
              (with_reducible refine KX.out.mono ?_); rintro e w9 ⟨rfl, hbx⟩
              have HB9 := Lib.hid (HB3.out.next hbx)
              clear hbx KX
              go_wp2_with fail
              go_ret
              exact ⟨by rw [show mayM _ = (3 : Int) by simp [mayM, needN, needT, HNs.out, ht1.out, Hw.out]]; rfl, HB9.out⟩
          | false =>
            have ht1 := Lib.hid (show ¬ t.toList = [] by intro h; rw [h] at ht0; cases ht0)
            go_wp2_with fail
            (with_reducible refine KY.out.mono ?_); rintro e w3 ⟨rfl, hbx⟩
            have HB3 := Lib.hid (HB2.out.next hbx)
            ((have d0 := Below.keeps hbx d0); (have d1 := Below.keeps hbx d1); (have d2 := Below.keeps hbx d2); (have d3 := Below.keeps hbx d3))
            clear hbx KY
            go_wp2_with fail
            go_ret
            exact ⟨by rw [show mayM _ = (2 : Int) by simp [mayM, needN, needT, HNs.out, ht1.out, Hnt.out]]; rfl, HB3.out⟩
      · have KY := KN.out w2
        cases hnt : nameL t.toList with
        | true =>
          have ht1 := Lib.hid (name_len hnt).2
          rw [hnt] at KY
          have KY := Lib.hid KY
          have Hnt := Lib.hid hnt
          clear hnt
          go_wp2_with fail
          (with_reducible refine KY.out.mono ?_); rintro e w3 ⟨rfl, hbx⟩
          have HB3 := Lib.hid (HB2.out.next hbx)
          ((have d0 := Below.keeps hbx d0); (have d1 := Below.keeps hbx d1); (have d2 := Below.keeps hbx d2); (have d3 := Below.keeps hbx d3))
          clear hbx KY
          go_wp2_with fail
          go_ret
          exact ⟨by rw [show mayM _ = (2 : Int) by simp [mayM, needN, needT, HNs.out, ht1.out, Hnt.out]]; rfl, HB3.out⟩
        | false =>
          rw [hnt] at KY
          have KY := Lib.hid KY
          have Hnt := Lib.hid hnt
          clear hnt
          cases ht0 : t.toList.isEmpty with
          | true =>
            have ht1 := Lib.hid (show t.toList = [] by simpa using ht0)
            go_wp2_with fail
            (with_reducible refine KY.out.mono ?_); rintro e w3 ⟨rfl, hbx⟩
            have HB3 := Lib.hid (HB2.out.next hbx)
            ((have d0 := Below.keeps hbx d0); (have d1 := Below.keeps hbx d1); (have d2 := Below.keeps hbx d2); (have d3 := Below.keeps hbx d3))
            clear hbx KY
            by_cases ho : u.toList = openL
            · have hob : (u.toList == [111, 112, 101, 110]) = true := by rw [ho]; rfl
              have Ho := Lib.hid ho
              clear ho
              go_wp2_with fail
              go_ret
              exact ⟨by rw [show mayM _ = (-1 : Int) by simp [mayM, needN, needT, HNs.out, ht1.out, Ho.out]]; rfl, HB3.out⟩
            · have hob : (u.toList == [111, 112, 101, 110]) = false := by rw [beq_eq_false_iff_ne]; exact ho
              have hon : ¬ u.toList = [111, 112, 101, 110] := ho
              by_cases hc : u.toList = closedL
              · have hcb : (u.toList == [99, 108, 111, 115, 101, 100]) = true := by rw [hc]; rfl
                have Hc := Lib.hid hc
                have Ho := Lib.hid ho
                clear hc ho hon
                go_wp2_with fail
                go_ret
                exact ⟨by rw [show mayM _ = (-1 : Int) by simp [mayM, needN, needT, HNs.out, ht1.out, Ho.out, Hc.out]]; rfl, HB3.out⟩
              · have hcb : (u.toList == [99, 108, 111, 115, 101, 100]) = false := by rw [beq_eq_false_iff_ne]; exact hc
                have hcn : ¬ u.toList = [99, 108, 111, 115, 101, 100] := hc
                have Hc := Lib.hid hc
                have Ho := Lib.hid ho
                clear hc ho
                go_wp2_with fail
                go_ret
                exact ⟨by rw [show mayM _ = (3 : Int) by simp [mayM, needN, needT, HNs.out, ht1.out, Ho.out, Hc.out]]; rfl, HB3.out⟩
          | false =>
            have ht1 := Lib.hid (show ¬ t.toList = [] by intro h; rw [h] at ht0; cases ht0)
            go_wp2_with fail
            (with_reducible refine KY.out.mono ?_); rintro e w3 ⟨rfl, hbx⟩
            have HB3 := Lib.hid (HB2.out.next hbx)
            ((have d0 := Below.keeps hbx d0); (have d1 := Below.keeps hbx d1); (have d2 := Below.keeps hbx d2); (have d3 := Below.keeps hbx d3))
            clear hbx KY
            go_wp2_with fail
            go_ret
            exact ⟨by rw [show mayM _ = (2 : Int) by simp [mayM, needN, needT, HNs.out, ht1.out, Hnt.out]]; rfl, HB3.out⟩
      · have KY := KN.out w2
        cases ht0 : t.toList.isEmpty with
        | true =>
          have ht1 := Lib.hid (show t.toList = [] by simpa using ht0)
          cases hu0 : u.toList.isEmpty with
          | true =>
            have hu1 := Lib.hid (show u.toList = [] by simpa using hu0)
            go_wp2_with fail
            go_ret
            exact ⟨by rw [show mayM _ = (-1 : Int) by simp [mayM, needN, needT, HNs.out, ht1.out, hu1.out]]; rfl, HB2.out⟩
          | false =>
            have hu1 := Lib.hid (show ¬ u.toList = [] by intro h; rw [h] at hu0; cases hu0)
            go_wp2_with fail
            go_ret
            exact ⟨by rw [show mayM _ = (3 : Int) by simp [mayM, needN, needT, HNs.out, ht1.out, hu1.out]]; rfl, HB2.out⟩
        | false =>
          have ht1 := Lib.hid (show ¬ t.toList = [] by intro h; rw [h] at ht0; cases ht0)
          cases hnt : nameL t.toList with
          | true =>
            rw [hnt] at KY
            have KY := Lib.hid KY
            have Hnt := Lib.hid hnt
            clear hnt
            go_wp2_with fail
            (with_reducible refine KY.out.mono ?_); rintro e w3 ⟨rfl, hbx⟩
            have HB3 := Lib.hid (HB2.out.next hbx)
            ((have d0 := Below.keeps hbx d0); (have d1 := Below.keeps hbx d1); (have d2 := Below.keeps hbx d2); (have d3 := Below.keeps hbx d3))
            clear hbx KY
            cases hu0 : u.toList.isEmpty with
            | true =>
              have hu1 := Lib.hid (show u.toList = [] by simpa using hu0)
              go_wp2_with fail
              go_ret
              exact ⟨by rw [show mayM _ = (-1 : Int) by simp [mayM, needN, needT, HNs.out, ht1.out, Hnt.out, hu1.out]]; rfl, HB3.out⟩
            | false =>
              have hu1 := Lib.hid (show ¬ u.toList = [] by intro h; rw [h] at hu0; cases hu0)
              go_wp2_with fail
              go_ret
              exact ⟨by rw [show mayM _ = (3 : Int) by simp [mayM, needN, needT, HNs.out, ht1.out, Hnt.out, hu1.out]]; rfl, HB3.out⟩
          | false =>
            rw [hnt] at KY
            have KY := Lib.hid KY
            have Hnt := Lib.hid hnt
            clear hnt
            go_wp2_with fail
            (with_reducible refine KY.out.mono ?_); rintro e w3 ⟨rfl, hbx⟩
            have HB3 := Lib.hid (HB2.out.next hbx)
            ((have d0 := Below.keeps hbx d0); (have d1 := Below.keeps hbx d1); (have d2 := Below.keeps hbx d2); (have d3 := Below.keeps hbx d3))
            clear hbx KY
            go_wp2_with fail
            go_ret
            exact ⟨by rw [show mayM _ = (2 : Int) by simp [mayM, needN, needT, HNs.out, ht1.out, Hnt.out]]; rfl, HB3.out⟩
      · have KY := KN.out w2
        cases hnt : nameL t.toList with
        | true =>
          rw [hnt] at KY
          have KY := Lib.hid KY
          have Hnt := Lib.hid hnt
          clear hnt
          go_wp2_with fail
          (with_reducible refine KY.out.mono ?_); rintro e w3 ⟨rfl, hbx⟩
          have HB3 := Lib.hid (HB2.out.next hbx)
          ((have d0 := Below.keeps hbx d0); (have d1 := Below.keeps hbx d1); (have d2 := Below.keeps hbx d2); (have d3 := Below.keeps hbx d3))
          clear hbx KY
          have KX := KT.out w3
          cases hw : wordsL u.toList with
          | true =>
            rw [hw] at KX
            have KX := Lib.hid KX
            have Hw := Lib.hid hw
            clear hw
            go_wp2_with fail
            (with_reducible refine KX.out.mono ?_); rintro e w9 ⟨rfl, hbx⟩
            have HB9 := Lib.hid (HB3.out.next hbx)
            clear hbx KX
            go_wp2_with fail
            go_ret
            exact ⟨by rw [show mayM _ = (-1 : Int) by simp [mayM, needN, needT, HNs.out, Hnt.out, Hw.out]]; rfl, HB9.out⟩
          | false =>
            rw [hw] at KX
            have KX := Lib.hid KX
            have Hw := Lib.hid hw
            clear hw
            go_wp2_with fail
            (with_reducible refine KX.out.mono ?_); rintro e w9 ⟨rfl, hbx⟩
            have HB9 := Lib.hid (HB3.out.next hbx)
            clear hbx KX
            go_wp2_with fail
            go_ret
            exact ⟨by rw [show mayM _ = (3 : Int) by simp [mayM, needN, needT, HNs.out, Hnt.out, Hw.out]]; rfl, HB9.out⟩
        | false =>
          rw [hnt] at KY
          have KY := Lib.hid KY
          have Hnt := Lib.hid hnt
          clear hnt
          go_wp2_with fail
          (with_reducible refine KY.out.mono ?_); rintro e w3 ⟨rfl, hbx⟩
          have HB3 := Lib.hid (HB2.out.next hbx)
          ((have d0 := Below.keeps hbx d0); (have d1 := Below.keeps hbx d1); (have d2 := Below.keeps hbx d2); (have d3 := Below.keeps hbx d3))
          clear hbx KY
          go_wp2_with fail
          go_ret
          exact ⟨by rw [show mayM _ = (2 : Int) by simp [mayM, needN, needT, HNs.out, Hnt.out]]; rfl, HB3.out⟩
      · have KY := KN.out w2
        cases hnt : nameL t.toList with
        | true =>
          rw [hnt] at KY
          have KY := Lib.hid KY
          have Hnt := Lib.hid hnt
          clear hnt
          go_wp2_with fail
          (with_reducible refine KY.out.mono ?_); rintro e w3 ⟨rfl, hbx⟩
          have HB3 := Lib.hid (HB2.out.next hbx)
          ((have d0 := Below.keeps hbx d0); (have d1 := Below.keeps hbx d1); (have d2 := Below.keeps hbx d2); (have d3 := Below.keeps hbx d3))
          clear hbx KY
          have KX := KT.out w3
          cases hw : wordsL u.toList with
          | true =>
            rw [hw] at KX
            have KX := Lib.hid KX
            have Hw := Lib.hid hw
            clear hw
            go_wp2_with fail
            (with_reducible refine KX.out.mono ?_); rintro e w9 ⟨rfl, hbx⟩
            have HB9 := Lib.hid (HB3.out.next hbx)
            clear hbx KX
            go_wp2_with fail
            go_ret
            exact ⟨by rw [show mayM _ = (-1 : Int) by simp [mayM, needN, needT, HNs.out, Hnt.out, Hw.out]]; rfl, HB9.out⟩
          | false =>
            rw [hw] at KX
            have KX := Lib.hid KX
            have Hw := Lib.hid hw
            clear hw
            go_wp2_with fail
            (with_reducible refine KX.out.mono ?_); rintro e w9 ⟨rfl, hbx⟩
            have HB9 := Lib.hid (HB3.out.next hbx)
            clear hbx KX
            go_wp2_with fail
            go_ret
            exact ⟨by rw [show mayM _ = (3 : Int) by simp [mayM, needN, needT, HNs.out, Hnt.out, Hw.out]]; rfl, HB9.out⟩
        | false =>
          rw [hnt] at KY
          have KY := Lib.hid KY
          have Hnt := Lib.hid hnt
          clear hnt
          go_wp2_with fail
          (with_reducible refine KY.out.mono ?_); rintro e w3 ⟨rfl, hbx⟩
          have HB3 := Lib.hid (HB2.out.next hbx)
          ((have d0 := Below.keeps hbx d0); (have d1 := Below.keeps hbx d1); (have d2 := Below.keeps hbx d2); (have d3 := Below.keeps hbx d3))
          clear hbx KY
          go_wp2_with fail
          go_ret
          exact ⟨by rw [show mayM _ = (2 : Int) by simp [mayM, needN, needT, HNs.out, Hnt.out]]; rfl, HB3.out⟩
      · have KY := KN.out w2
        cases hnt : nameL t.toList with
        | true =>
          rw [hnt] at KY
          have KY := Lib.hid KY
          have Hnt := Lib.hid hnt
          clear hnt
          go_wp2_with fail
          (with_reducible refine KY.out.mono ?_); rintro e w3 ⟨rfl, hbx⟩
          have HB3 := Lib.hid (HB2.out.next hbx)
          ((have d0 := Below.keeps hbx d0); (have d1 := Below.keeps hbx d1); (have d2 := Below.keeps hbx d2); (have d3 := Below.keeps hbx d3))
          clear hbx KY
          cases hu0 : u.toList.isEmpty with
          | true =>
            have hu1 := Lib.hid (show u.toList = [] by simpa using hu0)
            go_wp2_with fail
            go_ret
            exact ⟨by rw [show mayM _ = (-1 : Int) by simp [mayM, needN, needT, HNs.out, Hnt.out, hu1.out]]; rfl, HB3.out⟩
          | false =>
            have hu1 := Lib.hid (show ¬ u.toList = [] by intro h; rw [h] at hu0; cases hu0)
            go_wp2_with fail
            go_ret
            exact ⟨by rw [show mayM _ = (3 : Int) by simp [mayM, needN, needT, HNs.out, Hnt.out, hu1.out]]; rfl, HB3.out⟩
        | false =>
          rw [hnt] at KY
          have KY := Lib.hid KY
          have Hnt := Lib.hid hnt
          clear hnt
          go_wp2_with fail
          (with_reducible refine KY.out.mono ?_); rintro e w3 ⟨rfl, hbx⟩
          have HB3 := Lib.hid (HB2.out.next hbx)
          ((have d0 := Below.keeps hbx d0); (have d1 := Below.keeps hbx d1); (have d2 := Below.keeps hbx d2); (have d3 := Below.keeps hbx d3))
          clear hbx KY
          go_wp2_with fail
          go_ret
          exact ⟨by rw [show mayM _ = (2 : Int) by simp [mayM, needN, needT, HNs.out, Hnt.out]]; rfl, HB3.out⟩
      · have KY := KN.out w2
        cases hnt : nameL t.toList with
        | true =>
          rw [hnt] at KY
          have KY := Lib.hid KY
          have Hnt := Lib.hid hnt
          clear hnt
          go_wp2_with fail
          (with_reducible refine KY.out.mono ?_); rintro e w3 ⟨rfl, hbx⟩
          have HB3 := Lib.hid (HB2.out.next hbx)
          ((have d0 := Below.keeps hbx d0); (have d1 := Below.keeps hbx d1); (have d2 := Below.keeps hbx d2); (have d3 := Below.keeps hbx d3))
          clear hbx KY
          cases hu0 : u.toList.isEmpty with
          | true =>
            have hu1 := Lib.hid (show u.toList = [] by simpa using hu0)
            go_wp2_with fail
            go_ret
            exact ⟨by rw [show mayM _ = (-1 : Int) by simp [mayM, needN, needT, HNs.out, Hnt.out, hu1.out]]; rfl, HB3.out⟩
          | false =>
            have hu1 := Lib.hid (show ¬ u.toList = [] by intro h; rw [h] at hu0; cases hu0)
            go_wp2_with fail
            go_ret
            exact ⟨by rw [show mayM _ = (3 : Int) by simp [mayM, needN, needT, HNs.out, Hnt.out, hu1.out]]; rfl, HB3.out⟩
        | false =>
          rw [hnt] at KY
          have KY := Lib.hid KY
          have Hnt := Lib.hid hnt
          clear hnt
          go_wp2_with fail
          (with_reducible refine KY.out.mono ?_); rintro e w3 ⟨rfl, hbx⟩
          have HB3 := Lib.hid (HB2.out.next hbx)
          ((have d0 := Below.keeps hbx d0); (have d1 := Below.keeps hbx d1); (have d2 := Below.keeps hbx d2); (have d3 := Below.keeps hbx d3))
          clear hbx KY
          go_wp2_with fail
          go_ret
          exact ⟨by rw [show mayM _ = (2 : Int) by simp [mayM, needN, needT, HNs.out, Hnt.out]]; rfl, HB3.out⟩
      · have KY := KN.out w2
        cases hnt : nameL t.toList with
        | true =>
          rw [hnt] at KY
          have KY := Lib.hid KY
          have Hnt := Lib.hid hnt
          clear hnt
          go_wp2_with fail
          (with_reducible refine KY.out.mono ?_); rintro e w3 ⟨rfl, hbx⟩
          have HB3 := Lib.hid (HB2.out.next hbx)
          ((have d0 := Below.keeps hbx d0); (have d1 := Below.keeps hbx d1); (have d2 := Below.keeps hbx d2); (have d3 := Below.keeps hbx d3))
          clear hbx KY
          cases hu0 : u.toList.isEmpty with
          | true =>
            have hu1 := Lib.hid (show u.toList = [] by simpa using hu0)
            go_wp2_with fail
            go_ret
            exact ⟨by rw [show mayM _ = (-1 : Int) by simp [mayM, needN, needT, HNs.out, Hnt.out, hu1.out]]; rfl, HB3.out⟩
          | false =>
            have hu1 := Lib.hid (show ¬ u.toList = [] by intro h; rw [h] at hu0; cases hu0)
            go_wp2_with fail
            go_ret
            exact ⟨by rw [show mayM _ = (3 : Int) by simp [mayM, needN, needT, HNs.out, Hnt.out, hu1.out]]; rfl, HB3.out⟩
        | false =>
          rw [hnt] at KY
          have KY := Lib.hid KY
          have Hnt := Lib.hid hnt
          clear hnt
          go_wp2_with fail
          (with_reducible refine KY.out.mono ?_); rintro e w3 ⟨rfl, hbx⟩
          have HB3 := Lib.hid (HB2.out.next hbx)
          ((have d0 := Below.keeps hbx d0); (have d1 := Below.keeps hbx d1); (have d2 := Below.keeps hbx d2); (have d3 := Below.keeps hbx d3))
          clear hbx KY
          go_wp2_with fail
          go_ret
          exact ⟨by rw [show mayM _ = (2 : Int) by simp [mayM, needN, needT, HNs.out, Hnt.out]]; rfl, HB3.out⟩
      · have KY := KN.out w2
        cases hnt : nameL t.toList with
        | true =>
          have ht1 := Lib.hid (name_len hnt).2
          rw [hnt] at KY
          have KY := Lib.hid KY
          have Hnt := Lib.hid hnt
          clear hnt
          go_wp2_with fail
          (with_reducible refine KY.out.mono ?_); rintro e w3 ⟨rfl, hbx⟩
          have HB3 := Lib.hid (HB2.out.next hbx)
          ((have d0 := Below.keeps hbx d0); (have d1 := Below.keeps hbx d1); (have d2 := Below.keeps hbx d2); (have d3 := Below.keeps hbx d3))
          clear hbx KY
          go_wp2_with fail
          go_ret
          exact ⟨by rw [show mayM _ = (2 : Int) by simp [mayM, needN, needT, HNs.out, ht1.out, Hnt.out]]; rfl, HB3.out⟩
        | false =>
          rw [hnt] at KY
          have KY := Lib.hid KY
          have Hnt := Lib.hid hnt
          clear hnt
          cases ht0 : t.toList.isEmpty with
          | true =>
            have ht1 := Lib.hid (show t.toList = [] by simpa using ht0)
            go_wp2_with fail
            (with_reducible refine KY.out.mono ?_); rintro e w3 ⟨rfl, hbx⟩
            have HB3 := Lib.hid (HB2.out.next hbx)
            ((have d0 := Below.keeps hbx d0); (have d1 := Below.keeps hbx d1); (have d2 := Below.keeps hbx d2); (have d3 := Below.keeps hbx d3))
            clear hbx KY
            cases hu0 : u.toList.isEmpty with
            | true =>
              have hu1 := Lib.hid (show u.toList = [] by simpa using hu0)
              go_wp2_with fail
              go_ret
              exact ⟨by rw [show mayM _ = (-1 : Int) by simp [mayM, needN, needT, HNs.out, ht1.out, hu1.out]]; rfl, HB3.out⟩
            | false =>
              have hu1 := Lib.hid (show ¬ u.toList = [] by intro h; rw [h] at hu0; cases hu0)
              go_wp2_with fail
              go_ret
              exact ⟨by rw [show mayM _ = (3 : Int) by simp [mayM, needN, needT, HNs.out, ht1.out, hu1.out]]; rfl, HB3.out⟩
          | false =>
            have ht1 := Lib.hid (show ¬ t.toList = [] by intro h; rw [h] at ht0; cases ht0)
            go_wp2_with fail
            (with_reducible refine KY.out.mono ?_); rintro e w3 ⟨rfl, hbx⟩
            have HB3 := Lib.hid (HB2.out.next hbx)
            ((have d0 := Below.keeps hbx d0); (have d1 := Below.keeps hbx d1); (have d2 := Below.keeps hbx d2); (have d3 := Below.keeps hbx d3))
            clear hbx KY
            go_wp2_with fail
            go_ret
            exact ⟨by rw [show mayM _ = (2 : Int) by simp [mayM, needN, needT, HNs.out, ht1.out, Hnt.out]]; rfl, HB3.out⟩
end Go.Proofs.YtigdjnfnkjfkmaaGreatDoor
namespace Go.Proofs.YtigdjnfnkjfkmaaGreatDoor
open Go.RowKit
set_option linter.unusedVariables false
set_option linter.unusedSimpArgs false
set_option maxRecDepth 100000

end Go.Proofs.YtigdjnfnkjfkmaaGreatDoor
