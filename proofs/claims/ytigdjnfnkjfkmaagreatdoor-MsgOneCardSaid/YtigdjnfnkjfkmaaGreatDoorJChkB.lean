/- Have all fields but those of a kind their zero value (jsonx.blank). Conditions: the value is small. -/
import Derived.Test.YtigdjnfnkjfkmaaGreatDoorJChkA
namespace Go.Proofs.YtigdjnfnkjfkmaaGreatDoor
open Go.RowKit
set_option linter.unusedVariables false
set_option linter.unusedSimpArgs false
set_option maxRecDepth 100000

theorem lens0 {α β : Type} (a : List α) (b : List β) : ((a.length : Int) + b.length == 0) = (a.isEmpty && b.isEmpty) := by
  cases a <;> cases b <;> simp <;> omega
theorem len0 {α : Type} (a : List α) : ((a.length : Int) == 0) = a.isEmpty := by
  cases a <;> simp <;> omega
set_option maxHeartbeats 16000000 in
theorem blank_any (k n : Int) (s : ByteArray) (ns : List B) (is : List J) (N I : Value) (w : World) (hR : RJ (fun b => b < w.heap.size) w (.mk k n s.toList ns is) [.int .i64 k, .int .i64 n, .string s, N, I]) (hwt : wtJ (.mk k n s.toList ns is) ≤ 1048576) :
    Calls Tryz.prog 115 #[.agg #[.int .i64 k, .int .i64 n, .string s, N, I]] w fun e w' => e = .returned (.bool (blankJ (.mk k n s.toList ns is))) ∧ Below w.heap.size w w' := by
  rw [RJ, ofL_toL] at hR
  obtain ⟨N', I', e, hN, xs, hI, hxs⟩ := hR
  have e1 : N = N' ∧ I = I' := by simp at e; exact e
  obtain ⟨rfl, rfl⟩ := e1
  clear e hxs
  obtain ⟨A1, c1, rfl⟩ := hN.shape
  obtain ⟨A2, c2, rfl⟩ := hI.shape
  rw [wtJ] at hwt
  have hil : is.length ≤ 1048576 := by have := wts_len is; omega
  have hnl : ns.length ≤ 1048576 := by omega
  have htl : s.size ≤ 1048576 := by rw [← len_toL]; omega
  have hfl : ns.flatten.length ≤ 1048576 := by rw [List.length_flatten]; omega
  have hsl : ∀ s ∈ ns, s.length ≤ 1048576 := fun s hs => by have := sum_mem hs; omega
  have KN := Lib.hid (fun (w' : World) (hb : Below w.heap.size w w') => named_any (.slice A1 ns.length c1) ns w' ((hN.keep (below_keeps hb)).mono (by omega) (fun b _ h => h)) (by omega) hsl)
  have KJ := Lib.hid (fun (w' : World) (hb : Below w.heap.size w w') => join_any (.slice A1 ns.length c1) ns w' ((hN.keep (below_keeps hb)).mono (by omega) (fun b _ h => h)) (by omega) hfl)
  have KC := Lib.hid (fun w' wc => charsOf s htl w' wc)
  have KF := Lib.hid (fun w' wc => charsOf (ofL ns.flatten) (by rw [size_ofL]; exact hfl) w' wc)
  rw [toL_ofL] at KF
  clear hN hI hsl hfl
  have hb1 := (Below.refl w.heap.size w).alloc (Nat.le_refl _) (.cells #[.int .i64 k, .int .i64 n, .string s, .slice A1 ns.length c1, .slice A2 is.length c2] 49)
  have hk1 : (w.alloc (.cells #[.int .i64 k, .int .i64 n, .string s, .slice A1 ns.length c1, .slice A2 is.length c2] 49)).heap[w.heap.size]? = some (.cells #[.int .i64 k, .int .i64 n, .string s, .slice A1 ns.length c1, .slice A2 is.length c2] 49 (0, 0)) := heap_alloc_new w _
  go_enter Tryz.func115, Tryz.ntmps115
  go_upto_region 1 with fail
  generalize w.alloc (.cells #[.int .i64 k, .int .i64 n, .string s, .slice A1 ns.length c1, .slice A2 is.length c2] 49) = w1 at *
  have d0 : w1.cell? ⟨w.heap.size, 0, none⟩ = some (.int .i64 k) := by rw [Lib.cell_of_heap hk1]; rfl
  have d1 : w1.cell? ⟨w.heap.size, 1, none⟩ = some (.int .i64 n) := by rw [Lib.cell_of_heap hk1]; rfl
  have d2 : w1.cell? ⟨w.heap.size, 2, none⟩ = some (.string s) := by rw [Lib.cell_of_heap hk1]; rfl
  have d3 : w1.cell? ⟨w.heap.size, 3, none⟩ = some (.slice A1 ns.length c1) := by rw [Lib.cell_of_heap hk1]; rfl
  have d4 : w1.cell? ⟨w.heap.size, 4, none⟩ = some (.slice A2 is.length c2) := by rw [Lib.cell_of_heap hk1]; rfl
  have HB := Lib.hid hb1
  have HK := Lib.hid hk1
  clear hb1 hk1 hwt
  have kb := fun wx => run_bytes_of_string (P := Tryz.prog) wx 9 89 5 s Tryz.underlying9 Tryz.underlying89 Tryz.underlying5
  have kf := fun wx => run_bytes_of_string (P := Tryz.prog) wx 9 89 5 (ofL ns.flatten) Tryz.underlying9 Tryz.underlying89 Tryz.underlying5
  by_cases hk0 : k = 0
  · subst hk0
    go_wp2_with fail
    all_goals
      go_ret
      refine ⟨ret_bool ?_, HB.out⟩
      simp [blankJ, lens0, len0, *]
  by_cases hk1 : k = 1
  · subst hk1
    go_wp2_with fail
    all_goals
      go_ret
      refine ⟨ret_bool ?_, HB.out⟩
      simp [blankJ, lens0, len0, *]
  by_cases hk2 : k = 2
  · subst hk2
    go_wp2_with fail
    all_goals
      go_ret
      refine ⟨ret_bool ?_, HB.out⟩
      simp [blankJ, lens0, len0, *]
  by_cases hk3 : k = 3
  · subst hk3
    by_cases hn : n = 0
    · by_cases hz : (ns.length : Int) + is.length = 0
      · have hzz := hz
        have he : ns = [] ∧ is = [] := by
          constructor
          · exact List.length_eq_zero_iff.1 (by omega)
          · exact List.length_eq_zero_iff.1 (by omega)
        have He := Lib.hid he
        clear he
        subst hn
        have hzb : ((ns.length : Int) + is.length == 0) = true := by rw [hz]; rfl
        go_wp2_with fail
        (with_reducible refine (KC.out _ _).mono ?_); rintro e w2 ⟨⟨x, rfl, hx⟩, hb2⟩
        have HB2 := Lib.hid (HB.out.next hb2)
        clear hb2
        by_cases hw : wholeL s.toList = true
        · rw [if_pos hw] at hx
          go_wp2_with fail
          go_ret
          refine ⟨ret_bool ?_, HB2.out⟩
          simp [blankJ, hw, hx, He.out.1, He.out.2]
        · rw [if_neg hw] at hx
          have hx2 : ¬ x < 0 := by omega
          go_wp2_with fail
          go_ret
          refine ⟨ret_bool ?_, HB2.out⟩
          simp [blankJ, hw, hx2, He.out.1, He.out.2]
      · have hzb : ((ns.length : Int) + is.length == 0) = false := by rw [beq_eq_false_iff_ne]; exact hz
        have hzc : ns = [] → ¬ is = [] := fun h1 h2 => hz (by rw [h1, h2]; rfl)
        have Hzc := Lib.hid hzc
        clear hzc
        subst hn
        go_wp2_with fail
        all_goals
          go_ret
          refine ⟨ret_bool ?_, HB.out⟩
          simp [blankJ]
          intro h1 h2; exact absurd h2 (Hzc.out h1)
    · go_wp2_with fail
      all_goals
        go_ret
        refine ⟨ret_bool ?_, HB.out⟩
        simp [blankJ, hn]
  by_cases hk4 : k = 4
  · subst hk4
    go_wp2_with fail
    all_goals
      go_ret
      refine ⟨ret_bool ?_, HB.out⟩
      simp [blankJ, lens0, len0, *]
  by_cases hk5 : k = 5
  · subst hk5
    by_cases hn : n = 0
    · subst hn
      cases htb : s.toList.isEmpty with
      | true =>
        have ht : s.toList = [] := by simpa using htb
        have Ht := Lib.hid ht
        clear ht
        by_cases hl : ns.length = is.length
        · have hli : (ns.length : Int) = is.length := by rw [hl]
          have Hl := Lib.hid hl
          have hlb : ((ns.length : Int) == is.length) = true := by rw [hli]; simp
          clear hl hli
          go_wp2_with fail
          (with_reducible refine (KJ.out _ HB.out).mono ?_); rintro e w2 ⟨rfl, hb2⟩
          have HB2 := Lib.hid (HB.out.next hb2)
          have e3 := Below.keeps hb2 d3
          clear hb2
          go_wp2_with fail
          (with_reducible refine (KF.out _ _).mono ?_); rintro e w3 ⟨⟨x, rfl, hx⟩, hb3⟩
          have HB3 := Lib.hid (HB2.out.next hb3)
          have f3 := Below.keeps hb3 e3
          clear hb3
          by_cases hw : wholeL ns.flatten = true
          · rw [if_pos hw] at hx
            go_wp2_with fail
            (with_reducible refine (KN.out _ HB3.out).mono ?_); rintro e w4 ⟨rfl, hb4⟩
            have HB4 := Lib.hid (HB3.out.next hb4)
            clear hb4
            go_wp2_with fail
            go_ret
            refine ⟨ret_bool ?_, HB4.out⟩
            simp [blankJ, hw, hx, Ht.out, Hl.out]
          · rw [if_neg hw] at hx
            have hx2 : ¬ x < 0 := by omega
            go_wp2_with fail
            go_ret
            refine ⟨ret_bool ?_, HB3.out⟩
            simp [blankJ, hw, hx2, Ht.out, Hl.out]
        · have hlb : ((ns.length : Int) == is.length) = false := by rw [beq_eq_false_iff_ne]; omega
          go_wp2_with fail
          all_goals
            go_ret
            refine ⟨ret_bool ?_, HB.out⟩
            simp [blankJ, hl]
      | false =>
        have ht : ¬ s.toList = [] := by intro h; rw [h] at htb; cases htb
        go_wp2_with fail
        all_goals
          go_ret
          refine ⟨ret_bool ?_, HB.out⟩
          simp [blankJ, ht]
    · go_wp2_with fail
      all_goals
        go_ret
        refine ⟨ret_bool ?_, HB.out⟩
        simp [blankJ, hn]
  · go_wp2_with fail
    go_ret
    exact ⟨ret_bool (by simp [blankJ, hk0, hk1, hk2, hk3, hk4, hk5]), HB.out⟩
end Go.Proofs.YtigdjnfnkjfkmaaGreatDoor
