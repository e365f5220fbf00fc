/- Titles and comments' words, as the program and the reference tell them; what a kind needs. Conditions: the text lies in memory. -/
import Derived.Test.YtigdjnfnkjfkmaaGreatDoorJLawC
import Derived.Test.YtigdjnfnkjfkmaaGreatDoorMsgN
namespace Go.Proofs.YtigdjnfnkjfkmaaGreatDoor
open Go.RowKit
set_option linter.unusedVariables false
set_option linter.unusedSimpArgs false
set_option maxRecDepth 100000

set_option maxHeartbeats 4000000 in
theorem ptext_any (s : ByteArray) (w : World) (hs : s.size ≤ 1099511627776) :
    Calls Tryz.prog 102 #[.string s] w fun e w' => e = .returned (.bool (wordsL s.toList)) ∧ Below w.heap.size w w' := by
  have hld := len_toL s
  have kb := fun wx => run_bytes_of_string (P := Tryz.prog) wx 9 89 5 s Tryz.underlying9 Tryz.underlying89 Tryz.underlying5
  cases hem : s.toList.isEmpty with
  | true =>
    have Hno := Lib.hid (show wordsL s.toList = false by unfold wordsL; rw [hem]; rfl)
    go_enter Tryz.func102, Tryz.ntmps102
    go_wp2_with fail
    go_ret
    exact ⟨ret_bool (by rw [Hno.out]), Below.refl _ _⟩
  | false =>
    by_cases hl : s.size ≤ 512
    · have hl' : (s.size : Int) ≤ 512 := by omega
      have KC := Lib.hid (fun w' wc => charsOf s (by omega) w' wc)
      have Hw := Lib.hid (show wordsL s.toList = wholeL s.toList by unfold wordsL; rw [hem, hld, decide_eq_true hl]; rfl)
      go_enter Tryz.func102, Tryz.ntmps102
      go_wp2_with fail
      (with_reducible refine (KC.out _ _).mono ?_); rintro e w2 ⟨⟨x, rfl, hx⟩, hb2⟩
      have HB2 := Lib.hid hb2
      clear hb2 kb
      by_cases hw : wholeL s.toList = true
      · rw [if_pos hw] at hx
        go_wp2_with fail
        go_ret
        exact ⟨ret_bool (by rw [Hw.out]; simp [hw, hx]), HB2.out⟩
      · rw [if_neg hw] at hx
        have hx2 : ¬ x < 0 := by omega
        go_wp2_with fail
        go_ret
        exact ⟨ret_bool (by rw [Hw.out]; simp [hw, hx2]), HB2.out⟩
    · have hl' : ¬ (s.size : Int) ≤ 512 := by omega
      have Hno := Lib.hid (show wordsL s.toList = false by unfold wordsL; rw [hem, hld, decide_eq_false hl]; rfl)
      go_enter Tryz.func102, Tryz.ntmps102
      go_wp2_with fail
      go_ret
      exact ⟨ret_bool (by rw [Hno.out]), Below.refl _ _⟩
end Go.Proofs.YtigdjnfnkjfkmaaGreatDoor
