/- The parser passes over blanks (jsonx). Conditions: the text is short. -/
import Derived.Test.YthkpbgpgcpkiiaaGreatDoorJParA
namespace Go.Proofs.YthkpbgpgcpkiiaaGreatDoor
open Go.RowKit
set_option linter.unusedVariables false
set_option linter.unusedSimpArgs false
set_option maxRecDepth 100000

def blanksL : B := [32, 9, 10, 13]
theorem blankB_in (c : UInt8) : blankB c = blanksL.contains c := by
  simp only [blankB, blanksL, List.contains_cons, Bool.or_assoc, List.contains_nil, Bool.or_false]
theorem skip_at (c : UInt8) (r : B) (h : blankB c = true) : skipB (c :: r) = skipB r := by unfold skipB; rw [List.dropWhile_cons, if_pos h]
theorem skip_no (c : UInt8) (r : B) (h : blankB c = false) : skipB (c :: r) = c :: r := by unfold skipB; rw [List.dropWhile_cons, if_neg (by rw [h]; decide)]
theorem blanks_any (bp : Nat) (s : ByteArray) (k : Nat) (l : B) (w : World) (hP : PC w bp s k) (hl : At s k l) (hs : s.size ≤ 65536) :
    Calls Tryz.prog 43 #[.pointer (some ⟨bp, 0, none⟩)] w fun e w' => e = .returned (.tuple #[]) ∧ (∃ j, PC w' bp s j ∧ At s j (skipB l)) ∧ Touch (fun j => j = bp) w w' := by
  have HP := Lib.hid hP
  have HL := Lib.hid hl
  have hm : s.size ≤ 9223372036854775807 := by omega
  clear hP hl
  go_enter Tryz.func43, Tryz.ntmps43
  go_wp2
  go_loopw [] (fun wr => ∃ j m, PC wr bp s j ∧ At s j m ∧ Hid (skipB m = skipB l) ∧ Touch (fun k => k = bp) w wr) (fun wr => s.size - (intOf ((wr.cell? ⟨bp, 1, none⟩).getD undef)).toNat)
  case atStart => exact ⟨k, l, HP.out, HL.out, rfl, Touch.refl _ _⟩
  case round =>
    obtain ⟨j, m, hP2, hl2, hW, ht⟩ := hrel
    have HP2 := Lib.hid hP2
    have HL2 := Lib.hid hl2
    have HT := Lib.hid ht
    have c0 := hP2.c0
    have c1 := hP2.c1
    clear hP2 hl2 ht
    cases m with
    | nil =>
      have hj := HL2.out.nil
      subst hj
      have hlt : ¬ (s.size : Int) < s.size := by omega
      go_wp2_with fail
      go_quiet (fail)
      go_wp2_with fail
      go_end0
      have hb := below_drewN wr.heap.size wr nq
      exact ⟨rfl, ⟨s.size, HP2.out.below hb, by rw [← hW.out]; exact HL2.out⟩, HT.out.next hb⟩
    | cons c r =>
      obtain ⟨hk, hc, ha⟩ := HL2.out.cons
      have hb : (j : Int) < s.size := by omega
      have hi : 0 ≤ (j : Int) ∧ (j : Int) < s.size := by omega
      have hc' := atI hk hc
      have hn := idx_neg c blanksL
      rw [← blankB_in] at hn
      have K3 := Lib.hid (fun w => ibyte_any c (ofL blanksL) w)
      rw [toL_ofL] at K3
      have HA := Lib.hid ha
      clear ha
      cases hp : blankB c with
      | false =>
        have h1 : ¬ Lib.indexByte blanksL c ≥ 0 := by have := hn.2 hp; omega
        have H2 := Lib.hid (skip_no c r hp)
        generalize Lib.indexByte blanksL c = ix at *
        clear hn hp
        go_wp2_with fail
        go_quiet ((go_at_call 64; exact Calls.quiet_of_same (K3.out _)))
        go_wp2_with fail
        go_end0
        have hb := below_drewN wr.heap.size wr nq
        exact ⟨rfl, ⟨j, HP2.out.below hb, by rw [← hW.out, H2.out]; exact HL2.out⟩, HT.out.next hb⟩
      | true =>
        have h1 : Lib.indexByte blanksL c ≥ 0 := by
          rw [hp] at hn
          by_cases h : Lib.indexByte blanksL c < 0
          · have := hn.1 h; cases this
          · omega
        have H2 := Lib.hid (skip_at c r hp)
        generalize Lib.indexByte blanksL c = ix at *
        clear hn hp
        go_wp2_with fail
        go_quiet ((go_at_call 64; exact Calls.quiet_of_same (K3.out _)))
        have hb := below_drewN wr.heap.size wr nq
        have hp3 := HP2.out.below hb
        have HT3 := Lib.hid (HT.out.next hb)
        clear c0 c1
        generalize wr.drewN nq = w3 at hb hp3 HT3 ⊢
        have c1 := hp3.c1
        have f1 := hp3.fz 1
        have HP3 := Lib.hid hp3
        clear hp3
        go_wp2_with fail
        go_roundw
        case rel => exact ⟨j + 1, r, HP3.out.set (j + 1), HA.out, by show _ = _; rw [← H2.out]; exact hW.out, HT3.out.setCell (p := ⟨bp, 1, none⟩) rfl _⟩
        case measure => 
          have e := (HP3.out.set (j + 1)).c1
          rw [Int.natCast_add, Int.natCast_one] at e
          rw [HP2.out.c1, e]
          simp [intOf]; omega
end Go.Proofs.YthkpbgpgcpkiiaaGreatDoor
