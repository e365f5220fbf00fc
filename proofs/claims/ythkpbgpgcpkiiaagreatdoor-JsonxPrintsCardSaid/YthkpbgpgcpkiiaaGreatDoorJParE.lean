/- Four hexadecimal digits (jsonx). Conditions: the text is short. -/
import Derived.Test.YthkpbgpgcpkiiaaGreatDoorJParC
import Derived.Test.YthkpbgpgcpkiiaaGreatDoorJParD
namespace Go.Proofs.YthkpbgpgcpkiiaaGreatDoor
open Go.RowKit
set_option linter.unusedVariables false
set_option linter.unusedSimpArgs false
set_option maxRecDepth 100000

def numI (n : Nat) (e : Ending) (_ : World) : Prop := e = .returned (.int .i64 (n : Int))
theorem hexDL_lit : ofL hexDL = ⟨#[48, 49, 50, 51, 52, 53, 54, 55, 56, 57, 97, 98, 99, 100, 101, 102, 65, 66, 67, 68, 69, 70]⟩ := rfl
set_option maxHeartbeats 4000000 in
theorem hex_any (bp : Nat) (s : ByteArray) (two : B) (h2 : ∀ c, two.contains c = true → hexDL.contains c = true) (k : Nat) (l : B) (w : World) (hP : PC w bp s k) (hl : At s k l) (hs : s.size ≤ 65536) :
    Calls Tryz.prog 104 #[.pointer (some ⟨bp, 0, none⟩), .string (ofL two)] w fun e w' => OutU bp s numI e w' (hexB two l) ∧ Touch (fun j => j = bp) w w' := by
  have HP := Lib.hid hP
  have HL := Lib.hid hl
  have H2 := Lib.hid h2
  clear hP hl h2
  go_enter Tryz.func104, Tryz.ntmps104
  go_wp2
  go_loopw [5, 10] (fun n i wr => ∃ m : Nat, m ≤ 4 ∧ i = .int .i64 m ∧ ∃ N : Nat, n = .int .i64 N ∧ N < 16 ^ m ∧ ∃ j q, PC wr bp s j ∧ At s j q ∧ Hid (hexGo two (4 - m) N q = hexB two l) ∧ Touch (fun k => k = bp) w wr) (fun _ i _ => 4 - (intOf i).toNat)
  case atStart => exact ⟨0, Nat.zero_le _, rfl, 0, rfl, by decide, k, l, HP.out, HL.out, rfl, Touch.refl _ _⟩
  case round =>
    obtain ⟨m, hm, rfl, N, rfl, hN, j, q, hP2, hl2, hW, ht⟩ := hrel
    have HP2 := Lib.hid hP2
    have HL2 := Lib.hid hl2
    have HT := Lib.hid ht
    clear hP2 hl2 ht
    by_cases hlt : m < 4
    · obtain ⟨d, hd⟩ : ∃ d, 4 - m = d + 1 := ⟨3 - m, by omega⟩
      rw [hd, hexGo_step] at hW
      have hNs : N < 65536 := by
        have : 16 ^ m ≤ 16 ^ 4 := Nat.pow_le_pow_right (by decide) hm
        omega
      have K1 := Lib.hid (fun w hP => one_any bp s (hexOf two d N) j q w hP HL2.out hs)
      have hof : ∀ c, (hexOf two d N).contains c = true → hexDL.contains c = true := by
        unfold hexOf; split
        · exact H2.out
        · exact fun c h => h
      have HS : Hid ((¬ (m = 1 ∧ N = 13) → hexOf two d N = hexDL) ∧ (m = 1 ∧ N = 13 → hexOf two d N = two)) := by
        refine ⟨fun h => ?_, fun h => ?_⟩
        · unfold hexOf; rw [if_neg (fun k => h ⟨by omega, k.2⟩)]
        · unfold hexOf; rw [if_pos ⟨by omega, h.2⟩]
      rcases ho : oneB (hexOf two d N) q with ⟨c, r⟩ | ⟨r, e⟩
      · have hcc := hof c (oneB_ok ho).2
        have hle := hexVal_le hcc
        have K2 := Lib.hid (fun w => hexpub_any c hcc w)
        rw [ho] at K1 hW
        unfold OutU byteV at K1
        have kc := fun wx => conv_one 46 9 5 Tryz.underlying46 Tryz.underlying5 Tryz.underlying9 c wx
        have hN16 : 16 * N + hexVal c < 16 ^ (m + 1) := by rw [Nat.pow_succ]; omega
        have hd' : 4 - (m + 1) = d := by omega
        simp only [] at hW
        generalize hexVal c = hv at *
        clear ho hof hcc
        have HN16 := Lib.hid hN16
        have HHd := Lib.hid hd
        have HHd' := Lib.hid hd'
        clear hN16 hd hd' hN
        by_cases hsp : m = 1 ∧ N = 13
        · have e := HS.out.2 hsp
          obtain ⟨rfl, rfl⟩ := hsp
          rw [e] at K1
          clear e HS
          go_wp2_with (first | (go_at_call 82; with_reducible refine (K1.out _ HP2.out).mono ?_; rintro e w4 ⟨⟨rfl, j4, hP4, hl4⟩, ht4⟩) | (go_at_call 116; with_reducible refine (K2.out _).mono ?_; rintro e w5 ⟨rfl, hb5⟩))
          go_roundw
          case rel => 
            have hb := ((Below.refl w4.heap.size w4).alloc (Nat.le_refl _) (.cells #[.int .u8 c.toNat] 5)).next hb5
            exact ⟨2, by omega, by go_num, 16 * 13 + hv, by go_num, HN16.out, j4, r, hP4.below hb, hl4, by rw [HHd'.out]; exact hW, (HT.out.trans ht4).next hb⟩
          case measure => simp [intOf]
        · have e := HS.out.1 hsp
          rw [e, hexDL_lit] at K1
          clear e HS
          have hcase : ((m : Int) == 1) = false ∨ (((m : Int) == 1) = true ∧ ((N : Int) == 13) = false) := by
            by_cases h1 : m = 1
            · refine .inr ⟨by subst h1; rfl, ?_⟩
              rw [beq_eq_false_iff_ne]; intro h; exact hsp ⟨h1, by omega⟩
            · left; rw [beq_eq_false_iff_ne]; omega
          clear hsp
          rcases hcase with h | ⟨h, h'⟩
          all_goals
            go_wp2_with (first | (go_at_call 82; with_reducible refine (K1.out _ HP2.out).mono ?_; rintro e w4 ⟨⟨rfl, j4, hP4, hl4⟩, ht4⟩) | (go_at_call 116; with_reducible refine (K2.out _).mono ?_; rintro e w5 ⟨rfl, hb5⟩))
            go_roundw
            case rel => 
              have hb := ((Below.refl w4.heap.size w4).alloc (Nat.le_refl _) (.cells #[.int .u8 c.toNat] 5)).next hb5
              exact ⟨m + 1, by omega, by go_num, 16 * N + hv, by go_num, HN16.out, j4, r, hP4.below hb, hl4, by rw [HHd'.out]; exact hW, (HT.out.trans ht4).next hb⟩
            case measure => simp [intOf]; omega
      · rw [ho] at K1 hW
        unfold OutU at K1
        clear hof ho
        by_cases hsp : m = 1 ∧ N = 13
        · have e := HS.out.2 hsp
          obtain ⟨rfl, rfl⟩ := hsp
          rw [e] at K1
          clear e HS
          go_wp2_with (go_at_call 82; with_reducible refine (K1.out _ HP2.out).mono ?_; rintro e w4 ⟨rfl, ht4⟩)
          exact ⟨rfl, by rw [← hW.out]; rfl, HT.out.trans ht4⟩
        · have e := HS.out.1 hsp
          rw [e, hexDL_lit] at K1
          clear e HS
          have hcase : ((m : Int) == 1) = false ∨ (((m : Int) == 1) = true ∧ ((N : Int) == 13) = false) := by
            by_cases h1 : m = 1
            · refine .inr ⟨by subst h1; rfl, ?_⟩
              rw [beq_eq_false_iff_ne]; intro h; exact hsp ⟨h1, by omega⟩
            · left; rw [beq_eq_false_iff_ne]; omega
          clear hsp hd hN
          rcases hcase with h | ⟨h, h'⟩
          all_goals
            go_wp2_with (go_at_call 82; with_reducible refine (K1.out _ HP2.out).mono ?_; rintro e w4 ⟨rfl, ht4⟩)
            exact ⟨rfl, by rw [← hW.out]; rfl, HT.out.trans ht4⟩
    · have hm4 : m = 4 := by omega
      subst hm4
      go_wp2
      go_ret
      have hW' : hexB two l = .ok N q := by rw [← hW.out]; rfl
      rw [hW']
      exact ⟨⟨rfl, j, HP2.out, HL2.out⟩, HT.out⟩
end Go.Proofs.YthkpbgpgcpkiiaaGreatDoor
