/- A hexadecimal digit's number by strconv.ParseInt (jsonx). Conditions: none. Four hexadecimal digits (jsonx). Conditions: the text is short. -/
import Derived.Test.YtigdjnfnkjfkmaaGreatDoorJParA
import Derived.Deep.DeepCutAuto
import Derived.Test.YtigdjnfnkjfkmaaGreatDoorJParC
namespace Go.Proofs.YtigdjnfnkjfkmaaGreatDoor
open Go.RowKit
set_option linter.unusedVariables false
set_option linter.unusedSimpArgs false
set_option maxRecDepth 100000

theorem hex_facts (c : UInt8) (h : hexDL.contains c = true) : (48 ≤ c.toNat ∧ c.toNat ≤ 57 ∧ hexVal c = c.toNat - 48) ∨
    (57 < c.toNat ∧ c.toNat ≠ 95 ∧ bits .or .u8 (c.toNat : Int) 32 = (hexVal c + 87 : Nat) ∧ 10 ≤ hexVal c ∧ hexVal c ≤ 15) := by
  have : ∀ n : Nat, n < 256 → hexDL.contains (UInt8.ofNat n) = true → (48 ≤ (UInt8.ofNat n).toNat ∧ (UInt8.ofNat n).toNat ≤ 57 ∧ hexVal (UInt8.ofNat n) = (UInt8.ofNat n).toNat - 48) ∨
      (57 < (UInt8.ofNat n).toNat ∧ (UInt8.ofNat n).toNat ≠ 95 ∧ bits .or .u8 ((UInt8.ofNat n).toNat : Int) 32 = (hexVal (UInt8.ofNat n) + 87 : Nat) ∧ 10 ≤ hexVal (UInt8.ofNat n) ∧ hexVal (UInt8.ofNat n) ≤ 15) := by decide
  have := this c.toNat c.toNat_lt; rw [UInt8.ofNat_toNat] at this; exact this h
set_option maxHeartbeats 4000000 in
theorem puint_any (c : UInt8) (hc : hexDL.contains c = true) (w : World) :
    Calls Tryz.prog 183 #[.string (ofL [c]), .int .i64 16, .int .i64 64] w fun e w' => e = .returned (.tuple #[.int .u64 (hexVal c : Int), .nilIface]) ∧ Below w.heap.size w w' := by
  have kb := fun wx => run_bytes_of_string (P := Tryz.prog) wx 9 89 5 (ofL [c]) Tryz.underlying9 Tryz.underlying89 Tryz.underlying5
  have hn : (ofL [c]).size = 1 := size_ofL [c]
  rw [hn] at kb
  have hemp : (ofL [c]).toList.isEmpty = false := by rw [toL_ofL]; rfl
  have HF := Lib.hid (hex_facts c hc)
  go_enter Tryz.func183, Tryz.ntmps183
  go_wp2
  have hR := rd_bytes' (w := w) (wc := w) (s := ofL [c]) (n := 1) (e := 5) (fr := ((bytesRow (ofL [c]) (grownCap w 1 0 5)).size, (bytesRow (ofL [c]) (grownCap w 1 0 5)).size + 1)) hn (by omega)
  rw [toL_ofL] at hR
  have hb := ((Below.refl w.heap.size w).alloc (Nat.le_refl _) (.cells (bytesRow (ofL [c]) (grownCap w 1 0 5)) 5 ((bytesRow (ofL [c]) (grownCap w 1 0 5)).size, (bytesRow (ofL [c]) (grownCap w 1 0 5)).size + 1))).drew
  generalize (w.alloc (.cells (bytesRow (ofL [c]) (grownCap w 1 0 5)) 5 ((bytesRow (ofL [c]) (grownCap w 1 0 5)).size, (bytesRow (ofL [c]) (grownCap w 1 0 5)).size + 1))).drew = w1 at hR hb ⊢
  generalize grownCap w 1 0 5 = cap at hR ⊢
  obtain ⟨b', o, hA, hcell⟩ := hR.byteAt (l := [c]) (k := 0) (x := c) rfl
  cases hA
  have hmax : IntKind.u64.wrap (IntKind.u64.wrap 18446744073709551616 - 1) = 18446744073709551615 := rfl
  rw [hmax]
  clear kb hR hc hmax
  go_loopw [12, 13, 101] (fun us n i wr => ∃ k : Nat, k ≤ 1 ∧ i = .int .i64 k ∧ us = .bool false ∧ n = .int .u64 ((if k = 0 then 0 else hexVal c : Nat) : Int) ∧ w1 = wr) (fun us n i wr => 1 - (intOf i).toNat)
  case atStart => exact ⟨0, Nat.zero_le _, rfl, rfl, rfl, rfl⟩
  case round =>
    obtain ⟨k, hk, rfl, rfl, rfl, rfl⟩ := hrel
    by_cases hlt : k = 0
    · subst hlt
      simp only [if_true]
      rcases HF.out with ⟨h1, h2, h3⟩ | ⟨h1, h2, h3, h4, h5⟩
      · have HX := Lib.hid h3
        have q0 : ((c.toNat : Int) == 95) = false := by rw [beq_eq_false_iff_ne]; omega
        have q1 : (48 : Int) ≤ c.toNat := by omega
        have q2 : (c.toNat : Int) ≤ 57 := by omega
        clear h3
        go_wp2
        · refine ⟨⟨1, Nat.le_refl _, rfl, rfl, ?_, trivial⟩, by simp [intOf]⟩
          rw [if_neg (by decide), HX.out]
          rw [show ((c.toNat - 48 : Nat) : Int) = (c.toNat : Int) - 48 by omega]
      · have HX := Lib.hid h3
        generalize hexVal c = hv at *
        have q0 : ((c.toNat : Int) == 95) = false := by rw [beq_eq_false_iff_ne]; omega
        have q1 : (48 : Int) ≤ c.toNat := by omega
        have q2 : ¬ (c.toNat : Int) ≤ 57 := by omega
        clear h3
        go_wp2_with (go_at_call 188; refine (Tryz.internal_strconv_lower c.toNat _).mono ?_; rintro e w5 ⟨rfl, rfl⟩; rw [HX.out])
        · refine ⟨⟨1, Nat.le_refl _, rfl, rfl, ?_, trivial⟩, by simp [intOf]⟩
          rw [if_neg (by decide), show ((hv : Nat) : Int) + 87 - 97 + 10 = (hv : Int) by omega]
    · have hk1 : k = 1 := by omega
      subst hk1
      go_wp2
      exact bodyPost_ret (v := .tuple #[.int .u64 (hexVal c : Int), .nilIface]) (by simp [results, Tryz.results183, go_sem]) rfl ⟨rfl, hb⟩
theorem pint_any (c : UInt8) (hc : hexDL.contains c = true) (w : World) :
    Calls Tryz.prog 179 #[.string (ofL [c]), .int .i64 16, .int .i64 64] w fun e w' => e = .returned (.tuple #[.int .i64 (hexVal c : Int), .nilIface]) ∧ Below w.heap.size w w' := by
  have hemp : (ofL [c]).toList.isEmpty = false := by rw [toL_ofL]; rfl
  have hn : (ofL [c]).size = 1 := size_ofL [c]
  have K1 := Lib.hid (fun w => puint_any c hc w)
  have hg : (ofL [c])[0]'(by rw [hn]; decide) = c := by rw [getI]; rfl
  have hlt : hexVal c ≤ 15 ∧ ((c.toNat : Int) == 43) = false ∧ ((c.toNat : Int) == 45) = false := by
    rcases hex_facts c hc with ⟨h1, h2, h3⟩ | ⟨h1, h2, h3, h4, h5⟩
    · exact ⟨by omega, by rw [beq_eq_false_iff_ne]; omega, by rw [beq_eq_false_iff_ne]; omega⟩
    · exact ⟨by omega, by rw [beq_eq_false_iff_ne]; omega, by rw [beq_eq_false_iff_ne]; omega⟩
  obtain ⟨q1, q2, q3⟩ := hlt
  generalize hexVal c = hv at *
  go_enter Tryz.func179, Tryz.ntmps179
  go_upto_region 14 with (go_at_call 183; with_reducible refine (K1.out _).mono ?_; rintro e w4 ⟨rfl, hb4⟩)
  have w1 : IntKind.u64.wrap (1 * 2 ^ 63) = 9223372036854775808 := by decide
  have q4 : ¬ ((hv : Int) ≥ 9223372036854775808) := by omega
  go_upto_region 17 with fail
  clear w1
  generalize (9223372036854775808 : Int) = M at q4 ⊢
  go_wp2_with fail
  exact bodyPost_ret (v := .tuple #[.int .i64 (hv : Int), .nilIface]) (by simp [results, Tryz.results179, go_sem]) rfl ⟨rfl, hb4⟩
theorem hexpub_any (c : UInt8) (hc : hexDL.contains c = true) (w : World) :
    Calls Tryz.prog 169 #[.string (ofL [c]), .int .i64 16, .int .i64 64] w fun e w' => e = .returned (.tuple #[.int .i64 (hexVal c : Int), .nilIface]) ∧ Below w.heap.size w w' := by
  have K1 := Lib.hid (fun w => pint_any c hc w)
  generalize hexVal c = hv at *
  go_enter Tryz.func169, Tryz.ntmps169
  go_wp2_with (go_at_call 179; with_reducible refine (K1.out _).mono ?_; rintro e w4 ⟨rfl, hb4⟩)
  exact bodyPost_ret (v := .tuple #[.int .i64 (hv : Int), .nilIface]) (by simp [results, Tryz.results169, go_sem]) rfl ⟨rfl, hb4⟩
end Go.Proofs.YtigdjnfnkjfkmaaGreatDoor
namespace Go.Proofs.YtigdjnfnkjfkmaaGreatDoor
open Go.RowKit
set_option linter.unusedVariables false
set_option linter.unusedSimpArgs false
set_option maxRecDepth 100000

def numI (n : Nat) (e : Ending) (_ : World) : Prop := e = .returned (.int .i64 (n : Int))
theorem hexDL_lit : ofL hexDL = ⟨#[48, 49, 50, 51, 52, 53, 54, 55, 56, 57, 97, 98, 99, 100, 101, 102, 65, 66, 67, 68, 69, 70]⟩ := rfl
set_option maxHeartbeats 4000000 in
theorem hex_any (bp : Nat) (s : ByteArray) (two : B) (h2 : ∀ c, two.contains c = true → hexDL.contains c = true) (k : Nat) (l : B) (w : World) (hP : PC w bp s k) (hl : At s k l) (hs : s.size ≤ 65536) :
    Calls Tryz.prog 146 #[.pointer (some ⟨bp, 0, none⟩), .string (ofL two)] w fun e w' => OutU bp s numI e w' (hexB two l) ∧ Touch (fun j => j = bp) w w' := by
  have HP := Lib.hid hP
  have HL := Lib.hid hl
  have H2 := Lib.hid h2
  clear hP hl h2
  go_enter Tryz.func146, Tryz.ntmps146
  go_wp2
  go_loopw [5, 10] (fun n i wr => ∃ m : Nat, m ≤ 4 ∧ i = .int .i64 m ∧ ∃ N : Nat, n = .int .i64 N ∧ N < 16 ^ m ∧ ∃ j q, PC wr bp s j ∧ At s j q ∧ Hid (hexGo two (4 - m) N q = hexB two l) ∧ Touch (fun k => k = bp) w wr) (fun _ i _ => 4 - (intOf i).toNat)
  case atStart => exact ⟨0, Nat.zero_le _, rfl, 0, rfl, by decide, k, l, HP.out, HL.out, rfl, Touch.refl _ _⟩
  case round =>
    obtain ⟨m, hm, rfl, N, rfl, hN, j, q, hP2, hl2, hW, ht⟩ := hrel
    have HP2 := Lib.hid hP2
    have HL2 := Lib.hid hl2
    have HT := Lib.hid ht
    clear hP2 hl2 ht
    by_cases hlt : m < 4
    · obtain ⟨d, hd⟩ : ∃ d, 4 - m = d + 1 := ⟨3 - m, by omega⟩
      rw [hd, hexGo_step] at hW
      have hNs : N < 65536 := by
        have : 16 ^ m ≤ 16 ^ 4 := Nat.pow_le_pow_right (by decide) hm
        omega
      have K1 := Lib.hid (fun w hP => one_any bp s (hexOf two d N) j q w hP HL2.out hs)
      have hof : ∀ c, (hexOf two d N).contains c = true → hexDL.contains c = true := by
        unfold hexOf; split
        · exact H2.out
        · exact fun c h => h
      have HS : Hid ((¬ (m = 1 ∧ N = 13) → hexOf two d N = hexDL) ∧ (m = 1 ∧ N = 13 → hexOf two d N = two)) := by
        refine ⟨fun h => ?_, fun h => ?_⟩
        · unfold hexOf; rw [if_neg (fun k => h ⟨by omega, k.2⟩)]
        · unfold hexOf; rw [if_pos ⟨by omega, h.2⟩]
      rcases ho : oneB (hexOf two d N) q with ⟨c, r⟩ | ⟨r, e⟩
      · have hcc := hof c (oneB_ok ho).2
        have hle := hexVal_le hcc
        have K2 := Lib.hid (fun w => hexpub_any c hcc w)
        rw [ho] at K1 hW
        unfold OutU byteV at K1
        have kc := fun wx => conv_one 89 9 5 Tryz.underlying89 Tryz.underlying5 Tryz.underlying9 c wx
        have hN16 : 16 * N + hexVal c < 16 ^ (m + 1) := by rw [Nat.pow_succ]; omega
        have hd' : 4 - (m + 1) = d := by omega
        simp only [] at hW
        generalize hexVal c = hv at *
        clear ho hof hcc
        have HN16 := Lib.hid hN16
        have HHd := Lib.hid hd
        have HHd' := Lib.hid hd'
        clear hN16 hd hd' hN
        by_cases hsp : m = 1 ∧ N = 13
        · have e := HS.out.2 hsp
          obtain ⟨rfl, rfl⟩ := hsp
          rw [e] at K1
          clear e HS
          go_wp2_with (first | (go_at_call 129; with_reducible refine (K1.out _ HP2.out).mono ?_; rintro e w4 ⟨⟨rfl, j4, hP4, hl4⟩, ht4⟩) | (go_at_call 169; with_reducible refine (K2.out _).mono ?_; rintro e w5 ⟨rfl, hb5⟩))
          go_roundw
          case rel => 
            have hb := ((Below.refl w4.heap.size w4).alloc (Nat.le_refl _) (.cells #[.int .u8 c.toNat] 5)).next hb5
            exact ⟨2, by omega, by go_num, 16 * 13 + hv, by go_num, HN16.out, j4, r, hP4.below hb, hl4, by rw [HHd'.out]; exact hW, (HT.out.trans ht4).next hb⟩
          case measure => simp [intOf]
        · have e := HS.out.1 hsp
          rw [e, hexDL_lit] at K1
          clear e HS
          have hcase : ((m : Int) == 1) = false ∨ (((m : Int) == 1) = true ∧ ((N : Int) == 13) = false) := by
            by_cases h1 : m = 1
            · refine .inr ⟨by subst h1; rfl, ?_⟩
              rw [beq_eq_false_iff_ne]; intro h; exact hsp ⟨h1, by omega⟩
            · left; rw [beq_eq_false_iff_ne]; omega
          clear hsp
          rcases hcase with h | ⟨h, h'⟩
          all_goals
            go_wp2_with (first | (go_at_call 129; with_reducible refine (K1.out _ HP2.out).mono ?_; rintro e w4 ⟨⟨rfl, j4, hP4, hl4⟩, ht4⟩) | (go_at_call 169; with_reducible refine (K2.out _).mono ?_; rintro e w5 ⟨rfl, hb5⟩))
            go_roundw
            case rel => 
              have hb := ((Below.refl w4.heap.size w4).alloc (Nat.le_refl _) (.cells #[.int .u8 c.toNat] 5)).next hb5
              exact ⟨m + 1, by omega, by go_num, 16 * N + hv, by go_num, HN16.out, j4, r, hP4.below hb, hl4, by rw [HHd'.out]; exact hW, (HT.out.trans ht4).next hb⟩
            case measure => simp [intOf]; omega
      · rw [ho] at K1 hW
        unfold OutU at K1
        clear hof ho
        by_cases hsp : m = 1 ∧ N = 13
        · have e := HS.out.2 hsp
          obtain ⟨rfl, rfl⟩ := hsp
          rw [e] at K1
          clear e HS
          go_wp2_with (go_at_call 129; with_reducible refine (K1.out _ HP2.out).mono ?_; rintro e w4 ⟨rfl, ht4⟩)
          exact ⟨rfl, by rw [← hW.out]; rfl, HT.out.trans ht4⟩
        · have e := HS.out.1 hsp
          rw [e, hexDL_lit] at K1
          clear e HS
          have hcase : ((m : Int) == 1) = false ∨ (((m : Int) == 1) = true ∧ ((N : Int) == 13) = false) := by
            by_cases h1 : m = 1
            · refine .inr ⟨by subst h1; rfl, ?_⟩
              rw [beq_eq_false_iff_ne]; intro h; exact hsp ⟨h1, by omega⟩
            · left; rw [beq_eq_false_iff_ne]; omega
          clear hsp hd hN
          rcases hcase with h | ⟨h, h'⟩
          all_goals
            go_wp2_with (go_at_call 129; with_reducible refine (K1.out _ HP2.out).mono ?_; rintro e w4 ⟨rfl, ht4⟩)
            exact ⟨rfl, by rw [← hW.out]; rfl, HT.out.trans ht4⟩
    · have hm4 : m = 4 := by omega
      subst hm4
      go_wp2
      go_ret
      have hW' : hexB two l = .ok N q := by rw [← hW.out]; rfl
      rw [hW']
      exact ⟨⟨rfl, j, HP2.out, HL2.out⟩, HT.out⟩
end Go.Proofs.YtigdjnfnkjfkmaaGreatDoor
