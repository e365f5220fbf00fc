/- A hexadecimal digit's number by strconv.ParseInt (jsonx). Conditions: none. -/
import Derived.Test.YthkpbgpgcpkiiaaGreatDoorJParB
import Derived.Deep.DeepCutAuto
namespace Go.Proofs.YthkpbgpgcpkiiaaGreatDoor
open Go.RowKit
set_option linter.unusedVariables false
set_option linter.unusedSimpArgs false
set_option maxRecDepth 100000

theorem hex_facts (c : UInt8) (h : hexDL.contains c = true) : (48 ≤ c.toNat ∧ c.toNat ≤ 57 ∧ hexVal c = c.toNat - 48) ∨
    (57 < c.toNat ∧ c.toNat ≠ 95 ∧ bits .or .u8 (c.toNat : Int) 32 = (hexVal c + 87 : Nat) ∧ 10 ≤ hexVal c ∧ hexVal c ≤ 15) := by
  have : ∀ n : Nat, n < 256 → hexDL.contains (UInt8.ofNat n) = true → (48 ≤ (UInt8.ofNat n).toNat ∧ (UInt8.ofNat n).toNat ≤ 57 ∧ hexVal (UInt8.ofNat n) = (UInt8.ofNat n).toNat - 48) ∨
      (57 < (UInt8.ofNat n).toNat ∧ (UInt8.ofNat n).toNat ≠ 95 ∧ bits .or .u8 ((UInt8.ofNat n).toNat : Int) 32 = (hexVal (UInt8.ofNat n) + 87 : Nat) ∧ 10 ≤ hexVal (UInt8.ofNat n) ∧ hexVal (UInt8.ofNat n) ≤ 15) := by decide
  have := this c.toNat c.toNat_lt; rw [UInt8.ofNat_toNat] at this; exact this h
set_option maxHeartbeats 4000000 in
theorem puint_any (c : UInt8) (hc : hexDL.contains c = true) (w : World) :
    Calls Tryz.prog 120 #[.string (ofL [c]), .int .i64 16, .int .i64 64] w fun e w' => e = .returned (.tuple #[.int .u64 (hexVal c : Int), .nilIface]) ∧ Below w.heap.size w w' := by
  have kb := fun wx => run_bytes_of_string (P := Tryz.prog) wx 9 46 5 (ofL [c]) Tryz.underlying9 Tryz.underlying46 Tryz.underlying5
  have hn : (ofL [c]).size = 1 := size_ofL [c]
  rw [hn] at kb
  have hemp : (ofL [c]).toList.isEmpty = false := by rw [toL_ofL]; rfl
  have HF := Lib.hid (hex_facts c hc)
  go_enter Tryz.func120, Tryz.ntmps120
  go_wp2
  have hR := rd_bytes' (w := w) (wc := w) (s := ofL [c]) (n := 1) (e := 5) (fr := ((bytesRow (ofL [c]) (grownCap w 1 0 5)).size, (bytesRow (ofL [c]) (grownCap w 1 0 5)).size + 1)) hn (by omega)
  rw [toL_ofL] at hR
  have hb := ((Below.refl w.heap.size w).alloc (Nat.le_refl _) (.cells (bytesRow (ofL [c]) (grownCap w 1 0 5)) 5 ((bytesRow (ofL [c]) (grownCap w 1 0 5)).size, (bytesRow (ofL [c]) (grownCap w 1 0 5)).size + 1))).drew
  generalize (w.alloc (.cells (bytesRow (ofL [c]) (grownCap w 1 0 5)) 5 ((bytesRow (ofL [c]) (grownCap w 1 0 5)).size, (bytesRow (ofL [c]) (grownCap w 1 0 5)).size + 1))).drew = w1 at hR hb ⊢
  generalize grownCap w 1 0 5 = cap at hR ⊢
  obtain ⟨b', o, hA, hcell⟩ := hR.byteAt (l := [c]) (k := 0) (x := c) rfl
  cases hA
  have hmax : IntKind.u64.wrap (IntKind.u64.wrap 18446744073709551616 - 1) = 18446744073709551615 := rfl
  rw [hmax]
  clear kb hR hc hmax
  go_loopw [12, 13, 101] (fun us n i wr => ∃ k : Nat, k ≤ 1 ∧ i = .int .i64 k ∧ us = .bool false ∧ n = .int .u64 ((if k = 0 then 0 else hexVal c : Nat) : Int) ∧ w1 = wr) (fun us n i wr => 1 - (intOf i).toNat)
  case atStart => exact ⟨0, Nat.zero_le _, rfl, rfl, rfl, rfl⟩
  case round =>
    obtain ⟨k, hk, rfl, rfl, rfl, rfl⟩ := hrel
    by_cases hlt : k = 0
    · subst hlt
      simp only [if_true]
      rcases HF.out with ⟨h1, h2, h3⟩ | ⟨h1, h2, h3, h4, h5⟩
      · have HX := Lib.hid h3
        have q0 : ((c.toNat : Int) == 95) = false := by rw [beq_eq_false_iff_ne]; omega
        have q1 : (48 : Int) ≤ c.toNat := by omega
        have q2 : (c.toNat : Int) ≤ 57 := by omega
        clear h3
        go_wp2
        · refine ⟨⟨1, Nat.le_refl _, rfl, rfl, ?_, trivial⟩, by simp [intOf]⟩
          rw [if_neg (by decide), HX.out]
          rw [show ((c.toNat - 48 : Nat) : Int) = (c.toNat : Int) - 48 by omega]
      · have HX := Lib.hid h3
        generalize hexVal c = hv at *
        have q0 : ((c.toNat : Int) == 95) = false := by rw [beq_eq_false_iff_ne]; omega
        have q1 : (48 : Int) ≤ c.toNat := by omega
        have q2 : ¬ (c.toNat : Int) ≤ 57 := by omega
        clear h3
        go_wp2_with (go_at_call 125; refine (Tryz.internal_strconv_lower c.toNat _).mono ?_; rintro e w5 ⟨rfl, rfl⟩; rw [HX.out])
        · refine ⟨⟨1, Nat.le_refl _, rfl, rfl, ?_, trivial⟩, by simp [intOf]⟩
          rw [if_neg (by decide), show ((hv : Nat) : Int) + 87 - 97 + 10 = (hv : Int) by omega]
    · have hk1 : k = 1 := by omega
      subst hk1
      go_wp2
      exact bodyPost_ret (v := .tuple #[.int .u64 (hexVal c : Int), .nilIface]) (by simp [results, Tryz.results120, go_sem]) rfl ⟨rfl, hb⟩
theorem pint_any (c : UInt8) (hc : hexDL.contains c = true) (w : World) :
    Calls Tryz.prog 118 #[.string (ofL [c]), .int .i64 16, .int .i64 64] w fun e w' => e = .returned (.tuple #[.int .i64 (hexVal c : Int), .nilIface]) ∧ Below w.heap.size w w' := by
  have hemp : (ofL [c]).toList.isEmpty = false := by rw [toL_ofL]; rfl
  have hn : (ofL [c]).size = 1 := size_ofL [c]
  have K1 := Lib.hid (fun w => puint_any c hc w)
  have hg : (ofL [c])[0]'(by rw [hn]; decide) = c := by rw [getI]; rfl
  have hlt : hexVal c ≤ 15 ∧ ((c.toNat : Int) == 43) = false ∧ ((c.toNat : Int) == 45) = false := by
    rcases hex_facts c hc with ⟨h1, h2, h3⟩ | ⟨h1, h2, h3, h4, h5⟩
    · exact ⟨by omega, by rw [beq_eq_false_iff_ne]; omega, by rw [beq_eq_false_iff_ne]; omega⟩
    · exact ⟨by omega, by rw [beq_eq_false_iff_ne]; omega, by rw [beq_eq_false_iff_ne]; omega⟩
  obtain ⟨q1, q2, q3⟩ := hlt
  generalize hexVal c = hv at *
  go_enter Tryz.func118, Tryz.ntmps118
  go_upto_region 14 with (go_at_call 120; with_reducible refine (K1.out _).mono ?_; rintro e w4 ⟨rfl, hb4⟩)
  have w1 : IntKind.u64.wrap (1 * 2 ^ 63) = 9223372036854775808 := by decide
  have q4 : ¬ ((hv : Int) ≥ 9223372036854775808) := by omega
  go_upto_region 17 with fail
  clear w1
  generalize (9223372036854775808 : Int) = M at q4 ⊢
  go_wp2_with fail
  exact bodyPost_ret (v := .tuple #[.int .i64 (hv : Int), .nilIface]) (by simp [results, Tryz.results118, go_sem]) rfl ⟨rfl, hb4⟩
theorem hexpub_any (c : UInt8) (hc : hexDL.contains c = true) (w : World) :
    Calls Tryz.prog 116 #[.string (ofL [c]), .int .i64 16, .int .i64 64] w fun e w' => e = .returned (.tuple #[.int .i64 (hexVal c : Int), .nilIface]) ∧ Below w.heap.size w w' := by
  have K1 := Lib.hid (fun w => pint_any c hc w)
  generalize hexVal c = hv at *
  go_enter Tryz.func116, Tryz.ntmps116
  go_wp2_with (go_at_call 118; with_reducible refine (K1.out _).mono ?_; rintro e w4 ⟨rfl, hb4⟩)
  exact bodyPost_ret (v := .tuple #[.int .i64 (hv : Int), .nilIface]) (by simp [results, Tryz.results116, go_sem]) rfl ⟨rfl, hb4⟩
end Go.Proofs.YthkpbgpgcpkiiaaGreatDoor
