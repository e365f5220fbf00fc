/- The program's small functions on bytes and texts (httpd): digit to token, value, lower. Conditions: the texts are short. -/
import Derived.Test.YtmhgnaemafohfaaGreatDoorRefH
namespace Go.Proofs.YtmhgnaemafohfaaGreatDoor
open Go.RowKit
set_option linter.unusedVariables false
set_option linter.unusedSimpArgs false
set_option maxRecDepth 100000

theorem digit_any (c : Int) (w : World) : Calls Tryz.prog 111 #[.int .u8 c] w fun e w' => e = .returned (.bool (decide (48 ≤ c) && decide (c ≤ 57))) ∧ w = w' := by
  by_cases h1 : 48 ≤ c <;> by_cases h2 : c ≤ 57
  all_goals
    go_enter Tryz.func111, Tryz.ntmps111
    go_wp2
    go_ret
    exact ⟨by simp [h1, h2], rfl⟩
theorem capital_any (c : Int) (w : World) : Calls Tryz.prog 99 #[.int .u8 c] w fun e w' => e = .returned (.bool (decide (65 ≤ c) && decide (c ≤ 90))) ∧ w = w' := by
  by_cases h1 : 65 ≤ c <;> by_cases h2 : c ≤ 90
  all_goals
    go_enter Tryz.func99, Tryz.ntmps99
    go_wp2
    go_ret
    exact ⟨by simp [h1, h2], rfl⟩
theorem seen_any (c : Int) (w : World) : Calls Tryz.prog 110 #[.int .u8 c] w fun e w' => e = .returned (.bool (decide (32 < c) && decide (c < 127))) ∧ w = w' := by
  by_cases h1 : 32 < c <;> by_cases h2 : c < 127
  all_goals
    go_enter Tryz.func110, Tryz.ntmps110
    go_wp2
    go_ret
    exact ⟨by simp [h1, h2], rfl⟩
theorem gap_any (c : Int) (w : World) : Calls Tryz.prog 118 #[.int .u8 c] w fun e w' => e = .returned (.bool (c == 32 || c == 9)) ∧ w = w' := by
  by_cases h1 : c = 32 <;> by_cases h2 : c = 9
  all_goals
    go_enter Tryz.func118, Tryz.ntmps118
    go_wp2
    go_ret
    exact ⟨by simp [h1, h2], rfl⟩
theorem gapB (c : UInt8) (w : World) : Calls Tryz.prog 118 #[.int .u8 c.toNat] w fun e w' => e = .returned (.bool (isB 5 c)) ∧ w = w' := gap_any c.toNat w
theorem digitB (c : UInt8) (w : World) : Calls Tryz.prog 111 #[.int .u8 c.toNat] w fun e w' => e = .returned (.bool (isB 1 c)) ∧ w = w' := digit_any c.toNat w
theorem capitalB (c : UInt8) (w : World) : Calls Tryz.prog 99 #[.int .u8 c.toNat] w fun e w' => e = .returned (.bool (isB 2 c)) ∧ w = w' := capital_any c.toNat w
theorem seenB (c : UInt8) (w : World) : Calls Tryz.prog 110 #[.int .u8 c.toNat] w fun e w' => e = .returned (.bool (isB 3 c)) ∧ w = w' := by
  have h := seen_any c.toNat w
  rwa [show (decide (32 < (c.toNat : Int)) && decide ((c.toNat : Int) < 127)) = isB 3 c by simp only [isB, inB]; rw [Bool.eq_iff_iff]; simp; omega] at h
theorem looseB (c : UInt8) (w : World) : Calls Tryz.prog 103 #[.int .u8 c.toNat] w fun e w' => e = .returned (.bool (isB 6 c)) ∧ w = w' := by
  have hk : isB 6 c = (isB 3 c || isB 5 c) := by simp only [isB, inB]; rw [Bool.eq_iff_iff]; simp; omega
  have Hk := Lib.hid hk
  clear hk
  cases h3 : isB 3 c
  all_goals
    have H3 := Lib.hid h3
    clear h3
    go_enter Tryz.func103, Tryz.ntmps103
    go_wp2_with (first | (go_at_call 110; refine (seenB c _).mono ?_; rintro e w' ⟨rfl, rfl⟩; rw [H3.out]) | (go_at_call 118; refine (gapB c _).mono ?_; rintro e w' ⟨rfl, rfl⟩))
    go_ret
    exact ⟨ret_bool (by rw [Hk.out, H3.out]; simp), rfl⟩
theorem tok_marks : ∀ c : UInt8, (c.toNat = 33 ∨ c.toNat = 35 ∨ c.toNat = 36 ∨ c.toNat = 37 ∨ c.toNat = 38 ∨ c.toNat = 39 ∨ c.toNat = 42 ∨ c.toNat = 43 ∨ c.toNat = 45 ∨ c.toNat = 46 ∨ c.toNat = 94 ∨ c.toNat = 95 ∨ c.toNat = 96 ∨ c.toNat = 124 ∨ c.toNat = 126) → isB 4 c = true := by
  intro c hc
  have hm : memB c marksL = true := by
    unfold memB marksL
    rw [List.contains_iff_mem]
    have q : ∀ d : UInt8, c.toNat = d.toNat → c = d := fun d h => UInt8.toNat.inj h
    simp only [List.mem_cons, List.not_mem_nil, or_false]
    rcases hc with h | h | h | h | h | h | h | h | h | h | h | h | h | h | h
    · exact .inl (q 33 h)
    · exact .inr (.inl (q 35 h))
    · exact .inr (.inr (.inl (q 36 h)))
    · exact .inr (.inr (.inr (.inl (q 37 h))))
    · exact .inr (.inr (.inr (.inr (.inl (q 38 h)))))
    · exact .inr (.inr (.inr (.inr (.inr (.inl (q 39 h))))))
    · exact .inr (.inr (.inr (.inr (.inr (.inr (.inl (q 42 h)))))))
    · exact .inr (.inr (.inr (.inr (.inr (.inr (.inr (.inl (q 43 h))))))))
    · exact .inr (.inr (.inr (.inr (.inr (.inr (.inr (.inr (.inl (q 45 h)))))))))
    · exact .inr (.inr (.inr (.inr (.inr (.inr (.inr (.inr (.inr (.inl (q 46 h))))))))))
    · exact .inr (.inr (.inr (.inr (.inr (.inr (.inr (.inr (.inr (.inr (.inl (q 94 h)))))))))))
    · exact .inr (.inr (.inr (.inr (.inr (.inr (.inr (.inr (.inr (.inr (.inr (.inl (q 95 h))))))))))))
    · exact .inr (.inr (.inr (.inr (.inr (.inr (.inr (.inr (.inr (.inr (.inr (.inr (.inl (q 96 h)))))))))))))
    · exact .inr (.inr (.inr (.inr (.inr (.inr (.inr (.inr (.inr (.inr (.inr (.inr (.inr (.inl (q 124 h))))))))))))))
    · exact .inr (.inr (.inr (.inr (.inr (.inr (.inr (.inr (.inr (.inr (.inr (.inr (.inr (.inr (q 126 h))))))))))))))
  simp [isB, hm]
theorem tok_all : ∀ n, n < 256 → (isB 1 (UInt8.ofNat n) = true → isB 4 (UInt8.ofNat n) = true) ∧
    ((decide (65 ≤ bits .andNot .u8 ((UInt8.ofNat n).toNat : Int) 32) && decide (bits .andNot .u8 ((UInt8.ofNat n).toNat : Int) 32 ≤ 90)) = true → isB 1 (UInt8.ofNat n) = false → memB (UInt8.ofNat n) marksL = false → isB 4 (UInt8.ofNat n) = decide (65 ≤ ((UInt8.ofNat n).toNat : Int))) ∧
    ((decide (65 ≤ bits .andNot .u8 ((UInt8.ofNat n).toNat : Int) 32) && decide (bits .andNot .u8 ((UInt8.ofNat n).toNat : Int) 32 ≤ 90)) = false → isB 1 (UInt8.ofNat n) = false → memB (UInt8.ofNat n) marksL = false → isB 4 (UInt8.ofNat n) = false) := by
  decide +kernel
theorem tok_not {c : UInt8} (h : ¬ (c.toNat = 33 ∨ c.toNat = 35 ∨ c.toNat = 36 ∨ c.toNat = 37 ∨ c.toNat = 38 ∨ c.toNat = 39 ∨ c.toNat = 42 ∨ c.toNat = 43 ∨ c.toNat = 45 ∨ c.toNat = 46 ∨ c.toNat = 94 ∨ c.toNat = 95 ∨ c.toNat = 96 ∨ c.toNat = 124 ∨ c.toNat = 126)) : memB c marksL = false := by
  cases hm : memB c marksL
  · rfl
  · exfalso; apply h
    unfold memB marksL at hm
    rw [List.contains_iff_mem] at hm
    simp only [List.mem_cons, List.not_mem_nil, or_false] at hm
    rcases hm with rfl | rfl | rfl | rfl | rfl | rfl | rfl | rfl | rfl | rfl | rfl | rfl | rfl | rfl | rfl <;> decide
theorem tokenishB (c : UInt8) (w : World) : Calls Tryz.prog 97 #[.int .u8 c.toNat] w fun e w' => e = .returned (.bool (isB 4 c)) ∧ w = w' := by
  by_cases hm : (c.toNat = 33 ∨ c.toNat = 35 ∨ c.toNat = 36 ∨ c.toNat = 37 ∨ c.toNat = 38 ∨ c.toNat = 39 ∨ c.toNat = 42 ∨ c.toNat = 43 ∨ c.toNat = 45 ∨ c.toNat = 46 ∨ c.toNat = 94 ∨ c.toNat = 95 ∨ c.toNat = 96 ∨ c.toNat = 124 ∨ c.toNat = 126)
  · have Hf := Lib.hid (tok_marks c hm)
    have Hm := Lib.hid hm
    clear hm
    go_enter Tryz.func97, Tryz.ntmps97
    go_wp2_with (first | (go_at_call 111; refine (digit_any _ _).mono ?_; rintro e w' ⟨rfl, rfl⟩) | (go_at_call 99; refine (capital_any _ _).mono ?_; rintro e w' ⟨rfl, rfl⟩))
    all_goals first
    | (go_ret; exact ⟨ret_bool Hf.out.symm, rfl⟩)
    | (exfalso; have := Hm.out; simp only [beq_eq_false_iff_ne] at *; omega)
  · have hn := tok_not hm
    obtain ⟨k1, k2, k3⟩ := tok_all c.toNat c.toNat_lt
    rw [UInt8.ofNat_toNat] at k1 k2 k3
    have n33 : ((c.toNat : Int) == 33) = false := by simp; omega
    have n35 : ((c.toNat : Int) == 35) = false := by simp; omega
    have n36 : ((c.toNat : Int) == 36) = false := by simp; omega
    have n37 : ((c.toNat : Int) == 37) = false := by simp; omega
    have n38 : ((c.toNat : Int) == 38) = false := by simp; omega
    have n39 : ((c.toNat : Int) == 39) = false := by simp; omega
    have n42 : ((c.toNat : Int) == 42) = false := by simp; omega
    have n43 : ((c.toNat : Int) == 43) = false := by simp; omega
    have n45 : ((c.toNat : Int) == 45) = false := by simp; omega
    have n46 : ((c.toNat : Int) == 46) = false := by simp; omega
    have n94 : ((c.toNat : Int) == 94) = false := by simp; omega
    have n95 : ((c.toNat : Int) == 95) = false := by simp; omega
    have n96 : ((c.toNat : Int) == 96) = false := by simp; omega
    have n124 : ((c.toNat : Int) == 124) = false := by simp; omega
    have n126 : ((c.toNat : Int) == 126) = false := by simp; omega
    clear hm
    cases h1 : isB 1 c
    case true =>
      have Hf := Lib.hid (k1 h1)
      have H1 := Lib.hid h1
      clear k1 k2 k3 h1 hn
      go_enter Tryz.func97, Tryz.ntmps97
      go_wp2_with (first | (go_at_call 111; refine (digitB c _).mono ?_; rintro e w' ⟨rfl, rfl⟩; rw [H1.out]) | (go_at_call 99; refine (capital_any _ _).mono ?_; rintro e w' ⟨rfl, rfl⟩))
      go_ret
      exact ⟨ret_bool Hf.out.symm, rfl⟩
    cases h2 : (decide (65 ≤ bits .andNot .u8 (c.toNat : Int) 32) && decide (bits .andNot .u8 (c.toNat : Int) 32 ≤ 90))
    · have Hf := Lib.hid (k3 h2 h1 hn)
      have H1 := Lib.hid h1
      have H2 := Lib.hid h2
      clear k1 k2 k3 h1 hn h2
      go_enter Tryz.func97, Tryz.ntmps97
      go_wp2_with (first | (go_at_call 111; refine (digitB c _).mono ?_; rintro e w' ⟨rfl, rfl⟩; rw [H1.out]) | (go_at_call 99; refine (capital_any _ _).mono ?_; rintro e w' ⟨rfl, rfl⟩; rw [H2.out]))
      go_ret
      exact ⟨ret_bool Hf.out.symm, rfl⟩
    · have Hf := Lib.hid (k2 h2 h1 hn)
      have H1 := Lib.hid h1
      have H2 := Lib.hid h2
      clear k1 k2 k3 h1 hn h2
      go_enter Tryz.func97, Tryz.ntmps97
      go_wp2_with (first | (go_at_call 111; refine (digitB c _).mono ?_; rintro e w' ⟨rfl, rfl⟩; rw [H1.out]) | (go_at_call 99; refine (capital_any _ _).mono ?_; rintro e w' ⟨rfl, rfl⟩; rw [H2.out]))
      go_ret
      exact ⟨ret_bool (by rw [Hf.out]), rfl⟩
end Go.Proofs.YtmhgnaemafohfaaGreatDoor
