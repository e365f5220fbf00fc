/- How long a character is that begins with a byte (wire). Conditions: none. -/
import Derived.Test.YtigdjnfnkjfkmaaGreatDoorJParF
namespace Go.Proofs.YtigdjnfnkjfkmaaGreatDoor
open Go.RowKit
set_option linter.unusedVariables false
set_option linter.unusedSimpArgs false
set_option maxRecDepth 100000

def longN (n : Nat) : Nat × Nat × Nat :=
  if n < 128 then (1, 128, 191) else if 194 ≤ n ∧ n ≤ 223 then (2, 128, 191) else if n = 224 then (3, 160, 191) else if n = 237 then (3, 128, 159)
  else if 225 ≤ n ∧ n ≤ 239 then (3, 128, 191) else if n = 240 then (4, 144, 191) else if n = 244 then (4, 128, 143) else if 241 ≤ n ∧ n ≤ 243 then (4, 128, 191) else (0, 0, 0)
theorem longB_N (c : UInt8) : ((longB c).1, (longB c).2.1.toNat, (longB c).2.2.toNat) = longN c.toNat := by
  have : ∀ n : Nat, n < 256 → ((longB (UInt8.ofNat n)).1, (longB (UInt8.ofNat n)).2.1.toNat, (longB (UInt8.ofNat n)).2.2.toNat) = longN (UInt8.ofNat n).toNat := by decide
  have := this c.toNat c.toNat_lt; rwa [UInt8.ofNat_toNat] at this
def tripV (t : Nat × Nat × Nat) : Value := .tuple #[.int .i64 (t.1 : Int), .int .u8 (t.2.1 : Int), .int .u8 (t.2.2 : Int)]
set_option maxHeartbeats 2000000 in
theorem longN_any (n : Nat) (w : World) : Calls Tryz.prog 145 #[.int .u8 (n : Int)] w fun e w' => e = .returned (tripV (longN n)) ∧ w' = w := by
  generalize ht : longN n = t
  unfold longN at ht
  obtain ⟨z, hz⟩ : ∃ z : Int, (n : Int) = z := ⟨_, rfl⟩
  rw [hz]
  by_cases h0 : n < 128
  · rw [if_pos h0] at ht; subst ht
    have g : z < 128 := by omega
    clear hz h0
    go_enter Tryz.func145, Tryz.ntmps145
    go_wp2
    all_goals first | (exfalso; omega) | (exfalso; simp_all; done) | exact bodyPost_ret (v := .tuple #[.int .i64 1, .int .u8 128, .int .u8 191]) (by simp [results, Tryz.results145, go_sem]) rfl ⟨rfl, rfl⟩
  rw [if_neg h0] at ht
  by_cases h1 : 194 ≤ n ∧ n ≤ 223
  · rw [if_pos h1] at ht; subst ht
    have n0 : ¬ (z < 128) := by omega
    have g : z ≥ 194 ∧ z ≤ 223 := by omega
    clear hz h0 h1
    obtain ⟨g1, g2⟩ := g
    go_enter Tryz.func145, Tryz.ntmps145
    go_wp2
    all_goals first | (exfalso; omega) | (exfalso; simp_all; done) | exact bodyPost_ret (v := .tuple #[.int .i64 2, .int .u8 128, .int .u8 191]) (by simp [results, Tryz.results145, go_sem]) rfl ⟨rfl, rfl⟩
  rw [if_neg h1] at ht
  by_cases h2 : n = 224
  · rw [if_pos h2] at ht; subst ht
    have n0 : ¬ (z < 128) := by omega
    have n1 : ¬ (z ≥ 194 ∧ z ≤ 223) := by omega
    have g : z = 224 := by omega
    clear hz h0 h1 h2
    subst g
    go_enter Tryz.func145, Tryz.ntmps145
    go_wp2
    all_goals first | (exfalso; omega) | (exfalso; simp_all; done) | exact bodyPost_ret (v := .tuple #[.int .i64 3, .int .u8 160, .int .u8 191]) (by simp [results, Tryz.results145, go_sem]) rfl ⟨rfl, rfl⟩
  rw [if_neg h2] at ht
  by_cases h3 : n = 237
  · rw [if_pos h3] at ht; subst ht
    have n0 : ¬ (z < 128) := by omega
    have n1 : ¬ (z ≥ 194 ∧ z ≤ 223) := by omega
    have n2 : ¬ (z = 224) := by omega
    have g : z = 237 := by omega
    clear hz h0 h1 h2 h3
    subst g
    go_enter Tryz.func145, Tryz.ntmps145
    go_wp2
    all_goals first | (exfalso; omega) | (exfalso; simp_all; done) | exact bodyPost_ret (v := .tuple #[.int .i64 3, .int .u8 128, .int .u8 159]) (by simp [results, Tryz.results145, go_sem]) rfl ⟨rfl, rfl⟩
  rw [if_neg h3] at ht
  by_cases h4 : 225 ≤ n ∧ n ≤ 239
  · rw [if_pos h4] at ht; subst ht
    have n0 : ¬ (z < 128) := by omega
    have n1 : ¬ (z ≥ 194 ∧ z ≤ 223) := by omega
    have n2 : ¬ (z = 224) := by omega
    have n3 : ¬ (z = 237) := by omega
    have g : z ≥ 225 ∧ z ≤ 239 := by omega
    clear hz h0 h1 h2 h3 h4
    obtain ⟨g1, g2⟩ := g
    go_enter Tryz.func145, Tryz.ntmps145
    go_wp2
    all_goals first | (exfalso; omega) | (exfalso; simp_all; done) | exact bodyPost_ret (v := .tuple #[.int .i64 3, .int .u8 128, .int .u8 191]) (by simp [results, Tryz.results145, go_sem]) rfl ⟨rfl, rfl⟩
  rw [if_neg h4] at ht
  by_cases h5 : n = 240
  · rw [if_pos h5] at ht; subst ht
    have n0 : ¬ (z < 128) := by omega
    have n1 : ¬ (z ≥ 194 ∧ z ≤ 223) := by omega
    have n2 : ¬ (z = 224) := by omega
    have n3 : ¬ (z = 237) := by omega
    have n4 : ¬ (z ≥ 225 ∧ z ≤ 239) := by omega
    have g : z = 240 := by omega
    clear hz h0 h1 h2 h3 h4 h5
    subst g
    go_enter Tryz.func145, Tryz.ntmps145
    go_wp2
    all_goals first | (exfalso; omega) | (exfalso; simp_all; done) | exact bodyPost_ret (v := .tuple #[.int .i64 4, .int .u8 144, .int .u8 191]) (by simp [results, Tryz.results145, go_sem]) rfl ⟨rfl, rfl⟩
  rw [if_neg h5] at ht
  by_cases h6 : n = 244
  · rw [if_pos h6] at ht; subst ht
    have n0 : ¬ (z < 128) := by omega
    have n1 : ¬ (z ≥ 194 ∧ z ≤ 223) := by omega
    have n2 : ¬ (z = 224) := by omega
    have n3 : ¬ (z = 237) := by omega
    have n4 : ¬ (z ≥ 225 ∧ z ≤ 239) := by omega
    have n5 : ¬ (z = 240) := by omega
    have g : z = 244 := by omega
    clear hz h0 h1 h2 h3 h4 h5 h6
    subst g
    go_enter Tryz.func145, Tryz.ntmps145
    go_wp2
    all_goals first | (exfalso; omega) | (exfalso; simp_all; done) | exact bodyPost_ret (v := .tuple #[.int .i64 4, .int .u8 128, .int .u8 143]) (by simp [results, Tryz.results145, go_sem]) rfl ⟨rfl, rfl⟩
  rw [if_neg h6] at ht
  by_cases h7 : 241 ≤ n ∧ n ≤ 243
  · rw [if_pos h7] at ht; subst ht
    have n0 : ¬ (z < 128) := by omega
    have n1 : ¬ (z ≥ 194 ∧ z ≤ 223) := by omega
    have n2 : ¬ (z = 224) := by omega
    have n3 : ¬ (z = 237) := by omega
    have n4 : ¬ (z ≥ 225 ∧ z ≤ 239) := by omega
    have n5 : ¬ (z = 240) := by omega
    have n6 : ¬ (z = 244) := by omega
    have g : z ≥ 241 ∧ z ≤ 243 := by omega
    clear hz h0 h1 h2 h3 h4 h5 h6 h7
    obtain ⟨g1, g2⟩ := g
    go_enter Tryz.func145, Tryz.ntmps145
    go_wp2
    all_goals first | (exfalso; omega) | (exfalso; simp_all; done) | exact bodyPost_ret (v := .tuple #[.int .i64 4, .int .u8 128, .int .u8 191]) (by simp [results, Tryz.results145, go_sem]) rfl ⟨rfl, rfl⟩
  rw [if_neg h7] at ht
  subst ht
  have n0 : ¬ (z < 128) := by omega
  have n1 : ¬ (z ≥ 194 ∧ z ≤ 223) := by omega
  have n2 : ¬ (z = 224) := by omega
  have n3 : ¬ (z = 237) := by omega
  have n4 : ¬ (z ≥ 225 ∧ z ≤ 239) := by omega
  have n5 : ¬ (z = 240) := by omega
  have n6 : ¬ (z = 244) := by omega
  have n7 : ¬ (z ≥ 241 ∧ z ≤ 243) := by omega
  clear hz h0 h1 h2 h3 h4 h5 h6 h7
  go_enter Tryz.func145, Tryz.ntmps145
  go_wp2
  all_goals first | (exfalso; omega) | (exfalso; simp_all; done) | exact bodyPost_ret (v := .tuple #[.int .i64 0, .int .u8 0, .int .u8 0]) (by simp [results, Tryz.results145, go_sem]) rfl ⟨rfl, rfl⟩
end Go.Proofs.YtigdjnfnkjfkmaaGreatDoor
