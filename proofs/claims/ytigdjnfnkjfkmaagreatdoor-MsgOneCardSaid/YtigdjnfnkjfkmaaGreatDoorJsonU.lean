/- JSON: escapes and what they tell. Conditions: none. -/
import Derived.Test.YtigdjnfnkjfkmaaGreatDoorJsonA
namespace Go.Proofs.YtigdjnfnkjfkmaaGreatDoor
set_option linter.unusedVariables false
set_option linter.unusedSimpArgs false
set_option maxRecDepth 100000

theorem oneB_ok {of l : B} {c : UInt8} {r : B} (h : oneB of l = .ok c r) : l = c :: r ∧ of.contains c = true := by
  cases l with
  | nil => cases h
  | cons d q =>
    simp only [oneB] at h
    split at h
    · rename_i hc
      simp only [PR.ok.injEq] at h
      obtain ⟨rfl, rfl⟩ := h
      exact ⟨rfl, hc⟩
    · cases h
theorem hexVal_le {c : UInt8} (h : hexDL.contains c = true) : hexVal c ≤ 15 := by
  have : ∀ n : Nat, n < 256 → hexDL.contains (UInt8.ofNat n) = true → hexVal (UInt8.ofNat n) ≤ 15 := by decide
  have := this c.toNat c.toNat_lt; rw [UInt8.ofNat_toNat] at this; exact this h
/-- What a digit may be. -/
def hexOf (two : B) (m n : Nat) : B := if m = 2 ∧ n = 13 then two else hexDL
theorem hexGo_step (two : B) (m n : Nat) (l : B) : hexGo two (m + 1) n l = match oneB (hexOf two m n) l with
    | .fail r e => .fail r e
    | .ok c r => hexGo two m (16 * n + hexVal c) r := by
  rw [hexGo]; rfl
theorem hex4 {two l r : B} {n : Nat} (h2 : ∀ c, two.contains c = true → hexDL.contains c = true) (h : hexB two l = .ok n r) : ∃ c0 c1 q a b, l = c0 :: c1 :: q ∧ n = 4096 * hexVal c0 + 256 * hexVal c1 + 16 * a + b ∧ hexVal c0 ≤ 15 ∧ hexVal c1 ≤ 15 ∧ a ≤ 15 ∧ b ≤ 15 ∧
    (hexVal c0 = 13 → two.contains c1 = true) := by
  unfold hexB at h
  have hin : ∀ m k c, (hexOf two m k).contains c = true → hexDL.contains c = true := by
    intro m k c; unfold hexOf; split
    · exact h2 c
    · exact id
  rw [hexGo_step] at h
  rcases o0 : oneB (hexOf two 3 0) l with ⟨c0, r0⟩ | ⟨r0, e⟩
  · rw [o0] at h; simp only [] at h
    obtain ⟨rfl, m0⟩ := oneB_ok o0
    have v0 := hexVal_le (hin _ _ _ m0)
    rw [hexGo_step] at h
    rcases o1 : oneB (hexOf two 2 (16 * 0 + hexVal c0)) r0 with ⟨c1, r1⟩ | ⟨r1, e⟩
    · rw [o1] at h; simp only [] at h
      obtain ⟨rfl, m1⟩ := oneB_ok o1
      have v1 := hexVal_le (hin _ _ _ m1)
      rw [hexGo_step] at h
      rcases o2 : oneB (hexOf two 1 (16 * (16 * 0 + hexVal c0) + hexVal c1)) r1 with ⟨c2, r2⟩ | ⟨r2, e⟩
      · rw [o2] at h; simp only [] at h
        have v2 := hexVal_le (hin _ _ _ (oneB_ok o2).2)
        rw [hexGo_step] at h
        rcases o3 : oneB (hexOf two 0 (16 * (16 * (16 * 0 + hexVal c0) + hexVal c1) + hexVal c2)) r2 with ⟨c3, r3⟩ | ⟨r3, e⟩
        · rw [o3] at h; simp only [hexGo, PR.ok.injEq] at h
          have v3 := hexVal_le (hin _ _ _ (oneB_ok o3).2)
          refine ⟨c0, c1, r1, hexVal c2, hexVal c3, rfl, by omega, v0, v1, v2, v3, fun e => ?_⟩
          unfold hexOf at m1
          rw [if_pos ⟨rfl, by omega⟩] at m1; exact m1
        · rw [o3] at h; cases h
      · rw [o2] at h; cases h
    · rw [o1] at h; cases h
  · rw [o0] at h; cases h
theorem lo_in : ∀ c, loTwo.contains c = true → hexDL.contains c = true := by
  intro c; have : ∀ n : Nat, n < 256 → loTwo.contains (UInt8.ofNat n) = true → hexDL.contains (UInt8.ofNat n) = true := by decide
  have := this c.toNat c.toNat_lt; rwa [UInt8.ofNat_toNat] at this
theorem hi_in : ∀ c, hiTwo.contains c = true → hexDL.contains c = true := by
  intro c; have : ∀ n : Nat, n < 256 → hiTwo.contains (UInt8.ofNat n) = true → hexDL.contains (UInt8.ofNat n) = true := by decide
  have := this c.toNat c.toNat_lt; rwa [UInt8.ofNat_toNat] at this
theorem lo_val : ∀ c, loTwo.contains c = true → hexVal c ≤ 11 := by
  intro c; have : ∀ n : Nat, n < 256 → loTwo.contains (UInt8.ofNat n) = true → hexVal (UInt8.ofNat n) ≤ 11 := by decide
  have := this c.toNat c.toNat_lt; rwa [UInt8.ofNat_toNat] at this
theorem hi_val : ∀ c, hiTwo.contains c = true → 12 ≤ hexVal c := by
  intro c; have : ∀ n : Nat, n < 256 → hiTwo.contains (UInt8.ofNat n) = true → 12 ≤ hexVal (UInt8.ofNat n) := by decide
  have := this c.toNat c.toNat_lt; rwa [UInt8.ofNat_toNat] at this
theorem hexlo {l r : B} {n : Nat} (h : hexB loTwo l = .ok n r) : n < 56320 ∨ (57344 ≤ n ∧ n < 65536) := by
  obtain ⟨c0, c1, q, a, b, -, hn, v0, v1, va, vb, ht⟩ := hex4 lo_in h
  by_cases h13 : hexVal c0 = 13
  · have := lo_val _ (ht h13); omega
  · omega
theorem hexhi {d : UInt8} {l r : B} {n : Nat} (hd : d = 100 ∨ d = 68) (h : hexB hiTwo (d :: l) = .ok n r) : 56320 ≤ n ∧ n < 57344 := by
  obtain ⟨c0, c1, q, a, b, e, hn, v0, v1, va, vb, ht⟩ := hex4 hi_in h
  simp only [List.cons.injEq] at e
  obtain ⟨rfl, -⟩ := e
  have h13 : hexVal d = 13 := by rcases hd with rfl | rfl <;> rfl
  have := hi_val _ (ht h13); omega
theorem utf8_le (n : Nat) : (utf8B n).length ≤ 4 := by
  by_cases h1 : n < 128
  · simp [utf8B, h1]
  · by_cases h2 : n < 2048
    · simp [utf8B, h1, h2]
    · by_cases h3 : n < 65536 <;> simp [utf8B, h1, h2, h3]
/-- Behind the first of two. -/
def escT (n : Nat) : B → PR B
  | [] => .fail [] 40
  | d :: q =>
    if d ≠ 100 ∧ d ≠ 68 then .fail (d :: q) 40
    else match hexB hiTwo (d :: q) with
      | .fail r e => .fail r e
      | .ok m r => .ok (utf8B (0x10000 + (n - 0xd800) * 1024 + m - 0xdc00)) r
def escS (n : Nat) (r : B) : PR B :=
  if 0xd800 ≤ n ∧ n < 0xdc00 then match wordB [92, 117] r with
    | .fail r e => .fail r e
    | .ok _ r => escT n r
  else .ok (utf8B n) r
def escR (c : UInt8) (r : B) : PR B := match ctlB c with
    | some d => .ok [d] r
    | none =>
      if c ≠ 117 then .ok [c] r
      else match hexB loTwo r with
        | .fail r e => .fail r e
        | .ok n r => escS n r
theorem escB_eq {l r : B} {c : UInt8} (h : oneB escL l = .ok c r) : escB l = escR c r := by
  unfold escB escR; rw [h]
  simp only []
  cases ctlB c with
  | some d => rfl
  | none =>
    simp only []
    split
    · rfl
    · cases hexB loTwo r with
      | fail r e => rfl
      | ok n r =>
        simp only [escS]
        split
        · cases wordB [92, 117] r with
          | fail r e => rfl
          | ok u r =>
            cases r with
            | nil => rfl
            | cons d q => simp only [escT]; split <;> rfl
        · rfl
end Go.Proofs.YtigdjnfnkjfkmaaGreatDoor
