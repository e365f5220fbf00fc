/- Names, as the program and the reference tell them. Conditions: the text lies in memory. -/
import Derived.Test.YtigdjnfnkjfkmaaGreatDoorJParA
import Derived.Test.YtigdjnfnkjfkmaaGreatDoorMsgA
namespace Go.Proofs.YtigdjnfnkjfkmaaGreatDoor
open Go.RowKit
set_option linter.unusedVariables false
set_option linter.unusedSimpArgs false
set_option maxRecDepth 100000

theorem nameC_nat (c : UInt8) : nameC c = (c.toNat == 46 || c.toNat == 45 || c.toNat == 95 || (decide (48 ≤ c.toNat) && decide (c.toNat ≤ 57)) || (decide (97 ≤ c.toNat) && decide (c.toNat ≤ 122)) || (decide (65 ≤ c.toNat) && decide (c.toNat ≤ 90))) := by
  have h : ∀ n : Nat, n < 256 → nameC (UInt8.ofNat n) = (n == 46 || n == 45 || n == 95 || (decide (48 ≤ n) && decide (n ≤ 57)) || (decide (97 ≤ n) && decide (n ≤ 122)) || (decide (65 ≤ n) && decide (n ≤ 90))) := by decide +kernel
  have := h c.toNat c.toNat_lt
  rw [UInt8.ofNat_toNat] at this
  exact this
/-- A name's bytes and the others, each by where it lies. -/
theorem nameC_kinds (c : UInt8) : (nameC c = true ∧ (c.toNat = 46 ∨ c.toNat = 45 ∨ c.toNat = 95 ∨ (48 ≤ c.toNat ∧ c.toNat ≤ 57) ∨ (97 ≤ c.toNat ∧ c.toNat ≤ 122) ∨ (65 ≤ c.toNat ∧ c.toNat ≤ 90))) ∨
    (nameC c = false ∧ ¬ c.toNat = 46 ∧ ¬ c.toNat = 45 ∧ ¬ c.toNat = 95 ∧ (c.toNat < 48 ∨ (57 < c.toNat ∧ c.toNat < 65) ∨ (90 < c.toNat ∧ c.toNat < 97) ∨ 122 < c.toNat)) := by
  rw [nameC_nat]
  by_cases h : c.toNat = 46 ∨ c.toNat = 45 ∨ c.toNat = 95 ∨ (48 ≤ c.toNat ∧ c.toNat ≤ 57) ∨ (97 ≤ c.toNat ∧ c.toNat ≤ 122) ∨ (65 ≤ c.toNat ∧ c.toNat ≤ 90)
  · left
    refine ⟨?_, h⟩
    simp only [Bool.or_eq_true, Bool.and_eq_true, beq_iff_eq, decide_eq_true_eq]
    omega
  · right
    refine ⟨?_, by omega, by omega, by omega, by omega⟩
    rw [Bool.eq_false_iff]
    simp only [ne_eq, Bool.or_eq_true, Bool.and_eq_true, beq_iff_eq, decide_eq_true_eq]
    omega
theorem nameL_eq (s : B) : nameL s = (s.all nameC && (!s.isEmpty && decide (s.length ≤ 24))) := by unfold nameL; rw [Bool.and_assoc]
set_option maxHeartbeats 8000000 in
theorem pname_any (s : ByteArray) (w : World) (hs : s.size ≤ 1099511627776) :
    Calls Tryz.prog 36 #[.string s] w fun e w' => e = .returned (.bool (nameL s.toList)) ∧ Below w.heap.size w w' := by
  have hld := len_toL s
  have kb := fun wx => run_bytes_of_string (P := Tryz.prog) wx 9 89 5 s Tryz.underlying9 Tryz.underlying89 Tryz.underlying5
  go_enter Tryz.func36, Tryz.ntmps36
  go_upto_region 2 with fail
  have hR := rd_bytes' (w := w) (wc := w) (s := s) (n := s.size) (e := 5) (fr := ((bytesRow s (grownCap w s.size 0 5)).size, (bytesRow s (grownCap w s.size 0 5)).size + 1)) rfl hs
  have hb := ((Below.refl w.heap.size w).alloc (Nat.le_refl _) (.cells (bytesRow s (grownCap w s.size 0 5)) 5 ((bytesRow s (grownCap w s.size 0 5)).size, (bytesRow s (grownCap w s.size 0 5)).size + 1))).drew
  generalize (w.alloc (.cells (bytesRow s (grownCap w s.size 0 5)) 5 ((bytesRow s (grownCap w s.size 0 5)).size, (bytesRow s (grownCap w s.size 0 5)).size + 1))).drew = w1 at hR hb ⊢
  generalize grownCap w s.size 0 5 = cap at hR ⊢
  rw [hld] at hR
  have HR := Lib.hid hR
  have HB := Lib.hid hb
  clear hR hb kb
  go_loopw [8] (fun i wr => ∃ n : Nat, n ≤ s.size ∧ i = .int .i64 n ∧ Hid ((s.toList.take n).all nameC = true) ∧ w1 = wr) (fun i _ => s.size - (intOf i).toNat)
  case atStart => exact ⟨0, Nat.zero_le _, rfl, by show _ = _; simp, rfl⟩
  case round =>
    obtain ⟨n, hn, rfl, hal, rfl⟩ := hrel
    by_cases hlt : n < s.size
    · have hat : s.toList[n]? = some (s[n]'hlt) := get_eq s n hlt
      obtain ⟨b', o, hA, hcell⟩ := (show Rd w1 1 _ s.toList.length (bytesV s.toList) from by rw [hld]; exact HR.out).byteAt hat
      cases hA
      rw [Nat.zero_add] at hcell
      have htk : s.toList.take (n + 1) = s.toList.take n ++ [s[n]'hlt] := by rw [List.take_add_one, hat]; rfl
      have hmem : (s[n]'hlt) ∈ s.toList := List.mem_of_getElem? hat
      generalize s[n]'hlt = c at *
      have hlt' : (n : Int) < (s.size : Int) := by omega
      have Htk := Lib.hid htk
      have Hmem := Lib.hid hmem
      have Hal := Lib.hid hal.out
      clear htk hmem hal hat
      obtain ⟨z, hz⟩ : ∃ z : Int, z = (c.toNat : Int) := ⟨_, rfl⟩
      rw [← hz] at hcell
      rcases nameC_kinds c with ⟨hc, hk⟩ | ⟨hc, n1, n2, n3, hk⟩
      · have hal2 : (s.toList.take (n + 1)).all nameC = true := by rw [Htk.out, List.all_append, Hal.out]; simp [hc]
        have Hal2 := Lib.hid hal2
        clear hal2 hc
        rcases hk with h | h | h | ⟨h, h'⟩ | ⟨h, h'⟩ | ⟨h, h'⟩
        · obtain rfl : z = 46 := by omega
          clear hz
          go_wp2_with fail
          exact ⟨⟨n + 1, by omega, by go_num, Hal2.out, trivial⟩, by simp [intOf]; omega⟩
        · obtain rfl : z = 45 := by omega
          clear hz
          go_wp2_with fail
          exact ⟨⟨n + 1, by omega, by go_num, Hal2.out, trivial⟩, by simp [intOf]; omega⟩
        · obtain rfl : z = 95 := by omega
          clear hz
          go_wp2_with fail
          exact ⟨⟨n + 1, by omega, by go_num, Hal2.out, trivial⟩, by simp [intOf]; omega⟩
        · have y0 : ¬ z = 46 := by omega
          have y1 : ¬ z = 45 := by omega
          have y2 : ¬ z = 95 := by omega
          have y3 : ¬ z < 48 := by omega
          have y4 : ¬ z > 57 := by omega
          clear hz
          go_wp2_with fail
          exact ⟨⟨n + 1, by omega, by go_num, Hal2.out, trivial⟩, by simp [intOf]; omega⟩
        · have y0 : ¬ z = 46 := by omega
          have y1 : ¬ z = 45 := by omega
          have y2 : ¬ z = 95 := by omega
          have y3 : ¬ z < 48 := by omega
          have y4 : z > 57 := by omega
          have y5 : ¬ z < 97 := by omega
          have y6 : ¬ z > 122 := by omega
          clear hz
          go_wp2_with fail
          exact ⟨⟨n + 1, by omega, by go_num, Hal2.out, trivial⟩, by simp [intOf]; omega⟩
        · have y0 : ¬ z = 46 := by omega
          have y1 : ¬ z = 45 := by omega
          have y2 : ¬ z = 95 := by omega
          have y3 : ¬ z < 48 := by omega
          have y4 : z > 57 := by omega
          have y5 : z < 97 := by omega
          have y6 : ¬ z < 65 := by omega
          have y7 : ¬ z > 90 := by omega
          clear hz
          go_wp2_with fail
          exact ⟨⟨n + 1, by omega, by go_num, Hal2.out, trivial⟩, by simp [intOf]; omega⟩
      · have hno : nameL s.toList = false := by
          unfold nameL
          have : s.toList.all nameC = false := by
            rw [List.all_eq_false]
            exact ⟨c, Hmem.out, by rw [hc]; decide⟩
          rw [this]; rfl
        have Hno := Lib.hid hno
        clear hno hc
        rcases hk with h | ⟨h, h'⟩ | ⟨h, h'⟩ | h
        · have y0 : ¬ z = 46 := by omega
          have y1 : ¬ z = 45 := by omega
          have y2 : ¬ z = 95 := by omega
          have y3 : z < 48 := by omega
          have y4 : z < 97 := by omega
          have y5 : z < 65 := by omega
          have b0 : (z != 46) = true := by simp; omega
          have b1 : (z != 45) = true := by simp; omega
          have b2 : (z != 95) = true := by simp; omega
          clear hz
          go_wp2_with fail
          go_ret
          exact ⟨ret_bool (by rw [Hno.out]), HB.out⟩
        · have y0 : ¬ z = 46 := by omega
          have y1 : ¬ z = 45 := by omega
          have y2 : ¬ z = 95 := by omega
          have y3 : ¬ z < 48 := by omega
          have y4 : z > 57 := by omega
          have y5 : z < 97 := by omega
          have y6 : z < 65 := by omega
          have b0 : (z != 46) = true := by simp; omega
          have b1 : (z != 45) = true := by simp; omega
          have b2 : (z != 95) = true := by simp; omega
          clear hz
          go_wp2_with fail
          go_ret
          exact ⟨ret_bool (by rw [Hno.out]), HB.out⟩
        · have y0 : ¬ z = 46 := by omega
          have y1 : ¬ z = 45 := by omega
          have y2 : ¬ z = 95 := by omega
          have y3 : ¬ z < 48 := by omega
          have y4 : z > 57 := by omega
          have y5 : z < 97 := by omega
          have y6 : ¬ z < 65 := by omega
          have y7 : z > 90 := by omega
          have b0 : (z != 46) = true := by simp; omega
          have b1 : (z != 45) = true := by simp; omega
          have b2 : (z != 95) = true := by simp; omega
          clear hz
          go_wp2_with fail
          go_ret
          exact ⟨ret_bool (by rw [Hno.out]), HB.out⟩
        · have y0 : ¬ z = 46 := by omega
          have y1 : ¬ z = 45 := by omega
          have y2 : ¬ z = 95 := by omega
          have y3 : ¬ z < 48 := by omega
          have y4 : z > 57 := by omega
          have y5 : ¬ z < 97 := by omega
          have y6 : z > 122 := by omega
          have y7 : ¬ z < 65 := by omega
          have y8 : z > 90 := by omega
          have b0 : (z != 46) = true := by simp; omega
          have b1 : (z != 45) = true := by simp; omega
          have b2 : (z != 95) = true := by simp; omega
          clear hz
          go_wp2_with fail
          go_ret
          exact ⟨ret_bool (by rw [Hno.out]), HB.out⟩
    · have hlt' : ¬ (n : Int) < (s.size : Int) := by omega
      have hall : s.toList.all nameC = true := by have := hal.out; rwa [List.take_of_length_le (by rw [hld]; omega)] at this
      have Hfin := Lib.hid (show nameL s.toList = (!s.toList.isEmpty && decide (s.toList.length ≤ 24)) by rw [nameL_eq, hall]; rfl)
      clear hall hal
      cases hem : s.toList.isEmpty with
      | true =>
        go_wp2_with fail
        go_ret
        exact ⟨ret_bool (by rw [Hfin.out]; simp [hem]), HB.out⟩
      | false =>
        have hne : ¬ s.toList = [] := by intro h; rw [h] at hem; cases hem
        go_wp2_with fail
        go_ret
        exact ⟨ret_bool (by rw [Hfin.out, hld]; simp [hem]; omega), HB.out⟩
end Go.Proofs.YtigdjnfnkjfkmaaGreatDoor
