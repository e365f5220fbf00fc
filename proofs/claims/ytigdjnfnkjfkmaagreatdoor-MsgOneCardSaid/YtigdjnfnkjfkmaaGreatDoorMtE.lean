/- The law's own example (blotterlaw13.awake). Conditions: the program's variables hold what they hold. -/
import Derived.Test.YtigdjnfnkjfkmaaGreatDoorMtD
import Derived.Test.YtigdjnfnkjfkmaaGreatDoorMtA
namespace Go.Proofs.YtigdjnfnkjfkmaaGreatDoor
open Go.RowKit
set_option linter.unusedVariables false
set_option linter.unusedSimpArgs false
set_option maxRecDepth 100000

def wakeM : Ms := ⟨5, [], 0, 0, 0, 3, []⟩
def wakeS : B := [123, 34, 116, 121, 112, 101, 34, 58, 34, 112, 111, 107, 101, 34, 44, 32, 34, 116, 111, 112, 34, 58, 51, 125]
def wakeP : B := [123, 34, 99, 108, 105, 101, 110, 116, 34, 58, 34, 99, 49, 34, 44, 34, 108, 105, 115, 116, 34, 58, 91, 93, 44, 34, 116, 121, 112, 101, 34, 58, 34, 112, 117, 115, 104, 34, 125]
def wakeW : B := [123, 34, 116, 111, 112, 34, 58, 51, 44, 34, 116, 121, 112, 101, 34, 58, 34, 112, 111, 107, 101, 34, 125]
theorem itoa_3 : Lib.itoa 3 = [51] := by
  unfold Lib.itoa
  rw [if_neg (by decide)]
  rw [Lib.decDigits]
  rfl
theorem wake_ok : okMs wakeM = true := by decide
theorem wake_write : writeB wakeM = wakeW := by
  unfold writeB
  rw [if_pos wake_ok]
  unfold msgT wakeM
  simp only
  rw [itoa_3]
  decide
theorem wake_read : readB wakeS = true := by rfl
theorem wake_readM : readM wakeS = wakeM := by
  unfold readM
  rw [if_pos wake_read]
  rfl
theorem wake_no : readB wakeP = false := by rfl
set_option maxHeartbeats 16000000 in
theorem mawake_any (w : World) (hG : Good w) : Calls Tryz.prog 10 #[] w fun e w' => e = .returned (.bool true) ∧ Below w.heap.size w w' := by
  have K1 : Calls Tryz.prog 12 #[.agg #[.int .i64 5, .string ⟨#[]⟩, .int .i64 0, .int .i64 0, .int .i64 0, .int .i64 3, .slice none 0 0]] w fun e w' => e = .returned (.tuple #[.string (ofL wakeW), .int .i64 0]) ∧ Below w.heap.size w w' := by
    have h := mwrite_any wakeM none 0 w RdP.nil (msok_plain (Nat.zero_le _) i64_0 i64_0 i64_0 ⟨by decide, by decide⟩) hG
    rw [wake_write, wake_ok] at h
    exact h
  have K2 : ∀ w' : World, Below w.heap.size w w' → Calls Tryz.prog 17 #[.string ⟨#[123, 34, 116, 121, 112, 101, 34, 58, 34, 112, 111, 107, 101, 34, 44, 32, 34, 116, 111, 112, 34, 58, 51, 125]⟩] w' (ReadP wakeM true w') := fun w' hb => by
    have h := mread_any wakeS (by decide) w' (hG.below hb)
    rw [wake_readM, wake_read] at h
    exact h
  have K3 : ∀ w' : World, Below w.heap.size w w' → Calls Tryz.prog 17 #[.string ⟨#[123, 34, 99, 108, 105, 101, 110, 116, 34, 58, 34, 99, 49, 34, 44, 34, 108, 105, 115, 116, 34, 58, 91, 93, 44, 34, 116, 121, 112, 101, 34, 58, 34, 112, 117, 115, 104, 34, 125]⟩] w' (ReadP (readM wakeP) false w') := fun w' hb => by
    have h := mread_any wakeP (by decide) w' (hG.below hb)
    rw [wake_no] at h
    exact h
  have H1 := Lib.hid K1
  have H2 := Lib.hid K2
  have H3 := Lib.hid K3
  obtain ⟨m, hm⟩ : ∃ m, m = wakeM := ⟨_, rfl⟩
  obtain ⟨m2, hm2⟩ : ∃ m2, m2 = readM wakeP := ⟨_, rfl⟩
  rw [← hm] at H2
  rw [← hm2] at H3
  have hk : m.kind = 5 := by rw [hm]; rfl
  have ht : m.top = 3 := by rw [hm]; rfl
  have hws : ((ofL wakeW).toList == [123, 34, 116, 111, 112, 34, 58, 51, 44, 34, 116, 121, 112, 101, 34, 58, 34, 112, 111, 107, 101, 34, 125]) = true := by rw [toL_ofL]; decide
  have Hk := Lib.hid hk
  have Ht := Lib.hid ht
  have he1 : errM true = 0 := rfl
  have he2 : errM false = 130 := rfl
  clear K1 K2 K3 hG hm hm2 hk ht
  go_enter Tryz.func10, Tryz.ntmps10
  go_wp2_with fail
  (with_reducible refine H1.out.mono ?_); rintro e w1 ⟨rfl, hb1⟩
  have HB := Lib.hid hb1
  have H2w := Lib.hid (H2.out w1 hb1)
  clear hb1
  go_wp2_with fail
  (with_reducible refine H2w.out.mono ?_); rintro e w2 ⟨A1, c1, rfl, -, hb2⟩
  have hb3 := (Below.refl w2.heap.size w2).alloc (Nat.le_refl _) (.cells #[.int .i64 m.kind, .string (ofL m.client), .int .i64 m.sfrom, .int .i64 m.cookie, .int .i64 m.last, .int .i64 m.top, .slice A1 m.list.length c1] 24)
  have hk3 := CB.new w2 #[.int .i64 m.kind, .string (ofL m.client), .int .i64 m.sfrom, .int .i64 m.cookie, .int .i64 m.last, .int .i64 m.top, .slice A1 m.list.length c1] 24
  have HB := Lib.hid ((HB.out.next hb2).next hb3)
  go_upto_region 3 with fail
  generalize w2.alloc (.cells #[.int .i64 m.kind, .string (ofL m.client), .int .i64 m.sfrom, .int .i64 m.cookie, .int .i64 m.last, .int .i64 m.top, .slice A1 m.list.length c1] 24) = w3 at *
  have H3w := Lib.hid (H3.out w3 HB.out)
  clear hb2 hb3
  go_wp2_with fail
  (with_reducible refine H3w.out.mono ?_); rintro e w4 ⟨A2, c2, rfl, -, hb4⟩
  have hb5 := (Below.refl w4.heap.size w4).alloc (Nat.le_refl _) (.cells #[.int .i64 m2.kind, .string (ofL m2.client), .int .i64 m2.sfrom, .int .i64 m2.cookie, .int .i64 m2.last, .int .i64 m2.top, .slice A2 m2.list.length c2] 24)
  have hk5 := (hk3.below hb4).below hb5
  have HB := Lib.hid ((HB.out.next hb4).next hb5)
  go_upto_region 4 with fail
  generalize w4.alloc (.cells #[.int .i64 m2.kind, .string (ofL m2.client), .int .i64 m2.sfrom, .int .i64 m2.cookie, .int .i64 m2.last, .int .i64 m2.top, .slice A2 m2.list.length c2] 24) = w5 at *
  have d0 : w5.cell? ⟨w2.heap.size, 0, none⟩ = some (.int .i64 5) := by rw [← Hk.out]; exact hk5.c 0 rfl
  have d5 : w5.cell? ⟨w2.heap.size, 5, none⟩ = some (.int .i64 3) := by rw [← Ht.out]; exact hk5.c 5 rfl
  clear hb4 hb5 hk3 hk5
  go_wp2_with fail
  go_ret
  exact ⟨ret_bool (by simp [he2]), HB.out⟩
end Go.Proofs.YtigdjnfnkjfkmaaGreatDoor
