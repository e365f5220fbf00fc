/- The reference's small functions on texts (blotterref08): what each answers. Conditions: none. -/
import Derived.Test.YtmhgnaemafohfaaGreatDoorBase
namespace Go.Proofs.YtmhgnaemafohfaaGreatDoor
open Go.RowKit
set_option linter.unusedVariables false
set_option linter.unusedSimpArgs false
set_option maxRecDepth 100000

theorem in_any (c a z : Int) (w : World) :
    Calls Tryz.prog 94 #[.int .u8 c, .int .u8 a, .int .u8 z] w fun e w' => e = .returned (.bool (decide (a ≤ c) && decide (c ≤ z))) ∧ w = w' := by
  by_cases h1 : a ≤ c <;> by_cases h2 : c ≤ z
  all_goals
    go_enter Tryz.func94, Tryz.ntmps94
    go_wp2
    go_ret
    exact ⟨by simp [h1, h2], rfl⟩

theorem prefix_eq (t l : B) : (decide (t.length ≤ l.length) && (l.take t.length == t)) = t.isPrefixOf l := by
  rw [Bool.eq_iff_iff]; simp only [Bool.and_eq_true, decide_eq_true_eq, beq_iff_eq, List.isPrefixOf_iff_prefix]
  constructor
  · rintro ⟨_, h⟩; exact h ▸ List.take_prefix _ _
  · intro h; exact ⟨h.length_le, (List.prefix_iff_eq_take.1 h).symm⟩
theorem begins_any (s t : ByteArray) (hs : s.size ≤ maxLen) (w : World) :
    Calls Tryz.prog 69 #[.string s, .string t] w fun e w' => e = .returned (.bool ((t.toList).isPrefixOf (s.toList))) ∧ w = w' := by
  unfold maxLen at hs
  by_cases h1 : t.size ≤ s.size
  all_goals
    go_enter Tryz.func69, Tryz.ntmps69
    go_wp2
    go_ret
    refine ⟨ret_bool ?_, rfl⟩
    rw [← prefix_eq, len_toL, len_toL]
    first | rw [toL_to] | skip
    simp [h1]

/-- The first place of t in s; s's length: it is not there. -/
def whereL (t : B) : B → Nat
  | [] => 0
  | c :: r => if t.isPrefixOf (c :: r) then 0 else whereL t r + 1
theorem whereL_le (t : B) : ∀ s : B, whereL t s ≤ s.length
  | [] => Nat.le_refl _
  | c :: r => by unfold whereL; have := whereL_le t r; split <;> simp <;> omega
theorem where_any (s t : ByteArray) (hs : s.size ≤ maxLen) (w : World) :
    Calls Tryz.prog 42 #[.string t, .string s] w fun e w' => e = .returned (.int .i64 (whereL (t.toList) (s.toList))) ∧ w = w' := by
  unfold maxLen at hs
  have hl := len_toL s
  go_enter Tryz.func42, Tryz.ntmps42
  go_wp2
  go_loop [8] (fun i => ∃ k : Nat, k ≤ s.size ∧ i = .int .i64 k ∧ whereL (t.toList) (s.toList) = k + whereL (t.toList) ((s.toList).drop k)) (fun i => s.size - (intOf i).toNat)
  case atStart => exact ⟨0, Nat.zero_le _, rfl, by simp⟩
  case round =>
    obtain ⟨k, hk, rfl, he⟩ := hrel
    have He := Lib.hid he
    clear he
    by_cases hlt : k < s.size
    · have hd := drop_eq s k hlt
      have hf := toL_from s k
      have Hd := Lib.hid hd
      have Hf := Lib.hid hf
      clear hd hf hl
      cases hp : (t.toList).isPrefixOf ((s.toList).drop k)
      all_goals
        go_wp2_with (go_at_call 69; refine (begins_any _ _ (by rw [ByteArray.size_extract]; unfold maxLen; omega) _).mono ?_; rintro e w' ⟨rfl, rfl⟩; rw [Hf.out, hp])
      · go_round
        case rel => exact ⟨k + 1, by omega, by go_num, by rw [He.out, Hd.out]; simp only [whereL]; rw [← Hd.out, hp]; simp; omega⟩
        case measure => simp [intOf]; omega
      · go_ret
        exact ⟨ret_int (by rw [He.out, Hd.out]; simp only [whereL]; rw [← Hd.out, hp]; simp), rfl⟩
    · go_wp2
      go_ret
      exact ⟨ret_int (by rw [He.out, List.drop_of_length_le (by omega)]; simp [whereL]; omega), rfl⟩

def memB (c : UInt8) (l : B) : Bool := l.contains c
theorem whereL_single (c : UInt8) : ∀ s : B, decide (whereL [c] s < s.length) = memB c s
  | [] => by simp [whereL, memB]
  | d :: r => by
    have ih := whereL_single c r
    by_cases h : c = d
    · subst h; simp [whereL, memB, List.isPrefixOf]
    · have h' : ([c].isPrefixOf (d :: r)) = false := by simp [List.isPrefixOf, h]
      have : (c == d) = false := by simpa using h
      unfold memB at ih
      rw [whereL, h', memB, List.contains_cons, ← ih]
      simp [this]
theorem of_any (c : UInt8) (s : ByteArray) (hs : s.size ≤ maxLen) (w : World) :
    Calls Tryz.prog 44 #[.int .u8 c.toNat, .string s] w fun e w' => e = .returned (.bool (memB c s.toList)) ∧ Below w.heap.size w w' := by
  have hw := whereL_single c s.toList
  rw [len_toL] at hw
  have Hw := Lib.hid hw
  clear hw
  have kc := conv_one 22 9 5 Tryz.underlying22 Tryz.underlying5 Tryz.underlying9 c w
  go_enter Tryz.func44, Tryz.ntmps44
  go_wp2_with (go_at_call 42; refine (where_any _ _ hs _).mono ?_; rintro e w' ⟨rfl, rfl⟩)
  go_ret
  exact ⟨ret_bool (by rw [toL_ofL, Hw.out]), (Below.refl _ _).alloc (Nat.le_refl _) _⟩

/-- The kinds of bytes. -/
def marksL : B := [33, 35, 36, 37, 38, 39, 42, 43, 45, 46, 94, 95, 96, 124, 126]
def inB (a z : Int) (c : UInt8) : Bool := decide (a ≤ c.toNat) && decide ((c.toNat : Int) ≤ z)
def isB (k : Nat) (c : UInt8) : Bool :=
  if k = 1 then inB 48 57 c
  else if k = 2 then inB 65 90 c
  else if k = 3 then inB 33 126 c
  else if k = 4 then inB 48 57 c || inB 65 90 c || inB 97 122 c || memB c marksL
  else if k = 5 then (c.toNat : Int) == 32 || (c.toNat : Int) == 9
  else if k = 6 then inB 32 126 c || (c.toNat : Int) == 9
  else (c.toNat : Int) != 32
theorem is_any (k : Nat) (h1 : 1 ≤ k) (h7 : k ≤ 7) (c : UInt8) (w : World) :
    Calls Tryz.prog 72 #[.int .u8 c.toNat, .int .i64 k] w fun e w' => e = .returned (.bool (isB k c)) ∧ Below w.heap.size w w' := by
  have hcs : k = 1 ∨ k = 2 ∨ k = 3 ∨ k = 4 ∨ k = 5 ∨ k = 6 ∨ k = 7 := by omega
  rcases hcs with rfl | rfl | rfl | rfl | rfl | rfl | rfl
  all_goals
    go_enter Tryz.func72, Tryz.ntmps72
    go_wp2_with (first | (go_at_call 94; refine (in_any _ _ _ _).mono ?_; rintro e w' ⟨rfl, rfl⟩) | (go_at_call 44; refine (of_any _ _ (by decide) _).mono ?_; rintro e w' ⟨rfl, hb⟩))
    all_goals
      go_ret
      refine ⟨ret_bool ?_, by first | exact Below.refl _ _ | assumption⟩
      simp [isB, inB, marksL]
      try omega

/-- How many bytes of a kind a text begins with. -/
def eatL (k : Nat) (l : B) : Nat := (l.takeWhile (isB k)).length
theorem eatL_le (k : Nat) (l : B) : eatL k l ≤ l.length := (List.takeWhile_sublist _).length_le
theorem eatL_cons (k : Nat) (c : UInt8) (l : B) : eatL k (c :: l) = if isB k c then eatL k l + 1 else 0 := by
  unfold eatL; rw [List.takeWhile_cons]; split <;> simp
theorem eat_any (k : Nat) (h1 : 1 ≤ k) (h7 : k ≤ 7) (s : ByteArray) (hs : s.size ≤ maxLen) (w : World) :
    Calls Tryz.prog 70 #[.string s, .int .i64 k] w fun e w' => e = .returned (.int .i64 (eatL k s.toList)) ∧ Below w.heap.size w w' := by
  unfold maxLen at hs
  go_enter Tryz.func70, Tryz.ntmps70
  go_wp2
  go_loopw [5] (fun i wr => ∃ j : Nat, j ≤ s.size ∧ i = .int .i64 j ∧ eatL k s.toList = j + eatL k (s.toList.drop j) ∧ Below w.heap.size w wr) (fun i _ => s.size - (intOf i).toNat)
  case atStart => exact ⟨0, Nat.zero_le _, rfl, by simp, Below.refl _ _⟩
  case round =>
    obtain ⟨j, hj, rfl, he, hb⟩ := hrel
    have He := Lib.hid he
    clear he
    by_cases hlt : j < s.size
    · have Hd := Lib.hid (drop_eq s j hlt)
      cases hp : isB k s[j]
      all_goals
        have Hp := Lib.hid hp
        clear hp
        go_wp2_with (go_at_call 72; refine (is_any k h1 h7 _ _).mono ?_; rintro e w' ⟨rfl, hb'⟩; rw [Hp.out])
      · go_ret
        exact ⟨ret_int (by rw [He.out, Hd.out, eatL_cons, Hp.out]; simp), hb.trans (hb'.mono hb.size)⟩
      · go_roundw
        case rel => exact ⟨j + 1, by omega, by go_num, by rw [He.out, Hd.out, eatL_cons, Hp.out]; simp; omega, hb.trans (hb'.mono hb.size)⟩
        case measure => simp [intOf]; omega
    · go_wp2
      go_ret
      exact ⟨ret_int (by rw [He.out, List.drop_of_length_le (by rw [len_toL]; omega)]; simp [eatL]), hb⟩

def allL (l : B) (least most k : Nat) : Bool := l.all (isB k) && decide (least ≤ l.length) && decide (l.length ≤ most)
theorem eatL_all (k : Nat) : ∀ l : B, decide (eatL k l = l.length) = l.all (isB k)
  | [] => rfl
  | c :: l => by
    have ih := eatL_all k l
    rw [eatL_cons, List.all_cons, ← ih]
    cases isB k c <;> simp
theorem all_any (k : Nat) (h1 : 1 ≤ k) (h7 : k ≤ 7) (least most : Nat) (s : ByteArray) (hs : s.size ≤ maxLen) (w : World) :
    Calls Tryz.prog 71 #[.string s, .int .i64 least, .int .i64 most, .int .i64 k] w fun e w' => e = .returned (.bool (allL s.toList least most k)) ∧ Below w.heap.size w w' := by
  go_enter Tryz.func71, Tryz.ntmps71
  go_wp2_with (go_at_call 70; refine (eat_any k h1 h7 _ hs _).mono ?_; rintro e w' ⟨rfl, hb⟩)
  all_goals
    go_ret
    refine ⟨ret_bool ?_, hb⟩
    unfold allL
    rw [← eatL_all, len_toL]
    simp
    try omega
end Go.Proofs.YtmhgnaemafohfaaGreatDoor
