/- Words of these texts: bytes of strings as lists; frames. Conditions: none. The reference's small functions on texts (blotterref08): what each answers. Conditions: none. The reference's functions on texts, more (blotterref08): small, trim, number, hex. Conditions: none. Slices that are read, rows that are owned: words and small laws. Conditions: none. The reference's functions with lists (blotterref08): values, cut. Conditions: the texts are short. The reference's ends, line, fields (blotterref08). Conditions: the texts are short. The reference's fields (blotterref08): a head's headers. Conditions: the texts are short. The reference's Chunks (blotterref08): a body in chunks. Conditions: the text is short. The reference's body (blotterref08): what stands behind a head. Conditions: the texts are short. The reference's Parse (blotterref08): the request with which bytes begin. Conditions: the bytes are few. The program's small functions on bytes and texts (httpd): digit to token, value, lower. Conditions: the texts are short. The program's texts of one kind of bytes (httpd): only, token, bare, value, lower. Conditions: the texts are short. -/
import Derived.Test.YtgdelmkgdfhdpaaGreatDoorProg
import Derived.WalkKit
import Derived.KernelRfl
import Derived.WalkLawsBesides
import Derived.WalkSpells
import Derived.Lib.Hide
import Derived.BigQuiet
import Derived.Deep.QuietTactic
import Derived.Deep.LoopGhost
import Derived.Deep.RegionHeld3
import Derived.Lib.AppendStr
namespace Go.Proofs.YtgdelmkgdfhdpaaGreatDoor
open Go.RowKit

/-- A string's bytes; a string of bytes. -/
abbrev B := List UInt8
def ofL (l : B) : ByteArray := ⟨l.toArray⟩
theorem toL_eq (s : ByteArray) : s.toList = s.data.toList := ByteArray.toList_eq s
theorem toL_ofL (l : B) : (ofL l).toList = l := by simp [ofL]
theorem ofL_toL (s : ByteArray) : ofL (s.toList) = s := by simp [toL_eq, ofL]
theorem size_eq (s : ByteArray) : s.size = (s.toList).length := by rw [toL_eq]; rfl
theorem len_toL (s : ByteArray) : (s.toList).length = s.size := (size_eq s).symm
theorem size_ofL (l : B) : (ofL l).size = l.length := by simp [ofL, ByteArray.size]
theorem get_eq (s : ByteArray) (k : Nat) (h : k < s.size) : (s.toList)[k]? = some s[k] := by
  rw [toL_eq]; rw [List.getElem?_eq_getElem (by simpa using h)]; rfl
theorem drop_eq (s : ByteArray) (k : Nat) (h : k < s.size) : (s.toList).drop k = s[k] :: (s.toList).drop (k + 1) := by
  have h' : k < (s.toList).length := by rw [len_toL]; exact h
  rw [List.drop_eq_getElem_cons h']; congr 1
  have := get_eq s k h; rw [List.getElem?_eq_getElem h'] at this; exact Option.some.inj this
theorem take_eq (s : ByteArray) (k : Nat) (h : k < s.size) : (s.toList).take (k + 1) = (s.toList).take k ++ [s[k]] := by
  rw [List.take_add_one, get_eq s k h]; rfl
theorem ofL_append (a b : B) : ofL (a ++ b) = ofL a ++ ofL b := by
  apply ByteArray.ext; simp [ofL]
theorem append_toL (a b : ByteArray) : (a ++ b).toList = a.toList ++ b.toList := by rw [toL_eq, toL_eq, toL_eq]; simp
theorem ofL_inj {a b : B} (h : ofL a = ofL b) : a = b := by have := congrArg ByteArray.toList h; rwa [toL_ofL, toL_ofL] at this
theorem toL_inj {a b : ByteArray} (h : a.toList = b.toList) : a = b := by have := congrArg ofL h; rwa [ofL_toL, ofL_toL] at this
theorem toL_extract (s : ByteArray) (a b : Nat) : (s.extract a b).toList = ((s.toList).take b).drop a := by
  rw [toL_eq, toL_eq]; simp [ByteArray.data_extract, List.extract_eq_take_drop, List.drop_take]
theorem toL_from (s : ByteArray) (a : Nat) : (s.extract a s.size).toList = (s.toList).drop a := by
  rw [toL_extract, List.take_of_length_le (by rw [len_toL]; exact Nat.le_refl _)]
theorem toL_to (s : ByteArray) (b : Nat) : (s.extract 0 b).toList = (s.toList).take b := by
  rw [toL_extract, List.drop_zero]
theorem ret_int {k : IntKind} {a b : Int} (h : a = b) : Ending.returned (.int k a) = .returned (.int k b) := by rw [h]
theorem ret_str {a b : ByteArray} (h : a = b) : Ending.returned (.string a) = .returned (.string b) := by rw [h]
theorem ret_strL {a : ByteArray} {l : B} (h : a.toList = l) : Ending.returned (.string a) = .returned (.string (ofL l)) := by rw [← h, ofL_toL]
theorem ret_bool {a b : Bool} (h : a = b) : Ending.returned (.bool a) = .returned (.bool b) := by rw [h]

theorem ret_ii {j k : IntKind} {a b c d : Int} (h1 : a = c) (h2 : b = d) : Ending.returned (.tuple #[.int j a, .int k b]) = .returned (.tuple #[.int j c, .int k d]) := by rw [h1, h2]
theorem ret_ssi {a b c d : ByteArray} {k : IntKind} {m n : Int} (h1 : a = c) (h2 : b = d) (h3 : m = n) : Ending.returned (.tuple #[.string a, .string b, .int k m]) = .returned (.tuple #[.string c, .string d, .int k n]) := by rw [h1, h2, h3]
theorem ofL_nil : ofL [] = ⟨#[]⟩ := rfl

/-- 'string([]byte{c})'. -/
theorem conv_int {P : Program} (src dst e : TypeId) (hs : P.underlying src = some (.slice e)) (he : P.underlying e = some (.int .u8)) (hd : P.underlying dst = some .string) (n : Int) (h0 : 0 ≤ n) (h1 : n < 256) (w : World) :
    (convert src dst (.slice (some ⟨w.heap.size, 0, none⟩) 1 1)).run P (w.alloc (.cells #[.int .u8 n] e)) = .ok (.string (ofL [UInt8.ofNat n.toNat])) (w.alloc (.cells #[.int .u8 n] e)) := by
  have hn : n = ((UInt8.ofNat n.toNat).toNat : Int) := by simp; omega
  refine run_convert_bytes_back (w.alloc (.cells #[.int .u8 n] e)) src dst e ⟨w.heap.size, 0, none⟩ 1 [UInt8.ofNat n.toNat] hs he hd ?_
  intro j hj
  have : j = 0 := by simpa using hj
  subst this
  simp only [Addr.add, World.cell?_alloc_mark, if_true, List.getElem_cons_zero, ← hn]
  rfl
theorem conv_one {P : Program} (src dst e : TypeId) (hs : P.underlying src = some (.slice e)) (he : P.underlying e = some (.int .u8)) (hd : P.underlying dst = some .string) (c : UInt8) (w : World) :
    (convert src dst (.slice (some ⟨w.heap.size, 0, none⟩) 1 1)).run P (w.alloc (.cells #[.int .u8 c.toNat] e)) = .ok (.string (ofL [c])) (w.alloc (.cells #[.int .u8 c.toNat] e)) := by
  have h := conv_int src dst e hs he hd (c.toNat : Int) (by omega) (by have := c.toNat_lt; omega) w
  simpa using h
end Go.Proofs.YtgdelmkgdfhdpaaGreatDoor
namespace Go.Proofs.YtgdelmkgdfhdpaaGreatDoor
open Go.RowKit
set_option linter.unusedVariables false
set_option linter.unusedSimpArgs false
set_option maxRecDepth 100000

theorem in_any (c a z : Int) (w : World) :
    Calls Tryz.prog 88 #[.int .u8 c, .int .u8 a, .int .u8 z] w fun e w' => e = .returned (.bool (decide (a ≤ c) && decide (c ≤ z))) ∧ w = w' := by
  by_cases h1 : a ≤ c <;> by_cases h2 : c ≤ z
  all_goals
    go_enter Tryz.func88, Tryz.ntmps88
    go_wp2
    go_ret
    exact ⟨by simp [h1, h2], rfl⟩

theorem prefix_eq (t l : B) : (decide (t.length ≤ l.length) && (l.take t.length == t)) = t.isPrefixOf l := by
  rw [Bool.eq_iff_iff]; simp only [Bool.and_eq_true, decide_eq_true_eq, beq_iff_eq, List.isPrefixOf_iff_prefix]
  constructor
  · rintro ⟨_, h⟩; exact h ▸ List.take_prefix _ _
  · intro h; exact ⟨h.length_le, (List.prefix_iff_eq_take.1 h).symm⟩
theorem begins_any (s t : ByteArray) (hs : s.size ≤ maxLen) (w : World) :
    Calls Tryz.prog 56 #[.string s, .string t] w fun e w' => e = .returned (.bool ((t.toList).isPrefixOf (s.toList))) ∧ w = w' := by
  unfold maxLen at hs
  by_cases h1 : t.size ≤ s.size
  all_goals
    go_enter Tryz.func56, Tryz.ntmps56
    go_wp2
    go_ret
    refine ⟨ret_bool ?_, rfl⟩
    rw [← prefix_eq, len_toL, len_toL]
    first | rw [toL_to] | skip
    simp [h1]

/-- The first place of t in s; s's length: it is not there. -/
def whereL (t : B) : B → Nat
  | [] => 0
  | c :: r => if t.isPrefixOf (c :: r) then 0 else whereL t r + 1
theorem whereL_le (t : B) : ∀ s : B, whereL t s ≤ s.length
  | [] => Nat.le_refl _
  | c :: r => by unfold whereL; have := whereL_le t r; split <;> simp <;> omega
theorem where_any (s t : ByteArray) (hs : s.size ≤ maxLen) (w : World) :
    Calls Tryz.prog 32 #[.string t, .string s] w fun e w' => e = .returned (.int .i64 (whereL (t.toList) (s.toList))) ∧ w = w' := by
  unfold maxLen at hs
  have hl := len_toL s
  go_enter Tryz.func32, Tryz.ntmps32
  go_wp2
  go_loop [8] (fun i => ∃ k : Nat, k ≤ s.size ∧ i = .int .i64 k ∧ whereL (t.toList) (s.toList) = k + whereL (t.toList) ((s.toList).drop k)) (fun i => s.size - (intOf i).toNat)
  case atStart => exact ⟨0, Nat.zero_le _, rfl, by simp⟩
  case round =>
    obtain ⟨k, hk, rfl, he⟩ := hrel
    have He := Lib.hid he
    clear he
    by_cases hlt : k < s.size
    · have hd := drop_eq s k hlt
      have hf := toL_from s k
      have Hd := Lib.hid hd
      have Hf := Lib.hid hf
      clear hd hf hl
      cases hp : (t.toList).isPrefixOf ((s.toList).drop k)
      all_goals
        go_wp2_with (go_at_call 56; refine (begins_any _ _ (by rw [ByteArray.size_extract]; unfold maxLen; omega) _).mono ?_; rintro e w' ⟨rfl, rfl⟩; rw [Hf.out, hp])
      · go_round
        case rel => exact ⟨k + 1, by omega, by go_num, by rw [He.out, Hd.out]; simp only [whereL]; rw [← Hd.out, hp]; simp; omega⟩
        case measure => simp [intOf]; omega
      · go_ret
        exact ⟨ret_int (by rw [He.out, Hd.out]; simp only [whereL]; rw [← Hd.out, hp]; simp), rfl⟩
    · go_wp2
      go_ret
      exact ⟨ret_int (by rw [He.out, List.drop_of_length_le (by omega)]; simp [whereL]; omega), rfl⟩

def memB (c : UInt8) (l : B) : Bool := l.contains c
theorem whereL_single (c : UInt8) : ∀ s : B, decide (whereL [c] s < s.length) = memB c s
  | [] => by simp [whereL, memB]
  | d :: r => by
    have ih := whereL_single c r
    by_cases h : c = d
    · subst h; simp [whereL, memB, List.isPrefixOf]
    · have h' : ([c].isPrefixOf (d :: r)) = false := by simp [List.isPrefixOf, h]
      have : (c == d) = false := by simpa using h
      unfold memB at ih
      rw [whereL, h', memB, List.contains_cons, ← ih]
      simp [this]
theorem of_any (c : UInt8) (s : ByteArray) (hs : s.size ≤ maxLen) (w : World) :
    Calls Tryz.prog 89 #[.int .u8 c.toNat, .string s] w fun e w' => e = .returned (.bool (memB c s.toList)) ∧ Below w.heap.size w w' := by
  have hw := whereL_single c s.toList
  rw [len_toL] at hw
  have Hw := Lib.hid hw
  clear hw
  have kc := conv_one 23 9 5 Tryz.underlying23 Tryz.underlying5 Tryz.underlying9 c w
  go_enter Tryz.func89, Tryz.ntmps89
  go_wp2_with (go_at_call 32; refine (where_any _ _ hs _).mono ?_; rintro e w' ⟨rfl, rfl⟩)
  go_ret
  exact ⟨ret_bool (by rw [toL_ofL, Hw.out]), (Below.refl _ _).alloc (Nat.le_refl _) _⟩

/-- The kinds of bytes. -/
def marksL : B := [33, 35, 36, 37, 38, 39, 42, 43, 45, 46, 94, 95, 96, 124, 126]
def inB (a z : Int) (c : UInt8) : Bool := decide (a ≤ c.toNat) && decide ((c.toNat : Int) ≤ z)
def isB (k : Nat) (c : UInt8) : Bool :=
  if k = 1 then inB 48 57 c
  else if k = 2 then inB 65 90 c
  else if k = 3 then inB 33 126 c
  else if k = 4 then inB 48 57 c || inB 65 90 c || inB 97 122 c || memB c marksL
  else if k = 5 then (c.toNat : Int) == 32 || (c.toNat : Int) == 9
  else if k = 6 then inB 32 126 c || (c.toNat : Int) == 9
  else (c.toNat : Int) != 32
theorem is_any (k : Nat) (h1 : 1 ≤ k) (h7 : k ≤ 7) (c : UInt8) (w : World) :
    Calls Tryz.prog 66 #[.int .u8 c.toNat, .int .i64 k] w fun e w' => e = .returned (.bool (isB k c)) ∧ Below w.heap.size w w' := by
  have hcs : k = 1 ∨ k = 2 ∨ k = 3 ∨ k = 4 ∨ k = 5 ∨ k = 6 ∨ k = 7 := by omega
  rcases hcs with rfl | rfl | rfl | rfl | rfl | rfl | rfl
  all_goals
    go_enter Tryz.func66, Tryz.ntmps66
    go_wp2_with (first | (go_at_call 88; refine (in_any _ _ _ _).mono ?_; rintro e w' ⟨rfl, rfl⟩) | (go_at_call 89; refine (of_any _ _ (by decide) _).mono ?_; rintro e w' ⟨rfl, hb⟩))
    all_goals
      go_ret
      refine ⟨ret_bool ?_, by first | exact Below.refl _ _ | assumption⟩
      simp [isB, inB, marksL]
      try omega

/-- How many bytes of a kind a text begins with. -/
def eatL (k : Nat) (l : B) : Nat := (l.takeWhile (isB k)).length
theorem eatL_le (k : Nat) (l : B) : eatL k l ≤ l.length := (List.takeWhile_sublist _).length_le
theorem eatL_cons (k : Nat) (c : UInt8) (l : B) : eatL k (c :: l) = if isB k c then eatL k l + 1 else 0 := by
  unfold eatL; rw [List.takeWhile_cons]; split <;> simp
theorem eat_any (k : Nat) (h1 : 1 ≤ k) (h7 : k ≤ 7) (s : ByteArray) (hs : s.size ≤ maxLen) (w : World) :
    Calls Tryz.prog 47 #[.string s, .int .i64 k] w fun e w' => e = .returned (.int .i64 (eatL k s.toList)) ∧ Below w.heap.size w w' := by
  unfold maxLen at hs
  go_enter Tryz.func47, Tryz.ntmps47
  go_wp2
  go_loopw [5] (fun i wr => ∃ j : Nat, j ≤ s.size ∧ i = .int .i64 j ∧ eatL k s.toList = j + eatL k (s.toList.drop j) ∧ Below w.heap.size w wr) (fun i _ => s.size - (intOf i).toNat)
  case atStart => exact ⟨0, Nat.zero_le _, rfl, by simp, Below.refl _ _⟩
  case round =>
    obtain ⟨j, hj, rfl, he, hb⟩ := hrel
    have He := Lib.hid he
    clear he
    by_cases hlt : j < s.size
    · have Hd := Lib.hid (drop_eq s j hlt)
      cases hp : isB k s[j]
      all_goals
        have Hp := Lib.hid hp
        clear hp
        go_wp2_with (go_at_call 66; refine (is_any k h1 h7 _ _).mono ?_; rintro e w' ⟨rfl, hb'⟩; rw [Hp.out])
      · go_ret
        exact ⟨ret_int (by rw [He.out, Hd.out, eatL_cons, Hp.out]; simp), hb.trans (hb'.mono hb.size)⟩
      · go_roundw
        case rel => exact ⟨j + 1, by omega, by go_num, by rw [He.out, Hd.out, eatL_cons, Hp.out]; simp; omega, hb.trans (hb'.mono hb.size)⟩
        case measure => simp [intOf]; omega
    · go_wp2
      go_ret
      exact ⟨ret_int (by rw [He.out, List.drop_of_length_le (by rw [len_toL]; omega)]; simp [eatL]), hb⟩

def allL (l : B) (least most k : Nat) : Bool := l.all (isB k) && decide (least ≤ l.length) && decide (l.length ≤ most)
theorem eatL_all (k : Nat) : ∀ l : B, decide (eatL k l = l.length) = l.all (isB k)
  | [] => rfl
  | c :: l => by
    have ih := eatL_all k l
    rw [eatL_cons, List.all_cons, ← ih]
    cases isB k c <;> simp
theorem all_any (k : Nat) (h1 : 1 ≤ k) (h7 : k ≤ 7) (least most : Nat) (s : ByteArray) (hs : s.size ≤ maxLen) (w : World) :
    Calls Tryz.prog 44 #[.string s, .int .i64 least, .int .i64 most, .int .i64 k] w fun e w' => e = .returned (.bool (allL s.toList least most k)) ∧ Below w.heap.size w w' := by
  go_enter Tryz.func44, Tryz.ntmps44
  go_wp2_with (go_at_call 47; refine (eat_any k h1 h7 _ hs _).mono ?_; rintro e w' ⟨rfl, hb⟩)
  all_goals
    go_ret
    refine ⟨ret_bool ?_, hb⟩
    unfold allL
    rw [← eatL_all, len_toL]
    simp
    try omega
end Go.Proofs.YtgdelmkgdfhdpaaGreatDoor
namespace Go.Proofs.YtgdelmkgdfhdpaaGreatDoor
open Go.RowKit
set_option linter.unusedVariables false
set_option linter.unusedSimpArgs false
set_option maxRecDepth 100000

def lowB (c : UInt8) : UInt8 := if isB 2 c then c + 32 else c
def lowL (l : B) : B := l.map lowB
theorem big_lt {c : UInt8} (h : isB 2 c = true) : 65 ≤ (c.toNat : Int) ∧ (c.toNat : Int) ≤ 90 := by simpa [isB, inB] using h
theorem add32 {c : UInt8} (h : isB 2 c = true) : UInt8.ofNat ((c.toNat : Int) + 32).toNat = c + 32 := by
  have := big_lt h
  apply UInt8.toNat.inj
  rw [UInt8.toNat_add]
  simp
  omega
theorem small_any (s : ByteArray) (hs : s.size ≤ maxLen) (w : World) :
    Calls Tryz.prog 45 #[.string s] w fun e w' => e = .returned (.string (ofL (lowL s.toList))) ∧ Below w.heap.size w w' := by
  unfold maxLen at hs
  go_enter Tryz.func45, Tryz.ntmps45
  go_wp2
  go_loopw [3, 8] (fun o i wr => ∃ k : Nat, k ≤ s.size ∧ i = .int .i64 k ∧ o = .string (ofL (lowL (s.toList.take k))) ∧ Below w.heap.size w wr) (fun _ i _ => s.size - (intOf i).toNat)
  case atStart => exact ⟨0, Nat.zero_le _, rfl, rfl, Below.refl _ _⟩
  case round =>
    obtain ⟨k, hk, rfl, rfl, hb⟩ := hrel
    by_cases hlt : k < s.size
    · have Ht := Lib.hid (take_eq s k hlt)
      have hz1 : (ofL (lowL (s.toList.take k))).size ≤ k := by rw [size_ofL]; simp [lowL]; omega
      cases hp : isB 2 s[k]
      · have hz2 : (ofL [s[k]]).size ≤ 1 := by rw [size_ofL]; simp
        have kc := fun wx => conv_one 23 9 5 Tryz.underlying23 Tryz.underlying5 Tryz.underlying9 s[k] wx
        have Hp := Lib.hid hp
        clear hp
        go_wp2_with (go_at_call 66; refine (is_any 2 (by decide) (by decide) _ _).mono ?_; rintro e w' ⟨rfl, hb'⟩; rw [Hp.out])
        go_roundw
        case rel => exact ⟨k + 1, by omega, by go_num, by rw [Ht.out]; unfold lowL; rw [List.map_append, ofL_append]; simp [lowB, Hp.out], (hb.trans (hb'.mono hb.size)).alloc (Nat.le_trans hb.size hb'.size) _⟩
        case measure => simp [intOf]; omega
      · have hbig := big_lt hp
        obtain ⟨hb1, hb2⟩ := hbig
        have kc := fun wx => conv_int 23 9 5 Tryz.underlying23 Tryz.underlying5 Tryz.underlying9 ((s[k].toNat : Int) + 32) (by omega) (by omega) wx
        rw [add32 hp] at kc
        have hz2 : (ofL [s[k] + 32]).size ≤ 1 := by rw [size_ofL]; simp
        have Hp := Lib.hid hp
        clear hp
        go_wp2_with (go_at_call 66; refine (is_any 2 (by decide) (by decide) _ _).mono ?_; rintro e w' ⟨rfl, hb'⟩; rw [Hp.out])
        go_roundw
        case rel => exact ⟨k + 1, by omega, by go_num, by rw [Ht.out]; unfold lowL; rw [List.map_append, ofL_append]; simp [lowB, Hp.out], (hb.trans (hb'.mono hb.size)).alloc (Nat.le_trans hb.size hb'.size) _⟩
        case measure => simp [intOf]; omega
    · go_wp2
      go_ret
      exact ⟨ret_str (by rw [List.take_of_length_le (by rw [len_toL]; omega)]), hb⟩

/-- A text without spaces at its ends. -/
def lastN (l : B) : Nat := (l.reverse.dropWhile (isB 5)).length
def trimL (l : B) : B := (l.drop (eatL 5 l)).take (lastN (l.drop (eatL 5 l)))
theorem lastN_snoc (l : B) (c : UInt8) : lastN (l ++ [c]) = if isB 5 c then lastN l else l.length + 1 := by
  unfold lastN; rw [List.reverse_append]; simp only [List.reverse_cons, List.reverse_nil, List.nil_append, List.singleton_append, List.dropWhile_cons]
  split <;> simp
theorem lastN_le (l : B) : lastN l ≤ l.length := by
  unfold lastN; have := (List.dropWhile_sublist (isB 5) (l := l.reverse)).length_le; simpa using this
theorem trim_any (s : ByteArray) (hs : s.size ≤ maxLen) (w : World) :
    Calls Tryz.prog 46 #[.string s] w fun e w' => e = .returned (.string (ofL (trimL s.toList))) ∧ Below w.heap.size w w' := by
  unfold maxLen at hs
  have he := eatL_le 5 s.toList
  rw [len_toL] at he
  go_enter Tryz.func46, Tryz.ntmps46
  go_wp2_with (go_at_call 47; refine (eat_any 5 (by decide) (by decide) _ hs _).mono ?_; rintro e w1 ⟨rfl, hb1⟩)
  have hT := toL_from s (eatL 5 s.toList)
  have hts : (s.extract (eatL 5 s.toList) s.size).size ≤ s.size := by rw [ByteArray.size_extract]; omega
  have hsz : s.size - eatL 5 s.toList = (s.extract (eatL 5 s.toList) s.size).size := by rw [ByteArray.size_extract]; omega
  rw [hsz]
  clear hsz
  have HT := Lib.hid hT
  clear hT
  generalize s.extract (eatL 5 s.toList) s.size = t at HT hts ⊢
  go_loopw [3, 11] (fun n i wr => ∃ k : Nat, k ≤ t.size ∧ i = .int .i64 k ∧ n = .int .i64 (lastN (t.toList.take k)) ∧ Below w.heap.size w wr) (fun _ i _ => t.size - (intOf i).toNat)
  case atStart => exact ⟨0, Nat.zero_le _, rfl, rfl, hb1⟩
  case round =>
    obtain ⟨k, hk, rfl, rfl, hb⟩ := hrel
    by_cases hlt : k < t.size
    · have Ht := Lib.hid (take_eq t k hlt)
      cases hp : isB 5 t[k]
      all_goals
        have Hp := Lib.hid hp
        clear hp
        go_wp2_with (go_at_call 66; refine (is_any 5 (by decide) (by decide) _ _).mono ?_; rintro e w' ⟨rfl, hb'⟩; rw [Hp.out])
        go_roundw
        case rel => exact ⟨k + 1, by omega, by go_num, by rw [Ht.out, lastN_snoc, Hp.out]; simp [List.length_take, len_toL]; try omega, hb.trans (hb'.mono hb.size)⟩
        case measure => simp [intOf]; omega
    · have hl := lastN_le (t.toList.take k)
      have hl2 : (t.toList.take k).length ≤ t.size := by rw [List.length_take, len_toL]; omega
      have hl3 : lastN (t.toList.take k) ≤ t.size := Nat.le_trans hl hl2
      clear hl hl2
      go_wp2
      go_ret
      exact ⟨ret_strL (by rw [toL_to, List.take_of_length_le (by rw [len_toL]; omega : t.toList.length ≤ k), HT.out]; rfl), hb⟩

/-- A number of 1 to 9 figures. -/
def numF (l : B) : Nat := l.foldl (fun n c => 10 * n + (c.toNat - 48)) 0
def numL (l : B) : Int := if allL l 1 9 1 then (numF l : Int) else -1
theorem numF_snoc (l : B) (c : UInt8) : numF (l ++ [c]) = 10 * numF l + (c.toNat - 48) := by simp [numF]
theorem numF_lt : ∀ (n : Nat) (l : B), l.length = n → l.all (isB 1) = true → numF l < 10 ^ n
  | 0, l, h, _ => by obtain rfl := List.eq_nil_of_length_eq_zero h; decide
  | n + 1, l, h, ha => by
    rcases List.eq_nil_or_concat l with rfl | ⟨l', c, rfl⟩
    · simp at h
    · rw [List.concat_eq_append] at *
      have h1 : l'.length = n := by simpa using h
      rw [List.all_append] at ha
      have ha' : l'.all (isB 1) = true ∧ isB 1 c = true := by simpa using ha
      have ih := numF_lt n l' h1 ha'.1
      have hc : (48:Int) ≤ c.toNat ∧ (c.toNat:Int) ≤ 57 := by simpa [isB, inB] using ha'.2
      rw [numF_snoc, Nat.pow_succ]; omega
theorem numL_lt {l : B} (h : allL l 1 9 1 = true) : numF l < 1000000000 := by
  unfold allL at h
  simp only [Bool.and_eq_true, decide_eq_true_eq] at h
  exact Nat.lt_of_lt_of_le (numF_lt _ l rfl h.1.1) (Nat.pow_le_pow_right (by decide) h.2)
theorem number_any (s : ByteArray) (hs : s.size ≤ maxLen) (w : World) :
    Calls Tryz.prog 43 #[.string s] w fun e w' => e = .returned (.int .i64 (numL s.toList)) ∧ Below w.heap.size w w' := by
  unfold maxLen at hs
  cases ha : allL s.toList 1 9 1
  · have Ha := Lib.hid ha
    clear ha
    go_enter Tryz.func43, Tryz.ntmps43
    go_wp2_with (go_at_call 44; refine (all_any 1 (by decide) (by decide) 1 9 _ hs _).mono ?_; rintro e w1 ⟨rfl, hb1⟩; rw [Ha.out])
    go_ret
    exact ⟨ret_int (by simp [numL, Ha.out]), hb1⟩
  · have Ha := Lib.hid ha
    clear ha
    have hsz : s.size ≤ 9 := by have := Ha.out; unfold allL at this; simp only [Bool.and_eq_true, decide_eq_true_eq, len_toL] at this; exact this.2
    have hall : ∀ c, c ∈ s.toList → isB 1 c = true := by have := Ha.out; unfold allL at this; simp only [Bool.and_eq_true] at this; exact List.all_eq_true.1 this.1.1
    have Hall := Lib.hid hall
    clear hall
    go_enter Tryz.func43, Tryz.ntmps43
    go_wp2_with (go_at_call 44; refine (all_any 1 (by decide) (by decide) 1 9 _ hs _).mono ?_; rintro e w1 ⟨rfl, hb1⟩; rw [Ha.out])
    go_loop [3, 10] (fun n i => ∃ k : Nat, k ≤ s.size ∧ i = .int .i64 k ∧ n = .int .i64 (numF (s.toList.take k))) (fun _ i => s.size - (intOf i).toNat)
    case atStart => exact ⟨0, Nat.zero_le _, rfl, rfl⟩
    case round =>
      obtain ⟨k, hk, rfl, rfl⟩ := hrel
      by_cases hlt : k < s.size
      · have Ht := Lib.hid (take_eq s k hlt)
        have hc : 48 ≤ (s[k].toNat : Int) ∧ (s[k].toNat : Int) ≤ 57 := by
          have h := Hall.out s[k] (by have := List.mem_of_getElem? (get_eq s k hlt); exact this)
          simpa [isB, inB] using h
        obtain ⟨hc1, hc2⟩ := hc
        have hn : numF (s.toList.take k) < 1000000000 := by
          refine Nat.lt_of_lt_of_le (numF_lt k _ (by rw [List.length_take, len_toL]; omega) ?_) (Nat.le_trans (Nat.pow_le_pow_right (by decide) (by omega : k ≤ 9)) (by decide))
          exact List.all_eq_true.2 fun c hc => Hall.out c (List.mem_of_mem_take hc)
        go_wp2
        go_round
        case rel => exact ⟨k + 1, by omega, by go_num, by rw [Ht.out, numF_snoc]; go_num⟩
        case measure => simp [intOf]; omega
      · go_wp2
        go_ret
        exact ⟨ret_int (by rw [List.take_of_length_le (by rw [len_toL]; omega)]; simp [numL, Ha.out]), hb1⟩

/-- A hexadecimal figure's number; 16: it is none. -/
def hexL : B := [48, 49, 50, 51, 52, 53, 54, 55, 56, 57, 97, 98, 99, 100, 101, 102]
def hexN (c : UInt8) : Nat := whereL [lowB c] hexL
end Go.Proofs.YtgdelmkgdfhdpaaGreatDoor
namespace Go.Proofs.YtgdelmkgdfhdpaaGreatDoor
open Go.RowKit
set_option linter.unusedVariables false
set_option linter.unusedSimpArgs false

/-- A slice value reads as n elements of so many cells each: the cells are cs. -/
def Rd (w : World) (size : Nat) (v : Value) (n : Nat) (cs : List Value) : Prop :=
  cs.length = n * size ∧ ∃ A c, v = .slice A n c ∧ n ≤ c ∧ c ≤ maxLen ∧ (A = none → n = 0) ∧
    ∀ a, A = some a → a.spot = none ∧ ∀ j u, cs[j]? = some u → w.cell? ⟨a.block, a.off + j, none⟩ = some u

theorem Rd.mono {w w' : World} {size : Nat} {v : Value} {n : Nat} {cs : List Value} (h : Rd w size v n cs)
    (hk : ∀ b o u, w.cell? ⟨b, o, none⟩ = some u → w'.cell? ⟨b, o, none⟩ = some u) : Rd w' size v n cs := by
  obtain ⟨h1, A, c, h2, h3, h4, h5, h6⟩ := h
  exact ⟨h1, A, c, h2, h3, h4, h5, fun a ha => ⟨(h6 a ha).1, fun j u hj => hk _ _ _ ((h6 a ha).2 j u hj)⟩⟩
theorem lt_of_cell {w : World} {b o : Nat} {u : Value} (h : w.cell? ⟨b, o, none⟩ = some u) : b < w.heap.size := World.block_lt_of_cell? w ⟨b, o, none⟩ h
theorem Below.keeps {w w' : World} (hb : Below w.heap.size w w') {b o : Nat} {u : Value} (h : w.cell? ⟨b, o, none⟩ = some u) : w'.cell? ⟨b, o, none⟩ = some u := by
  rw [hb.cell (p := ⟨b, o, none⟩) (lt_of_cell h)]; exact h
theorem Rd.below {w w' : World} {size : Nat} {v : Value} {n : Nat} {cs : List Value} (h : Rd w size v n cs) (hb : Below w.heap.size w w') : Rd w' size v n cs :=
  h.mono fun _ _ _ hc => Below.keeps hb hc
theorem keeps_alloc {w : World} {b o : Nat} {u : Value} (h : w.cell? ⟨b, o, none⟩ = some u) (x : Obj) : (w.alloc x).cell? ⟨b, o, none⟩ = some u := Below.keeps ((Below.refl _ _).alloc (Nat.le_refl _) x) h
theorem Rd.alloc {w : World} {size : Nat} {v : Value} {n : Nat} {cs : List Value} (h : Rd w size v n cs) (x : Obj) : Rd (w.alloc x) size v n cs := h.mono fun _ _ _ hc => keeps_alloc hc x

/-- The cells of element k. -/
theorem Rd.at {w : World} {size : Nat} {A : Option Addr} {c : Nat} {n m : Nat} {cs : List Value} (h : Rd w size (.slice A m c) n cs) {k : Nat} (hk : k < n) :
    ∃ b o, A = some ⟨b, o, none⟩ ∧ ∀ i, i < size → ∃ u, cs[k * size + i]? = some u ∧ w.cell? ⟨b, o + (k * size + i), none⟩ = some u := by
  obtain ⟨h1, A', c', h2, h3, h4, h5, h6⟩ := h
  simp only [Value.slice.injEq] at h2
  obtain ⟨rfl, rfl, rfl⟩ := h2
  cases A with
  | none => have := h5 rfl; omega
  | some a =>
    obtain ⟨hs, hc⟩ := h6 a rfl
    refine ⟨a.block, a.off, by cases a; simp at hs; subst hs; rfl, fun i hi => ?_⟩
    have hlt : k * size + i < cs.length := by
      rw [h1]; have : (k + 1) * size ≤ m * size := Nat.mul_le_mul_right _ hk
      rw [Nat.add_mul] at this; omega
    exact ⟨cs[k * size + i], List.getElem?_eq_getElem hlt, hc _ _ (List.getElem?_eq_getElem hlt)⟩

/-- What is owned is read. -/
theorem rd_of_own {w : World} {base : Nat} {e : TypeId} {size : Nat} {v : Value} {n : Nat} {xs : List Value} (h : w.ownsRow base e size v n xs) : Rd w size v n xs := by
  refine ⟨h.1, ?_⟩
  rcases h.2 with ⟨rfl, rfl⟩ | ⟨g, cap, cur, rfl, hb, hg, hc, hm, hs, ht⟩
  · exact ⟨none, 0, rfl, Nat.le_refl _, Nat.zero_le _, fun _ => rfl, fun a ha => by cases ha⟩
  · refine ⟨some ⟨g, 0, none⟩, cap, rfl, hc, hm, (fun h => by cases h), fun a ha => ?_⟩
    cases ha
    refine ⟨rfl, fun j u hj => ?_⟩
    rw [Nat.zero_add, cell_of_row w g j cur e (0, 0) hg]
    rw [← ht, List.getElem?_take] at hj
    split at hj
    · simpa using hj
    · cases hj

/-- The cells of texts; of pairs of texts. -/
def strs (l : List B) : List Value := l.map fun s => .string (ofL s)
def pairs (l : List (B × B)) : List Value := l.flatMap fun h => [.string (ofL h.1), .string (ofL h.2)]
def bytesV (l : B) : List Value := l.map fun c => .int .u8 c.toNat
theorem strs_len (l : List B) : (strs l).length = l.length := by simp [strs]
theorem bytesV_len (l : B) : (bytesV l).length = l.length := by simp [bytesV]
theorem pairs_len : ∀ l : List (B × B), (pairs l).length = l.length * 2
  | [] => rfl
  | h :: l => by have := pairs_len l; simp [pairs] at this ⊢; omega
theorem strs_snoc (l : List B) (s : B) : strs (l ++ [s]) = strs l ++ [.string (ofL s)] := by simp [strs]
theorem pairs_snoc (l : List (B × B)) (h : B × B) : pairs (l ++ [h]) = pairs l ++ [.string (ofL h.1), .string (ofL h.2)] := by simp [pairs]
theorem bytesV_append (l m : B) : bytesV (l ++ m) = bytesV l ++ bytesV m := by simp [bytesV]
theorem strs_at {l : List B} {k : Nat} {s : B} (h : l[k]? = some s) : (strs l)[k]? = some (.string (ofL s)) := by simp [strs, h]
theorem bytesV_at {l : B} {k : Nat} {c : UInt8} (h : l[k]? = some c) : (bytesV l)[k]? = some (.int .u8 c.toNat) := by simp [bytesV, h]
theorem pairs_at : ∀ {l : List (B × B)} {k : Nat} {h : B × B}, l[k]? = some h → (pairs l)[k * 2]? = some (.string (ofL h.1)) ∧ (pairs l)[k * 2 + 1]? = some (.string (ofL h.2))
  | [], k, h, e => by simp at e
  | x :: l, 0, h, e => by simp at e; subst e; simp [pairs]
  | x :: l, k + 1, h, e => by
    have ih := pairs_at (l := l) (k := k) (h := h) (by simpa using e)
    have h2 : (k + 1) * 2 = k * 2 + 2 := by omega
    have h3 : pairs (x :: l) = [.string (ofL x.1), .string (ofL x.2)] ++ pairs l := by simp [pairs]
    rw [h2, h3]
    exact ⟨by rw [List.getElem?_append_right (by simp)]; simpa using ih.1, by rw [List.getElem?_append_right (by simp)]; simpa using ih.2⟩

/-- Elements of the three kinds, by place. -/
theorem Rd.strAt {w : World} {A : Option Addr} {c m : Nat} {l : List B} (h : Rd w 1 (.slice A m c) l.length (strs l)) {k : Nat} {s : B} (hk : l[k]? = some s) :
    ∃ b o, A = some ⟨b, o, none⟩ ∧ w.cell? ⟨b, o + k, none⟩ = some (.string (ofL s)) := by
  obtain ⟨b, o, hA, hc⟩ := h.at (List.getElem?_eq_some_iff.1 hk).1
  obtain ⟨u, h1, h2⟩ := hc 0 (by decide)
  rw [Nat.mul_one, Nat.add_zero] at h1 h2
  rw [strs_at hk] at h1
  cases h1
  exact ⟨b, o, hA, h2⟩
theorem Rd.byteAt {w : World} {A : Option Addr} {c m : Nat} {l : B} (h : Rd w 1 (.slice A m c) l.length (bytesV l)) {k : Nat} {x : UInt8} (hk : l[k]? = some x) :
    ∃ b o, A = some ⟨b, o, none⟩ ∧ w.cell? ⟨b, o + k, none⟩ = some (.int .u8 x.toNat) := by
  obtain ⟨b, o, hA, hc⟩ := h.at (List.getElem?_eq_some_iff.1 hk).1
  obtain ⟨u, h1, h2⟩ := hc 0 (by decide)
  rw [Nat.mul_one, Nat.add_zero] at h1 h2
  rw [bytesV_at hk] at h1
  cases h1
  exact ⟨b, o, hA, h2⟩
theorem Rd.pairAt {w : World} {A : Option Addr} {c m : Nat} {l : List (B × B)} (h : Rd w 2 (.slice A m c) l.length (pairs l)) {k : Nat} {x : B × B} (hk : l[k]? = some x) :
    ∃ b o, A = some ⟨b, o, none⟩ ∧ w.cell? ⟨b, o + k * 2, none⟩ = some (.string (ofL x.1)) ∧ w.cell? ⟨b, o + k * 2 + 1, none⟩ = some (.string (ofL x.2)) := by
  obtain ⟨b, o, hA, hc⟩ := h.at (List.getElem?_eq_some_iff.1 hk).1
  obtain ⟨u, h1, h2⟩ := hc 0 (by decide)
  obtain ⟨u', h1', h2'⟩ := hc 1 (by decide)
  obtain ⟨p1, p2⟩ := pairs_at hk
  rw [Nat.add_zero] at h1 h2
  rw [p1] at h1
  rw [p2] at h1'
  cases h1; cases h1'
  exact ⟨b, o, hA, h2, by rw [Nat.add_assoc]; exact h2'⟩
theorem oneCell_str (s : ByteArray) : ∀ u ∈ [Value.string s], u.oneCell' = true := by intro u hu; simp at hu; subst hu; rfl
theorem oneCell_pair (s t : ByteArray) : ∀ u ∈ [Value.string s, .string t], u.oneCell' = true := by intro u hu; simp at hu; rcases hu with rfl | rfl <;> rfl
theorem oneCell_bytes (l : B) : ∀ u ∈ bytesV l, u.oneCell' = true := by intro u hu; simp [bytesV] at hu; obtain ⟨c, _, rfl⟩ := hu; rfl

theorem Rd.shape {w : World} {size : Nat} {v : Value} {n : Nat} {cs : List Value} (h : Rd w size v n cs) : ∃ A c, v = .slice A n c := by
  obtain ⟨_, A, c, h, _⟩ := h; exact ⟨A, c, h⟩

theorem below_drewN (B : Nat) (w : World) (n : Nat) : Below B w (w.drewN n) := ⟨rfl, rfl, rfl, Nat.le_refl _, fun _ _ => rfl⟩

theorem _root_.Go.RowKit.Below.next {w a b : World} (h : Below w.heap.size w a) (k : Below a.heap.size a b) : Below w.heap.size w b := h.trans (k.mono h.size)
theorem own_below {w w' : World} {base : Nat} {e : TypeId} {size : Nat} {v : Value} {n : Nat} {xs : List Value} (h : w.ownsRow base e size v n xs) (hb : Below w.heap.size w w') : w'.ownsRow base e size v n xs :=
  h.kept (row := none) ⟨hb.os, hb.tape, hb.output, hb.size, fun k hk _ => hb.block k hk⟩ (by cases v.ownBlock <;> simp)

/-- A slice type's element, as the program's table has it. -/
def Row (P : Program) (t e : TypeId) (z : Value) (size bytes : Nat) : Prop :=
  P.underlying t = some (.slice e) ∧ (∃ i, P.info? e = some i ∧ i.zero = some z ∧ i.size = size ∧ i.bytes = bytes) ∧ z.cells.size = size ∧ 0 < size ∧ 0 < bytes

theorem cells_new {w0 : World} {e : TypeId} {news : List Value} (j : Nat) (u : Value) (h : news[j]? = some u) :
    (w0.alloc (.cells news.toArray e)).cell? ((⟨w0.heap.size, 0, none⟩ : Addr).add j) = some u := by
  have hadd : (⟨w0.heap.size, 0, none⟩ : Addr).add j = ⟨w0.heap.size, j, none⟩ := by unfold Addr.add; split <;> simp_all
  rw [hadd, World.cell?_alloc_mark]; simpa using h

/-- 'append(xs, x)' of an own slice: what is owned grows by one. -/
theorem wpList_push {P : Program} (w0 : World) {ops : Array Oper} {rest : List Oper} {o : Oper} {a : Act} {Q : Exit → Act → World → Prop} (hgd : o.guard = none) (s x : Operand) (t : TypeId)
    (ho : o.op = .call { callee := .builtin .append, args := #[s, x], argTypes := #[t, t] })
    (base : Nat) {e : TypeId} {z : Value} {size bytes : Nat} (hrow : Row P t e z size bytes)
    (v : Value) (n : Nat) (xs : List Value) (hs : a.eval s = v) (hown : w0.ownsRow base e size v n xs)
    (news : List Value) (g : Nat) (hx : a.eval x = .slice (some ⟨g, 0, none⟩) 1 1) (hg : g = w0.heap.size) (hl : news.length = size) (h1 : ∀ u ∈ news, u.oneCell' = true)
    (hbytes : (n + 1) * bytes ≤ 140737488355328) (hbase : base ≤ w0.heap.size)
    (h : ∀ v' w', w'.ownsRow base e size v' (n + 1) (xs ++ news) → (w0.alloc (.cells news.toArray e)).grownBy w' v.ownBlock → Below base w0 w' → v' ≠ .slice none 0 0 → wpList P ops Q rest (a.put o.dst v') w') :
    wpList P ops Q (o :: rest) a (w0.alloc (.cells news.toArray e)) := by
  obtain ⟨ht, ⟨i, hi, hz, hsize, hby⟩, hzs, hsz, hbz⟩ := hrow
  subst hg
  have hle : n + 1 ≤ (n + 1) * bytes := Nat.le_mul_of_pos_right _ hbz
  refine wpList_append_own _ hgd s x t ho base e i z size bytes ht hi hz hsize hby hzs hsz v n xs hs (hown.alloc _) ⟨w0.heap.size, 0, none⟩ 1 1 news hx (by rw [hl, Nat.one_mul]) cells_new h1
    (by unfold maxLen; omega) hbytes (by simp; omega) fun v' w' h2 h3 h4 => ?_
  refine h v' w' h2 h3 (((Below.refl base w0).alloc hbase _).grown h3 (by simp; omega) fun k hk => (hown.lt k hk).1) ?_
  intro hv
  have := (h4.1 hv).2
  omega

/-- 'append(xs, x)', as one step of a region that draws its order. -/
theorem step_push {P : Program} {w0 : World} {ops : Array Oper} {o : Oper} {a : Act} {K : Act → World → Prop} {Q : Exit → Act → World → Prop} {E : Prop} (hgd : o.guard = none) (s x : Operand) (t : TypeId)
    (ho : o.op = .call { callee := .builtin .append, args := #[s, x], argTypes := #[t, t] })
    (base : Nat) {e : TypeId} {z : Value} {size bytes : Nat} (hrow : Row P t e z size bytes)
    (v : Value) (n : Nat) (xs : List Value) (hs : a.eval s = v) (hown : w0.ownsRow base e size v n xs)
    (news : List Value) (g : Nat) (hx : a.eval x = .slice (some ⟨g, 0, none⟩) 1 1) (hg : g = w0.heap.size) (hl : news.length = size) (h1 : ∀ u ∈ news, u.oneCell' = true)
    (hbytes : (n + 1) * bytes ≤ 140737488355328) (hbase : base ≤ w0.heap.size)
    (h : ∀ v' w', w'.ownsRow base e size v' (n + 1) (xs ++ news) → (w0.alloc (.cells news.toArray e)).grownBy w' v.ownBlock → Below base w0 w' → v' ≠ .slice none 0 0 → K (a.put o.dst v') w') :
    if Region.wanted o (yielded ops a.tmps) = true then Oper.wp P o a (w0.alloc (.cells news.toArray e)) K Q else E := by
  have hw : Region.wanted o (yielded ops a.tmps) = true := by simp [Region.wanted, hgd]
  rw [if_pos hw]
  subst hg
  obtain ⟨ht, ⟨i, hi, hz, hsize, hby⟩, hzs, hsz, hbz⟩ := hrow
  have hle : n + 1 ≤ (n + 1) * bytes := Nat.le_mul_of_pos_right _ hbz
  refine wp_append_own _ s x t ho base e i z size bytes ht hi hz hsize hby hzs hsz v n xs hs (hown.alloc _) ⟨w0.heap.size, 0, none⟩ 1 1 news hx (by rw [hl, Nat.one_mul]) cells_new h1
    (by unfold maxLen; omega) hbytes (by simp; omega) fun v' w' h2 h3 h4 => ?_
  refine h v' w' h2 h3 (((Below.refl base w0).alloc hbase _).grown h3 (by simp; omega) fun k hk => (hown.lt k hk).1) ?_
  intro hv
  have := (h4.1 hv).2
  omega

/-- 'append(b, s...)', s a text. -/
theorem wpList_pushStr {P : Program} (w : World) {ops : Array Oper} {rest : List Oper} {o : Oper} {a : Act} {Q : Exit → Act → World → Prop} (hgd : o.guard = none) (sl x : Operand) (t u : TypeId)
    (ho : o.op = .call { callee := .builtin .append, args := #[sl, x], argTypes := #[t, u] })
    (base : Nat) {e : TypeId} (hrow : Row P t e (.int .u8 0) 1 1) (hu : P.underlying u = some .string)
    (v : Value) (l : B) (hs : a.eval sl = v) (hown : w.ownsRow base e 1 v l.length (bytesV l)) (s : ByteArray) (hx : a.eval x = .string s)
    (hbytes : l.length + s.size ≤ 140737488355328) (hbase : base ≤ w.heap.size)
    (h : ∀ v' w', w'.ownsRow base e 1 v' (l ++ s.toList).length (bytesV (l ++ s.toList)) → w.grownBy w' v.ownBlock → Below base w w' → wpList P ops Q rest (a.put o.dst v') w') : wpList P ops Q (o :: rest) a w := by
  obtain ⟨ht, ⟨i, hi, hz, hsize, hby⟩, hzs, hsz, hbz⟩ := hrow
  refine Lib.wpList_append_own_string w hgd sl x t u ho base e i ht hu hi hz hsize hby v _ _ hs hown s hx (by unfold maxLen; omega) hbytes hbase fun v' w' h2 h3 h4 => ?_
  refine h v' w' ?_ h3 ((Below.refl base w).grown h3 hbase fun k hk => (hown.lt k hk).1)
  have hc : Lib.strCells s = bytesV s.toList := by unfold Lib.strCells bytesV; rw [toL_eq]
  rw [List.length_append, len_toL, bytesV_append, ← hc]
  exact h2

/-- '[]byte(s)': what lies there reads as the text's bytes. -/
theorem rd_bytes {w : World} {s : ByteArray} {cap : Nat} {e : TypeId} {fr : Nat × Nat} (hc : s.size ≤ cap) (hm : cap ≤ maxLen) :
    Rd (w.alloc (.cells (bytesRow s cap) e fr)) 1 (.slice (some ⟨w.heap.size, 0, none⟩) s.size cap) s.size (bytesV s.toList) := by
  refine ⟨by rw [bytesV_len, len_toL]; omega, _, _, rfl, hc, hm, (fun h => by cases h), fun a ha => ?_⟩
  cases ha
  refine ⟨rfl, fun j u hj => ?_⟩
  have hlt : j < s.data.size := by
    have := (List.getElem?_eq_some_iff.1 hj).1
    rw [bytesV_len, len_toL] at this; exact this
  rw [Nat.zero_add, World.cell?_alloc_mark, bytesRow_at s cap j hlt]
  have h2 := bytesV_at (get_eq s j hlt)
  rw [h2] at hj
  exact hj
/-- The same, the length under another name, a draw behind it. -/
theorem rd_bytes' {w wc : World} {s : ByteArray} {n : Nat} {e : TypeId} {fr : Nat × Nat} (hn : s.size = n) (hm : n ≤ 1099511627776) :
    Rd (w.alloc (.cells (bytesRow s (grownCap wc n 0 e)) e fr)).drew 1 (.slice (some ⟨w.heap.size, 0, none⟩) n (grownCap wc n 0 e)) s.toList.length (bytesV s.toList) := by
  subst hn
  rw [len_toL]
  exact rd_bytes (w := w) (grownCap_ge _ _ _ _) (grownCap_le_maxLen _ _ _ _ (by unfold maxLen; omega))
end Go.Proofs.YtgdelmkgdfhdpaaGreatDoor
namespace Go.Proofs.YtgdelmkgdfhdpaaGreatDoor
open Go.RowKit
set_option linter.unusedVariables false
set_option linter.unusedSimpArgs false
set_option maxRecDepth 100000

theorem rowS : Row Tryz.prog 60 9 (.string ⟨#[]⟩) 1 16 :=
  ⟨Tryz.underlying60, info_parts (by kernel_rfl), rfl, by decide, by decide⟩
theorem rowB : Row Tryz.prog 23 5 (.int .u8 0) 1 1 :=
  ⟨Tryz.underlying23, info_parts (by kernel_rfl), rfl, by decide, by decide⟩
theorem rowH : Row Tryz.prog 22 30 (.agg #[(.string ⟨#[]⟩), (.string ⟨#[]⟩)]) 2 32 :=
  ⟨Tryz.underlying22, info_parts (by kernel_rfl), rfl, by decide, by decide⟩

def valuesL (hs : List (B × B)) (nm : B) : List B := (hs.filter fun h => h.1 == nm).map (·.2)
theorem valuesL_snoc (hs : List (B × B)) (h : B × B) (nm : B) : valuesL (hs ++ [h]) nm = valuesL hs nm ++ if h.1 == nm then [h.2] else [] := by
  unfold valuesL; rw [List.filter_append, List.map_append]; simp only [List.filter_cons, List.filter_nil]; split <;> simp
theorem valuesL_le (hs : List (B × B)) (nm : B) : (valuesL hs nm).length ≤ hs.length := by unfold valuesL; simp [List.length_filter_le]
theorem take_snoc' {α : Type} {l : List α} {k : Nat} {x : α} (h : l[k]? = some x) : l.take (k + 1) = l.take k ++ [x] := by rw [List.take_add_one, h]; rfl
/-- A head's lines. -/
def cutL (s : B) : List B :=
  if h : whereL [13, 10] s < s.length then s.take (whereL [13, 10] s) :: cutL (s.drop (whereL [13, 10] s + 2)) else [s]
termination_by s.length
decreasing_by simp; omega
theorem whereL_hit (t : B) : ∀ s : B, whereL t s < s.length → t <+: s.drop (whereL t s)
  | [], h => by simp at h
  | c :: r, h => by
    unfold whereL at h ⊢
    split
    · rename_i hp; simpa using List.isPrefixOf_iff_prefix.1 hp
    · rename_i hp; rw [if_neg hp] at h; simpa using whereL_hit t r (by simpa using h)
theorem whereL_room {t s : B} (h : whereL t s < s.length) : whereL t s + t.length ≤ s.length := by
  have := (whereL_hit t s h).length_le; rw [List.length_drop] at this; omega
theorem cutL_yes {s : B} (h : whereL [13, 10] s < s.length) : cutL s = s.take (whereL [13, 10] s) :: cutL (s.drop (whereL [13, 10] s + 2)) := by rw [cutL, dif_pos h]
theorem cutL_no {s : B} (h : ¬ whereL [13, 10] s < s.length) : cutL s = [s] := by rw [cutL, dif_neg h]
theorem whereCR_any (s : ByteArray) (hs : s.size ≤ maxLen) (w : World) :
    Calls Tryz.prog 32 #[.string ⟨#[13, 10]⟩, .string s] w fun e w' => e = .returned (.int .i64 (whereL [13, 10] s.toList)) ∧ w = w' := by
  have h := where_any s ⟨#[13, 10]⟩ hs w
  rwa [show (⟨#[13, 10]⟩ : ByteArray).toList = [13, 10] from ByteArray.toList_mk [13, 10]] at h
def strLen : Value → Nat | .string s => s.size | _ => 0
theorem cut_any (s : ByteArray) (hs : s.size ≤ 1048576) (w : World) :
    Calls Tryz.prog 34 #[.string s] w fun e w' => ∃ v, e = .returned v ∧ w'.ownsRow w.heap.size 9 1 v (cutL s.toList).length (strs (cutL s.toList)) ∧ Below w.heap.size w w' := by
  go_enter Tryz.func34, Tryz.ntmps34
  go_wp2
  go_loopw [0, 3] (fun sv o wr => ∃ (t : ByteArray) (done : List B), sv = .string t ∧ done ++ cutL t.toList = cutL s.toList ∧ done.length + t.size ≤ 1048576 ∧ wr.ownsRow w.heap.size 9 1 o done.length (strs done) ∧ Below w.heap.size w wr) (fun sv _ _ => strLen sv)
  case atStart => exact ⟨s, [], rfl, rfl, by simpa using hs, World.ownsRow_nil _ _ _ _, Below.refl _ _⟩
  case round =>
    obtain ⟨t, done, rfl, he, hd, hown, hb⟩ := hrel
    have He := Lib.hid he
    clear he
    have hw := whereL_le [13, 10] t.toList
    have hlt := len_toL t
    rw [hlt] at hw
    have Hto := Lib.hid (toL_to t (whereL [13, 10] t.toList))
    by_cases hn : whereL [13, 10] t.toList < t.size
    · have hr := whereL_room (t := [13, 10]) (s := t.toList) (by rw [hlt]; exact hn)
      rw [hlt] at hr
      have hr' : whereL [13, 10] t.toList + 2 ≤ t.size := hr
      have Hy := Lib.hid (cutL_yes (s := t.toList) (by rw [hlt]; exact hn))
      have Hfr := Lib.hid (toL_from t (whereL [13, 10] t.toList + 2))
      clear hr hlt
      have hne : ((whereL [13, 10] t.toList : Int) == (t.size : Int)) = false := by simp; omega
      go_wp2_with (first | (go_at_call 32; refine (whereCR_any _ (by unfold maxLen; omega) _).mono ?_; rintro e w' ⟨rfl, rfl⟩) | (at_builtin; refine wpList_push _ rfl _ _ 60 rfl w.heap.size rowS _ _ _ rfl hown [.string (t.extract 0 (whereL [13, 10] t.toList))] _ rfl (by simp) rfl (oneCell_str _) (by omega) hb.size ?_))
      intro v' w1 hown1 _ hb1 _
      clear hown
      go_wp2
      go_roundw
      case rel => exact ⟨_, done ++ [t.toList.take (whereL [13, 10] t.toList)], rfl, by rw [Hfr.out, ← He.out, Hy.out]; simp, by rw [ByteArray.size_extract]; simp; omega, by simpa [strs, ← Hto.out, ofL_toL] using hown1, hb.trans hb1⟩
      case measure => simp only [strLen, ByteArray.size_extract]; omega
    · have hno := cutL_no (s := t.toList) (by rw [hlt]; exact hn)
      have Hn := Lib.hid hno
      clear hno hlt
      have he : whereL [13, 10] t.toList = t.size := by omega
      have He' := Lib.hid he
      clear he
      go_wp2_with (first | (go_at_call 32; refine (whereCR_any _ (by unfold maxLen; omega) _).mono ?_; rintro e w' ⟨rfl, rfl⟩; rw [He'.out]) | (at_builtin; refine wpList_push _ rfl _ _ 60 rfl w.heap.size rowS _ _ _ rfl hown [.string t] _ rfl (by simp) rfl (oneCell_str _) (by omega) hb.size ?_))
      intro v' w1 hown1 _ hb1 _
      clear hown
      go_wp2
      go_ret
      exact ⟨_, rfl, by rw [← He.out, Hn.out]; simpa [strs, ofL_toL] using hown1, hb.trans hb1⟩

theorem hdr_eq (w : World) (x0 y0 x1 y1 : ByteArray) :
    (Op.equalIn 10000 30 (.agg #[.string x0, .string x1]) (.agg #[.string y0, .string y1])).run Tryz.prog w = .ok (x0.toList == y0.toList && (x1.toList == y1.toList)) w := by
  rw [run_equalIn_struct w 9999 30 _ _ (by rw [Program.fieldsOf, Tryz.underlying30]) (by kernel_rfl)]
  simp only [Program.fieldsOf, Tryz.underlying30]
  go_simp
  by_cases h0 : x0.toList = y0.toList <;> by_cases h1 : x1.toList = y1.toList <;> simp [h0, h1]
theorem hdr_dec (h g : B × B) : ((ofL h.1).toList == (ofL g.1).toList && ((ofL h.2).toList == (ofL g.2).toList)) = decide (h = g) := by
  obtain ⟨a, b⟩ := h; obtain ⟨c, d⟩ := g
  rw [Bool.eq_iff_iff]; simp [toL_ofL]
theorem sameHdr_any (hs gs : List (B × B)) (v u : Value) (w : World) (hR : Rd w 2 v hs.length (pairs hs)) (hS : Rd w 2 u gs.length (pairs gs)) (hn : hs.length ≤ maxLen) (hm : gs.length ≤ maxLen) :
    Calls Tryz.prog 29 #[v, u] w fun e w' => e = .returned (.bool (decide (hs = gs))) ∧ Below w.heap.size w w' := by
  have HR := Lib.hid hR
  have HS := Lib.hid hS
  obtain ⟨A, c, rfl⟩ := hR.shape
  obtain ⟨A', c', rfl⟩ := hS.shape
  clear hR hS
  unfold maxLen at hn hm
  by_cases hl : hs.length = gs.length
  · have Hl := Lib.hid hl
    go_enter Tryz.func29, Tryz.ntmps29
    go_wp2
    go_loopw [13] (fun i wr => ∃ k : Nat, k ≤ hs.length ∧ i = .int .i64 k ∧ hs.take k = gs.take k ∧ Below w.heap.size w wr) (fun i _ => hs.length - (intOf i).toNat)
    case atStart => exact ⟨0, Nat.zero_le _, rfl, rfl, Below.refl _ _⟩
    case round =>
      obtain ⟨k, hk, rfl, he, hb⟩ := hrel
      have He := Lib.hid he
      clear he
      by_cases hlt : k < hs.length
      · obtain ⟨h, hh⟩ : ∃ h, hs[k]? = some h := ⟨hs[k], List.getElem?_eq_getElem hlt⟩
        obtain ⟨g, hg⟩ : ∃ g, gs[k]? = some g := ⟨gs[k]'(by omega), List.getElem?_eq_getElem (by omega)⟩
        obtain ⟨b, o, rfl, hc1, hc2⟩ := (HR.out.below hb).pairAt hh
        obtain ⟨b', o', rfl, hd1, hd2⟩ := (HS.out.below hb).pairAt hg
        have hlt' : k < gs.length := by omega
        clear hl
        have kq := fun w' => hdr_eq w' (ofL h.1) (ofL g.1) (ofL h.2) (ofL g.2)
        rw [hdr_dec] at kq
        by_cases hhg : h = g
        · rw [decide_eq_true hhg] at kq
          have Hs : Hid (hs.take (k + 1) = gs.take (k + 1)) := by show _ = _; rw [take_snoc' hh, take_snoc' hg, He.out, hhg]
          clear hh hg hhg
          go_wp2
          go_quiet (fail)
          go_wp2
          go_roundw
          case rel => exact ⟨k + 1, by omega, by go_num, Hs.out, hb.trans (below_drewN _ _ _)⟩
          case measure => simp [intOf]; omega
        · rw [decide_eq_false hhg] at kq
          have Hs : Hid (hs ≠ gs) := fun e => by rw [e] at hh; rw [hh] at hg; exact hhg (Option.some.inj hg)
          clear hh hg hhg
          go_wp2
          go_quiet (fail)
          go_wp2
          go_ret
          exact ⟨ret_bool (by simp [Hs.out]), hb.trans (below_drewN _ _ _)⟩
      · have hk' : ¬ k < gs.length := by omega
        have Hf : Hid (hs = gs) := by show _ = _; have := He.out; rwa [List.take_of_length_le (by omega), List.take_of_length_le (by have := Hl.out; omega)] at this
        go_wp2
        go_ret
        exact ⟨ret_bool (by simp [Hf.out]), hb⟩
  · have Hf : Hid (hs ≠ gs) := fun e => hl (by rw [e])
    have hl' : ((hs.length : Int) != (gs.length : Int)) = true := by simp; omega
    go_enter Tryz.func29, Tryz.ntmps29
    go_wp2
    go_ret
    exact ⟨ret_bool (by simp [Hf.out]), Below.refl _ _⟩
end Go.Proofs.YtgdelmkgdfhdpaaGreatDoor
namespace Go.Proofs.YtgdelmkgdfhdpaaGreatDoor
open Go.RowKit
set_option linter.unusedVariables false
set_option linter.unusedSimpArgs false
set_option maxRecDepth 100000

/-- Do CR LF stand ahead? 0; 400; 1: more is to come. -/
def ends1 : B → Nat
  | [] => 1
  | d :: _ => if d.toNat = 10 then 0 else 400
def endsL : B → Nat
  | [] => 1
  | c :: l => if c.toNat = 13 then ends1 l else 400
def EndsRel (l : B) (a k : Nat) : Prop := (k = 1 → endsL (l.drop a) = ends1 (l.drop (a + 1))) ∧ (k = 2 → endsL (l.drop a) = 0)
theorem getD_eq (s : ByteArray) (k : Nat) (h : k < s.size) : s.toList.getD k 0 = s[k] := by
  rw [List.getD_eq_getElem?_getD, get_eq s k h]; rfl
/-- A first line's method and target, and why there are none. -/
def bad (n : Nat) : B × B × Nat := ([], [], n)
def line3 (m t v : B) : B × B × Nat :=
  if eatL 7 v ≠ v.length ∨ allL m 1 16 2 = false ∨ [47].isPrefixOf t = false ∨ allL t 1 8192 3 = false then bad 400
  else if v.length ≠ 8 ∨ [72, 84, 84, 80, 47].isPrefixOf v = false ∨ isB 1 (v.getD 5 0) = false ∨ v.getD 6 0 ≠ 46 ∨ isB 1 (v.getD 7 0) = false then bad 400
  else if v ≠ [72, 84, 84, 80, 47, 49, 46, 49] then bad 505
  else if m ≠ [71, 69, 84] ∧ m ≠ [80, 79, 83, 84] ∧ m ≠ [80, 85, 84] ∧ m ≠ [68, 69, 76, 69, 84, 69] then bad 501
  else if 1024 < t.length then bad 414
  else (m, t, 0)
def line2 (m s : B) : B × B × Nat := if eatL 7 s = 0 ∨ eatL 7 s = s.length then bad 400 else line3 m (s.take (eatL 7 s)) (s.drop (eatL 7 s + 1))
def lineL (s : B) : B × B × Nat := if eatL 7 s = 0 ∨ eatL 7 s = s.length then bad 400 else line2 (s.take (eatL 7 s)) (s.drop (eatL 7 s + 1))
def LineIs (s : B) (e : Ending) : Prop := e = .returned (.tuple #[.string (ofL (lineL s).1), .string (ofL (lineL s).2.1), .int .i64 (lineL s).2.2])
theorem lineIs_bad {s : B} {n : Nat} (h : lineL s = bad n) : LineIs s (.returned (.tuple #[.string ⟨#[]⟩, .string ⟨#[]⟩, .int .i64 n])) := by unfold LineIs; rw [h]; rfl
theorem allM_any (s : ByteArray) (hs : s.size ≤ maxLen) (w : World) :
    Calls Tryz.prog 44 #[.string s, .int .i64 1, .int .i64 16, .int .i64 2] w fun e w' => e = .returned (.bool (allL s.toList 1 16 2)) ∧ Below w.heap.size w w' := all_any 2 (by decide) (by decide) 1 16 s hs w
theorem allT_any (s : ByteArray) (hs : s.size ≤ maxLen) (w : World) :
    Calls Tryz.prog 44 #[.string s, .int .i64 1, .int .i64 8192, .int .i64 3] w fun e w' => e = .returned (.bool (allL s.toList 1 8192 3)) ∧ Below w.heap.size w w' := all_any 3 (by decide) (by decide) 1 8192 s hs w
theorem is1_any (c : UInt8) (w : World) :
    Calls Tryz.prog 66 #[.int .u8 c.toNat, .int .i64 1] w fun e w' => e = .returned (.bool (isB 1 c)) ∧ Below w.heap.size w w' := is_any 1 (by decide) (by decide) c w
theorem beginsS_any (s : ByteArray) (hs : s.size ≤ maxLen) (w : World) :
    Calls Tryz.prog 56 #[.string s, .string ⟨#[47]⟩] w fun e w' => e = .returned (.bool ([47].isPrefixOf s.toList)) ∧ w = w' := by
  have h := begins_any s ⟨#[47]⟩ hs w
  rwa [show (⟨#[47]⟩ : ByteArray).toList = [47] from ByteArray.toList_mk [47]] at h
theorem beginsV_any (s : ByteArray) (hs : s.size ≤ maxLen) (w : World) :
    Calls Tryz.prog 56 #[.string s, .string ⟨#[72, 84, 84, 80, 47]⟩] w fun e w' => e = .returned (.bool ([72, 84, 84, 80, 47].isPrefixOf s.toList)) ∧ w = w' := by
  have h := begins_any s ⟨#[72, 84, 84, 80, 47]⟩ hs w
  rwa [show (⟨#[72, 84, 84, 80, 47]⟩ : ByteArray).toList = [72, 84, 84, 80, 47] from ByteArray.toList_mk [72, 84, 84, 80, 47]] at h
theorem byte_ne {c d : UInt8} (h : c ≠ d) : ((c.toNat : Int) != (d.toNat : Int)) = true := bne_iff_ne.2 fun e => h (UInt8.toNat.inj (by omega))
end Go.Proofs.YtgdelmkgdfhdpaaGreatDoor
namespace Go.Proofs.YtgdelmkgdfhdpaaGreatDoor
open Go.RowKit
set_option linter.unusedVariables false
set_option linter.unusedSimpArgs false
set_option maxRecDepth 100000

/-- A header's line; 0: it is none. -/
def fieldOk (s : B) : Bool := decide (1 ≤ eatL 4 s) && decide (eatL 4 s ≤ 64) && decide (eatL 4 s < s.length) && decide (s.getD (eatL 4 s) 0 = 58) && allL (trimL (s.drop (eatL 4 s + 1))) 0 8192 6
def fieldOf (s : B) : B × B := (lowL (s.take (eatL 4 s)), trimL (s.drop (eatL 4 s + 1)))
def fin (d : List (B × B)) (p : List (B × B) × Nat) : List (B × B) × Nat := if p.2 = 0 then (d ++ p.1, 0) else ([], p.2)
/-- Headers of lines (behind i of them), and why they are none. -/
def fieldsL : Nat → List B → List (B × B) × Nat
  | _, [] => ([], 0)
  | i, s :: l => if 32 ≤ i then ([], 431) else if fieldOk s = false then ([], 400) else fin [fieldOf s] (fieldsL (i + 1) l)
theorem fin_fin (d : List (B × B)) (x : B × B) (p : List (B × B) × Nat) : fin d (fin [x] p) = fin (d ++ [x]) p := by unfold fin; by_cases h : p.2 = 0 <;> simp [h]
theorem fieldsL_nil : ∀ (i : Nat) (l : List B), (fieldsL i l).2 ≠ 0 → (fieldsL i l).1 = []
  | _, [], h => absurd rfl h
  | i, s :: l, h => by unfold fieldsL at h ⊢; split; rfl; split; rfl; unfold fin at h ⊢; split; (rename_i h1 h2 h3; simp [h1, h2, h3] at h); rfl
theorem fin_nil (i : Nat) (l : List B) : fin [] (fieldsL i l) = fieldsL i l := by
  unfold fin; by_cases h : (fieldsL i l).2 = 0
  · rw [if_pos h, List.nil_append, ← h]
  · rw [if_neg h, ← fieldsL_nil i l h]
def FieldsRel (l : List B) (k : Nat) (done : List (B × B)) : Prop := fieldsL 0 l = fin done (fieldsL k (l.drop k))
theorem rel_step {l : List B} {k : Nat} {done : List (B × B)} {s : B} (h : FieldsRel l k done) (hd : l.drop k = s :: l.drop (k + 1)) (hk : k < 32) (ho : fieldOk s = true) : FieldsRel l (k + 1) (done ++ [fieldOf s]) := by
  unfold FieldsRel at *; rw [h, hd, fieldsL, if_neg (by omega), if_neg (by simp [ho]), fin_fin]
theorem rel_431 {l : List B} {k : Nat} {done : List (B × B)} {s : B} (h : FieldsRel l k done) (hd : l.drop k = s :: l.drop (k + 1)) (hk : 32 ≤ k) : fieldsL 0 l = ([], 431) := by
  unfold FieldsRel at *; rw [h, hd, fieldsL, if_pos hk]; rfl
theorem rel_400 {l : List B} {k : Nat} {done : List (B × B)} {s : B} (h : FieldsRel l k done) (hd : l.drop k = s :: l.drop (k + 1)) (hk : k < 32) (ho : fieldOk s = false) : fieldsL 0 l = ([], 400) := by
  unfold FieldsRel at *; rw [h, hd, fieldsL, if_neg (by omega), if_pos ho]; rfl
theorem rel_end {l : List B} {done : List (B × B)} (h : FieldsRel l l.length done) : fieldsL 0 l = (done, 0) := by
  unfold FieldsRel at *; rw [h, List.drop_length]; simp [fieldsL, fin]
theorem allV_any (s : ByteArray) (hs : s.size ≤ maxLen) (w : World) :
    Calls Tryz.prog 44 #[.string s, .int .i64 0, .int .i64 8192, .int .i64 6] w fun e w' => e = .returned (.bool (allL s.toList 0 8192 6)) ∧ Below w.heap.size w w' := all_any 6 (by decide) (by decide) 0 8192 s hs w
theorem eat4_any (s : ByteArray) (hs : s.size ≤ maxLen) (w : World) :
    Calls Tryz.prog 47 #[.string s, .int .i64 4] w fun e w' => e = .returned (.int .i64 (eatL 4 s.toList)) ∧ Below w.heap.size w w' := eat_any 4 (by decide) (by decide) s hs w

def FieldsIs (base : Nat) (l : List B) (e : Ending) (w' : World) : Prop :=
  ∃ v, e = .returned (.tuple #[v, .int .i64 (fieldsL 0 l).2]) ∧ w'.ownsRow base 30 2 v (fieldsL 0 l).1.length (pairs (fieldsL 0 l).1)
theorem fieldsIs_bad {base : Nat} {l : List B} {n : Nat} (h : fieldsL 0 l = ([], n)) (w' : World) : FieldsIs base l (.returned (.tuple #[.slice none 0 0, .int .i64 n])) w' := by
  unfold FieldsIs; rw [h]; exact ⟨_, rfl, World.ownsRow_nil _ _ _ _⟩
theorem size_from {s : ByteArray} {a n : Nat} (h : s.size ≤ n) : (s.extract a s.size).size ≤ n := by rw [ByteArray.size_extract]; omega
theorem size_to {s : ByteArray} {a n : Nat} (h : s.size ≤ n) : (s.extract 0 a).size ≤ n := by rw [ByteArray.size_extract]; omega
theorem trimL_le (l : B) : (trimL l).length ≤ l.length := by unfold trimL; simp; omega
end Go.Proofs.YtgdelmkgdfhdpaaGreatDoor
namespace Go.Proofs.YtgdelmkgdfhdpaaGreatDoor
open Go.RowKit
set_option linter.unusedVariables false
set_option linter.unusedSimpArgs false
set_option maxRecDepth 100000

def isHex (c : UInt8) : Bool := decide (hexN c < 16)
def digitsN (l : B) : Nat := (l.takeWhile isHex).length
def hexF (l : B) : Nat := l.foldl (fun n c => 16 * n + hexN c) 0
theorem hexF_snoc (l : B) (c : UInt8) : hexF (l ++ [c]) = 16 * hexF l + hexN c := by simp [hexF]
theorem hexF_lt : ∀ (n : Nat) (l : B), l.length = n → l.all isHex = true → hexF l < 16 ^ n
  | 0, l, h, _ => by obtain rfl := List.eq_nil_of_length_eq_zero h; decide
  | n + 1, l, h, ha => by
    rcases List.eq_nil_or_concat l with rfl | ⟨l', c, rfl⟩
    · simp at h
    · rw [List.concat_eq_append] at *
      have h1 : l'.length = n := by simpa using h
      rw [List.all_append] at ha
      have ha' : l'.all isHex = true ∧ isHex c = true := by simpa using ha
      have ih := hexF_lt n l' h1 ha'.1
      have hc : hexN c < 16 := by simpa [isHex] using ha'.2
      rw [hexF_snoc, Nat.pow_succ]; omega
theorem takeWhile_all : ∀ l : B, (l.takeWhile isHex).all isHex = true
  | [] => rfl
  | c :: l => by rw [List.takeWhile_cons]; split; (rename_i h; rw [List.all_cons, h, takeWhile_all l]; rfl); rfl
theorem digits_take (l : B) : (l.take (digitsN l)).all isHex = true := by
  unfold digitsN
  have h : l.take (l.takeWhile isHex).length = l.takeWhile isHex := by
    have := List.takeWhile_prefix isHex (l := l); exact (List.prefix_iff_eq_take.1 this).symm
  rw [h]; exact takeWhile_all l
theorem digits_le (l : B) : digitsN l ≤ l.length := (List.takeWhile_sublist _).length_le
theorem digits_in : ∀ (l : B) (j : Nat), j < digitsN l → ∃ c, l[j]? = some c ∧ isHex c = true
  | [], j, h => by simp [digitsN] at h
  | c :: l, j, h => by
    unfold digitsN at h; rw [List.takeWhile_cons] at h
    by_cases hc : isHex c = true
    · rw [if_pos hc] at h
      cases j with
      | zero => exact ⟨c, rfl, hc⟩
      | succ j => obtain ⟨d, h1, h2⟩ := digits_in l j (by unfold digitsN; simpa using h); exact ⟨d, by simpa using h1, h2⟩
    · rw [if_neg hc] at h; simp at h
theorem digits_out : ∀ (l : B) (c : UInt8), l[digitsN l]? = some c → isHex c = false
  | [], c, h => by simp at h
  | d :: l, c, h => by
    unfold digitsN at h; rw [List.takeWhile_cons] at h
    by_cases hd : isHex d = true
    · rw [if_pos hd] at h; exact digits_out l c (by unfold digitsN; simpa using h)
    · rw [if_neg hd] at h; simp at h; subst h; simpa using hd

/-- A body in chunks: its bytes, the place behind it, the status. -/
def chunkL (acc : B) (p : Nat) (l : B) : B × Nat × Nat :=
  if 8 < digitsN l then ([], 0, 400)
  else if digitsN l < l.length ∧ digitsN l = 0 then ([], 0, 400)
  else if endsL (l.drop (digitsN l)) ≠ 0 then ([], 0, endsL (l.drop (digitsN l)))
  else if 32768 - acc.length < hexF (l.take (digitsN l)) then ([], 0, 413)
  else if l.length - (digitsN l + 2) < hexF (l.take (digitsN l)) then ([], 0, 1)
  else if endsL (l.drop (digitsN l + 2 + hexF (l.take (digitsN l)))) ≠ 0 then ([], 0, endsL (l.drop (digitsN l + 2 + hexF (l.take (digitsN l)))))
  else if hexF (l.take (digitsN l)) = 0 then (acc, p + (digitsN l + 4), 0)
  else if h : l.length < digitsN l + 4 + hexF (l.take (digitsN l)) then ([], 0, 0)
  else chunkL (acc ++ (l.drop (digitsN l + 2)).take (hexF (l.take (digitsN l)))) (p + (digitsN l + 4 + hexF (l.take (digitsN l)))) (l.drop (digitsN l + 4 + hexF (l.take (digitsN l))))
termination_by l.length
decreasing_by simp; omega
theorem ends0 : ∀ {l : B}, endsL l = 0 → 2 ≤ l.length
  | [], h => by simp [endsL] at h
  | [c], h => by simp only [endsL, ends1] at h; split at h <;> omega
  | c :: d :: l, h => by simp
theorem endsL_le (l : B) : endsL l = 0 ∨ endsL l = 1 ∨ endsL l = 400 := by
  cases l with
  | nil => simp [endsL]
  | cons c l => cases l with
    | nil => simp only [endsL, ends1]; split <;> simp
    | cons d l => simp only [endsL, ends1]; split <;> (try split) <;> simp
def bytesOwn (base : Nat) (p : B × Nat × Nat) (e : Ending) (w' : World) : Prop :=
  ∃ v, e = .returned (.tuple #[v, .int .i64 p.2.1, .int .i64 p.2.2]) ∧ Rd w' 1 v p.1.length (bytesV p.1)
theorem bytesOwn_nil {base n : Nat} {p : B × Nat × Nat} (h : p = ([], 0, n)) (w' : World) : bytesOwn base p (.returned (.tuple #[.slice none 0 0, .int .i64 0, .int .i64 n])) w' := by
  subst h; exact ⟨_, rfl, rfl, _, _, rfl, Nat.le_refl _, by decide, fun _ => rfl, fun a ha => by cases ha⟩
theorem ret_vii {v : Value} {a b c d : Int} (h1 : a = c) (h2 : b = d) : Ending.returned (.tuple #[v, .int .i64 a, .int .i64 b]) = .returned (.tuple #[v, .int .i64 c, .int .i64 d]) := by rw [h1, h2]
def ChRel (s acc : B) (p : Nat) : Prop := chunkL [] 0 s = chunkL acc p (s.drop p)
theorem drop_at {s : ByteArray} {p j : Nat} {c : UInt8} (h : (s.toList.drop p)[j]? = some c) : ∃ h' : p + j < s.size, s[p + j] = c := by
  rw [List.getElem?_drop] at h
  have hlt := (List.getElem?_eq_some_iff.1 h).1
  rw [len_toL] at hlt
  rw [get_eq s _ hlt] at h
  exact ⟨hlt, Option.some.inj h⟩
end Go.Proofs.YtgdelmkgdfhdpaaGreatDoor
namespace Go.Proofs.YtgdelmkgdfhdpaaGreatDoor
open Go.RowKit
set_option linter.unusedVariables false
set_option linter.unusedSimpArgs false
set_option maxRecDepth 100000

def teL : B := [116, 114, 97, 110, 115, 102, 101, 114, 45, 101, 110, 99, 111, 100, 105, 110, 103]
def hoL : B := [104, 111, 115, 116]
def clL : B := [99, 111, 110, 116, 101, 110, 116, 45, 108, 101, 110, 103, 116, 104]
def ckL : B := [99, 104, 117, 110, 107, 101, 100]
/-- What stands behind a head: its bytes, how many these take, the status. -/
def plainL (n : Int) (s : B) : B × Nat × Nat :=
  if n < 0 then ([], 0, 400) else if 32768 < n then ([], 0, 413) else if (s.length : Int) < n then ([], 0, 1) else (s.take n.toNat, n.toNat, 0)
def bodyL (h : List (B × B)) (s : B) : B × Nat × Nat :=
  if 1 < (valuesL h teL).length ∨ ((valuesL h teL).length = 1 ∧ lowL ((valuesL h teL).getD 0 []) ≠ ckL) then ([], 0, 501)
  else if (valuesL h hoL).length ≠ 1 ∨ (valuesL h hoL).getD 0 [] = [] ∨ 1 < (valuesL h teL).length + (valuesL h clL).length then ([], 0, 400)
  else if (valuesL h teL).length = 1 then chunkL [] 0 s
  else plainL (if (valuesL h clL).length = 1 then numL ((valuesL h clL).getD 0 []) else 0) s
theorem head_str {w : World} {base : Nat} {A : Option Addr} {c m : Nat} {l : List B} (h : w.ownsRow base 9 1 (.slice A m c) l.length (strs l)) (hl : l.length = 1) :
    ∃ b o, A = some ⟨b, o, none⟩ ∧ w.cell? ⟨b, o, none⟩ = some (.string (ofL (l.getD 0 []))) := by
  obtain ⟨s, rfl⟩ := List.length_eq_one_iff.1 hl
  obtain ⟨b, o, h1, h2⟩ := (rd_of_own h).strAt (k := 0) (s := s) rfl
  exact ⟨b, o, h1, h2⟩
theorem valuesL_mem {h : List (B × B)} {nm : B} {x : B} (hx : x ∈ valuesL h nm) : ∃ y ∈ h, y.2 = x := by
  unfold valuesL at hx; obtain ⟨y, hy, rfl⟩ := List.mem_map.1 hx; exact ⟨y, (List.mem_filter.1 hy).1, rfl⟩
theorem getD0_len {h : List (B × B)} (hh : ∀ x ∈ h, x.2.length ≤ 1048576) (nm : B) : ((valuesL h nm).getD 0 []).length ≤ 1048576 := by
  cases he : valuesL h nm with
  | nil => simp
  | cons x l =>
    obtain ⟨y, hy, rfl⟩ := valuesL_mem (h := h) (nm := nm) (x := x) (by rw [he]; simp)
    simpa using hh y hy
theorem plain0 (s : B) : plainL 0 s = ([], 0, 0) := by unfold plainL; rw [if_neg (by omega), if_neg (by omega), if_neg (by omega)]; rfl
theorem small_ofL (l : B) (hl : l.length ≤ 1048576) (w : World) :
    Calls Tryz.prog 45 #[.string (ofL l)] w fun e w' => e = .returned (.string (ofL (lowL l))) ∧ Below w.heap.size w w' := by
  have h := small_any (ofL l) (by rw [size_ofL]; unfold maxLen; omega) w
  rwa [toL_ofL] at h
theorem number_ofL (l : B) (hl : l.length ≤ 1048576) (w : World) :
    Calls Tryz.prog 43 #[.string (ofL l)] w fun e w' => e = .returned (.int .i64 (numL l)) ∧ Below w.heap.size w w' := by
  have h := number_any (ofL l) (by rw [size_ofL]; unfold maxLen; omega) w
  rwa [toL_ofL] at h
end Go.Proofs.YtgdelmkgdfhdpaaGreatDoor
namespace Go.Proofs.YtgdelmkgdfhdpaaGreatDoor
open Go.RowKit
set_option linter.unusedVariables false
set_option linter.unusedSimpArgs false
set_option maxRecDepth 100000

/-- A request; none. -/
structure Req where
  m : B
  p : B
  h : List (B × B)
  b : B
def noReq : Req := ⟨[], [], [], []⟩
def crL : B := [13, 10, 13, 10]
/-- What stands behind the head's first line. -/
def parse3 (m t : B) (h : List (B × B)) (n : Nat) (p : B × Nat × Nat) : Req × Nat × Nat :=
  if p.2.2 ≠ 0 then (noReq, 0, p.2.2) else (⟨m, t, h, p.1⟩, n + 4 + p.2.1, 0)
def parse2 (n : Nat) (ls : List B) (rest : B) : Req × Nat × Nat :=
  if (lineL (ls.headD [])).2.2 ≠ 0 then (noReq, 0, (lineL (ls.headD [])).2.2)
  else if (fieldsL 0 ls.tail).2 ≠ 0 then (noReq, 0, (fieldsL 0 ls.tail).2)
  else parse3 (lineL (ls.headD [])).1 (lineL (ls.headD [])).2.1 (fieldsL 0 ls.tail).1 n (bodyL (fieldsL 0 ls.tail).1 rest)
def hasCR (x : B) : Bool := memB 13 x || memB 10 x
def refParse (l : B) : Req × Nat × Nat :=
  if 8192 < whereL crL l ∧ (whereL crL l < l.length ∨ 8196 ≤ whereL crL l) then (noReq, 0, 431)
  else if whereL crL l = l.length then (noReq, 0, 1)
  else if (cutL (l.take (whereL crL l))).any hasCR then (noReq, 0, 400)
  else parse2 (whereL crL l) (cutL (l.take (whereL crL l))) (l.drop (whereL crL l + 4))

/-- A request as a value. -/
def ReqV (w : World) (r : Req) (v : Value) : Prop :=
  ∃ hv bv, v = .agg #[.string (ofL r.m), .string (ofL r.p), hv, bv] ∧ Rd w 2 hv r.h.length (pairs r.h) ∧ Rd w 1 bv r.b.length (bytesV r.b)
def ParsedIs (x : Req × Nat × Nat) (e : Ending) (w : World) : Prop :=
  ∃ v, e = .returned (.tuple #[v, .int .i64 x.2.1, .int .i64 x.2.2]) ∧ ReqV w x.1 v
def zReq : Value := .agg #[.string ⟨#[]⟩, .string ⟨#[]⟩, .slice none 0 0, .slice none 0 0]
theorem rd_nil (w : World) (size : Nat) : Rd w size (.slice none 0 0) 0 [] := ⟨by simp, none, 0, rfl, Nat.le_refl _, by decide, fun _ => rfl, fun a ha => by cases ha⟩
theorem reqV_none (w : World) : ReqV w noReq zReq := ⟨_, _, rfl, rd_nil _ _, rd_nil _ _⟩
theorem parsed_none {x : Req × Nat × Nat} {n : Nat} (h : x = (noReq, 0, n)) (w : World) : ParsedIs x (.returned (.tuple #[.agg #[.string ⟨#[]⟩, .string ⟨#[]⟩, .slice none 0 0, .slice none 0 0], .int .i64 0, .int .i64 n])) w := by
  subst h; exact ⟨_, rfl, reqV_none w⟩
theorem conv_rd {P : Program} {w : World} {v : Value} {l : B} (src dst e : TypeId) (hs : P.underlying src = some (.slice e)) (he : P.underlying e = some (.int .u8)) (hd : P.underlying dst = some .string) (hR : Rd w 1 v l.length (bytesV l)) :
    (convert src dst v).run P w = .ok (.string (ofL l)) w := by
  obtain ⟨h1, A, c, rfl, h3, h4, h5, h6⟩ := hR
  cases A with
  | none =>
    have h0 := h5 rfl
    have hl := List.eq_nil_of_length_eq_zero h0
    subst hl
    rw [run_convert_bytes_string w src dst e none _ c hs he hd]
    rfl
  | some a =>
    obtain ⟨hsp, hc⟩ := h6 a rfl
    refine run_convert_bytes_back w src dst e a c l hs he hd fun j hj => ?_
    have := hc j _ (bytesV_at (List.getElem?_eq_getElem hj))
    have ha : a.add j = ⟨a.block, a.off + j, none⟩ := by
      unfold Addr.add; split
      · rename_i h; subst h; cases a; simp at hsp; subst hsp; rfl
      · rfl
    rw [ha]; exact this
theorem where4_any (s : ByteArray) (hs : s.size ≤ maxLen) (w : World) :
    Calls Tryz.prog 32 #[.string ⟨#[13, 10, 13, 10]⟩, .string s] w fun e w' => e = .returned (.int .i64 (whereL crL s.toList)) ∧ w = w' := by
  have h := where_any s ⟨#[13, 10, 13, 10]⟩ hs w
  rwa [show (⟨#[13, 10, 13, 10]⟩ : ByteArray).toList = crL from ByteArray.toList_mk [13, 10, 13, 10]] at h
/-- The result's own cells, as yet empty. -/
def Z0 (w : World) (b : Nat) : Prop :=
  (w.cell? ⟨b, 0, none⟩ = some (.string ⟨#[]⟩) ∧ w.cell? ⟨b, 1, none⟩ = some (.string ⟨#[]⟩) ∧ w.cell? ⟨b, 2, none⟩ = some (.slice none 0 0) ∧ w.cell? ⟨b, 3, none⟩ = some (.slice none 0 0)) ∧
  w.frozen? ⟨b, 0, none⟩ = false ∧ w.frozen? ⟨b, 1, none⟩ = false ∧ w.frozen? ⟨b, 2, none⟩ = false ∧ w.frozen? ⟨b, 3, none⟩ = false
theorem frozen_keeps {w w' : World} (hb : Below w.heap.size w w') {b o : Nat} (hl : b < w.heap.size) (h : w.frozen? ⟨b, o, none⟩ = false) : w'.frozen? ⟨b, o, none⟩ = false := by
  rw [hb.frozen (p := ⟨b, o, none⟩) hl]; exact h
theorem Z0.next {w w' : World} {b : Nat} (h : Z0 w b) (hb : Below w.heap.size w w') : Z0 w' b := by
  obtain ⟨⟨h0, h1, h2, h3⟩, f0, f1, f2, f3⟩ := h
  have hl := lt_of_cell h0
  exact ⟨⟨Below.keeps hb h0, Below.keeps hb h1, Below.keeps hb h2, Below.keeps hb h3⟩, frozen_keeps hb hl f0, frozen_keeps hb hl f1, frozen_keeps hb hl f2, frozen_keeps hb hl f3⟩
theorem z0_alloc (w : World) : Z0 (w.alloc (.cells #[.string ⟨#[]⟩, .string ⟨#[]⟩, .slice none 0 0, .slice none 0 0] 45)) w.heap.size := by
  unfold Z0; simp only [World.cell?_alloc_mark, World.frozen?_alloc_mark]; simp
theorem cutL_ne (s : B) : cutL s ≠ [] := by rw [cutL]; split <;> simp
theorem cutL_len : ∀ s : B, (cutL s).length ≤ s.length + 1 := by
  intro s
  induction h : s.length using Nat.strongRecOn generalizing s with
  | _ n ih =>
    rw [cutL]; split
    · rename_i hw
      have := ih (s.drop (whereL [13, 10] s + 2)).length (by rw [List.length_drop]; omega) _ rfl
      rw [List.length_cons]; rw [List.length_drop] at this; omega
    · simp
theorem cutL_mem : ∀ s : B, ∀ x ∈ cutL s, x.length ≤ s.length := by
  intro s
  induction h : s.length using Nat.strongRecOn generalizing s with
  | _ n ih =>
    intro x hx
    rw [cutL] at hx; split at hx
    · rename_i hw
      rcases List.mem_cons.1 hx with rfl | hx
      · rw [List.length_take]; omega
      · have := ih (s.drop (whereL [13, 10] s + 2)).length (by rw [List.length_drop]; omega) _ rfl x hx
        rw [List.length_drop] at this; omega
    · simp at hx; subst hx; omega
theorem of13 (s : ByteArray) (hs : s.size ≤ maxLen) (w : World) :
    Calls Tryz.prog 89 #[.int .u8 13, .string s] w fun e w' => e = .returned (.bool (memB 13 s.toList)) ∧ Below w.heap.size w w' := of_any 13 s hs w
theorem of10 (s : ByteArray) (hs : s.size ≤ maxLen) (w : World) :
    Calls Tryz.prog 89 #[.int .u8 10, .string s] w fun e w' => e = .returned (.bool (memB 10 s.toList)) ∧ Below w.heap.size w w' := of_any 10 s hs w
theorem below_set4 {B : Nat} {a w : World} (h : Below B a w) (v0 v1 v2 v3 : Value) : Below B a ((((w.setCell ⟨B, 0, none⟩ v0).setCell ⟨B, 1, none⟩ v1).setCell ⟨B, 2, none⟩ v2).setCell ⟨B, 3, none⟩ v3) :=
  (((h.setCell (p := ⟨B, 0, none⟩) (Nat.le_refl _) v0).setCell (p := ⟨B, 1, none⟩) (Nat.le_refl _) v1).setCell (p := ⟨B, 2, none⟩) (Nat.le_refl _) v2).setCell (p := ⟨B, 3, none⟩) (Nat.le_refl _) v3
theorem own_set4 {w : World} {base B : Nat} {e : TypeId} {size : Nat} {v : Value} {n : Nat} {xs : List Value} (h : w.ownsRow base e size v n xs) (hB : B < base) (v0 v1 v2 v3 : Value) :
    ((((w.setCell ⟨B, 0, none⟩ v0).setCell ⟨B, 1, none⟩ v1).setCell ⟨B, 2, none⟩ v2).setCell ⟨B, 3, none⟩ v3).ownsRow base e size v n xs :=
  ownsRow_setCell_below (ownsRow_setCell_below (ownsRow_setCell_below (ownsRow_setCell_below h (a := ⟨B, 0, none⟩) hB v0) (a := ⟨B, 1, none⟩) hB v1) (a := ⟨B, 2, none⟩) hB v2) (a := ⟨B, 3, none⟩) hB v3
theorem cell_set_other {w : World} {a : Addr} {u : Value} {b o : Nat} (h : ¬ (b = a.block ∧ o = a.off)) : (w.setCell a u).cell? ⟨b, o, none⟩ = w.cell? ⟨b, o, none⟩ := by
  by_cases hb : b = a.block
  · subst hb
    have ho : o ≠ a.off := fun e => h ⟨rfl, e⟩
    simp only [World.cell?, World.setCell, Array.getElem?_modify, if_true]
    cases hx : w.heap[a.block]? with
    | none => rfl
    | some x =>
      cases x <;> simp
      split
      · rfl
      · rw [Array.getElem?_setIfInBounds_ne (by omega)]
  · rw [World.cell?_of_block (w := w) (Below.heap_setCell w a u b (by simpa using hb))]
/-- A store into a cell that held no byte changes no bytes that are read. -/
theorem rd_set {w : World} {v : Value} {l : B} {a : Addr} {old u : Value} (h : Rd w 1 v l.length (bytesV l)) (ha : w.cell? ⟨a.block, a.off, none⟩ = some old) (ho : ∀ c : UInt8, old ≠ .int .u8 c.toNat) :
    Rd (w.setCell a u) 1 v l.length (bytesV l) := by
  obtain ⟨h1, A, c, h2, h3, h4, h5, h6⟩ := h
  refine ⟨h1, A, c, h2, h3, h4, h5, fun x hx => ⟨(h6 x hx).1, fun j y hj => ?_⟩⟩
  have hc := (h6 x hx).2 j y hj
  rw [cell_set_other ?_]
  · exact hc
  · rintro ⟨e1, e2⟩
    rw [e1, e2, ha] at hc
    have hm := List.mem_of_getElem? hj
    unfold bytesV at hm
    obtain ⟨d, _, rfl⟩ := List.mem_map.1 hm
    exact ho d (Option.some.inj hc)
theorem rd_set4 {w : World} {v : Value} {l : B} {B : Nat} (h : Rd w 1 v l.length (bytesV l))
    (hz : w.cell? ⟨B, 0, none⟩ = some (.string ⟨#[]⟩) ∧ w.cell? ⟨B, 1, none⟩ = some (.string ⟨#[]⟩) ∧ w.cell? ⟨B, 2, none⟩ = some (.slice none 0 0) ∧ w.cell? ⟨B, 3, none⟩ = some (.slice none 0 0)) (v0 v1 v2 v3 : Value) :
    Rd ((((w.setCell ⟨B, 0, none⟩ v0).setCell ⟨B, 1, none⟩ v1).setCell ⟨B, 2, none⟩ v2).setCell ⟨B, 3, none⟩ v3) 1 v l.length (bytesV l) := by
  obtain ⟨h0, h1, h2, h3⟩ := hz
  have q : ∀ (w : World) (i j : Nat) (u : Value), i ≠ j → (w.setCell ⟨B, i, none⟩ u).cell? ⟨B, j, none⟩ = w.cell? ⟨B, j, none⟩ := fun w i j u hij => cell_set_other (fun e => hij e.2.symm)
  refine rd_set (rd_set (rd_set (rd_set h h0 (fun c => by simp)) (old := .string ⟨#[]⟩) ?_ (fun c => by simp)) (old := .slice none 0 0) ?_ (fun c => by simp)) (old := .slice none 0 0) ?_ (fun c => by simp)
  · rw [q _ _ _ _ (by simp)]; exact h1
  · rw [q _ _ _ _ (by simp), q _ _ _ _ (by simp)]; exact h2
  · rw [q _ _ _ _ (by simp), q _ _ _ _ (by simp), q _ _ _ _ (by simp)]; exact h3
theorem chunkL_le : ∀ (n : Nat) (acc : B) (p : Nat) (l : B), l.length = n → (chunkL acc p l).2.1 ≤ p + l.length := by
  intro n
  induction n using Nat.strongRecOn with
  | _ n ih =>
    intro acc p l hl
    rw [chunkL]
    split; · simp
    split; · simp
    split; · simp
    split; · simp
    split; · simp
    rename_i h5
    split; · simp
    rename_i h6
    have h0 : endsL (l.drop (digitsN l + 2 + hexF (l.take (digitsN l)))) = 0 := by omega
    have he := ends0 h0
    rw [List.length_drop] at he
    split
    · show p + (digitsN l + 4) ≤ p + l.length
      omega
    split; · simp
    have := ih (l.drop (digitsN l + 4 + hexF (l.take (digitsN l)))).length (by rw [List.length_drop]; omega) (acc ++ (l.drop (digitsN l + 2)).take (hexF (l.take (digitsN l)))) (p + (digitsN l + 4 + hexF (l.take (digitsN l)))) _ rfl
    rw [List.length_drop] at this
    omega
theorem bodyL_le (h : List (B × B)) (s : B) : (bodyL h s).2.1 ≤ s.length := by
  unfold bodyL
  split; · simp
  split; · simp
  split
  · have := chunkL_le _ [] 0 s rfl; omega
  · unfold plainL
    generalize (if (valuesL h clL).length = 1 then numL ((valuesL h clL).getD 0 []) else 0) = m
    split; · simp
    split; · simp
    split; · simp
    rename_i h1 h2 h3
    show m.toNat ≤ s.length
    omega
theorem rd_tail {w : World} {b o n c : Nat} {x : B} {l : List B} (h : Rd w 1 (.slice (some ⟨b, o, none⟩) n c) (x :: l).length (strs (x :: l))) :
    Rd w 1 (.slice (if c = 1 then some ⟨b, o, none⟩ else some ⟨b, o + 1, none⟩) l.length (c - 1)) l.length (strs l) := by
  obtain ⟨h1, A, c', h2, h3, h4, h5, h6⟩ := h
  simp only [Value.slice.injEq] at h2
  obtain ⟨rfl, rfl, rfl⟩ := h2
  refine ⟨by rw [strs_len]; omega, _, _, rfl, by simp at h3; omega, by omega, (fun h => by split at h <;> cases h), fun a ha => ?_⟩
  by_cases hc : c = 1
  · rw [if_pos hc] at ha
    cases ha
    have hl : l = [] := List.eq_nil_of_length_eq_zero (by simp at h3; omega)
    subst hl
    exact ⟨rfl, fun j u hj => by simp [strs] at hj⟩
  · rw [if_neg hc] at ha
    cases ha
    refine ⟨rfl, fun j u hj => ?_⟩
    have := (h6 _ rfl).2 (j + 1) u (by simpa [strs] using hj)
    have he : o + 1 + j = o + (j + 1) := by omega
    rw [he]; exact this
theorem fieldsL_len : ∀ (i : Nat) (l : List B), (fieldsL i l).1.length ≤ 32 - i
  | _, [] => by simp [fieldsL]
  | i, s :: l => by
    have ih := fieldsL_len (i + 1) l
    unfold fieldsL; split
    · simp
    · split
      · simp
      · unfold fin; split <;> simp; omega
theorem fieldsL_val : ∀ (i : Nat) (l : List B) (n : Nat), (∀ y ∈ l, y.length ≤ n) → ∀ x ∈ (fieldsL i l).1, x.2.length ≤ n
  | _, [], _, _ => by simp [fieldsL]
  | i, s :: l, n, hl => by
    have ih := fieldsL_val (i + 1) l n (fun y hy => hl y (List.mem_cons_of_mem _ hy))
    unfold fieldsL; split
    · simp
    · split
      · simp
      · unfold fin; split
        · intro x hx
          simp only [List.singleton_append, List.mem_cons] at hx
          rcases hx with rfl | hx
          · show (trimL _).length ≤ n
            refine Nat.le_trans (trimL_le _) ?_
            have := hl s (by simp); rw [List.length_drop]; omega
          · exact ih x hx
        · simp
end Go.Proofs.YtgdelmkgdfhdpaaGreatDoor
namespace Go.Proofs.YtgdelmkgdfhdpaaGreatDoor
open Go.RowKit
set_option linter.unusedVariables false
set_option linter.unusedSimpArgs false
set_option maxRecDepth 100000

theorem digit_any (c : Int) (w : World) : Calls Tryz.prog 78 #[.int .u8 c] w fun e w' => e = .returned (.bool (decide (48 ≤ c) && decide (c ≤ 57))) ∧ w = w' := by
  by_cases h1 : 48 ≤ c <;> by_cases h2 : c ≤ 57
  all_goals
    go_enter Tryz.func78, Tryz.ntmps78
    go_wp2
    go_ret
    exact ⟨by simp [h1, h2], rfl⟩
theorem capital_any (c : Int) (w : World) : Calls Tryz.prog 60 #[.int .u8 c] w fun e w' => e = .returned (.bool (decide (65 ≤ c) && decide (c ≤ 90))) ∧ w = w' := by
  by_cases h1 : 65 ≤ c <;> by_cases h2 : c ≤ 90
  all_goals
    go_enter Tryz.func60, Tryz.ntmps60
    go_wp2
    go_ret
    exact ⟨by simp [h1, h2], rfl⟩
theorem seen_any (c : Int) (w : World) : Calls Tryz.prog 83 #[.int .u8 c] w fun e w' => e = .returned (.bool (decide (32 < c) && decide (c < 127))) ∧ w = w' := by
  by_cases h1 : 32 < c <;> by_cases h2 : c < 127
  all_goals
    go_enter Tryz.func83, Tryz.ntmps83
    go_wp2
    go_ret
    exact ⟨by simp [h1, h2], rfl⟩
theorem gap_any (c : Int) (w : World) : Calls Tryz.prog 82 #[.int .u8 c] w fun e w' => e = .returned (.bool (c == 32 || c == 9)) ∧ w = w' := by
  by_cases h1 : c = 32 <;> by_cases h2 : c = 9
  all_goals
    go_enter Tryz.func82, Tryz.ntmps82
    go_wp2
    go_ret
    exact ⟨by simp [h1, h2], rfl⟩
theorem gapB (c : UInt8) (w : World) : Calls Tryz.prog 82 #[.int .u8 c.toNat] w fun e w' => e = .returned (.bool (isB 5 c)) ∧ w = w' := gap_any c.toNat w
theorem digitB (c : UInt8) (w : World) : Calls Tryz.prog 78 #[.int .u8 c.toNat] w fun e w' => e = .returned (.bool (isB 1 c)) ∧ w = w' := digit_any c.toNat w
theorem capitalB (c : UInt8) (w : World) : Calls Tryz.prog 60 #[.int .u8 c.toNat] w fun e w' => e = .returned (.bool (isB 2 c)) ∧ w = w' := capital_any c.toNat w
theorem seenB (c : UInt8) (w : World) : Calls Tryz.prog 83 #[.int .u8 c.toNat] w fun e w' => e = .returned (.bool (isB 3 c)) ∧ w = w' := by
  have h := seen_any c.toNat w
  rwa [show (decide (32 < (c.toNat : Int)) && decide ((c.toNat : Int) < 127)) = isB 3 c by simp only [isB, inB]; rw [Bool.eq_iff_iff]; simp; omega] at h
theorem looseB (c : UInt8) (w : World) : Calls Tryz.prog 64 #[.int .u8 c.toNat] w fun e w' => e = .returned (.bool (isB 6 c)) ∧ w = w' := by
  have hk : isB 6 c = (isB 3 c || isB 5 c) := by simp only [isB, inB]; rw [Bool.eq_iff_iff]; simp; omega
  have Hk := Lib.hid hk
  clear hk
  cases h3 : isB 3 c
  all_goals
    have H3 := Lib.hid h3
    clear h3
    go_enter Tryz.func64, Tryz.ntmps64
    go_wp2_with (first | (go_at_call 83; refine (seenB c _).mono ?_; rintro e w' ⟨rfl, rfl⟩; rw [H3.out]) | (go_at_call 82; refine (gapB c _).mono ?_; rintro e w' ⟨rfl, rfl⟩))
    go_ret
    exact ⟨ret_bool (by rw [Hk.out, H3.out]; simp), rfl⟩
theorem tok_marks : ∀ c : UInt8, (c.toNat = 33 ∨ c.toNat = 35 ∨ c.toNat = 36 ∨ c.toNat = 37 ∨ c.toNat = 38 ∨ c.toNat = 39 ∨ c.toNat = 42 ∨ c.toNat = 43 ∨ c.toNat = 45 ∨ c.toNat = 46 ∨ c.toNat = 94 ∨ c.toNat = 95 ∨ c.toNat = 96 ∨ c.toNat = 124 ∨ c.toNat = 126) → isB 4 c = true := by
  intro c hc
  have hm : memB c marksL = true := by
    unfold memB marksL
    rw [List.contains_iff_mem]
    have q : ∀ d : UInt8, c.toNat = d.toNat → c = d := fun d h => UInt8.toNat.inj h
    simp only [List.mem_cons, List.not_mem_nil, or_false]
    rcases hc with h | h | h | h | h | h | h | h | h | h | h | h | h | h | h
    · exact .inl (q 33 h)
    · exact .inr (.inl (q 35 h))
    · exact .inr (.inr (.inl (q 36 h)))
    · exact .inr (.inr (.inr (.inl (q 37 h))))
    · exact .inr (.inr (.inr (.inr (.inl (q 38 h)))))
    · exact .inr (.inr (.inr (.inr (.inr (.inl (q 39 h))))))
    · exact .inr (.inr (.inr (.inr (.inr (.inr (.inl (q 42 h)))))))
    · exact .inr (.inr (.inr (.inr (.inr (.inr (.inr (.inl (q 43 h))))))))
    · exact .inr (.inr (.inr (.inr (.inr (.inr (.inr (.inr (.inl (q 45 h)))))))))
    · exact .inr (.inr (.inr (.inr (.inr (.inr (.inr (.inr (.inr (.inl (q 46 h))))))))))
    · exact .inr (.inr (.inr (.inr (.inr (.inr (.inr (.inr (.inr (.inr (.inl (q 94 h)))))))))))
    · exact .inr (.inr (.inr (.inr (.inr (.inr (.inr (.inr (.inr (.inr (.inr (.inl (q 95 h))))))))))))
    · exact .inr (.inr (.inr (.inr (.inr (.inr (.inr (.inr (.inr (.inr (.inr (.inr (.inl (q 96 h)))))))))))))
    · exact .inr (.inr (.inr (.inr (.inr (.inr (.inr (.inr (.inr (.inr (.inr (.inr (.inr (.inl (q 124 h))))))))))))))
    · exact .inr (.inr (.inr (.inr (.inr (.inr (.inr (.inr (.inr (.inr (.inr (.inr (.inr (.inr (q 126 h))))))))))))))
  simp [isB, hm]
theorem tok_all : ∀ n, n < 256 → (isB 1 (UInt8.ofNat n) = true → isB 4 (UInt8.ofNat n) = true) ∧
    ((decide (65 ≤ bits .andNot .u8 ((UInt8.ofNat n).toNat : Int) 32) && decide (bits .andNot .u8 ((UInt8.ofNat n).toNat : Int) 32 ≤ 90)) = true → isB 1 (UInt8.ofNat n) = false → memB (UInt8.ofNat n) marksL = false → isB 4 (UInt8.ofNat n) = decide (65 ≤ ((UInt8.ofNat n).toNat : Int))) ∧
    ((decide (65 ≤ bits .andNot .u8 ((UInt8.ofNat n).toNat : Int) 32) && decide (bits .andNot .u8 ((UInt8.ofNat n).toNat : Int) 32 ≤ 90)) = false → isB 1 (UInt8.ofNat n) = false → memB (UInt8.ofNat n) marksL = false → isB 4 (UInt8.ofNat n) = false) := by
  decide +kernel
theorem tok_not {c : UInt8} (h : ¬ (c.toNat = 33 ∨ c.toNat = 35 ∨ c.toNat = 36 ∨ c.toNat = 37 ∨ c.toNat = 38 ∨ c.toNat = 39 ∨ c.toNat = 42 ∨ c.toNat = 43 ∨ c.toNat = 45 ∨ c.toNat = 46 ∨ c.toNat = 94 ∨ c.toNat = 95 ∨ c.toNat = 96 ∨ c.toNat = 124 ∨ c.toNat = 126)) : memB c marksL = false := by
  cases hm : memB c marksL
  · rfl
  · exfalso; apply h
    unfold memB marksL at hm
    rw [List.contains_iff_mem] at hm
    simp only [List.mem_cons, List.not_mem_nil, or_false] at hm
    rcases hm with rfl | rfl | rfl | rfl | rfl | rfl | rfl | rfl | rfl | rfl | rfl | rfl | rfl | rfl | rfl <;> decide
theorem tokenishB (c : UInt8) (w : World) : Calls Tryz.prog 58 #[.int .u8 c.toNat] w fun e w' => e = .returned (.bool (isB 4 c)) ∧ w = w' := by
  by_cases hm : (c.toNat = 33 ∨ c.toNat = 35 ∨ c.toNat = 36 ∨ c.toNat = 37 ∨ c.toNat = 38 ∨ c.toNat = 39 ∨ c.toNat = 42 ∨ c.toNat = 43 ∨ c.toNat = 45 ∨ c.toNat = 46 ∨ c.toNat = 94 ∨ c.toNat = 95 ∨ c.toNat = 96 ∨ c.toNat = 124 ∨ c.toNat = 126)
  · have Hf := Lib.hid (tok_marks c hm)
    have Hm := Lib.hid hm
    clear hm
    go_enter Tryz.func58, Tryz.ntmps58
    go_wp2_with (first | (go_at_call 78; refine (digit_any _ _).mono ?_; rintro e w' ⟨rfl, rfl⟩) | (go_at_call 60; refine (capital_any _ _).mono ?_; rintro e w' ⟨rfl, rfl⟩))
    all_goals first
    | (go_ret; exact ⟨ret_bool Hf.out.symm, rfl⟩)
    | (exfalso; have := Hm.out; simp only [beq_eq_false_iff_ne] at *; omega)
  · have hn := tok_not hm
    obtain ⟨k1, k2, k3⟩ := tok_all c.toNat c.toNat_lt
    rw [UInt8.ofNat_toNat] at k1 k2 k3
    have n33 : ((c.toNat : Int) == 33) = false := by simp; omega
    have n35 : ((c.toNat : Int) == 35) = false := by simp; omega
    have n36 : ((c.toNat : Int) == 36) = false := by simp; omega
    have n37 : ((c.toNat : Int) == 37) = false := by simp; omega
    have n38 : ((c.toNat : Int) == 38) = false := by simp; omega
    have n39 : ((c.toNat : Int) == 39) = false := by simp; omega
    have n42 : ((c.toNat : Int) == 42) = false := by simp; omega
    have n43 : ((c.toNat : Int) == 43) = false := by simp; omega
    have n45 : ((c.toNat : Int) == 45) = false := by simp; omega
    have n46 : ((c.toNat : Int) == 46) = false := by simp; omega
    have n94 : ((c.toNat : Int) == 94) = false := by simp; omega
    have n95 : ((c.toNat : Int) == 95) = false := by simp; omega
    have n96 : ((c.toNat : Int) == 96) = false := by simp; omega
    have n124 : ((c.toNat : Int) == 124) = false := by simp; omega
    have n126 : ((c.toNat : Int) == 126) = false := by simp; omega
    clear hm
    cases h1 : isB 1 c
    case true =>
      have Hf := Lib.hid (k1 h1)
      have H1 := Lib.hid h1
      clear k1 k2 k3 h1 hn
      go_enter Tryz.func58, Tryz.ntmps58
      go_wp2_with (first | (go_at_call 78; refine (digitB c _).mono ?_; rintro e w' ⟨rfl, rfl⟩; rw [H1.out]) | (go_at_call 60; refine (capital_any _ _).mono ?_; rintro e w' ⟨rfl, rfl⟩))
      go_ret
      exact ⟨ret_bool Hf.out.symm, rfl⟩
    cases h2 : (decide (65 ≤ bits .andNot .u8 (c.toNat : Int) 32) && decide (bits .andNot .u8 (c.toNat : Int) 32 ≤ 90))
    · have Hf := Lib.hid (k3 h2 h1 hn)
      have H1 := Lib.hid h1
      have H2 := Lib.hid h2
      clear k1 k2 k3 h1 hn h2
      go_enter Tryz.func58, Tryz.ntmps58
      go_wp2_with (first | (go_at_call 78; refine (digitB c _).mono ?_; rintro e w' ⟨rfl, rfl⟩; rw [H1.out]) | (go_at_call 60; refine (capital_any _ _).mono ?_; rintro e w' ⟨rfl, rfl⟩; rw [H2.out]))
      go_ret
      exact ⟨ret_bool Hf.out.symm, rfl⟩
    · have Hf := Lib.hid (k2 h2 h1 hn)
      have H1 := Lib.hid h1
      have H2 := Lib.hid h2
      clear k1 k2 k3 h1 hn h2
      go_enter Tryz.func58, Tryz.ntmps58
      go_wp2_with (first | (go_at_call 78; refine (digitB c _).mono ?_; rintro e w' ⟨rfl, rfl⟩; rw [H1.out]) | (go_at_call 60; refine (capital_any _ _).mono ?_; rintro e w' ⟨rfl, rfl⟩; rw [H2.out]))
      go_ret
      exact ⟨ret_bool (by rw [Hf.out]), rfl⟩
end Go.Proofs.YtgdelmkgdfhdpaaGreatDoor
namespace Go.Proofs.YtgdelmkgdfhdpaaGreatDoor
open Go.RowKit
set_option linter.unusedVariables false
set_option linter.unusedSimpArgs false
set_option maxRecDepth 100000

/-- A function of the program that tells a kind of bytes. -/
def Tells (kf : Nat) (p : UInt8 → Bool) : Prop :=
  (∀ args w, (callFunc kf args).run Tryz.prog w = .ok (.enter kf args) w) ∧ ∀ (c : UInt8) w, Calls Tryz.prog kf #[.int .u8 c.toNat] w fun e w' => e = .returned (.bool (p c)) ∧ w = w'
theorem only1_any {kf : Nat} {p : UInt8 → Bool} (hk : Tells kf p) (c : UInt8) (b : Nat) (w : World)
    (hb : w.cell? ⟨b, 0, none⟩ = some (.func (.func kf) #[] #[])) :
    Calls Tryz.prog 80 #[.int .u8 c.toNat, .pointer (some ⟨b, 0, none⟩)] w fun e w' => e = .returned (.bool (!p c)) ∧ w = w' := by
  obtain ⟨hrun, hk⟩ := hk
  have HK := Lib.hid hk
  clear hk
  go_enter Tryz.func80, Tryz.ntmps80
  go_wp2_with fail
  refine (HK.out c _).mono ?_
  rintro e w' ⟨rfl, rfl⟩
  go_wp2_with fail
  go_ret
  exact ⟨rfl, rfl⟩

theorem contains_any {kf : Nat} {p : UInt8 → Bool} (hk : Tells kf p) (l : B) (v : Value) (b : Nat) (w : World)
    (hb : w.cell? ⟨b, 0, none⟩ = some (.func (.func kf) #[] #[])) (hR : Rd w 1 v l.length (bytesV l)) (hl : l.length ≤ 1048576) :
    Calls Tryz.prog 79 #[v, .func (.func 80) #[] #[.pointer (some ⟨b, 0, none⟩)]] w fun e w' => e = .returned (.bool (!l.all p)) ∧ w = w' := by
  have HR := Lib.hid hR
  obtain ⟨A, c, rfl⟩ := hR.shape
  have HCL := Lib.hid (fun c b w => only1_any hk c b w)
  clear hR hk
  go_enter Tryz.func79, Tryz.ntmps79
  go_wp2
  go_loop [8] (fun i => ∃ k : Nat, k ≤ l.length ∧ i = .int .i64 k ∧ Hid ((l.take k).all p = true)) (fun i => l.length - (intOf i).toNat)
  case atStart => exact ⟨0, Nat.zero_le _, rfl, rfl⟩
  case round =>
    obtain ⟨k, hk, rfl, ha⟩ := hrel
    by_cases hlt : k < l.length
    · obtain ⟨x, hh⟩ : ∃ x, l[k]? = some x := ⟨l[k], List.getElem?_eq_getElem hlt⟩
      have Hm := Lib.hid (List.mem_of_getElem? hh)
      have Hd := Lib.hid (take_snoc' hh)
      obtain ⟨b', o, rfl, hc⟩ := HR.out.byteAt hh
      clear hh
      cases hp : p x
      all_goals
        have Hp := Lib.hid hp
        clear hp
        go_wp2_with (go_at_call 80; refine (HCL.out x b _ hb).mono ?_; rintro e w' ⟨rfl, rfl⟩; rw [Hp.out])
      · go_ret
        refine ⟨ret_bool ?_, rfl⟩
        have hf : l.all p = false := by
          rw [← Bool.not_eq_true, List.all_eq_true]; intro h; have := h x Hm.out; rw [Hp.out] at this; cases this
        rw [hf]; simp
      · go_round
        case rel => exact ⟨k + 1, by omega, by go_num, by show _ = _; rw [Hd.out, List.all_append, ha.out]; simp [Hp.out]⟩
        case measure => simp [intOf]; omega
    · have Hf := Lib.hid (show l.all p = true by have := ha.out; rwa [List.take_of_length_le (by omega)] at this)
      go_wp2
      go_ret
      exact ⟨ret_bool (by rw [Hf.out]; simp), rfl⟩
theorem only_any {kf : Nat} {p : UInt8 → Bool} (hk : Tells kf p) (s : ByteArray) (hs : s.size ≤ 1048576) (w : World) :
    Calls Tryz.prog 59 #[.func (.func kf) #[] #[], .string s] w fun e w' => e = .returned (.bool (s.toList.all p)) ∧ Below w.heap.size w w' := by
  have HK := Lib.hid hk
  clear hk
  have kb := fun wx => run_bytes_of_string (P := Tryz.prog) wx 9 23 5 s Tryz.underlying9 Tryz.underlying23 Tryz.underlying5
  go_enter Tryz.func59, Tryz.ntmps59
  go_wp2_with fail
  have hsz : (w.alloc (.cells #[.func (.func kf) #[] #[]] 88)).heap.size = w.heap.size + 1 := by simp
  have h0 : (w.alloc (.cells #[.func (.func kf) #[] #[]] 88)).cell? ⟨w.heap.size, 0, none⟩ = some (.func (.func kf) #[] #[]) := by rw [World.cell?_alloc_mark]; rfl
  have hb1 := (Below.refl w.heap.size w).alloc (Nat.le_refl _) (.cells #[.func (.func kf) #[] #[]] 88)
  generalize w.alloc (.cells #[.func (.func kf) #[] #[]] 88) = w1 at hsz h0 hb1 ⊢
  have hR := fun fr => rd_bytes' (w := w1) (wc := w1) (s := s) (n := s.size) (e := 5) (fr := fr) rfl (by omega)
  have hb2 := ((Below.refl w1.heap.size w1).alloc (Nat.le_refl _) (.cells (bytesRow s (grownCap w1 s.size 0 5)) 5 ((bytesRow s (grownCap w1 s.size 0 5)).size, (bytesRow s (grownCap w1 s.size 0 5)).size + 1))).drew
  rw [hsz] at hR
  refine (contains_any HK.out s.toList _ _ _ (Below.keeps hb2 h0) (hR _) (by rw [len_toL]; exact hs)).mono ?_
  rintro e w' ⟨rfl, rfl⟩
  go_wp2_with fail
  go_ret
  exact ⟨ret_bool (by simp), hb1.next hb2⟩

theorem tells1 : Tells 78 (isB 1) := ⟨fun _ _ => by rfl, digitB⟩
theorem tells2 : Tells 60 (isB 2) := ⟨fun _ _ => by rfl, capitalB⟩
theorem tells3 : Tells 83 (isB 3) := ⟨fun _ _ => by rfl, seenB⟩
theorem tells4 : Tells 58 (isB 4) := ⟨fun _ _ => by rfl, tokenishB⟩
theorem tells6 : Tells 64 (isB 6) := ⟨fun _ _ => by rfl, looseB⟩

def tokenL (l : B) : Bool := decide (0 < l.length) && decide (l.length < 65) && l.all (isB 4)
theorem token_any (s : ByteArray) (hs : s.size ≤ 1048576) (w : World) :
    Calls Tryz.prog 39 #[.string s] w fun e w' => e = .returned (.bool (tokenL s.toList)) ∧ Below w.heap.size w w' := by
  have Hl := Lib.hid (len_toL s)
  by_cases h0 : 0 < s.size <;> by_cases h1 : s.size < 65
  case pos =>
    go_enter Tryz.func39, Tryz.ntmps39
    go_wp2_with (go_at_call 59; refine (only_any tells4 s hs _).mono ?_; rintro e w' ⟨rfl, hb⟩)
    go_ret
    exact ⟨ret_bool (by unfold tokenL; rw [Hl.out]; simp [h0, h1]), hb⟩
  all_goals
    go_enter Tryz.func39, Tryz.ntmps39
    go_wp2_with (go_at_call 59; refine (only_any tells4 s hs _).mono ?_; rintro e w' ⟨rfl, hb⟩)
    go_ret
    exact ⟨ret_bool (by unfold tokenL; rw [Hl.out]; simp [h0, h1]), Below.refl _ _⟩

/-- A text without gaps at its ends. -/
def bareL (l : B) : B := ((l.dropWhile (isB 5)).reverse.dropWhile (isB 5)).reverse
def BareRel (l m : B) : Prop := l.dropWhile (isB 5) = m.dropWhile (isB 5)
def BareRel2 (l m : B) : Prop := bareL l = (m.reverse.dropWhile (isB 5)).reverse
theorem bare2_start {l m : B} (h : BareRel l m) (hm : m.dropWhile (isB 5) = m) : BareRel2 l m := by unfold BareRel2 bareL; unfold BareRel at h; rw [h, hm]
theorem bare2_step {l m k : B} {c : UInt8} (h : BareRel2 l m) (hm : m = k ++ [c]) (hc : isB 5 c = true) : BareRel2 l k := by
  unfold BareRel2 at *; rw [h, hm, List.reverse_append, List.reverse_singleton, List.singleton_append, List.dropWhile_cons, hc]; rfl
theorem bare2_end {l m k : B} {c : UInt8} (h : BareRel2 l m) (hm : m = k ++ [c]) (hc : isB 5 c = false) : m = bareL l := by
  unfold BareRel2 at *; rw [h, hm, List.reverse_append, List.reverse_singleton, List.singleton_append, List.dropWhile_cons, hc]; simp
theorem bare_any (s : ByteArray) (hs : s.size ≤ 1048576) (w : World) :
    Calls Tryz.prog 63 #[.string s] w fun e w' => e = .returned (.string (ofL (bareL s.toList))) ∧ w = w' := by
  go_enter Tryz.func63, Tryz.ntmps63
  go_wp2
  go_loop [0] (fun sv => ∃ t : ByteArray, sv = .string t ∧ t.size ≤ 1048576 ∧ BareRel s.toList t.toList) (fun sv => strLen sv)
  case atStart => exact ⟨s, rfl, hs, rfl⟩
  case round =>
    obtain ⟨t, rfl, ht, hrel1⟩ := hrel
    have HREL := Lib.hid hrel1
    clear hrel1
    have Hl := Lib.hid (len_toL t)
    by_cases h0 : 0 < t.size
    · have Hd := Lib.hid (show t.toList = t[0] :: t.toList.drop 1 from by have := drop_eq t 0 h0; simpa using this)
      cases hp : isB 5 t[0]
      · have Hp := Lib.hid hp
        clear hp
        go_wp2_with (go_at_call 82; refine (gapB t[0] _).mono ?_; rintro e w' ⟨rfl, rfl⟩; rw [Hp.out])
        have h2 := (bare2_start HREL.out (by rw [Hd.out, List.dropWhile_cons, Hp.out]; rfl))
        have H2 := Lib.hid h2
        clear h2
        go_loop [0] (fun sv => ∃ u : ByteArray, sv = .string u ∧ u.size ≤ 1048576 ∧ BareRel2 s.toList u.toList) (fun sv => strLen sv)
        case atStart => exact ⟨t, rfl, ht, H2.out⟩
        case round =>
          clear H2
          obtain ⟨u, rfl, hu, hrel2⟩ := hrel
          have H2 := Lib.hid hrel2
          clear hrel2
          by_cases hn : 0 < u.size
          · have Ht := Lib.hid (show u.toList = u.toList.take (u.size - 1) ++ [u[u.size - 1]] from by
              have := take_eq u (u.size - 1) (by omega)
              rw [show u.size - 1 + 1 = u.size by omega, List.take_of_length_le (by rw [len_toL]; exact Nat.le_refl _)] at this
              exact this)
            cases hq : isB 5 u[u.size - 1]
            · have Hq := Lib.hid hq
              clear hq
              go_wp2_with (go_at_call 82; refine (gapB u[u.size - 1] _).mono ?_; rintro e w' ⟨rfl, rfl⟩; rw [Hq.out])
              go_ret
              exact ⟨ret_strL (bare2_end H2.out Ht.out Hq.out), rfl⟩
            · have Hq := Lib.hid hq
              clear hq
              go_wp2_with (go_at_call 82; refine (gapB u[u.size - 1] _).mono ?_; rintro e w' ⟨rfl, rfl⟩; rw [Hq.out])
              go_round
              case rel => exact ⟨_, rfl, size_to hu, by rw [toL_to]; exact bare2_step H2.out Ht.out Hq.out⟩
              case measure => simp only [strLen, ByteArray.size_extract]; omega
          · have Hu := Lib.hid (show u.toList = [] from List.eq_nil_of_length_eq_zero (by rw [len_toL]; omega))
            go_wp2
            go_ret
            exact ⟨ret_strL (by rw [Hu.out]; have := H2.out; rw [Hu.out] at this; unfold BareRel2 at this; rw [this]; rfl), rfl⟩
      · have Hp := Lib.hid hp
        clear hp
        go_wp2_with (go_at_call 82; refine (gapB t[0] _).mono ?_; rintro e w' ⟨rfl, rfl⟩; rw [Hp.out])
        go_round
        case rel => exact ⟨_, rfl, size_from ht, by rw [toL_from]; have := HREL.out; unfold BareRel at *; rw [this, Hd.out, List.dropWhile_cons, Hp.out]; rfl⟩
        case measure => simp only [strLen, ByteArray.size_extract]; omega
    · go_wp2
      have h2 := (bare2_start HREL.out (by rw [show t.toList = [] from List.eq_nil_of_length_eq_zero (by rw [len_toL]; omega)]; rfl))
      have H2 := Lib.hid h2
      clear h2
      go_loop [0] (fun sv => ∃ u : ByteArray, sv = .string u ∧ u.size ≤ 1048576 ∧ BareRel2 s.toList u.toList) (fun sv => strLen sv)
      case atStart => exact ⟨t, rfl, ht, H2.out⟩
      case round =>
        clear H2
        obtain ⟨u, rfl, hu, hrel2⟩ := hrel
        have H2 := Lib.hid hrel2
        clear hrel2
        by_cases hn : 0 < u.size
        · have Ht := Lib.hid (show u.toList = u.toList.take (u.size - 1) ++ [u[u.size - 1]] from by
            have := take_eq u (u.size - 1) (by omega)
            rw [show u.size - 1 + 1 = u.size by omega, List.take_of_length_le (by rw [len_toL]; exact Nat.le_refl _)] at this
            exact this)
          cases hq : isB 5 u[u.size - 1]
          · have Hq := Lib.hid hq
            clear hq
            go_wp2_with (go_at_call 82; refine (gapB u[u.size - 1] _).mono ?_; rintro e w' ⟨rfl, rfl⟩; rw [Hq.out])
            go_ret
            exact ⟨ret_strL (bare2_end H2.out Ht.out Hq.out), rfl⟩
          · have Hq := Lib.hid hq
            clear hq
            go_wp2_with (go_at_call 82; refine (gapB u[u.size - 1] _).mono ?_; rintro e w' ⟨rfl, rfl⟩; rw [Hq.out])
            go_round
            case rel => exact ⟨_, rfl, size_to hu, by rw [toL_to]; exact bare2_step H2.out Ht.out Hq.out⟩
            case measure => simp only [strLen, ByteArray.size_extract]; omega
        · have Hu := Lib.hid (show u.toList = [] from List.eq_nil_of_length_eq_zero (by rw [len_toL]; omega))
          go_wp2
          go_ret
          exact ⟨ret_strL (by rw [Hu.out]; have := H2.out; rw [Hu.out] at this; unfold BareRel2 at this; rw [this]; rfl), rfl⟩

def valueL (l : B) : Bool := decide (bareL l = l) && l.all (isB 6)
theorem value_any (s : ByteArray) (hs : s.size ≤ 1048576) (w : World) :
    Calls Tryz.prog 41 #[.string s] w fun e w' => e = .returned (.bool (valueL s.toList)) ∧ Below w.heap.size w w' := by
  cases hb : ((ofL (bareL s.toList)).toList == s.toList)
  case true =>
    have Hb := Lib.hid hb
    go_enter Tryz.func41, Tryz.ntmps41
    go_wp2_with (first | (go_at_call 63; refine (bare_any s hs _).mono ?_; rintro e w' ⟨rfl, rfl⟩) | (go_at_call 59; refine (only_any tells6 s hs _).mono ?_; rintro e w' ⟨rfl, hb'⟩))
    go_ret
    exact ⟨ret_bool (by unfold valueL; have h := Hb.out; rw [toL_ofL, beq_iff_eq] at h; simp [h]), hb'⟩
  · have Hb := Lib.hid hb
    go_enter Tryz.func41, Tryz.ntmps41
    go_wp2_with (first | (go_at_call 63; refine (bare_any s hs _).mono ?_; rintro e w' ⟨rfl, rfl⟩) | (go_at_call 59; refine (only_any tells6 s hs _).mono ?_; rintro e w' ⟨rfl, hb'⟩))
    go_ret
    exact ⟨ret_bool (by unfold valueL; have h := Hb.out; rw [toL_ofL, beq_eq_false_iff_ne] at h; simp [h]), Below.refl _ _⟩
end Go.Proofs.YtgdelmkgdfhdpaaGreatDoor
