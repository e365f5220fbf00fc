/- Words of these texts: bytes of strings as lists; frames. Conditions: none. -/
import Derived.Test.YthkpbgpgcpkiiaaGreatDoorProg
import Derived.WalkKit
import Derived.KernelRfl
import Derived.WalkLawsBesides
import Derived.WalkSpells
import Derived.Lib.Hide
import Derived.BigQuiet
import Derived.Deep.QuietTactic
import Derived.Deep.LoopGhost
namespace Go.Proofs.YthkpbgpgcpkiiaaGreatDoor
open Go.RowKit

/-- A string's bytes; a string of bytes. -/
abbrev B := List UInt8
def ofL (l : B) : ByteArray := ⟨l.toArray⟩
theorem toL_eq (s : ByteArray) : s.toList = s.data.toList := ByteArray.toList_eq s
theorem toL_ofL (l : B) : (ofL l).toList = l := by simp [ofL]
theorem ofL_toL (s : ByteArray) : ofL (s.toList) = s := by simp [toL_eq, ofL]
theorem size_eq (s : ByteArray) : s.size = (s.toList).length := by rw [toL_eq]; rfl
theorem len_toL (s : ByteArray) : (s.toList).length = s.size := (size_eq s).symm
theorem size_ofL (l : B) : (ofL l).size = l.length := by simp [ofL, ByteArray.size]
theorem get_eq (s : ByteArray) (k : Nat) (h : k < s.size) : (s.toList)[k]? = some s[k] := by
  rw [toL_eq]; rw [List.getElem?_eq_getElem (by simpa using h)]; rfl
theorem drop_eq (s : ByteArray) (k : Nat) (h : k < s.size) : (s.toList).drop k = s[k] :: (s.toList).drop (k + 1) := by
  have h' : k < (s.toList).length := by rw [len_toL]; exact h
  rw [List.drop_eq_getElem_cons h']; congr 1
  have := get_eq s k h; rw [List.getElem?_eq_getElem h'] at this; exact Option.some.inj this
theorem take_eq (s : ByteArray) (k : Nat) (h : k < s.size) : (s.toList).take (k + 1) = (s.toList).take k ++ [s[k]] := by
  rw [List.take_add_one, get_eq s k h]; rfl
theorem ofL_append (a b : B) : ofL (a ++ b) = ofL a ++ ofL b := by
  apply ByteArray.ext; simp [ofL]
theorem append_toL (a b : ByteArray) : (a ++ b).toList = a.toList ++ b.toList := by rw [toL_eq, toL_eq, toL_eq]; simp
theorem ofL_inj {a b : B} (h : ofL a = ofL b) : a = b := by have := congrArg ByteArray.toList h; rwa [toL_ofL, toL_ofL] at this
theorem toL_inj {a b : ByteArray} (h : a.toList = b.toList) : a = b := by have := congrArg ofL h; rwa [ofL_toL, ofL_toL] at this
theorem toL_extract (s : ByteArray) (a b : Nat) : (s.extract a b).toList = ((s.toList).take b).drop a := by
  rw [toL_eq, toL_eq]; simp [ByteArray.data_extract, List.extract_eq_take_drop, List.drop_take]
theorem toL_from (s : ByteArray) (a : Nat) : (s.extract a s.size).toList = (s.toList).drop a := by
  rw [toL_extract, List.take_of_length_le (by rw [len_toL]; exact Nat.le_refl _)]
theorem toL_to (s : ByteArray) (b : Nat) : (s.extract 0 b).toList = (s.toList).take b := by
  rw [toL_extract, List.drop_zero]
theorem ret_int {k : IntKind} {a b : Int} (h : a = b) : Ending.returned (.int k a) = .returned (.int k b) := by rw [h]
theorem ret_str {a b : ByteArray} (h : a = b) : Ending.returned (.string a) = .returned (.string b) := by rw [h]
theorem ret_strL {a : ByteArray} {l : B} (h : a.toList = l) : Ending.returned (.string a) = .returned (.string (ofL l)) := by rw [← h, ofL_toL]
theorem ret_bool {a b : Bool} (h : a = b) : Ending.returned (.bool a) = .returned (.bool b) := by rw [h]

theorem ret_ii {j k : IntKind} {a b c d : Int} (h1 : a = c) (h2 : b = d) : Ending.returned (.tuple #[.int j a, .int k b]) = .returned (.tuple #[.int j c, .int k d]) := by rw [h1, h2]
theorem ret_ssi {a b c d : ByteArray} {k : IntKind} {m n : Int} (h1 : a = c) (h2 : b = d) (h3 : m = n) : Ending.returned (.tuple #[.string a, .string b, .int k m]) = .returned (.tuple #[.string c, .string d, .int k n]) := by rw [h1, h2, h3]
theorem ofL_nil : ofL [] = ⟨#[]⟩ := rfl

/-- 'string([]byte{c})'. -/
theorem conv_int {P : Program} (src dst e : TypeId) (hs : P.underlying src = some (.slice e)) (he : P.underlying e = some (.int .u8)) (hd : P.underlying dst = some .string) (n : Int) (h0 : 0 ≤ n) (h1 : n < 256) (w : World) :
    (convert src dst (.slice (some ⟨w.heap.size, 0, none⟩) 1 1)).run P (w.alloc (.cells #[.int .u8 n] e)) = .ok (.string (ofL [UInt8.ofNat n.toNat])) (w.alloc (.cells #[.int .u8 n] e)) := by
  have hn : n = ((UInt8.ofNat n.toNat).toNat : Int) := by simp; omega
  refine run_convert_bytes_back (w.alloc (.cells #[.int .u8 n] e)) src dst e ⟨w.heap.size, 0, none⟩ 1 [UInt8.ofNat n.toNat] hs he hd ?_
  intro j hj
  have : j = 0 := by simpa using hj
  subst this
  simp only [Addr.add, World.cell?_alloc_mark, if_true, List.getElem_cons_zero, ← hn]
  rfl
theorem conv_one {P : Program} (src dst e : TypeId) (hs : P.underlying src = some (.slice e)) (he : P.underlying e = some (.int .u8)) (hd : P.underlying dst = some .string) (c : UInt8) (w : World) :
    (convert src dst (.slice (some ⟨w.heap.size, 0, none⟩) 1 1)).run P (w.alloc (.cells #[.int .u8 c.toNat] e)) = .ok (.string (ofL [c])) (w.alloc (.cells #[.int .u8 c.toNat] e)) := by
  have h := conv_int src dst e hs he hd (c.toNat : Int) (by omega) (by have := c.toNat_lt; omega) w
  simpa using h
end Go.Proofs.YthkpbgpgcpkiiaaGreatDoor
