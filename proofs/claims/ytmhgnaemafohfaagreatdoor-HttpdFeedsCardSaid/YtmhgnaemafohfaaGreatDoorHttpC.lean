/- The program's lower and tally (httpd). Conditions: the texts are short. -/
import Derived.Test.YtmhgnaemafohfaaGreatDoorLibB
namespace Go.Proofs.YtmhgnaemafohfaaGreatDoor
open Go.RowKit
set_option linter.unusedVariables false
set_option linter.unusedSimpArgs false
set_option maxRecDepth 100000

theorem low_all : ∀ n, n < 256 → isB 2 (UInt8.ofNat n) = true → bits .or .u8 ((UInt8.ofNat n).toNat : Int) 32 = ((lowB (UInt8.ofNat n)).toNat : Int) := by decide +kernel
theorem low_or (c : UInt8) (h : isB 2 c = true) : bits .or .u8 (c.toNat : Int) 32 = ((lowB c).toNat : Int) := by
  have := low_all c.toNat c.toNat_lt; rw [UInt8.ofNat_toNat] at this; exact this h
theorem low_no (c : UInt8) (h : isB 2 c = false) : lowB c = c := by simp [lowB, h]
theorem lower_any (s : ByteArray) (hs : s.size ≤ 1048576) (w : World) :
    Calls Tryz.prog 80 #[.string s] w fun e w' => e = .returned (.string (ofL (lowL s.toList))) ∧ Below w.heap.size w w' := by
  have kb := fun wx => run_bytes_of_string (P := Tryz.prog) wx 9 22 5 s Tryz.underlying9 Tryz.underlying22 Tryz.underlying5
  have Hl := Lib.hid (len_toL s)
  go_enter Tryz.func80, Tryz.ntmps80
  go_wp2
  have hsz : (w.alloc (.cells #[.pointer none, .slice none 0 0] 140)).heap.size = w.heap.size + 1 := by simp
  have hbd := Bld.new w (w.heap.size + 2)
  have hb1 := (Below.refl w.heap.size w).alloc (Nat.le_refl _) (.cells #[.pointer none, .slice none 0 0] 140)
  generalize w.alloc (.cells #[.pointer none, .slice none 0 0] 140) = w1 at hsz hbd hb1 ⊢
  have hR := rd_bytes' (w := w1) (wc := w1) (s := s) (n := s.size) (e := 5) (fr := ((bytesRow s (grownCap w1 s.size 0 5)).size, (bytesRow s (grownCap w1 s.size 0 5)).size + 1)) rfl (by omega)
  have hb2 := ((Below.refl w1.heap.size w1).alloc (Nat.le_refl _) (.cells (bytesRow s (grownCap w1 s.size 0 5)) 5 ((bytesRow s (grownCap w1 s.size 0 5)).size, (bytesRow s (grownCap w1 s.size 0 5)).size + 1))).drew
  have hsz2 : (w1.alloc (.cells (bytesRow s (grownCap w1 s.size 0 5)) 5 ((bytesRow s (grownCap w1 s.size 0 5)).size, (bytesRow s (grownCap w1 s.size 0 5)).size + 1))).drew.heap.size = w.heap.size + 2 := by simp [World.drew, hsz]
  rw [hsz] at hR
  generalize (w1.alloc (.cells (bytesRow s (grownCap w1 s.size 0 5)) 5 ((bytesRow s (grownCap w1 s.size 0 5)).size, (bytesRow s (grownCap w1 s.size 0 5)).size + 1))).drew = w2 at hR hb2 hsz2 ⊢
  generalize grownCap w1 s.size 0 5 = cap at hR ⊢
  have hbd2 := hbd.below hb2
  have hb12 := hb1.next hb2
  have hne : w.heap.size + 1 < w2.heap.size := by omega
  clear hbd hb1 hb2 hsz
  go_loopw [5, 9] (fun o i wr => ∃ k : Nat, k ≤ s.size ∧ i = .int .i64 k ∧ Bld wr w.heap.size (w.heap.size + 2) (bytesV (lowL (s.toList.take k))) ∧ Touch (fun k => k = w.heap.size ∨ w.heap.size + 2 ≤ k) w2 wr) (fun _ i _ => s.size - (intOf i).toNat)
  case atStart => exact ⟨0, Nat.zero_le _, rfl, hbd2, Touch.refl _ _⟩
  case round =>
    obtain ⟨k, hk, rfl, hbd3, ht⟩ := hrel
    have Hbd := Lib.hid hbd3
    have hR3 := rd_touch hR ht (fun a n c e => by cases e; simp)
    clear hbd3
    by_cases hlt : k < s.size
    · have Ht := Lib.hid (take_eq s k hlt)
      have hle : (bytesV (lowL (s.toList.take k))).length + 1 ≤ 140737488355328 := by rw [bytesV_len]; simp [lowL]; omega
      obtain ⟨b', o, hA, hc⟩ := hR3.byteAt (get_eq s k hlt)
      cases hA
      rw [Nat.zero_add] at hc
      have hts := ht.size
      cases hp : isB 2 s[k]
      all_goals
        have Hp := Lib.hid hp
      · have hv := low_no _ hp
        clear hp
        go_wp2_with (first | (go_at_call 99; refine (capitalB s[k] _).mono ?_; rintro e w' ⟨rfl, rfl⟩; rw [Hp.out]) | (go_at_call 100; refine (writeByte_sharp w.heap.size (w.heap.size + 2) _ _ _ Hbd.out (by omega) hle (by omega)).mono ?_; rintro e w' ⟨rfl, hbd', ht'⟩))
        go_roundw
        case rel => exact ⟨k + 1, by omega, by go_num, by rw [Ht.out]; unfold lowL at *; rw [List.map_append, bytesV_append]; simpa [bytesV, hv] using hbd', ht.trans ht'⟩
        case measure => simp [intOf]; omega
      · have hv := low_or _ hp
        clear hp
        go_wp2_with (first | (go_at_call 99; refine (capitalB s[k] _).mono ?_; rintro e w' ⟨rfl, rfl⟩; rw [Hp.out]) | (go_at_call 100; refine (writeByte_sharp w.heap.size (w.heap.size + 2) _ _ _ Hbd.out (by omega) hle (by omega)).mono ?_; rintro e w' ⟨rfl, hbd', ht'⟩))
        go_roundw
        case rel => exact ⟨k + 1, by omega, by go_num, by rw [Ht.out]; unfold lowL at *; rw [List.map_append, bytesV_append]; simpa [bytesV, hv] using hbd', ht.trans ht'⟩
        case measure => simp [intOf]; omega
    · have hrest : s.toList.take k = s.toList := List.take_of_length_le (by rw [len_toL]; omega)
      rw [hrest] at Hbd
      go_wp2_with (go_at_call 101; refine (Tryz.Builder_String_any w.heap.size w.heap.size (lowL s.toList) _ (Hbd.out.is (Nat.le_refl _) (by omega)) (by have := ht.size; omega)).mono ?_; rintro e w' ⟨rfl, hb'⟩)
      go_ret
      refine ⟨rfl, (hb12.trans ?_).trans hb'⟩
      exact ht.below (fun j hj hf => by omega) (by omega)

/-- How many headers bear a name; the first one's value. -/
def firstL (l : List B) : B := l.headD []
theorem firstL_snoc (l : List B) (x : B) : firstL (l ++ [x]) = if l = [] then x else firstL l := by cases l <;> simp [firstL]
theorem tally_any (hs : List (B × B)) (v : Value) (nm : ByteArray) (w : World) (hR : Rd w 2 v hs.length (pairs hs)) (hn : hs.length ≤ 4096) :
    Calls Tryz.prog 112 #[v, .string nm] w fun e w' => e = .returned (.tuple #[.int .i64 (valuesL hs nm.toList).length, .string (ofL (firstL (valuesL hs nm.toList)))]) ∧ Below w.heap.size w w' := by
  have HR := Lib.hid hR
  obtain ⟨A, c, rfl⟩ := hR.shape
  clear hR
  go_enter Tryz.func112, Tryz.ntmps112
  go_wp2
  go_loopw [6, 7, 12] (fun o p i wr => ∃ k : Nat, k ≤ hs.length ∧ i = .int .i64 k ∧ o = .int .i64 (valuesL (hs.take k) nm.toList).length ∧ p = .string (ofL (firstL (valuesL (hs.take k) nm.toList))) ∧ Below w.heap.size w wr) (fun _ _ i _ => hs.length - (intOf i).toNat)
  case atStart => exact ⟨0, Nat.zero_le _, rfl, rfl, rfl, Below.refl _ _⟩
  case round =>
    obtain ⟨k, hk, rfl, rfl, rfl, hb⟩ := hrel
    by_cases hlt : k < hs.length
    · obtain ⟨h, hh⟩ : ∃ h, hs[k]? = some h := ⟨hs[k], List.getElem?_eq_getElem hlt⟩
      have Hh := Lib.hid (take_snoc' hh)
      obtain ⟨b, o, rfl, hc1, hc2⟩ := (HR.out.below hb).pairAt hh
      clear hh
      have hle := valuesL_le (hs.take k) nm.toList
      rw [List.length_take] at hle
      have hle' : (valuesL (hs.take k) nm.toList).length ≤ 4096 := by omega
      clear hle
      have Hs := Lib.hid (show valuesL (hs.take (k + 1)) nm.toList = _ from by rw [Hh.out, valuesL_snoc, ← toL_ofL h.1])
      generalize hvl : valuesL (hs.take k) nm.toList = vl at hle' Hs ⊢
      cases hp : ((ofL h.1).toList == nm.toList)
      · have Hp := Lib.hid hp
        go_wp2
        go_roundw
        case rel => exact ⟨k + 1, by omega, by go_num, by rw [Hs.out, Hp.out]; simp, by rw [Hs.out, Hp.out]; simp, hb.alloc hb.size _⟩
        case measure => simp [intOf]; omega
      · have Hp := Lib.hid hp
        by_cases h0 : vl.length = 0
        · have Hv := Lib.hid (List.eq_nil_of_length_eq_zero h0)
          have h1 : (((vl.length : Int) + 1) == 1) = true := by simp; omega
          go_wp2
          go_roundw
          case rel => exact ⟨k + 1, by omega, by go_num, by rw [Hs.out, Hp.out, Hv.out]; rfl, by rw [Hs.out, Hp.out, Hv.out]; simp [firstL], hb.alloc hb.size _⟩
          case measure => simp [intOf]; omega
        · have Hv := Lib.hid (show vl ≠ [] from fun e => h0 (by rw [e]; rfl))
          have h1 : (((vl.length : Int) + 1) == 1) = false := by simp; omega
          go_wp2
          go_roundw
          case rel => exact ⟨k + 1, by omega, by go_num, by rw [Hs.out, Hp.out]; simp, by rw [Hs.out, Hp.out, if_pos rfl, firstL_snoc, if_neg Hv.out], hb.alloc hb.size _⟩
          case measure => simp [intOf]; omega
    · go_wp2
      have hk' : k = hs.length := by omega
      subst hk'
      rw [List.take_length]
      refine bodyPost_ret (results_tmp2 rfl _ _ _) rfl ⟨rfl, hb⟩
end Go.Proofs.YtmhgnaemafohfaaGreatDoor
