/- A text as JSON (jsonx.quoted). Conditions: the texts are short. -/
import Derived.Test.YthkpbgpgcpkiiaaGreatDoorJLib
namespace Go.Proofs.YthkpbgpgcpkiiaaGreatDoor
open Go.RowKit
set_option linter.unusedVariables false
set_option linter.unusedSimpArgs false
set_option maxRecDepth 100000

theorem row_kept {w w' : World} {b g n cap : Nat} {v v' : Value} {cs : List Value} (h : Rd w 1 (.slice (some ⟨g, 0, none⟩) n cap) n cs) (hw : Wr b v v' w w') (h1 : ¬ g = b) (h2 : ¬ v.ownBlock = some g) : Rd w' 1 (.slice (some ⟨g, 0, none⟩) n cap) n cs :=
  rd_touch h hw.1 (fun a n c e => by cases e; exact fun h => h.elim h1 h2)
theorem writeByte_lit (b : Nat) (v : Value) (l : B) (c : UInt8) (k : Int) (hk : (c.toNat : Int) = k) (w : World) (h : Bv w b v l) (hl : l.length + 1 ≤ 140737488355328) :
    Calls Tryz.prog 35 #[.pointer (some ⟨b, 0, none⟩), .int .u8 k] w fun e w' => e = .returned .nilIface ∧ ∃ v', Bv w' b v' (l ++ [c]) ∧ Wr b v v' w w' := by
  subst hk; exact writeByte_any b v l c w h hl
theorem hexAt (x : Nat) (h : x < (⟨#[48, 49, 50, 51, 52, 53, 54, 55, 56, 57, 97, 98, 99, 100, 101, 102]⟩ : ByteArray).size) : ((hexc x).toNat : Int) = (((⟨#[48, 49, 50, 51, 52, 53, 54, 55, 56, 57, 97, 98, 99, 100, 101, 102]⟩ : ByteArray)[x]'h).toNat : Int) := by
  have := getI [48, 49, 50, 51, 52, 53, 54, 55, 56, 57, 97, 98, 99, 100, 101, 102] x h
  exact congrArg (fun c : UInt8 => (c.toNat : Int)) this.symm
set_option maxHeartbeats 8000000 in
theorem quoted_any (b : Nat) (v : Value) (l : B) (s : ByteArray) (w : World) (h : Bv w b v l) (hl : l.length + 6 * s.size + 2 ≤ 140737488355328) (hs : s.size ≤ 1099511627776) :
    Calls Tryz.prog 34 #[.pointer (some ⟨b, 0, none⟩), .string s] w fun e w' => e = .returned (.tuple #[]) ∧ ∃ v', Bv w' b v' (l ++ quoteB s.toList) ∧ Wr b v v' w w' := by
  have K1 := Lib.hid (writeByte_lit b v l 34 34 rfl w h (by omega))
  have hld := len_toL s
  have kb := fun wx => run_bytes_of_string (P := Tryz.prog) wx 9 46 5 s Tryz.underlying9 Tryz.underlying46 Tryz.underlying5
  go_enter Tryz.func34, Tryz.ntmps34
  go_wp2_with (go_at_call 35; with_reducible refine K1.out.mono ?_; rintro e w1 ⟨rfl, v1, hB1, hW1⟩)
  have hR := rd_bytes' (w := w1) (wc := w1) (s := s) (n := s.size) (e := 5) (fr := ((bytesRow s (grownCap w1 s.size 0 5)).size, (bytesRow s (grownCap w1 s.size 0 5)).size + 1)) rfl hs
  have hb := ((Below.refl w1.heap.size w1).alloc (Nat.le_refl _) (.cells (bytesRow s (grownCap w1 s.size 0 5)) 5 ((bytesRow s (grownCap w1 s.size 0 5)).size, (bytesRow s (grownCap w1 s.size 0 5)).size + 1))).drew
  generalize (w1.alloc (.cells (bytesRow s (grownCap w1 s.size 0 5)) 5 ((bytesRow s (grownCap w1 s.size 0 5)).size, (bytesRow s (grownCap w1 s.size 0 5)).size + 1))).drew = w2 at hR hb ⊢
  generalize grownCap w1 s.size 0 5 = cap at hR ⊢
  rw [hld] at hR
  have hg : ¬ w1.heap.size = b ∧ ¬ v1.ownBlock = some w1.heap.size := ⟨by have := hB1.lt; omega, fun e => by have := (World.ownsRow.lt (show World.ownsRow _ _ _ _ _ _ _ from hB1.own) _ e).2; omega⟩
  have HR := Lib.hid hR
  have HB2 := Lib.hid (hB1.below hb)
  have HW2 := Lib.hid (hW1.below hb)
  have hsz2 : w1.heap.size ≤ w2.heap.size := hb.size
  clear hR hB1 hW1 hb K1 kb h
  go_loopw [11] (fun i wr => ∃ (n : Nat) (vk : Value), n ≤ s.size ∧ i = .int .i64 n ∧ Bv wr b vk (l ++ 34 :: (s.toList.take n).flatMap quoteC) ∧ (((s.toList.take n).flatMap quoteC).length ≤ 6 * n) ∧ Wr b v1 vk w2 wr) (fun i _ => s.size - (intOf i).toNat)
  case atStart => exact ⟨0, v1, Nat.zero_le _, rfl, by simpa using HB2.out, by simp, Wr.refl _ _ _⟩
  case round =>
    obtain ⟨n, vk, hn, rfl, hB, hq, hW⟩ := hrel
    have HB := Lib.hid hB
    have HW := Lib.hid hW
    clear hB hW
    by_cases hlt : n < s.size
    · have hat : s.toList[n]? = some (s[n]'hlt) := get_eq s n hlt
      have Ht := Lib.hid (take_eq s n hlt)
      obtain ⟨b', o, hA, hcell⟩ := (show Rd wr 1 _ s.toList.length (bytesV s.toList) from by rw [hld]; exact row_kept HR.out HW.out hg.1 hg.2).byteAt hat
      cases hA
      rw [Nat.zero_add] at hcell
      generalize s[n]'hlt = c at hat hcell Ht
      clear hat
      generalize hT : (s.toList.take n).flatMap quoteC = T at *
      have Hstep : Hid ((s.toList.take (n + 1)).flatMap quoteC = T ++ quoteC c) := by show _ = _; rw [Ht.out, List.flatMap_append, hT]; simp
      clear hT Ht
      by_cases h32 : c < 32
      · have hqa : ((c.toNat : Int) == 34) = false ∧ ((c.toNat : Int) == 92) = false := by
          have := UInt8.lt_iff_toNat_lt.1 h32
          have h' : c.toNat < 32 := this
          exact ⟨by rw [beq_eq_false_iff_ne]; omega, by rw [beq_eq_false_iff_ne]; omega⟩
        obtain ⟨q1, q2⟩ := hqa
        have q3 : (c.toNat : Int) < 32 := by have := UInt8.lt_iff_toNat_lt.1 h32; exact Int.ofNat_lt.2 this
        have K2 := Lib.hid (writeString_any b vk (l ++ 34 :: T) ⟨#[92, 117, 48, 48]⟩ wr HB.out (by rw [List.length_append, List.length_cons]; show _ + 4 ≤ _; omega))
        rw [show (⟨#[92, 117, 48, 48]⟩ : ByteArray).toList = [92, 117, 48, 48] from toL_ofL [92, 117, 48, 48]] at K2
        have hl5 : ((l ++ 34 :: T) ++ [92, 117, 48, 48]).length + 1 ≤ 140737488355328 := by simp; omega
        have hl6 : (((l ++ 34 :: T) ++ [92, 117, 48, 48]) ++ [hexc (c.toNat / 16)]).length + 1 ≤ 140737488355328 := by simp; omega
        have HQ := Lib.hid (show quoteC c = [92, 117, 48, 48, hexc (c.toNat / 16), hexc (c.toNat % 16)] by
          rw [quoteC, if_neg (by rintro (rfl | rfl); revert q1; decide; revert q2; decide), if_pos h32])
        have Hl5 := Lib.hid hl5
        have Hl6 := Lib.hid hl6
        clear hl5 hl6
        go_wp2_with (first
          | (go_at_call 31; (with_reducible refine K2.out.mono ?_); rintro e w5 ⟨rfl, v5, hB5, hW5⟩)
          | (go_at_call 35; (with_reducible refine (writeByte_lit b v5 _ (hexc (c.toNat / 16)) _ (by exact hexAt _ _) w5 hB5 Hl5.out).mono ?_); rintro e w6 ⟨rfl, v6, hB6, hW6⟩)
          | (go_at_call 35; (with_reducible refine (writeByte_lit b v6 _ (hexc (c.toNat % 16)) _ (by exact hexAt _ _) w6 hB6 Hl6.out).mono ?_); rintro e w7 ⟨rfl, v7, hB7, hW7⟩))
        refine ⟨⟨n + 1, v7, by omega, by go_num, ?_, ?_, ((HW.out.trans hW5).trans hW6).trans hW7⟩, by simp [intOf]; omega⟩
        · rw [Hstep.out, HQ.out]
          have e : l ++ 34 :: (T ++ [92, 117, 48, 48, hexc (c.toNat / 16), hexc (c.toNat % 16)]) = l ++ 34 :: T ++ [92, 117, 48, 48] ++ [hexc (c.toNat / 16)] ++ [hexc (c.toNat % 16)] := by simp
          rw [e]; exact hB7
        · rw [Hstep.out, HQ.out]; simp; omega
      · have q3 : ¬ (c.toNat : Int) < 32 := by
          intro h; apply h32; rw [UInt8.lt_iff_toNat_lt]; exact Int.ofNat_lt.1 h
        by_cases hsp : c = 34 ∨ c = 92
        · have HQ := Lib.hid (show quoteC c = [92, c] by rw [quoteC, if_pos hsp])
          have hq2 : ((c.toNat : Int) == 34) = true ∨ (((c.toNat : Int) == 34) = false ∧ ((c.toNat : Int) == 92) = true) := by
            rcases hsp with rfl | rfl
            · exact .inl rfl
            · exact .inr ⟨rfl, rfl⟩
          have K2 := Lib.hid (writeByte_lit b vk (l ++ 34 :: T) 92 92 rfl wr HB.out (by rw [List.length_append, List.length_cons]; omega))
          have K3 := Lib.hid (fun v w h => writeByte_any b v ((l ++ 34 :: T) ++ [92]) c w h (by simp; omega))
          clear hsp h32
          rcases hq2 with q1 | ⟨q1, q2⟩
          all_goals
            go_wp2_with (first
              | (go_at_call 35; (with_reducible refine K2.out.mono ?_); rintro e w5 ⟨rfl, v5, hB5, hW5⟩)
              | (go_at_call 35; (with_reducible refine (K3.out _ _ hB5).mono ?_); rintro e w6 ⟨rfl, v6, hB6, hW6⟩))
            refine ⟨⟨n + 1, v6, by omega, by go_num, ?_, ?_, (HW.out.trans hW5).trans hW6⟩, by simp [intOf]; omega⟩
            · rw [Hstep.out, HQ.out]
              have e : l ++ 34 :: (T ++ [92, c]) = l ++ 34 :: T ++ [92] ++ [c] := by simp
              rw [e]; exact hB6
            · rw [Hstep.out, HQ.out]; simp; omega
        · have HQ := Lib.hid (show quoteC c = [c] by rw [quoteC, if_neg hsp, if_neg h32])
          have q1 : ((c.toNat : Int) == 34) = false := by rw [show (34 : Int) = ((34 : Nat) : Int) from rfl, u8_eq c 34 (by decide)]; simpa using fun e => hsp (.inl e)
          have q2 : ((c.toNat : Int) == 92) = false := by rw [show (92 : Int) = ((92 : Nat) : Int) from rfl, u8_eq c 92 (by decide)]; simpa using fun e => hsp (.inr e)
          have K2 := Lib.hid (writeByte_any b vk (l ++ 34 :: T) c wr HB.out (by rw [List.length_append, List.length_cons]; omega))
          clear hsp h32
          go_wp2_with (go_at_call 35; (with_reducible refine K2.out.mono ?_); rintro e w5 ⟨rfl, v5, hB5, hW5⟩)
          refine ⟨⟨n + 1, v5, by omega, by go_num, ?_, ?_, HW.out.trans hW5⟩, by simp [intOf]; omega⟩
          · rw [Hstep.out, HQ.out]
            have e : l ++ 34 :: (T ++ [c]) = l ++ 34 :: T ++ [c] := by simp
            rw [e]; exact hB5
          · rw [Hstep.out, HQ.out]; simp; omega
    · have hns : n = s.size := by omega
      subst hns
      have e1 : s.toList.take s.size = s.toList := List.take_of_length_le (by omega)
      rw [e1] at HB hq
      have K2 := Lib.hid (writeByte_lit b vk (l ++ 34 :: s.toList.flatMap quoteC) 34 34 rfl wr HB.out (by rw [List.length_append, List.length_cons]; omega))
      go_wp2_with (go_at_call 35; (with_reducible refine K2.out.mono ?_); rintro e w5 ⟨rfl, v5, hB5, hW5⟩)
      go_end0
      refine ⟨rfl, v5, ?_, (HW2.out.trans HW.out).trans hW5⟩
      have e : l ++ quoteB s.toList = l ++ 34 :: s.toList.flatMap quoteC ++ [34] := by simp [quoteB]
      rw [e]; exact hB5
end Go.Proofs.YthkpbgpgcpkiiaaGreatDoor
