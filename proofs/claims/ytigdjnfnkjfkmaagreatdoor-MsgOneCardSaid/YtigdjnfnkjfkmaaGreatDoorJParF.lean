/- What stands behind a backslash (jsonx). Conditions: the text is short. -/
import Derived.Test.YtigdjnfnkjfkmaaGreatDoorJParD
namespace Go.Proofs.YtigdjnfnkjfkmaaGreatDoor
open Go.RowKit
set_option linter.unusedVariables false
set_option linter.unusedSimpArgs false
set_option maxRecDepth 100000

/-- Bytes that are told. -/
def bytesR (d : B) (e : Ending) (w : World) : Prop := ∃ p n c, e = .returned (.slice (some p) n c) ∧ Rd w 1 (.slice (some p) n c) d.length (bytesV d)
theorem rd_new1 (w : World) (c : UInt8) : Rd (w.alloc (.cells #[.int .u8 c.toNat] 5)) 1 (.slice (some ⟨w.heap.size, 0, none⟩) 1 1) 1 (bytesV [c]) := by
  refine ⟨rfl, _, _, rfl, Nat.le_refl _, by decide, (fun h => by cases h), fun a ha => ?_⟩
  cases ha
  refine ⟨rfl, fun j u hj => ?_⟩
  have hj0 : j = 0 := by have := (List.getElem?_eq_some_iff.1 hj).1; simpa [bytesV] using this
  subst hj0
  rw [World.cell?_alloc_mark]
  simpa [bytesV] using hj
def ctlL : B := [98, 102, 110, 114, 116]
theorem ctl_facts (c : UInt8) : (Lib.indexByte ctlL c < 0 ∧ ctlB c = none) ∨ ∃ k : Nat, k < 5 ∧ Lib.indexByte ctlL c = k ∧ ∃ d, ctlB c = some d ∧ [8, 12, 10, 13, 9][k]? = some d := by
  by_cases h : ctlL.contains c = true
  · right
    have hc : c = 98 ∨ c = 102 ∨ c = 110 ∨ c = 114 ∨ c = 116 := by simpa [ctlL] using h
    rcases hc with rfl | rfl | rfl | rfl | rfl
    · exact ⟨0, by decide, by decide, 8, by decide, rfl⟩
    · exact ⟨1, by decide, by decide, 12, by decide, rfl⟩
    · exact ⟨2, by decide, by decide, 10, by decide, rfl⟩
    · exact ⟨3, by decide, by decide, 13, by decide, rfl⟩
    · exact ⟨4, by decide, by decide, 9, by decide, rfl⟩
  · left
    have h' : ctlL.contains c = false := by simpa using h
    refine ⟨(idx_neg c ctlL).2 h', ?_⟩
    have hn : ¬ c = 98 ∧ ¬ c = 102 ∧ ¬ c = 110 ∧ ¬ c = 114 ∧ ¬ c = 116 := by simpa [ctlL] using h'
    obtain ⟨h1, h2, h3, h4, h5⟩ := hn
    simp only [ctlB, if_neg h1, if_neg h2, if_neg h3, if_neg h4, if_neg h5]
theorem encode_utf8 (n : Nat) (h : n < 55296 ∨ (57344 ≤ n ∧ n < 1114112)) : Utf8.encode (n : Int) = ofL (utf8B n) := by
  have hv : Utf8.valid (n : Int) = true := by
    unfold Utf8.valid
    simp only [Bool.and_eq_true, Bool.or_eq_true, decide_eq_true_eq, Bool.not_eq_true', decide_eq_false_iff_not]
    omega
  unfold Utf8.encode utf8B
  simp only [hv, if_true, Int.toNat_natCast]
  split
  · rfl
  · split
    · rfl
    · split <;> rfl
set_option maxHeartbeats 8000000 in
theorem escape_any (bp : Nat) (s : ByteArray) (k : Nat) (l : B) (w : World) (hP : PC w bp s k) (hl : At s k l) (hs : s.size ≤ 65536) :
    Calls Tryz.prog 130 #[.pointer (some ⟨bp, 0, none⟩)] w fun e w' => OutU bp s bytesR e w' (escB l) ∧ Touch (fun j => j = bp) w w' := by
  have HP := Lib.hid hP
  have HL := Lib.hid hl
  have K1 := Lib.hid (fun w hP => one_lit bp s ⟨#[34, 92, 47, 98, 102, 110, 114, 116, 117]⟩ escL rfl k l w hP hl hs)
  clear hP hl
  rcases ho : oneB escL l with ⟨c, r⟩ | ⟨r, e⟩
  rotate_left
  · rw [ho] at K1
    unfold OutU at K1
    have HX := Lib.hid (show escB l = .fail r e by unfold escB; rw [ho])
    go_enter Tryz.func130, Tryz.ntmps130
    go_wp2_with (go_at_call 129; with_reducible refine (K1.out _ HP.out).mono ?_; rintro e w4 ⟨rfl, ht4⟩)
    exact ⟨rfl, by rw [HX.out]; rfl, ht4⟩
  rw [ho] at K1
  unfold OutU byteV at K1
  have K3 := Lib.hid (fun w => ibyte_any c ⟨#[98, 102, 110, 114, 116]⟩ w)
  rw [show (⟨#[98, 102, 110, 114, 116]⟩ : ByteArray).toList = ctlL from by rw [toL_eq]; rfl] at K3
  have HE := Lib.hid (escB_eq ho)
  clear ho
  unfold escR at HE
  rcases ctl_facts c with ⟨hi, hc⟩ | ⟨kk, hk5, hi, d, hd, hat⟩
  rotate_left
  · rw [hd] at HE
    rw [hi] at K3
    simp only [] at HE
    clear hd hi
    have hk : kk = 0 ∨ kk = 1 ∨ kk = 2 ∨ kk = 3 ∨ kk = 4 := by omega
    rcases hk with rfl | rfl | rfl | rfl | rfl
    all_goals
      simp only [List.getElem?_cons_zero, List.getElem?_cons_succ, Option.some.injEq] at hat
      subst hat
      go_enter Tryz.func130, Tryz.ntmps130
      go_wp2_with (first | (go_at_call 129; with_reducible refine (K1.out _ HP.out).mono ?_; rintro e w4 ⟨⟨rfl, j4, hP4, hl4⟩, ht4⟩) | (go_at_call 110; with_reducible refine (K3.out _).mono ?_; rintro e w5 ⟨rfl, rfl⟩))
      go_ret
      rw [HE.out]
      have hb := fun x => (Below.refl w5.heap.size w5).alloc (Nat.le_refl _) x
      exact ⟨⟨⟨_, _, _, rfl, rd_new1 w5 _⟩, j4, hP4.below (hb _), hl4⟩, ht4.next (hb _)⟩
  · rw [hc] at HE
    simp only [] at HE
    clear hc
    generalize Lib.indexByte ctlL c = ix at K3 hi
    by_cases hu : c = 117
    rotate_left
    · have hq : ((c.toNat : Int) != 117) = true := by
        rw [bne_iff_ne]; intro e; apply hu; apply UInt8.toNat.inj; show c.toNat = 117; omega
      rw [if_pos hu] at HE
      go_enter Tryz.func130, Tryz.ntmps130
      go_wp2_with (first | (go_at_call 129; with_reducible refine (K1.out _ HP.out).mono ?_; rintro e w4 ⟨⟨rfl, j4, hP4, hl4⟩, ht4⟩) | (go_at_call 110; with_reducible refine (K3.out _).mono ?_; rintro e w5 ⟨rfl, rfl⟩))
      go_ret
      rw [HE.out]
      have hb := fun x => (Below.refl w5.heap.size w5).alloc (Nat.le_refl _) x
      exact ⟨⟨⟨_, _, _, rfl, rd_new1 w5 c⟩, j4, hP4.below (hb _), hl4⟩, ht4.next (hb _)⟩
    have hq : ((c.toNat : Int) != 117) = false := by rw [hu]; rfl
    rw [if_neg (by simp [hu])] at HE
    clear hu
    have hlit : ofL loTwo = ⟨#[48, 49, 50, 51, 52, 53, 54, 55, 56, 57, 97, 98, 65, 66]⟩ := rfl
    have K4 := Lib.hid (fun w j hP hl => hex_any bp s loTwo lo_in j r w hP hl hs)
    rw [hlit] at K4
    clear hlit
    rcases hx : hexB loTwo r with ⟨n, r2⟩ | ⟨r2, e2⟩
    rotate_left
    · rw [hx] at K4 HE
      unfold OutU at K4
      simp only [] at HE
      go_enter Tryz.func130, Tryz.ntmps130
      go_wp2_with (first | (go_at_call 129; with_reducible refine (K1.out _ HP.out).mono ?_; rintro e w4 ⟨⟨rfl, j4, hP4, hl4⟩, ht4⟩) | (go_at_call 110; with_reducible refine (K3.out _).mono ?_; rintro e w5 ⟨rfl, rfl⟩) | (go_at_call 146; with_reducible refine (K4.out _ j4 hP4 hl4).mono ?_; rintro e w6 ⟨rfl, ht6⟩))
      exact ⟨rfl, by rw [HE.out]; rfl, ht4.trans ht6⟩
    rw [hx] at K4 HE
    unfold OutU numI at K4
    dsimp only at K4
    simp only [] at HE
    have hnr := hexlo hx
    clear hx
    have kb := fun (z : ByteArray) wx => run_bytes_of_string (P := Tryz.prog) wx 9 89 5 z Tryz.underlying9 Tryz.underlying89 Tryz.underlying5
    by_cases hsur : 55296 ≤ n ∧ n < 56320
    rotate_left
    · have HX := Lib.hid (show escB l = .ok (utf8B n) r2 by rw [HE.out]; unfold escS; rw [if_neg hsur])
      have hen := encode_utf8 n (by omega)
      have hcase : ¬ (n : Int) ≥ 55296 ∨ ((n : Int) ≥ 55296 ∧ ¬ (n : Int) < 56320) := by omega
      have hle : 0 ≤ (n : Int) ∧ (n : Int) < 65536 := by omega
      have hUl := utf8_le n
      generalize utf8B n = U at *
      have kbn := kb (ofL U)
      rw [size_ofL] at kbn
      generalize (n : Int) = z at *
      obtain ⟨hz0, hz1⟩ := hle
      have HKB := Lib.hid kbn
      have HEN : ∀ (_ : Unit), Hid (Utf8.encode z = ofL U) := fun _ => hen
      clear kb hsur hnr hen kbn HE
      rcases hcase with h | ⟨h, h'⟩
      all_goals
        go_enter Tryz.func130, Tryz.ntmps130
        go_upto_region 14 with (first | (go_at_call 129; with_reducible refine (K1.out _ HP.out).mono ?_; rintro e w4 ⟨⟨rfl, j4, hP4, hl4⟩, ht4⟩) | (go_at_call 110; with_reducible refine (K3.out _).mono ?_; rintro e w5 ⟨rfl, rfl⟩) | (go_at_call 146; with_reducible refine (K4.out _ j4 hP4 hl4).mono ?_; rintro e w6 ⟨⟨rfl, j6, hP6, hl6⟩, ht6⟩))
        have kbn := HKB.out
        have hen := (HEN ()).out
        go_wp2_with fail
        go_ret
        rw [HX.out]
        have hR := rd_bytes' (w := w6) (wc := w6) (s := ofL U) (n := U.length) (e := 5) (fr := ((bytesRow (ofL U) (grownCap w6 U.length 0 5)).size, (bytesRow (ofL U) (grownCap w6 U.length 0 5)).size + 1)) (size_ofL U) (by omega)
        rw [toL_ofL] at hR
        have hb := ((Below.refl w6.heap.size w6).alloc (Nat.le_refl _) (.cells (bytesRow (ofL U) (grownCap w6 U.length 0 5)) 5 ((bytesRow (ofL U) (grownCap w6 U.length 0 5)).size, (bytesRow (ofL U) (grownCap w6 U.length 0 5)).size + 1))).drew
        exact ⟨⟨⟨_, _, _, rfl, hR⟩, j6, hP6.below hb, hl6⟩, (ht4.trans ht6).next hb⟩
    have HS := Lib.hid (show escB l = (match wordB [92, 117] r2 with
      | .fail r e => .fail r e
      | .ok _ r => escT n r) by rw [HE.out]; unfold escS; rw [if_pos hsur]; cases wordB [92, 117] r2 <;> rfl)
    have hle : 0 ≤ (n : Int) ∧ (n : Int) ≥ 55296 ∧ (n : Int) < 56320 := by omega
    have K5 := Lib.hid (fun w j hP hl => word_lit bp s ⟨#[92, 117]⟩ [92, 117] rfl j r2 w hP hl hs (by decide))
    obtain ⟨hsn1, hsn2⟩ := hsur
    have Hn1 := Lib.hid hsn1
    have Hn2 := Lib.hid hsn2
    clear hnr HE hsn1 hsn2
    rcases hw : wordB [92, 117] r2 with ⟨u, r3⟩ | ⟨r3, e3⟩
    rotate_left
    · rw [hw] at K5 HS
      unfold OutU at K5
      dsimp only at K5
      simp only [] at HS
      clear hw kb
      generalize (n : Int) = z at *
      obtain ⟨-, hz0, hz1⟩ := hle
      go_enter Tryz.func130, Tryz.ntmps130
      go_wp2_with (first | (go_at_call 129; with_reducible refine (K1.out _ HP.out).mono ?_; rintro e w4 ⟨⟨rfl, j4, hP4, hl4⟩, ht4⟩) | (go_at_call 110; with_reducible refine (K3.out _).mono ?_; rintro e w5 ⟨rfl, rfl⟩) | (go_at_call 146; with_reducible refine (K4.out _ j4 hP4 hl4).mono ?_; rintro e w6 ⟨⟨rfl, j6, hP6, hl6⟩, ht6⟩) | (go_at_call 109; with_reducible refine (K5.out _ j6 hP6 hl6).mono ?_; rintro e w7 ⟨rfl, ht7⟩))
      exact ⟨rfl, by rw [HS.out]; rfl, (ht4.trans ht6).trans ht7⟩
    rw [hw] at K5 HS
    unfold OutU unitV at K5
    dsimp only at K5
    simp only [] at HS
    clear hw
    cases r3 with
    | nil =>
      have HX := Lib.hid (show escB l = .fail [] 40 by rw [HS.out]; rfl)
      have K6 := Lib.hid (fun w j hP hl => peek_nil bp s j w hP hl hs)
      clear kb
      generalize (n : Int) = z at *
      obtain ⟨-, hz0, hz1⟩ := hle
      go_enter Tryz.func130, Tryz.ntmps130
      go_wp2_with (first | (go_at_call 129; with_reducible refine (K1.out _ HP.out).mono ?_; rintro e w4 ⟨⟨rfl, j4, hP4, hl4⟩, ht4⟩) | (go_at_call 110; with_reducible refine (K3.out _).mono ?_; rintro e w5 ⟨rfl, rfl⟩) | (go_at_call 146; with_reducible refine (K4.out _ j4 hP4 hl4).mono ?_; rintro e w6 ⟨⟨rfl, j6, hP6, hl6⟩, ht6⟩) | (go_at_call 109; with_reducible refine (K5.out _ j6 hP6 hl6).mono ?_; rintro e w7 ⟨⟨rfl, j7, hP7, hl7⟩, ht7⟩) | (go_at_call 105; with_reducible refine (K6.out _ j7 hP7 hl7).mono ?_; rintro e w8 ⟨rfl, hP8, hb8⟩))
      exact ⟨rfl, by rw [HX.out]; rfl, ((ht4.trans ht6).trans ht7).next hb8⟩
    | cons d q =>
      have K6 := Lib.hid (fun w j hP hl => peek_cons bp s j d q w hP hl hs)
      by_cases hd : d ≠ 100 ∧ d ≠ 68
      · have HX := Lib.hid (show escB l = .fail (d :: q) 40 by rw [HS.out, escT, if_pos hd])
        have hq1 : ((d.toNat : Int) != 100) = true := by
          rw [bne_iff_ne]; intro e; apply hd.1; apply UInt8.toNat.inj; show d.toNat = 100; omega
        have hq2 : ((d.toNat : Int) != 68) = true := by
          rw [bne_iff_ne]; intro e; apply hd.2; apply UInt8.toNat.inj; show d.toNat = 68; omega
        clear kb hd
        generalize (n : Int) = z at *
        obtain ⟨-, hz0, hz1⟩ := hle
        go_enter Tryz.func130, Tryz.ntmps130
        go_wp2_with (first | (go_at_call 129; with_reducible refine (K1.out _ HP.out).mono ?_; rintro e w4 ⟨⟨rfl, j4, hP4, hl4⟩, ht4⟩) | (go_at_call 110; with_reducible refine (K3.out _).mono ?_; rintro e w5 ⟨rfl, rfl⟩) | (go_at_call 109; with_reducible refine (K5.out _ j6 hP6 hl6).mono ?_; rintro e w7 ⟨⟨rfl, j7, hP7, hl7⟩, ht7⟩) | (go_at_call 105; with_reducible refine (K6.out _ j7 hP7 hl7).mono ?_; rintro e w8 ⟨rfl, hP8, hb8⟩) | (go_at_call 146; with_reducible refine (K4.out _ j4 hP4 hl4).mono ?_; rintro e w6 ⟨⟨rfl, j6, hP6, hl6⟩, ht6⟩) | (go_at_call 78; with_reducible refine (fail_any bp s j7 40 _ hP8).mono ?_; rintro e w9 ⟨rfl, rfl⟩))
        exact ⟨rfl, by rw [HX.out]; exact OutU.giveup hl7 bytesR 40 _, ((ht4.trans ht6).trans ht7).next hb8⟩
      have hlow : d = 100 ∨ d = 68 := by
        by_cases h1 : d = 100
        · exact .inl h1
        · by_cases h2 : d = 68
          · exact .inr h2
          · exact absurd ⟨h1, h2⟩ hd
      have HT := Lib.hid (show escB l = (match hexB hiTwo (d :: q) with
        | .fail r e => .fail r e
        | .ok m r => .ok (utf8B (0x10000 + (n - 0xd800) * 1024 + m - 0xdc00)) r) by rw [HS.out, escT, if_neg hd]; cases hexB hiTwo (d :: q) <;> rfl)
      have hcase : ((d.toNat : Int) != 100) = false ∨ (((d.toNat : Int) != 100) = true ∧ ((d.toNat : Int) != 68) = false) := by
        rcases hlow with rfl | rfl
        · exact .inl rfl
        · exact .inr ⟨rfl, rfl⟩
      have K7 := Lib.hid (fun w j hP hl => hex_any bp s hiTwo hi_in j (d :: q) w hP hl hs)
      rw [show ofL hiTwo = ⟨#[99, 100, 101, 102, 67, 68, 69, 70]⟩ from rfl] at K7
      rcases hx : hexB hiTwo (d :: q) with ⟨m, r4⟩ | ⟨r4, e4⟩
      · rw [hx] at K7 HT
        unfold OutU numI at K7
        dsimp only at K7
        simp only [] at HT
        have hmr := hexhi hlow hx
        have hle2 : (m : Int) ≥ 56320 ∧ (m : Int) < 57344 := by omega
        have hN : ((0x10000 + (n - 0xd800) * 1024 + m - 0xdc00 : Nat) : Int) = 65536 + ((n : Int) - 55296) * 1024 + (m : Int) - 56320 := by
          have := Hn1.out; omega
        have hen := encode_utf8 (0x10000 + (n - 0xd800) * 1024 + m - 0xdc00) (by have := Hn1.out; have := Hn2.out; omega)
        rw [hN] at hen
        have hUl := utf8_le (0x10000 + (n - 0xd800) * 1024 + m - 0xdc00)
        generalize utf8B (0x10000 + (n - 0xd800) * 1024 + m - 0xdc00) = U at *
        have kbn := kb (ofL U)
        rw [size_ofL] at kbn
        clear kb hd hlow hx hmr hN Hn1 Hn2 HS
        generalize (n : Int) = z at *
        generalize (m : Int) = y at *
        obtain ⟨-, hz0, hz1⟩ := hle
        obtain ⟨hy0, hy1⟩ := hle2
        have HKB := Lib.hid kbn
        have HEN : ∀ (_ : Unit), Hid (Utf8.encode (65536 + (z - 55296) * 1024 + y - 56320) = ofL U) := fun _ => hen
        clear hen kbn
        rcases hcase with g | ⟨g, g'⟩
        all_goals
          go_enter Tryz.func130, Tryz.ntmps130
          go_upto_region 14 with (first | (go_at_call 129; with_reducible refine (K1.out _ HP.out).mono ?_; rintro e w4 ⟨⟨rfl, j4, hP4, hl4⟩, ht4⟩) | (go_at_call 110; with_reducible refine (K3.out _).mono ?_; rintro e w5 ⟨rfl, rfl⟩) | (go_at_call 109; with_reducible refine (K5.out _ j6 hP6 hl6).mono ?_; rintro e w7 ⟨⟨rfl, j7, hP7, hl7⟩, ht7⟩) | (go_at_call 105; with_reducible refine (K6.out _ j7 hP7 hl7).mono ?_; rintro e w8 ⟨rfl, hP8, hb8⟩) | (go_at_call 146; with_reducible refine (K4.out _ j4 hP4 hl4).mono ?_; rintro e w6 ⟨⟨rfl, j6, hP6, hl6⟩, ht6⟩) | (go_at_call 146; with_reducible refine (K7.out _ j7 hP8 hl7).mono ?_; rintro e w9 ⟨⟨rfl, j9, hP9, hl9⟩, ht9⟩))
          have kbn := HKB.out
          have hen := (HEN ()).out
          go_wp2_with fail
          go_ret
          rw [HT.out]
          have hR := rd_bytes' (w := w9) (wc := w9) (s := ofL U) (n := U.length) (e := 5) (fr := ((bytesRow (ofL U) (grownCap w9 U.length 0 5)).size, (bytesRow (ofL U) (grownCap w9 U.length 0 5)).size + 1)) (size_ofL U) (by omega)
          rw [toL_ofL] at hR
          have hb := ((Below.refl w9.heap.size w9).alloc (Nat.le_refl _) (.cells (bytesRow (ofL U) (grownCap w9 U.length 0 5)) 5 ((bytesRow (ofL U) (grownCap w9 U.length 0 5)).size, (bytesRow (ofL U) (grownCap w9 U.length 0 5)).size + 1))).drew
          exact ⟨⟨⟨_, _, _, rfl, hR⟩, j9, hP9.below hb, hl9⟩, ((((ht4.trans ht6).trans ht7).next hb8).trans ht9).next hb⟩
      · rw [hx] at K7 HT
        unfold OutU at K7
        dsimp only at K7
        simp only [] at HT
        clear kb hd hlow hx Hn1 Hn2 HS
        generalize (n : Int) = z at *
        obtain ⟨-, hz0, hz1⟩ := hle
        rcases hcase with g | ⟨g, g'⟩
        all_goals
          go_enter Tryz.func130, Tryz.ntmps130
          go_wp2_with (first | (go_at_call 129; with_reducible refine (K1.out _ HP.out).mono ?_; rintro e w4 ⟨⟨rfl, j4, hP4, hl4⟩, ht4⟩) | (go_at_call 110; with_reducible refine (K3.out _).mono ?_; rintro e w5 ⟨rfl, rfl⟩) | (go_at_call 109; with_reducible refine (K5.out _ j6 hP6 hl6).mono ?_; rintro e w7 ⟨⟨rfl, j7, hP7, hl7⟩, ht7⟩) | (go_at_call 105; with_reducible refine (K6.out _ j7 hP7 hl7).mono ?_; rintro e w8 ⟨rfl, hP8, hb8⟩) | (go_at_call 146; with_reducible refine (K4.out _ j4 hP4 hl4).mono ?_; rintro e w6 ⟨⟨rfl, j6, hP6, hl6⟩, ht6⟩) | (go_at_call 146; with_reducible refine (K7.out _ j7 hP8 hl7).mono ?_; rintro e w9 ⟨rfl, ht9⟩))
          exact ⟨rfl, by rw [HT.out]; rfl, (((ht4.trans ht6).trans ht7).next hb8).trans ht9⟩
end Go.Proofs.YtigdjnfnkjfkmaaGreatDoor
