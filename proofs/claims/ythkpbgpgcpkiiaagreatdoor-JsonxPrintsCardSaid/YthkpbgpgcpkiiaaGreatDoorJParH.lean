/- Whole characters: wire.Chars. Conditions: the text is short. -/
import Derived.Test.YthkpbgpgcpkiiaaGreatDoorJParG
import Derived.Test.YthkpbgpgcpkiiaaGreatDoorJsonD
namespace Go.Proofs.YthkpbgpgcpkiiaaGreatDoor
open Go.RowKit
set_option linter.unusedVariables false
set_option linter.unusedSimpArgs false
set_option maxRecDepth 100000

theorem long_any (c : UInt8) (w : World) : Calls Tryz.prog 77 #[.int .u8 c.toNat] w fun e w' => e = .returned (.tuple #[.int .i64 ((longB c).1 : Int), .int .u8 ((longB c).2.1.toNat : Int), .int .u8 ((longB c).2.2.toNat : Int)]) ∧ w' = w := by
  refine (longN_any c.toNat w).mono ?_
  rintro e w' ⟨rfl, rfl⟩
  refine ⟨?_, rfl⟩
  rw [← longB_N c]; rfl
theorem tail_short : ∀ {n : Nat} {lo hi : UInt8} {l : B}, l.length < n → tailB n lo hi l = false
  | 0, _, _, _, h => by omega
  | n + 1, _, _, [], _ => rfl
  | n + 1, lo, hi, c :: r, h => by rw [tailB, tail_short (by simpa using h), Bool.and_false]
def signI (b : Bool) (e : Ending) : Prop := ∃ x : Int, e = .returned (.int .i64 x) ∧ (if b then x < 0 else 0 ≤ x)
theorem long_le (c : UInt8) : (longB c).1 ≤ 4 := by
  have h := longB_N c
  have : (longB c).1 = (longN c.toNat).1 := by rw [← h]
  rw [this]
  unfold longN
  repeat' split
  all_goals decide
set_option maxHeartbeats 4000000 in
theorem chars_any (l : B) (v : Value) (w : World) (hR : Rd w 1 v l.length (bytesV l)) (hl : l.length ≤ 1048576) :
    Calls Tryz.prog 55 #[v] w fun e w' => signI (wholeL l) e ∧ w = w' := by
  have HR := Lib.hid hR
  obtain ⟨A, cp, rfl⟩ := hR.shape
  clear hR
  go_enter Tryz.func55, Tryz.ntmps55
  go_wp2
  go_loopw [3] (fun a wr => ∃ k : Nat, k ≤ l.length ∧ a = .int .i64 k ∧ Hid (wholeL (l.drop k) = wholeL l) ∧ w = wr) (fun a _ => l.length - (intOf a).toNat)
  case atStart => exact ⟨0, Nat.zero_le _, rfl, rfl, rfl⟩
  case round =>
    obtain ⟨k, hk, rfl, hW, rfl⟩ := hrel
    by_cases hlt : k < l.length
    · have Hd := Lib.hid (List.drop_eq_getElem_cons hlt)
      have hat : l[k]? = some l[k] := List.getElem?_eq_getElem hlt
      obtain ⟨b', o, rfl, hcell⟩ := HR.out.byteAt hat
      generalize l[k] = c at hat hcell Hd
      have K1 := Lib.hid (fun w => long_any c w)
      have Hst := Lib.hid (show wholeL l = if firstB (c :: l.drop (k + 1)) = 0 then false else wholeL ((c :: l.drop (k + 1)).drop (firstB (c :: l.drop (k + 1)))) by
        rw [← hW.out, Hd.out]; exact whole_step (by simp))
      have Hfb := Lib.hid (show firstB (c :: l.drop (k + 1)) = if (longB c).1 = 0 then 0 else if tailB ((longB c).1 - 1) (longB c).2.1 (longB c).2.2 (l.drop (k + 1)) then (longB c).1 else 0 from rfl)
      have hn4 := long_le c
      generalize (longB c).1 = n at *
      generalize (longB c).2.1 = lo at *
      generalize (longB c).2.2 = hi at *
      clear hat
      by_cases h0 : n = 0
      · subst h0
        have HX := Lib.hid (show wholeL l = false by rw [Hst.out, Hfb.out]; rfl)
        go_wp2_with (go_at_call 77; with_reducible refine (K1.out _).mono ?_; rintro e w4 ⟨rfl, rfl⟩)
        go_ret
        exact ⟨⟨_, rfl, by rw [HX.out]; simp⟩, rfl⟩
      have hq0 : ((n : Int) == 0) = false := by rw [beq_eq_false_iff_ne]; omega
      by_cases h1 : n > l.length - k
      · have HX := Lib.hid (show wholeL l = false by rw [Hst.out, Hfb.out, if_neg h0, tail_short (by rw [List.length_drop]; omega)]; rfl)
        have hq1 : (n : Int) > (l.length : Int) - k := by omega
        clear h1
        go_wp2_with (go_at_call 77; with_reducible refine (K1.out _).mono ?_; rintro e w4 ⟨rfl, rfl⟩)
        go_ret
        exact ⟨⟨_, rfl, by rw [HX.out]; simp⟩, rfl⟩
      have hq1 : ¬ (n : Int) > (l.length : Int) - k := by omega
      clear h1
      go_wp2_with (go_at_call 77; with_reducible refine (K1.out _).mono ?_; rintro e w4 ⟨rfl, rfl⟩)
      have hn1 : 1 ≤ n := by omega
      have hroom : k + n ≤ l.length := by omega
      go_loopw [5, 6, 7] (fun a b i wr => ∃ (lo' hi' : UInt8) (j : Nat), a = .int .u8 lo'.toNat ∧ b = .int .u8 hi'.toNat ∧ i = .int .i64 j ∧ 1 ≤ j ∧ j ≤ n ∧ Hid (tailB (n - j) lo' hi' (l.drop (k + j)) = tailB (n - 1) lo hi (l.drop (k + 1))) ∧ w4 = wr) (fun _ _ i _ => n - (intOf i).toNat)
      case atStart => exact ⟨lo, hi, 1, rfl, rfl, rfl, Nat.le_refl _, hn1, rfl, rfl⟩
      case round =>
        obtain ⟨lo', hi', j, rfl, rfl, rfl, hj1, hjn, hT, rfl⟩ := hrel
        by_cases hjl : j < n
        · have hlt2 : k + j < l.length := by omega
          have Hd2 := Lib.hid (List.drop_eq_getElem_cons hlt2)
          have hat2 : l[k + j]? = some l[k + j] := List.getElem?_eq_getElem hlt2
          obtain ⟨b2, o2, hA2, hcell2⟩ := HR.out.byteAt hat2
          cases hA2
          generalize l[k + j] = d at hat2 hcell2 Hd2
          clear hat2
          obtain ⟨q, hq⟩ : ∃ q, n - j = q + 1 := ⟨n - j - 1, by omega⟩
          have Hq := Lib.hid hq
          rw [hq, Hd2.out, tailB] at hT
          clear hq
          by_cases hc : contB lo' hi' d = true
          · have HT2 := Lib.hid (show tailB q 0x80 0xbf (l.drop (k + j + 1)) = tailB (n - 1) lo hi (l.drop (k + 1)) by rw [← hT.out, hc, Bool.true_and])
            have hc2 : ¬ ((d.toNat : Int) < lo'.toNat) ∧ ¬ ((d.toNat : Int) > hi'.toNat) := by
              simp only [contB, Bool.and_eq_true, decide_eq_true_eq] at hc
              have := UInt8.le_iff_toNat_le.1 hc.1; have := UInt8.le_iff_toNat_le.1 hc.2
              omega
            obtain ⟨g1, g2⟩ := hc2
            clear hc hT
            go_wp2
            refine ⟨⟨0x80, 0xbf, j + 1, rfl, rfl, by go_num, by omega, by omega, ?_, trivial⟩, by simp [intOf]; omega⟩
            show tailB (n - (j + 1)) 0x80 0xbf (l.drop (k + (j + 1))) = _
            rw [← HT2.out, show n - (j + 1) = q by have := Hq.out; omega, show k + (j + 1) = k + j + 1 by omega]
          · have HX := Lib.hid (show wholeL l = false by
              have hc' : contB lo' hi' d = false := by simpa using hc
              rw [Hst.out, Hfb.out, if_neg h0, ← hT.out, hc', Bool.false_and]; rfl)
            have hc2 : ((d.toNat : Int) < lo'.toNat) ∨ (¬ ((d.toNat : Int) < lo'.toNat) ∧ (d.toNat : Int) > hi'.toNat) := by
              simp only [contB, Bool.and_eq_true, decide_eq_true_eq, UInt8.le_iff_toNat_le] at hc
              omega
            clear hc hT
            rcases hc2 with g | ⟨g, g'⟩
            all_goals
              go_wp2
              go_ret
              exact ⟨⟨_, rfl, by rw [HX.out]; simp⟩, rfl⟩
        · have hjn' : j = n := by omega
          subst hjn'
          have HT2 := Lib.hid (show firstB (c :: l.drop (k + 1)) = j by
            rw [Hfb.out, if_neg h0, ← hT.out, Nat.sub_self, tailB]; rfl)
          have HX := Lib.hid (show wholeL (l.drop (k + j)) = wholeL l by
            rw [Hst.out, HT2.out, if_neg h0, ← Hd.out, List.drop_drop])
          clear hT
          go_wp2
          exact ⟨⟨k + j, by omega, by go_num, HX, trivial⟩, by simp [intOf]; omega⟩
    · have HX := Lib.hid (show wholeL l = true by rw [← hW.out, List.drop_of_length_le (by omega)]; rfl)
      go_wp2
      go_ret
      exact ⟨⟨_, rfl, by rw [HX.out]; simp⟩, rfl⟩
end Go.Proofs.YthkpbgpgcpkiiaaGreatDoor
