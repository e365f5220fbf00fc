/- The next character (jsonx). Conditions: the text is short. -/
import Derived.Test.YthkpbgpgcpkiiaaGreatDoorJParI
import Derived.StillTailTactics
namespace Go.Proofs.YthkpbgpgcpkiiaaGreatDoor
open Go.RowKit
set_option linter.unusedVariables false
set_option linter.unusedSimpArgs false
set_option maxRecDepth 100000

/-- A guarded operation that is wanted: as one without a guard. -/
theorem wpList_unguard {P : Program} {w : World} {ops : Array Oper} {rest : List Oper} {o : Oper} {a : Act} {Q : Exit → Act → World → Prop} (hw : Region.wanted o (yielded ops a.tmps) = true)
    (h : wpList P ops Q ({ o with guard := none } :: rest) a w) : wpList P ops Q (o :: rest) a w := by
  unfold wpList at h ⊢
  rw [if_pos hw]
  rw [if_pos (by rfl)] at h
  exact h
set_option maxHeartbeats 8000000 in
theorem char_any (bp : Nat) (s : ByteArray) (k : Nat) (c : UInt8) (r : B) (w : World) (hP : PC w bp s k) (hl : At s k (c :: r)) (hs : s.size ≤ 65536) :
    Calls Tryz.prog 84 #[.pointer (some ⟨bp, 0, none⟩)] w fun e w' => OutU bp s bytesR e w' (charB (c :: r)) ∧ Touch (fun j => j = bp) w w' := by
  have HP := Lib.hid hP
  have HL := Lib.hid hl
  have c1 := hP.c1
  have hsz := hl.size
  clear hP hl
  go_enter Tryz.func84, Tryz.ntmps84
  go_wp2
  go_loopw [] (fun wr => ∃ m : Nat, m < (c :: r).length ∧ Hid (charF ((c :: r).length + 1 - m) m (c :: r) = charB (c :: r)) ∧ PC wr bp s (k + m) ∧ Touch (fun j => j = bp) w wr) (fun wr => s.size - (intOf ((wr.cell? ⟨bp, 1, none⟩).getD undef)).toNat)
  case atStart => exact ⟨0, by simp, rfl, HP.out, Touch.refl _ _⟩
  case round =>
    obtain ⟨m, hm, hC, hP2, ht⟩ := hrel
    have f1 := hP2.fz 1
    have c1 := hP2.c1
    have HP2 := Lib.hid hP2
    have HT := Lib.hid ht
    clear hP2 ht
    obtain ⟨t, ht⟩ : ∃ t, k + m = t := ⟨_, rfl⟩
    rw [ht] at c1 HP2
    have hm' : t < s.size := by omega
    go_upto_region 3 with fail
    have hp3 := HP2.out.set (t + 1)
    rw [Int.natCast_add, Int.natCast_one] at hp3
    have HT3 := Lib.hid (HT.out.setCell (p := ⟨bp, 1, none⟩) rfl (.int .i64 ((t : Int) + 1)))
    have HC1 := Lib.hid c1
    clear c1 f1
    generalize wr.setCell ⟨bp, 1, none⟩ (.int .i64 ((t : Int) + 1)) = w3 at hp3 HT3 ⊢
    have c0 := hp3.c0
    have c1 := hp3.c1
    have HP3 := Lib.hid hp3
    clear hp3
    have hb1 : 0 ≤ (t : Int) + 1 ∧ (t : Int) + 1 ≤ (s.size : Int) := by omega
    have hb2 : 0 ≤ (k : Int) ∧ (k : Int) ≤ (t : Int) + 1 := by omega
    have ksl : ∀ W : World, (Instr.slice 9 (.string s) (some (.int .i64 (k : Int))) (some (.int .i64 ((t : Int) + 1))) none).run Tryz.prog W = .ok (.string (ofL ((c :: r).take (m + 1)))) W := fun W => by
      rw [run_slice_string_if (h := Tryz.underlying9), if_pos hb1, if_pos hb2]
      have e : s.extract (k : Int).toNat ((t : Int) + 1).toNat = ofL ((c :: r).take (m + 1)) := by
        apply toL_inj
        rw [toL_extract, toL_ofL, show ((t : Int) + 1).toNat = t + 1 by omega, show (k : Int).toNat = k by omega, List.drop_take, HL.out.2, show t + 1 - k = m + 1 by omega]
      rw [e]
    have hTl : ((c :: r).take (m + 1)).length = m + 1 := by rw [List.length_take]; omega
    have Hdr := Lib.hid (rfl : (c :: r).drop (m + 1) = (c :: r).drop (m + 1))
    have HSt := Lib.hid (show charB (c :: r) = if wholeL ((c :: r).take (m + 1)) then .ok ((c :: r).take (m + 1)) ((c :: r).drop (m + 1))
        else if growsB ((c :: r).take (m + 1)) = false then .fail ((c :: r).drop m) 40
        else if (c :: r).length ≤ m + 1 then .fail [] 40
        else charF ((c :: r).length + 1 - (m + 1)) (m + 1) (c :: r) by
      rw [← hC.out, show (c :: r).length + 1 - m = ((c :: r).length + 1 - (m + 1)) + 1 by omega, charF])
    generalize (c :: r).take (m + 1) = T at *
    have kb := fun wx => run_bytes_of_string (P := Tryz.prog) wx 9 46 5 (ofL T) Tryz.underlying9 Tryz.underlying46 Tryz.underlying5
    rw [size_ofL, hTl] at kb
    go_still_tail 10, (by kernel_rfl)
    change wpList _ _ _ _ _ w3.drew
    go_wp2_with fail
    have hR := rd_bytes' (w := w3) (wc := w3.drew) (s := ofL T) (n := m + 1) (e := 5) (fr := ((bytesRow (ofL T) (grownCap w3.drew (m + 1) 0 5)).size, (bytesRow (ofL T) (grownCap w3.drew (m + 1) 0 5)).size + 1)) (by rw [size_ofL, hTl]) (by omega)
    have hb4 := (((Below.refl w3.heap.size w3).alloc (Nat.le_refl _) (.cells (bytesRow (ofL T) (grownCap w3.drew (m + 1) 0 5)) 5 ((bytesRow (ofL T) (grownCap w3.drew (m + 1) 0 5)).size, (bytesRow (ofL T) (grownCap w3.drew (m + 1) 0 5)).size + 1))).drew).drew
    replace hR := hR.below (Below.drew (Below.refl _ _))
    rw [toL_ofL] at hR
    generalize ((w3.alloc (.cells (bytesRow (ofL T) (grownCap w3.drew (m + 1) 0 5)) 5 ((bytesRow (ofL T) (grownCap w3.drew (m + 1) 0 5)).size, (bytesRow (ofL T) (grownCap w3.drew (m + 1) 0 5)).size + 1))).drew).drew = w4 at hR hb4 ⊢
    generalize grownCap w3.drew (m + 1) 0 5 = cap at hR ⊢
    have hTl2 : T.length ≤ 1048576 := by omega
    have HP4 := Lib.hid (HP3.out.below hb4)
    have HT4 := Lib.hid (HT3.out.next hb4)
    have HR4 := Lib.hid hR
    clear kb ksl c0 c1 hb4 hR
    refine (chars_any T _ w4 HR4.out hTl2).mono ?_
    rintro e w5 ⟨⟨x, rfl, hx⟩, rfl⟩
    cases hw : wholeL T with
    | true =>
      rw [hw, if_pos rfl] at hx
      have HX := Lib.hid (show charB (c :: r) = .ok T ((c :: r).drop (m + 1)) by rw [HSt.out, hw, if_pos rfl])
      clear hw
      go_wp2_with fail
      go_ret
      rw [HX.out]
      have hat : At s (t + 1) ((c :: r).drop (m + 1)) := ⟨by omega, by rw [← HL.out.2, List.drop_drop, show k + (m + 1) = t + 1 by omega]⟩
      exact ⟨⟨⟨_, _, _, rfl, HR4.out⟩, t + 1, HP4.out, hat⟩, HT4.out⟩
    | false =>
      rw [hw] at hx
      have hx' : ¬ x < 0 := by simp at hx; omega
      clear hx
      go_wp2_with fail
      have hb5 := (Below.refl w4.heap.size w4).alloc (Nat.le_refl _) (.cells #[.string ⟨#[128]⟩, .string ⟨#[128, 128]⟩, .string ⟨#[128, 128, 128]⟩, .string ⟨#[191]⟩, .string ⟨#[191, 191]⟩, .string ⟨#[191, 191, 191]⟩] 9)
      have hE : ∀ (j : Nat) (e : B), endsB[j]? = some e → (w4.alloc (.cells #[.string ⟨#[128]⟩, .string ⟨#[128, 128]⟩, .string ⟨#[128, 128, 128]⟩, .string ⟨#[191]⟩, .string ⟨#[191, 191]⟩, .string ⟨#[191, 191, 191]⟩] 9)).cell? ⟨w4.heap.size, j, none⟩ = some (.string (ofL e)) := by
        intro j e h
        rw [World.cell?_alloc_mark]
        have hj : j < 6 := (List.getElem?_eq_some_iff.1 h).1
        have hj' : j = 0 ∨ j = 1 ∨ j = 2 ∨ j = 3 ∨ j = 4 ∨ j = 5 := by omega
        rcases hj' with rfl | rfl | rfl | rfl | rfl | rfl <;> (cases h; rfl)
      generalize w4.alloc (.cells #[.string ⟨#[128]⟩, .string ⟨#[128, 128]⟩, .string ⟨#[128, 128, 128]⟩, .string ⟨#[191]⟩, .string ⟨#[191, 191]⟩, .string ⟨#[191, 191, 191]⟩] 9) = w5 at hb5 hE ⊢
      have HB5 := Lib.hid hb5
      have HE := Lib.hid hE
      clear hb5 hE
      go_loopw [5, 36] (fun o i wx => ∃ j : Nat, j ≤ 6 ∧ i = .int .i64 j ∧ o = .bool ((endsB.take j).any fun e => wholeL (T ++ e)) ∧ Hid (Below w5.heap.size w5 wx)) (fun o i wx => 6 - (intOf i).toNat)
      case atStart => exact ⟨0, Nat.zero_le _, rfl, rfl, Below.refl _ _⟩
      case round =>
        obtain ⟨j, hj, rfl, rfl, hB⟩ := hrel
        by_cases hlt : j < 6
        · obtain ⟨e, he⟩ : ∃ e, endsB[j]? = some e := ⟨endsB[j]'(by simpa [endsB] using hlt), List.getElem?_eq_getElem _⟩
          have hcell := Below.keeps (hB.out) (HE.out j e he)
          have Htk : Hid ((endsB.take (j + 1)).any (fun e => wholeL (T ++ e)) = ((endsB.take j).any (fun e => wholeL (T ++ e)) || wholeL (T ++ e))) := by
            show _ = _
            rw [List.take_add_one, he, List.any_append]; simp
          have hel : e.length ≤ 3 := by
            have hm := List.mem_of_getElem? he
            simp [endsB] at hm
            rcases hm with rfl | rfl | rfl | rfl | rfl | rfl <;> decide
          clear he
          generalize (endsB.take j).any (fun e => wholeL (T ++ e)) = b at *
          cases b with
          | true =>
            go_wp2
            exact ⟨⟨j + 1, by omega, by go_num, by rw [Htk.out]; rfl, hB⟩, by simp [intOf]; omega⟩
          | false =>
            have hRr := (HR4.out.below HB5.out).mono (fun b o u h => Below.keeps hB.out h)
            have K1 := Lib.hid (clone_any T _ wr hRr (by omega))
            clear hRr
            have hlen : (T ++ e).length ≤ 1048576 := by rw [List.length_append]; omega
            have K2 := Lib.hid (fun v w hR => chars_any (T ++ e) v w hR hlen)
            go_wp2_with (first | (go_at_call 105; with_reducible refine K1.out.mono ?_; rintro e9 w9 ⟨v9, rfl, ho9, hb9⟩) | (at_builtin; refine wpList_unguard (by rfl) ?_; refine wpList_strB w9 rfl _ _ 46 9 rfl wr.heap.size rowB Tryz.underlying9 _ T rfl ho9 (ofL e) rfl (by rw [size_ofL]; omega) hb9.size ?_; intro v10 w10 hO10 hT10 hb10; rw [toL_ofL] at hO10; clear hT10; have HR10 := Lib.hid (rd_of_own (show World.ownsRow _ _ _ _ _ _ _ from hO10))) | (go_at_call 55; (with_reducible refine (K2.out _ _ HR10.out).mono ?_); rintro e11 w11 ⟨⟨x2, rfl, hx2⟩, rfl⟩))
            have HB10 := Lib.hid (hB.out.next (hb9.trans hb10))
            clear hO10 HR10 hb9 hb10 K1 K2 ho9
            generalize wholeL (T ++ e) = bw at *
            cases bw with
            | true =>
              have hx3 : decide (x2 < 0) = true := by simp at hx2; exact decide_eq_true hx2
              clear hx2
              go_wp2
              refine ⟨⟨j + 1, by omega, by go_num, ?_, HB10⟩, by simp [intOf]; omega⟩
              rw [Htk.out]; simp_all
            | false =>
              have hx3 : decide (x2 < 0) = false := by simp at hx2; exact decide_eq_false (by omega)
              clear hx2
              go_wp2
              refine ⟨⟨j + 1, by omega, by go_num, ?_, HB10⟩, by simp [intOf]; omega⟩
              rw [Htk.out]; simp_all
        · have hj6 : j = 6 := by omega
          subst hj6
          have HG := Lib.hid (show ((endsB.take 6).any fun e => wholeL (T ++ e)) = growsB T from rfl)
          rw [show (List.take 6 endsB).any (fun e => wholeL (T ++ e)) = growsB T from rfl]
          have HB := Lib.hid (HB5.out.next hB.out)
          have HPr := Lib.hid (HP4.out.below HB.out)
          have HTr := Lib.hid (HT4.out.next HB.out)
          clear hB hlt HB HE HB5
          cases hg : growsB T with
          | false =>
            have HX := Lib.hid (show charB (c :: r) = .fail ((c :: r).drop m) 40 by rw [HSt.out, hw, hg]; rfl)
            have c1 := HPr.out.c1
            have f1 := HPr.out.fz 1
            have c0 := HPr.out.c0
            rw [Int.natCast_add, Int.natCast_one] at c1
            clear hg hw
            have K3 := Lib.hid (fun w hP => fail_any bp s t 40 w hP)
            have hp2 := HPr.out.set t
            have HP6 := Lib.hid hp2
            clear hp2
            go_wp2_with (go_at_call 44; with_reducible refine (K3.out _ HP6.out).mono ?_; rintro e12 w12 ⟨rfl, rfl⟩)
            rw [HX.out]
            have hat : At s t ((c :: r).drop m) := ⟨by omega, by rw [← HL.out.2, List.drop_drop, show k + m = t by omega]⟩
            exact ⟨rfl, OutU.giveup hat bytesR 40 _, HTr.out.setCell (p := ⟨bp, 1, none⟩) rfl _⟩
          | true =>
            have hat : At s (t + 1) ((c :: r).drop (m + 1)) := ⟨by omega, by rw [← HL.out.2, List.drop_drop, show k + (m + 1) = t + 1 by omega]⟩
            by_cases hle : (c :: r).length ≤ m + 1
            · have HX := Lib.hid (show charB (c :: r) = .fail [] 40 by rw [HSt.out, hw, hg, if_neg (by decide), if_neg (by decide), if_pos hle])
              have hn : (c :: r).drop (m + 1) = [] := List.drop_of_length_le hle
              rw [hn] at hat
              have K3 := Lib.hid (fun w hP => peek_nil bp s (t + 1) w hP hat hs)
              clear hg hw hn
              go_wp2_with (go_at_call 59; with_reducible refine (K3.out _ HPr.out).mono ?_; rintro e12 w12 ⟨rfl, hP12, hb12⟩)
              rw [HX.out]
              exact ⟨rfl, rfl, HTr.out.next hb12⟩
            · have HX := Lib.hid (show charF ((c :: r).length + 1 - (m + 1)) (m + 1) (c :: r) = charB (c :: r) by rw [HSt.out, hw, hg, if_neg (by decide), if_neg (by decide), if_neg hle])
              obtain ⟨d, q, hn⟩ : ∃ d q, (c :: r).drop (m + 1) = d :: q := by
                cases hd : (c :: r).drop (m + 1) with
                | nil => have := congrArg List.length hd; rw [List.length_drop] at this; simp at this; simp at hle; omega
                | cons d q => exact ⟨d, q, rfl⟩
              rw [hn] at hat
              have K3 := Lib.hid (fun w hP => peek_cons bp s (t + 1) d q w hP hat hs)
              clear hg hw hn
              go_wp2_with (go_at_call 59; with_reducible refine (K3.out _ HPr.out).mono ?_; rintro e12 w12 ⟨rfl, hP12, hb12⟩)
              go_roundw
              case rel => exact ⟨m + 1, by omega, HX, by rw [show k + (m + 1) = t + 1 by omega]; exact hP12, HTr.out.next hb12⟩
              case measure =>
                rw [HC1.out, hP12.c1]
                simp [intOf]; omega
end Go.Proofs.YthkpbgpgcpkiiaaGreatDoor
