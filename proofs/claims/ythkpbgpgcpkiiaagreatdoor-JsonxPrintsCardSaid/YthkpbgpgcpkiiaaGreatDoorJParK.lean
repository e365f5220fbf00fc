/- What stands between quotes (jsonx). Conditions: the text is short. -/
import Derived.Test.YthkpbgpgcpkiiaaGreatDoorJParJ
namespace Go.Proofs.YthkpbgpgcpkiiaaGreatDoor
open Go.RowKit
set_option linter.unusedVariables false
set_option linter.unusedSimpArgs false
set_option maxRecDepth 100000

theorem rd_nil (w : World) (size : Nat) : Rd w size (.slice none 0 0) 0 [] := ⟨by simp, none, 0, rfl, Nat.le_refl _, by decide, fun _ => rfl, fun a ha => by cases ha⟩
theorem conv_rd {P : Program} {w : World} {v : Value} {l : B} (src dst e : TypeId) (hs : P.underlying src = some (.slice e)) (he : P.underlying e = some (.int .u8)) (hd : P.underlying dst = some .string) (hR : Rd w 1 v l.length (bytesV l)) :
    (convert src dst v).run P w = .ok (.string (ofL l)) w := by
  obtain ⟨h1, A, c, rfl, h3, h4, h5, h6⟩ := hR
  cases A with
  | none =>
    have h0 := h5 rfl
    have hl := List.eq_nil_of_length_eq_zero h0
    subst hl
    rw [run_convert_bytes_string w src dst e none _ c hs he hd]
    rfl
  | some a =>
    obtain ⟨hsp, hc⟩ := h6 a rfl
    refine run_convert_bytes_back w src dst e a c l hs he hd fun j hj => ?_
    have := hc j _ (bytesV_at (List.getElem?_eq_getElem hj))
    have ha : a.add j = ⟨a.block, a.off + j, none⟩ := by
      unfold Addr.add; split
      · rename_i h; subst h; cases a; simp at hsp; subst hsp; rfl
      · rfl
    rw [ha]; exact this
theorem Touch.nextB {F : Nat → Prop} {a b c : World} (h : Touch F a b) (k : Below a.heap.size b c) : Touch F a c :=
  ⟨k.os.trans h.os, k.tape.trans h.tape, k.output.trans h.output, Nat.le_trans h.size k.size, fun i hi hf => (k.block i hi).trans (h.block i hi hf)⟩
theorem PC.belowB {B : Nat} {w w' : World} {bp : Nat} {s : ByteArray} {k : Nat} (h : PC w bp s k) (hb : Below B w w') (hlt : bp < B) : PC w' bp s k := by
  unfold PC; rw [hb.block bp hlt]; exact h
theorem own_ne {w : World} {base bp : Nat} {v : Value} {l : B} (h : OwnB w base v l) (hb : bp < base) : ∀ k, v.ownBlock = some k → ¬ k = bp := fun k hk e => by
  have := (World.ownsRow.lt (show World.ownsRow _ _ _ _ _ _ _ from h) k hk).1; omega
def strV (l : B) (e : Ending) (_ : World) : Prop := e = .returned (.string (ofL l))
theorem esc_len {l b r : B} (h : escB l = .ok b r) : b.length ≤ 4 := by
  cases h1 : oneB escL l with
  | fail r e => unfold escB at h; rw [h1] at h; cases h
  | ok c q =>
    rw [escB_eq h1, escR] at h
    cases h2 : ctlB c with
    | some d => rw [h2] at h; simp only [PR.ok.injEq] at h; rw [← h.1]; simp
    | none =>
      rw [h2] at h
      simp only at h
      split at h
      · simp only [PR.ok.injEq] at h; rw [← h.1]; simp
      · cases h3 : hexB loTwo q with
        | fail r e => rw [h3] at h; cases h
        | ok n r2 =>
          rw [h3] at h
          simp only at h
          unfold escS at h
          split at h
          · cases h4 : wordB [92, 117] r2 with
            | fail r e => rw [h4] at h; cases h
            | ok u r3 =>
              rw [h4] at h
              simp only at h
              cases r3 with
              | nil => cases h
              | cons d q2 =>
                rw [escT] at h
                split at h
                · cases h
                · cases h5 : hexB hiTwo (d :: q2) with
                  | fail r e => rw [h5] at h; cases h
                  | ok m r4 => rw [h5] at h; simp only [PR.ok.injEq] at h; rw [← h.1]; exact utf8_le _
          · simp only [PR.ok.injEq] at h; rw [← h.1]; exact utf8_le _
theorem u8_eq (c : UInt8) (n : Nat) (hn : n < 256) : ((c.toNat : Int) == (n : Int)) = (c == UInt8.ofNat n) := by
  rw [Bool.eq_iff_iff, beq_iff_eq, beq_iff_eq]
  constructor
  · intro h; rw [show n = c.toNat by omega, UInt8.ofNat_toNat]
  · intro h; rw [h, UInt8.toNat_ofNat']; omega
theorem textF_step (f : Nat) (acc : B) (c : UInt8) (r : B) : textF (f + 1) acc (c :: r) = if c = 34 then .ok acc (c :: r) else if c < 32 then .fail (c :: r) 40 else if c = 92 then (match escB r with
        | .fail r e => .fail r e
        | .ok b r => textF f (acc ++ b) r)
      else (match charB (c :: r) with
        | .fail r e => .fail r e
        | .ok b r => textF f (acc ++ b) r) := by
  rw [textF.eq_def]; rfl
set_option maxHeartbeats 8000000 in
theorem text_any (bp : Nat) (s : ByteArray) (k : Nat) (l : B) (w : World) (hP : PC w bp s k) (hl : At s k l) (hs : s.size ≤ 65536) :
    Calls Tryz.prog 62 #[.pointer (some ⟨bp, 0, none⟩)] w fun e w' => OutU bp s strV e w' (textB l) ∧ Touch (fun j => j = bp) w w' := by
  have HP := Lib.hid hP
  have HL := Lib.hid hl
  have hlen := hl.size
  have Hbp := Lib.hid hP.lt
  have hq : ofL [34] = ⟨#[34]⟩ := rfl
  have K1 := Lib.hid (fun w hP => one_any bp s [34] k l w hP hl hs)
  rw [hq] at K1
  clear hP hl hq
  rcases ho : oneB [34] l with ⟨c0, l1⟩ | ⟨r, e⟩
  rotate_left
  · have HX := Lib.hid (show textB l = .fail r e by unfold textB; rw [ho])
    rw [ho] at K1
    unfold OutU at K1
    dsimp only at K1
    clear ho
    go_enter Tryz.func62, Tryz.ntmps62
    go_wp2_with (go_at_call 82; with_reducible refine (K1.out _ HP.out).mono ?_; rintro e w4 ⟨rfl, ht4⟩)
    exact ⟨rfl, by rw [HX.out]; rfl, ht4⟩
  have HX := Lib.hid (show textB l = textF (l1.length + 1) [] l1 by unfold textB; rw [ho])
  have hl1 := congrArg List.length (one_ok ho).1
  rw [List.length_cons] at hl1
  rw [ho] at K1
  unfold OutU byteV at K1
  dsimp only at K1
  clear ho
  go_enter Tryz.func62, Tryz.ntmps62
  go_wp2_with (go_at_call 82; with_reducible refine (K1.out _ HP.out).mono ?_; rintro e w4 ⟨⟨rfl, j4, hP4, hl4⟩, ht4⟩)
  have HP4 := Lib.hid hP4
  have HL4 := Lib.hid hl4
  have HT4 := Lib.hid ht4
  have HO4 : Hid (OwnB w4 w4.heap.size (.slice none 0 0) []) := World.ownsRow_nil _ _ _ _
  clear hP4 hl4 ht4 K1 HP HL
  have Hbp4 := Lib.hid HP4.out.lt
  go_loopw [3] (fun v wr => ∃ (acc : B) (j : Nat) (m : B) (f : Nat), OwnB wr w4.heap.size v acc ∧ PC wr bp s j ∧ At s j m ∧ m.length < f ∧ acc.length + 4 * m.length ≤ 4 * l1.length ∧ Hid (textF f acc m = textB l) ∧ Touch (fun j => j = bp) w4 wr) (fun _ wr => s.size - (intOf ((wr.cell? ⟨bp, 1, none⟩).getD undef)).toNat)
  case atStart => exact ⟨[], j4, l1, l1.length + 1, HO4.out, HP4.out, HL4.out, by omega, by simp, HX.out.symm, Touch.refl _ _⟩
  case round =>
    obtain ⟨acc, j, m, f, hO, hP2, hl2, hf, hacc, hW, ht⟩ := hrel
    obtain ⟨f, rfl⟩ : ∃ g, f = g + 1 := ⟨f - 1, by omega⟩
    have HO := Lib.hid hO
    have HP2 := Lib.hid hP2
    have HL2 := Lib.hid hl2
    have HT := Lib.hid ht
    have hms := hl2.size
    clear hO hP2 hl2 ht
    cases m with
    | nil =>
      have HF := Lib.hid (show textB l = .fail [] 40 by rw [← hW.out, textF.eq_def])
      have K3 := Lib.hid (fun w hP => peek_nil bp s j w hP HL2.out hs)
      go_wp2_with (go_at_call 59; with_reducible refine (K3.out _ HP2.out).mono ?_; rintro e w5 ⟨rfl, hP5, hb5⟩)
      rw [HF.out]
      exact ⟨rfl, rfl, (HT4.out.trans HT.out).next hb5⟩
    | cons c r =>
      have K3 := Lib.hid (fun w hP => peek_cons bp s j c r w hP HL2.out hs)
      rw [textF_step] at hW
      have hrl : (c :: r).length = r.length + 1 := rfl
      rw [hrl] at hms hf hacc
      by_cases h34 : c = 34
      · have HF := Lib.hid (show textB l = .ok acc (c :: r) by rw [← hW.out, if_pos h34])
        have hq : ((c.toNat : Int) == 34) = true := by rw [h34]; rfl
        clear hW
        go_wp2_with (go_at_call 59; (with_reducible refine (K3.out _ HP2.out).mono ?_); rintro e w5 ⟨rfl, hP5, hb5⟩; have kc := conv_rd (P := Tryz.prog) 46 9 5 Tryz.underlying46 Tryz.underlying5 Tryz.underlying9 (rd_of_own (HO.out.below hb5)))
        go_ret
        rw [HF.out]
        exact ⟨⟨rfl, j, hP5, HL2.out⟩, (HT4.out.trans HT.out).next hb5⟩
      have hq : ((c.toNat : Int) == 34) = false := by rw [show (34 : Int) = ((34 : Nat) : Int) from rfl, u8_eq c 34 (by decide)]; simpa using h34
      rw [if_neg h34] at hW
      by_cases h32 : c < 32
      · have HF := Lib.hid (show textB l = .fail (c :: r) 40 by rw [← hW.out, if_pos h32])
        have hq2 : (c.toNat : Int) < 32 := by have := UInt8.lt_iff_toNat_lt.1 h32; exact Int.ofNat_lt.2 this
        have K4 := Lib.hid (fun w hP => fail_any bp s j 40 w hP)
        clear hW
        go_wp2_with (first | (go_at_call 59; with_reducible refine (K3.out _ HP2.out).mono ?_; rintro e w5 ⟨rfl, hP5, hb5⟩) | (go_at_call 44; with_reducible refine (K4.out _ hP5).mono ?_; rintro e w6 ⟨rfl, rfl⟩))
        rw [HF.out]
        exact ⟨rfl, OutU.giveup HL2.out strV 40 _, (HT4.out.trans HT.out).next hb5⟩
      have hq2 : ¬ (c.toNat : Int) < 32 := by
        intro h; apply h32; rw [UInt8.lt_iff_toNat_lt]; exact Int.ofNat_lt.1 h
      rw [if_neg h32] at hW
      obtain ⟨hk, hc, ha⟩ := HL2.out.cons
      have HA := Lib.hid ha
      clear hc ha
      by_cases h92 : c = 92
      · rw [if_pos h92] at hW
        have hq3 : ((c.toNat : Int) == 92) = true := by rw [h92]; rfl
        have K4 := Lib.hid (fun w hP => escape_any bp s (j + 1) r w hP HA.out hs)
        rcases he : escB r with ⟨b, r2⟩ | ⟨r2, e2⟩
        · rw [he] at hW K4
          unfold OutU bytesR at K4
          dsimp only at hW K4
          have hrl2 := esc_ok he
          have hbl := esc_len he
          clear he h34 h32 h92
          go_wp2_with (first | (go_at_call 59; with_reducible refine (K3.out _ HP2.out).mono ?_; rintro e w5 ⟨rfl, hP5, hb5⟩; have k1 := hP5.c1; have f1 := hP5.fz 1; have hps := hP5.set (j + 1); rw [Int.natCast_add, Int.natCast_one] at hps) | (go_at_call 83; with_reducible refine (K4.out _ hps).mono ?_; rintro e w6 ⟨⟨⟨p6, n6, c6, rfl, hR6⟩, j6, hP6, hl6⟩, ht6⟩; have ho6 := (((HO.out.below hb5).touch ((Touch.refl (fun j => j = bp) w5).setCell (p := ⟨bp, 1, none⟩) rfl (.int .i64 ((j : Int) + 1))) (own_ne HO.out Hbp4.out)).touch ht6 (own_ne HO.out Hbp4.out)); have hbz := Nat.le_trans HT.out.size (Nat.le_trans hb5.size (Nat.le_trans (Nat.le_of_eq (World.size_setCell _ _ _).symm) ht6.size))) | (at_builtin; refine wpList_catR w6 rfl _ _ 46 rfl w4.heap.size rowB _ acc rfl ho6 p6 n6 c6 b rfl hR6 (by omega) hbz ?_; intro v7 w7 hO7 hT7 hb7))
          clear hT7
          go_roundw
          case rel => exact ⟨acc ++ b, j6, r2, f, hO7, hP6.belowB hb7 Hbp4.out, hl6, by omega, by rw [List.length_append]; omega, hW, ((((HT.out.next hb5).setCell (p := ⟨bp, 1, none⟩) rfl _).trans ht6).nextB hb7)⟩
          case measure =>
            have := hl6.size
            rw [HP2.out.c1, (hP6.belowB hb7 Hbp4.out).c1]
            simp [intOf]; omega
        · rw [he] at hW K4
          unfold OutU at K4
          dsimp only at hW K4
          clear he h34 h32 h92
          go_wp2_with (first | (go_at_call 59; with_reducible refine (K3.out _ HP2.out).mono ?_; rintro e w5 ⟨rfl, hP5, hb5⟩; have k1 := hP5.c1; have f1 := hP5.fz 1; have hps := hP5.set (j + 1); rw [Int.natCast_add, Int.natCast_one] at hps) | (go_at_call 83; with_reducible refine (K4.out _ hps).mono ?_; rintro e w6 ⟨rfl, ht6⟩))
          rw [← hW.out]
          exact ⟨rfl, rfl, (((HT4.out.trans HT.out).next hb5).setCell (p := ⟨bp, 1, none⟩) rfl _).trans ht6⟩
      · rw [if_neg h92] at hW
        have hq3 : ((c.toNat : Int) == 92) = false := by rw [show (92 : Int) = ((92 : Nat) : Int) from rfl, u8_eq c 92 (by decide)]; simpa using h92
        have K4 := Lib.hid (fun w hP => char_any bp s j c r w hP HL2.out hs)
        rcases he : charB (c :: r) with ⟨b, r2⟩ | ⟨r2, e2⟩
        · rw [he] at hW K4
          unfold OutU bytesR at K4
          dsimp only at hW K4
          have hrl2 := char_ok (by simp) he
          have hbl : b.length + r2.length = r.length + 1 := by have := congrArg List.length hrl2.2; rw [List.length_append] at this; simp at this; omega
          have hrl3 := hrl2.1
          rw [hrl] at hrl3
          clear he h34 h32 h92 hrl2
          go_wp2_with (first | (go_at_call 59; with_reducible refine (K3.out _ HP2.out).mono ?_; rintro e w5 ⟨rfl, hP5, hb5⟩) | (go_at_call 84; with_reducible refine (K4.out _ hP5).mono ?_; rintro e w6 ⟨⟨⟨p6, n6, c6, rfl, hR6⟩, j6, hP6, hl6⟩, ht6⟩; have ho6 := (HO.out.below hb5).touch ht6 (own_ne HO.out Hbp4.out); have hbz := Nat.le_trans HT.out.size (Nat.le_trans hb5.size ht6.size)) | (at_builtin; refine wpList_catR w6 rfl _ _ 46 rfl w4.heap.size rowB _ acc rfl ho6 p6 n6 c6 b rfl hR6 (by omega) hbz ?_; intro v7 w7 hO7 hT7 hb7))
          clear hT7
          go_roundw
          case rel => exact ⟨acc ++ b, j6, r2, f, hO7, hP6.belowB hb7 Hbp4.out, hl6, by omega, by rw [List.length_append]; omega, hW, (((HT.out.next hb5).trans ht6).nextB hb7)⟩
          case measure =>
            have := hl6.size
            rw [HP2.out.c1, (hP6.belowB hb7 Hbp4.out).c1]
            simp [intOf]; omega
        · rw [he] at hW K4
          unfold OutU at K4
          dsimp only at hW K4
          clear he h34 h32 h92
          go_wp2_with (first | (go_at_call 59; with_reducible refine (K3.out _ HP2.out).mono ?_; rintro e w5 ⟨rfl, hP5, hb5⟩) | (go_at_call 84; with_reducible refine (K4.out _ hP5).mono ?_; rintro e w6 ⟨rfl, ht6⟩))
          rw [← hW.out]
          exact ⟨rfl, rfl, ((HT4.out.trans HT.out).next hb5).trans ht6⟩
end Go.Proofs.YthkpbgpgcpkiiaaGreatDoor
