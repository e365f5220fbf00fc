/- A value (jsonx): the parser's parts together. Conditions: the text is short. The parser gives up and is caught (jsonx.read). Conditions: the text is short. -/
import Derived.Test.YtigdjnfnkjfkmaaGreatDoorJParM
import Derived.Recover
import Derived.Defers
namespace Go.Proofs.YtigdjnfnkjfkmaaGreatDoor
open Go.RowKit Go.Maps
set_option linter.unusedVariables false
set_option linter.unusedSimpArgs false
set_option maxRecDepth 100000

theorem valF_cons {f deep : Nat} {l r : B} {c : UInt8} (h : skipB l = c :: r) : valF (f + 1) deep l =
    if c = 91 ∨ c = 123 then (if 16 ≤ deep then .fail (c :: r) 41 else if c = 91 then listB f (deep + 1) r else objB f (deep + 1) r)
    else if c = 34 then (match textB (c :: r) with
        | .fail r e => .fail r e
        | .ok s r => .ok (.mk 3 0 s [] []) (r.drop 1))
    else if c = 110 then mapPR (fun _ => J0) (wordB [110, 117, 108, 108] (c :: r))
    else if c = 116 then mapPR (fun _ => .mk 1 1 [] [] []) (wordB [116, 114, 117, 101] (c :: r))
    else if c = 102 then mapPR (fun _ => .mk 1 0 [] [] []) (wordB [102, 97, 108, 115, 101] (c :: r))
    else if c = 45 ∨ digB c = true then mapPR (fun n => .mk 2 n [] [] []) (numberB (c :: r))
    else .fail (c :: r) 40 := by
  rw [valF, h]
  simp only [listB, objB]
  split
  · split
    · rfl
    · split
      · cases skipB r <;> rfl
      · cases skipB r <;> rfl
  · split
    · cases textB (c :: r) <;> rfl
    · rfl
theorem rj_shape {P : Nat → Prop} {w : World} {v : J} {k n : Int} {t : ByteArray} {N I : Value} (h : RJ P w v [.int .i64 k, .int .i64 n, .string t, N, I]) : (∃ A m c, N = .slice A m c) ∧ ∃ A m c, I = .slice A m c := by
  cases v with
  | mk k' n' t' ns is =>
    rw [RJ] at h
    obtain ⟨N', I', e, h1, xs, h2, _⟩ := h
    simp only [List.cons.injEq, and_true] at e
    obtain ⟨_, _, _, rfl, rfl⟩ := e
    obtain ⟨⟨A, c, rfl⟩, _⟩ := h1
    obtain ⟨⟨A', c', rfl⟩, _⟩ := h2
    exact ⟨⟨A, _, c, rfl⟩, ⟨A', _, c', rfl⟩⟩
theorem valF_nil {f deep : Nat} {l : B} (h : skipB l = []) : valF (f + 1) deep l = .fail [] 40 := by rw [valF, h]
theorem beq_u8 {c : UInt8} (n : Nat) (hn : n < 256) (h : c ≠ UInt8.ofNat n) : ((c.toNat : Int) == (n : Int)) = false := by rw [u8_eq c n hn]; simpa using h
def sgnL : B := [45, 48, 49, 50, 51, 52, 53, 54, 55, 56, 57]
theorem sgn_in (c : UInt8) : sgnL.contains c = true ↔ (c = 45 ∨ digB c = true) := by
  have : ∀ n : Nat, n < 256 → (sgnL.contains (UInt8.ofNat n) = true ↔ (UInt8.ofNat n = 45 ∨ digB (UInt8.ofNat n) = true)) := by decide
  have := this c.toNat c.toNat_lt; rw [UInt8.ofNat_toNat] at this; exact this
set_option maxHeartbeats 16000000 in
theorem value_step (f : Nat) (hV : ∀ g, g < f → VA g) : VA f := by
  intro bp s k deep l w hP hl hs hd hf
  obtain ⟨f, rfl⟩ : ∃ g, f = g + 1 := ⟨f - 1, by omega⟩
  have KL := Lib.hid (list_any f (fun g hg => hV g (by omega)))
  have KM := Lib.hid (members_any f (fun g hg => hV g (by omega)))
  have HP1 := Lib.hid (hP.below ((Below.refl _ w).alloc (Nat.le_refl _) (.cells #[.int .i64 0, .int .i64 0, .string ⟨#[]⟩, .slice none 0 0, .slice none 0 0] 49)))
  have HR1 := Lib.hid (JC.new w)
  have HB1 := Lib.hid ((Below.refl _ w).alloc (Nat.le_refl _) (.cells #[.int .i64 0, .int .i64 0, .string ⟨#[]⟩, .slice none 0 0, .slice none 0 0] 49))
  have hz1 : (w.alloc (.cells #[.int .i64 0, .int .i64 0, .string ⟨#[]⟩, .slice none 0 0, .slice none 0 0] 49)).heap.size = w.heap.size + 1 := by simp
  have HL := Lib.hid hl
  have hlen := hl.size
  have hbw := hP.lt
  have hne : ¬ w.heap.size = bp := by omega
  have K1 := Lib.hid (fun w hP => blanks_any bp s k l w hP hl hs)
  clear hP hl hV
  go_enter Tryz.func76, Tryz.ntmps76
  go_upto_region 1 with fail
  generalize w.alloc (.cells #[.int .i64 0, .int .i64 0, .string ⟨#[]⟩, .slice none 0 0, .slice none 0 0] 49) = w1 at *
  go_upto_region 2 with (go_at_call 77; with_reducible refine (K1.out _ HP1.out).mono ?_; rintro e w2 ⟨rfl, ⟨j2, hP2, hl2⟩, ht2⟩)
  have HP2 := Lib.hid hP2
  have HL2 := Lib.hid hl2
  have HR2 := Lib.hid (HR1.out.touch ht2 hne)
  have HT2 := Lib.hid ((Touch.of_below HB1.out).trans ht2)
  have hz2 : w.heap.size < w2.heap.size := by have := ht2.size; omega
  have hsl := skip_le l
  clear hP2 hl2 ht2 HP1 HR1 HB1 K1 HL
  cases hsk : skipB l with
  | nil =>
    have HX := Lib.hid (valF_nil (f := f) (deep := deep) hsk)
    rw [hsk] at HL2
    have K2 := Lib.hid (fun w hP => peek_nil bp s j2 w hP HL2.out hs)
    clear hsk
    go_wp2_with (go_at_call 105; with_reducible refine (K2.out _ HP2.out).mono ?_; rintro e w5 ⟨rfl, hP5, hb5⟩)
    rw [HX.out]
    exact ⟨rfl, rfl, HT2.out.next hb5⟩
  | cons c r =>
    have hX := valF_cons (f := f) (deep := deep) hsk
    rw [hsk] at HL2 hsl
    rw [List.length_cons] at hsl
    have K2 := Lib.hid (fun w j hP hl => peek_cons bp s j c r w hP hl hs)
    obtain ⟨hk3, -, ha3⟩ := HL2.out.cons
    have HA3 := Lib.hid ha3
    clear hsk ha3
    by_cases h91 : c = 91
    · have q91 : ((c.toNat : Int) == 91) = true := by rw [h91]; rfl
      by_cases h16 : 16 ≤ deep
      · have HX := Lib.hid (show valF (f + 1) deep l = .fail (c :: r) 41 by rw [hX, if_pos (.inl h91), if_pos h16])
        have hq16 : (deep : Int) ≥ 16 := by omega
        have K3 := Lib.hid (fun w hP => fail_any bp s j2 41 w hP)
        clear hX
        go_wp2_with (first | (go_at_call 105; with_reducible refine (K2.out _ j2 HP2.out HL2.out).mono ?_; rintro e w5 ⟨rfl, hP5, hb5⟩) | (go_at_call 78; with_reducible refine (K3.out _ hP5).mono ?_; rintro e w6 ⟨rfl, rfl⟩))
        rw [HX.out]
        exact ⟨rfl, OutU.giveup HL2.out (valV w.heap.size) 41 _, HT2.out.next hb5⟩
      have HX := Lib.hid (show valF (f + 1) deep l = listB f (deep + 1) r by rw [hX, if_pos (.inl h91), if_neg h16, if_pos h91])
      have hq16 : ¬ (deep : Int) ≥ 16 := by omega
      clear hX
      go_upto_region 9 with (go_at_call 105; with_reducible refine (K2.out _ j2 HP2.out HL2.out).mono ?_; rintro e w5 ⟨rfl, hP5, hb5⟩; have k1 := hP5.c1; have f1 := hP5.fz 1)
      have hps := hP5.set (j2 + 1)
      rw [Int.natCast_add, Int.natCast_one] at hps
      have htp := (Touch.refl (fun j => j = bp) w5).setCell (p := ⟨bp, 1, none⟩) rfl (.int .i64 ((j2 : Int) + 1))
      have HR6 := Lib.hid ((HR2.out.below hb5).touch htp hne)
      have HT6 := Lib.hid ((HT2.out.next hb5).trans htp)
      have HP6 := Lib.hid hps
      have hz6 : w.heap.size < (w5.setCell ⟨bp, 1, none⟩ (.int .i64 ((j2 : Int) + 1))).heap.size := by have := hb5.size; simp; omega
      clear k1 f1 hP5 hps htp
      generalize w5.setCell ⟨bp, 1, none⟩ (.int .i64 ((j2 : Int) + 1)) = w6 at *
      have K3 := Lib.hid (fun w hP => KL.out bp s (j2 + 1) (deep + 1) r w hP HA3.out hs (by omega) (by omega))
      rcases hv : listB f (deep + 1) r with ⟨v, r2⟩ | ⟨r2, e2⟩
      · rw [hv] at HX K3
        unfold OutU valV at K3
        dsimp only at K3
        rw [Int.natCast_add, Int.natCast_one] at K3
        clear hv
        go_wp2_with (go_at_call 106; with_reducible refine (K3.out _ HP6.out).mono ?_; rintro e wz ⟨⟨⟨N0, I0, rfl, hRJ⟩, jz, hps, hlz⟩, htz⟩; obtain ⟨⟨AN, nN, cN, rfl⟩, ⟨AI, nI, cI, rfl⟩⟩ := rj_shape hRJ; have hr5 := HR6.out.touch htz hne; have g0 := hr5.c0; have f0 := hr5.fz 0; have g1 := hr5.c1; have f1 := hr5.fz 1; have g2 := hr5.c2; have f2 := hr5.fz 2; have g3 := hr5.c3; have f3 := hr5.fz 3; have g4 := hr5.c4; have f4 := hr5.fz 4; have ht5 := HT6.out.trans htz)
        have hx10 := hr5.put v.kind v.int (ofL v.text) (.slice AN nN cN) (.slice AI nI cI)
        have HTZ := Lib.hid (ht5.putJ (Nat.le_refl _) v.kind v.int (ofL v.text) (.slice AN nN cN) (.slice AI nI cI))
        have HPZ := Lib.hid (hps.putJ (fun e => hne e.symm) v.kind v.int (ofL v.text) (.slice AN nN cN) (.slice AI nI cI))
        have hc0 := hx10.c0
        have hc1 := hx10.c1
        have hc2 := hx10.c2
        have hc3 := hx10.c3
        have hc4 := hx10.c4
        refine bodyPost_ret (v := .agg #[.int .i64 v.kind, .int .i64 v.int, .string (ofL v.text), .slice AN nN cN, .slice AI nI cI]) (by simp [results, Tryz.results76, go_sem, hc0, hc1, hc2, hc3, hc4]) rfl ⟨?_, HTZ.out⟩
        rw [HX.out]
        exact ⟨⟨_, _, rfl, RJ.keep (touch_keeps ((((((Touch.refl (fun j => j = w.heap.size) wz).setCell (p := ⟨w.heap.size, 0, none⟩) rfl (.int .i64 v.kind)).setCell (p := ⟨w.heap.size, 1, none⟩) rfl (.int .i64 v.int)).setCell (p := ⟨w.heap.size, 2, none⟩) rfl (.string (ofL v.text))).setCell (p := ⟨w.heap.size, 3, none⟩) rfl (.slice AN nN cN)).setCell (p := ⟨w.heap.size, 4, none⟩) rfl (.slice AI nI cI)) (fun b hb e => by have h1 : w6.heap.size ≤ b := hb; have h2 : b = w.heap.size := e; omega)) _ _ (RJ.mono (fun b hb _ => hb) _ _ hRJ) |> RJ.mono (fun b hb _ => by have h1 : w6.heap.size ≤ b := hb; show w.heap.size ≤ b; omega) _ _⟩, jz, HPZ.out, hlz⟩
      · rw [hv] at HX K3
        unfold OutU at K3
        dsimp only at K3
        rw [Int.natCast_add, Int.natCast_one] at K3
        clear hv
        go_wp2_with (go_at_call 106; with_reducible refine (K3.out _ HP6.out).mono ?_; rintro e wz ⟨rfl, htz⟩)
        rw [HX.out]
        exact ⟨rfl, rfl, HT6.out.trans htz⟩
    have q91 : ((c.toNat : Int) == 91) = false := beq_u8 91 (by decide) h91
    by_cases h123 : c = 123
    · have q123 : ((c.toNat : Int) == 123) = true := by rw [h123]; rfl
      by_cases h16 : 16 ≤ deep
      · have HX := Lib.hid (show valF (f + 1) deep l = .fail (c :: r) 41 by rw [hX, if_pos (.inr h123), if_pos h16])
        have hq16 : (deep : Int) ≥ 16 := by omega
        have K3 := Lib.hid (fun w hP => fail_any bp s j2 41 w hP)
        clear hX
        go_wp2_with (first | (go_at_call 105; with_reducible refine (K2.out _ j2 HP2.out HL2.out).mono ?_; rintro e w5 ⟨rfl, hP5, hb5⟩) | (go_at_call 78; with_reducible refine (K3.out _ hP5).mono ?_; rintro e w6 ⟨rfl, rfl⟩))
        rw [HX.out]
        exact ⟨rfl, OutU.giveup HL2.out (valV w.heap.size) 41 _, HT2.out.next hb5⟩
      have HX := Lib.hid (show valF (f + 1) deep l = objB f (deep + 1) r by rw [hX, if_pos (.inr h123), if_neg h16, if_neg h91])
      have hq16 : ¬ (deep : Int) ≥ 16 := by omega
      clear hX
      go_upto_region 9 with (go_at_call 105; with_reducible refine (K2.out _ j2 HP2.out HL2.out).mono ?_; rintro e w5 ⟨rfl, hP5, hb5⟩; have k1 := hP5.c1; have f1 := hP5.fz 1)
      have hps := hP5.set (j2 + 1)
      rw [Int.natCast_add, Int.natCast_one] at hps
      have htp := (Touch.refl (fun j => j = bp) w5).setCell (p := ⟨bp, 1, none⟩) rfl (.int .i64 ((j2 : Int) + 1))
      have HR6 := Lib.hid ((HR2.out.below hb5).touch htp hne)
      have HT6 := Lib.hid ((HT2.out.next hb5).trans htp)
      have HP6 := Lib.hid hps
      have hz6 : w.heap.size < (w5.setCell ⟨bp, 1, none⟩ (.int .i64 ((j2 : Int) + 1))).heap.size := by have := hb5.size; simp; omega
      clear k1 f1 hP5 hps htp
      generalize w5.setCell ⟨bp, 1, none⟩ (.int .i64 ((j2 : Int) + 1)) = w6 at *
      have K3 := Lib.hid (fun w hP => KM.out bp s (j2 + 1) (deep + 1) r w hP HA3.out hs (by omega) (by omega))
      rcases hv : objB f (deep + 1) r with ⟨v, r2⟩ | ⟨r2, e2⟩
      · rw [hv] at HX K3
        unfold OutU valV at K3
        dsimp only at K3
        rw [Int.natCast_add, Int.natCast_one] at K3
        clear hv
        go_wp2_with (go_at_call 107; with_reducible refine (K3.out _ HP6.out).mono ?_; rintro e wz ⟨⟨⟨N0, I0, rfl, hRJ⟩, jz, hps, hlz⟩, htz⟩; obtain ⟨⟨AN, nN, cN, rfl⟩, ⟨AI, nI, cI, rfl⟩⟩ := rj_shape hRJ; have hr5 := HR6.out.touch htz hne; have g0 := hr5.c0; have f0 := hr5.fz 0; have g1 := hr5.c1; have f1 := hr5.fz 1; have g2 := hr5.c2; have f2 := hr5.fz 2; have g3 := hr5.c3; have f3 := hr5.fz 3; have g4 := hr5.c4; have f4 := hr5.fz 4; have ht5 := HT6.out.trans htz)
        have hx10 := hr5.put v.kind v.int (ofL v.text) (.slice AN nN cN) (.slice AI nI cI)
        have HTZ := Lib.hid (ht5.putJ (Nat.le_refl _) v.kind v.int (ofL v.text) (.slice AN nN cN) (.slice AI nI cI))
        have HPZ := Lib.hid (hps.putJ (fun e => hne e.symm) v.kind v.int (ofL v.text) (.slice AN nN cN) (.slice AI nI cI))
        have hc0 := hx10.c0
        have hc1 := hx10.c1
        have hc2 := hx10.c2
        have hc3 := hx10.c3
        have hc4 := hx10.c4
        refine bodyPost_ret (v := .agg #[.int .i64 v.kind, .int .i64 v.int, .string (ofL v.text), .slice AN nN cN, .slice AI nI cI]) (by simp [results, Tryz.results76, go_sem, hc0, hc1, hc2, hc3, hc4]) rfl ⟨?_, HTZ.out⟩
        rw [HX.out]
        exact ⟨⟨_, _, rfl, RJ.keep (touch_keeps ((((((Touch.refl (fun j => j = w.heap.size) wz).setCell (p := ⟨w.heap.size, 0, none⟩) rfl (.int .i64 v.kind)).setCell (p := ⟨w.heap.size, 1, none⟩) rfl (.int .i64 v.int)).setCell (p := ⟨w.heap.size, 2, none⟩) rfl (.string (ofL v.text))).setCell (p := ⟨w.heap.size, 3, none⟩) rfl (.slice AN nN cN)).setCell (p := ⟨w.heap.size, 4, none⟩) rfl (.slice AI nI cI)) (fun b hb e => by have h1 : w6.heap.size ≤ b := hb; have h2 : b = w.heap.size := e; omega)) _ _ (RJ.mono (fun b hb _ => hb) _ _ hRJ) |> RJ.mono (fun b hb _ => by have h1 : w6.heap.size ≤ b := hb; show w.heap.size ≤ b; omega) _ _⟩, jz, HPZ.out, hlz⟩
      · rw [hv] at HX K3
        unfold OutU at K3
        dsimp only at K3
        rw [Int.natCast_add, Int.natCast_one] at K3
        clear hv
        go_wp2_with (go_at_call 107; with_reducible refine (K3.out _ HP6.out).mono ?_; rintro e wz ⟨rfl, htz⟩)
        rw [HX.out]
        exact ⟨rfl, rfl, HT6.out.trans htz⟩
    have q123 : ((c.toNat : Int) == 123) = false := beq_u8 123 (by decide) h123
    rw [if_neg (by intro h; exact h.elim h91 h123)] at hX
    clear KL KM
    by_cases h34 : c = 34
    · have q34 : ((c.toNat : Int) == 34) = true := by rw [h34]; rfl
      rw [if_pos h34] at hX
      have K3 := Lib.hid (fun w hP => text_any bp s j2 (c :: r) w hP HL2.out hs)
      rcases hv : textB (c :: r) with ⟨nm, r2⟩ | ⟨r2, e2⟩
      · obtain ⟨r2, rfl⟩ := (text_ok hv).2
        rw [hv] at hX K3
        have HX := Lib.hid (show valF (f + 1) deep l = .ok (.mk 3 0 nm [] []) r2 from hX)
        unfold OutU strV at K3
        dsimp only at K3
        clear hv hX
        go_upto_region 15 with (first | (go_at_call 105; with_reducible refine (K2.out _ j2 HP2.out HL2.out).mono ?_; rintro e w5 ⟨rfl, hP5, hb5⟩) | (go_at_call 108; with_reducible refine (K3.out _ hP5).mono ?_; rintro e w6 ⟨⟨rfl, j6, hP6, hl6⟩, ht6⟩; have k1 := hP6.c1; have f1 := hP6.fz 1; obtain ⟨hk6, -, ha6⟩ := hl6.cons))
        have hps := hP6.set (j6 + 1)
        rw [Int.natCast_add, Int.natCast_one] at hps
        have htp := (Touch.refl (fun j => j = bp) w6).setCell (p := ⟨bp, 1, none⟩) rfl (.int .i64 ((j6 : Int) + 1))
        have hr5 := ((HR2.out.below hb5).touch ht6 hne).touch htp hne
        have ht5 := ((HT2.out.next hb5).trans ht6).trans htp
        clear k1 f1 hP5 hP6 htp
        generalize w6.setCell ⟨bp, 1, none⟩ (.int .i64 ((j6 : Int) + 1)) = wz at *
        have g0 := hr5.c0; have f0 := hr5.fz 0; have g1 := hr5.c1; have f1 := hr5.fz 1; have g2 := hr5.c2; have f2 := hr5.fz 2; have g3 := hr5.c3; have f3 := hr5.fz 3; have g4 := hr5.c4; have f4 := hr5.fz 4
        go_wp2_with fail
        have hx10 := hr5.put 3 0 (ofL nm) (.slice none 0 0) (.slice none 0 0)
        have HTZ := Lib.hid (ht5.putJ (Nat.le_refl _) 3 0 (ofL nm) (.slice none 0 0) (.slice none 0 0))
        have HPZ := Lib.hid (hps.putJ (fun e => hne e.symm) 3 0 (ofL nm) (.slice none 0 0) (.slice none 0 0))
        have hc0 := hx10.c0
        have hc1 := hx10.c1
        have hc2 := hx10.c2
        have hc3 := hx10.c3
        have hc4 := hx10.c4
        refine bodyPost_ret (v := .agg #[.int .i64 3, .int .i64 0, .string (ofL nm), .slice none 0 0, .slice none 0 0]) (by simp [results, Tryz.results76, go_sem, hc0, hc1, hc2, hc3, hc4]) rfl ⟨?_, HTZ.out⟩
        rw [HX.out]
        exact ⟨⟨_, _, rfl, rj_plain 3 0 nm⟩, j6 + 1, HPZ.out, ha6⟩
      · rw [hv] at hX K3
        have HX := Lib.hid (show valF (f + 1) deep l = .fail r2 e2 from hX)
        unfold OutU at K3
        dsimp only at K3
        clear hv hX
        go_wp2_with (first | (go_at_call 105; with_reducible refine (K2.out _ j2 HP2.out HL2.out).mono ?_; rintro e w5 ⟨rfl, hP5, hb5⟩) | (go_at_call 108; with_reducible refine (K3.out _ hP5).mono ?_; rintro e w6 ⟨rfl, ht6⟩))
        rw [HX.out]
        exact ⟨rfl, rfl, (HT2.out.next hb5).trans ht6⟩
    have q34 : ((c.toNat : Int) == 34) = false := beq_u8 34 (by decide) h34
    rw [if_neg h34] at hX
    by_cases h110 : c = 110
    · have q110 : ((c.toNat : Int) == 110) = true := by rw [h110]; rfl
      rw [if_pos h110] at hX
      have K3 := Lib.hid (fun w hP => word_lit bp s ⟨#[110, 117, 108, 108]⟩ [110, 117, 108, 108] rfl j2 (c :: r) w hP HL2.out hs (by decide))
      rcases hv : wordB [110, 117, 108, 108] (c :: r) with ⟨u, r2⟩ | ⟨r2, e2⟩
      · rw [hv] at hX K3
        have HX := Lib.hid (show valF (f + 1) deep l = .ok (J0) r2 from hX)
        unfold OutU unitV at K3
        dsimp only at K3
        clear hv hX
        go_wp2_with (first | (go_at_call 105; with_reducible refine (K2.out _ j2 HP2.out HL2.out).mono ?_; rintro e w5 ⟨rfl, hP5, hb5⟩) | (go_at_call 109; with_reducible refine (K3.out _ hP5).mono ?_; rintro e wz ⟨⟨rfl, jz, hps, hlz⟩, htz⟩; have hr5 := (HR2.out.below hb5).touch htz hne; have g0 := hr5.c0; have f0 := hr5.fz 0; have g1 := hr5.c1; have f1 := hr5.fz 1; have g2 := hr5.c2; have f2 := hr5.fz 2; have g3 := hr5.c3; have f3 := hr5.fz 3; have g4 := hr5.c4; have f4 := hr5.fz 4; have ht5 := (HT2.out.next hb5).trans htz))
        have hx10 := hr5.put 0 0 ⟨#[]⟩ (.slice none 0 0) (.slice none 0 0)
        have HTZ := Lib.hid (ht5.putJ (Nat.le_refl _) 0 0 ⟨#[]⟩ (.slice none 0 0) (.slice none 0 0))
        have HPZ := Lib.hid (hps.putJ (fun e => hne e.symm) 0 0 ⟨#[]⟩ (.slice none 0 0) (.slice none 0 0))
        have hc0 := hx10.c0
        have hc1 := hx10.c1
        have hc2 := hx10.c2
        have hc3 := hx10.c3
        have hc4 := hx10.c4
        refine bodyPost_ret (v := .agg #[.int .i64 0, .int .i64 0, .string ⟨#[]⟩, .slice none 0 0, .slice none 0 0]) (by simp [results, Tryz.results76, go_sem, hc0, hc1, hc2, hc3, hc4]) rfl ⟨?_, HTZ.out⟩
        rw [HX.out]
        exact ⟨⟨_, _, rfl, rj_plain 0 0 []⟩, jz, HPZ.out, hlz⟩
      · rw [hv] at hX K3
        have HX := Lib.hid (show valF (f + 1) deep l = .fail r2 e2 from hX)
        unfold OutU at K3
        dsimp only at K3
        clear hv hX
        go_wp2_with (first | (go_at_call 105; with_reducible refine (K2.out _ j2 HP2.out HL2.out).mono ?_; rintro e w5 ⟨rfl, hP5, hb5⟩) | (go_at_call 109; with_reducible refine (K3.out _ hP5).mono ?_; rintro e wz ⟨rfl, htz⟩))
        rw [HX.out]
        exact ⟨rfl, rfl, (HT2.out.next hb5).trans htz⟩
    have q110 : ((c.toNat : Int) == 110) = false := beq_u8 110 (by decide) h110
    rw [if_neg h110] at hX
    by_cases h116 : c = 116
    · have q116 : ((c.toNat : Int) == 116) = true := by rw [h116]; rfl
      rw [if_pos h116] at hX
      have K3 := Lib.hid (fun w hP => word_lit bp s ⟨#[116, 114, 117, 101]⟩ [116, 114, 117, 101] rfl j2 (c :: r) w hP HL2.out hs (by decide))
      rcases hv : wordB [116, 114, 117, 101] (c :: r) with ⟨u, r2⟩ | ⟨r2, e2⟩
      · rw [hv] at hX K3
        have HX := Lib.hid (show valF (f + 1) deep l = .ok (.mk 1 1 [] [] []) r2 from hX)
        unfold OutU unitV at K3
        dsimp only at K3
        clear hv hX
        go_wp2_with (first | (go_at_call 105; with_reducible refine (K2.out _ j2 HP2.out HL2.out).mono ?_; rintro e w5 ⟨rfl, hP5, hb5⟩) | (go_at_call 109; with_reducible refine (K3.out _ hP5).mono ?_; rintro e wz ⟨⟨rfl, jz, hps, hlz⟩, htz⟩; have hr5 := (HR2.out.below hb5).touch htz hne; have g0 := hr5.c0; have f0 := hr5.fz 0; have g1 := hr5.c1; have f1 := hr5.fz 1; have g2 := hr5.c2; have f2 := hr5.fz 2; have g3 := hr5.c3; have f3 := hr5.fz 3; have g4 := hr5.c4; have f4 := hr5.fz 4; have ht5 := (HT2.out.next hb5).trans htz))
        have hx10 := hr5.put 1 1 ⟨#[]⟩ (.slice none 0 0) (.slice none 0 0)
        have HTZ := Lib.hid (ht5.putJ (Nat.le_refl _) 1 1 ⟨#[]⟩ (.slice none 0 0) (.slice none 0 0))
        have HPZ := Lib.hid (hps.putJ (fun e => hne e.symm) 1 1 ⟨#[]⟩ (.slice none 0 0) (.slice none 0 0))
        have hc0 := hx10.c0
        have hc1 := hx10.c1
        have hc2 := hx10.c2
        have hc3 := hx10.c3
        have hc4 := hx10.c4
        refine bodyPost_ret (v := .agg #[.int .i64 1, .int .i64 1, .string ⟨#[]⟩, .slice none 0 0, .slice none 0 0]) (by simp [results, Tryz.results76, go_sem, hc0, hc1, hc2, hc3, hc4]) rfl ⟨?_, HTZ.out⟩
        rw [HX.out]
        exact ⟨⟨_, _, rfl, rj_plain 1 1 []⟩, jz, HPZ.out, hlz⟩
      · rw [hv] at hX K3
        have HX := Lib.hid (show valF (f + 1) deep l = .fail r2 e2 from hX)
        unfold OutU at K3
        dsimp only at K3
        clear hv hX
        go_wp2_with (first | (go_at_call 105; with_reducible refine (K2.out _ j2 HP2.out HL2.out).mono ?_; rintro e w5 ⟨rfl, hP5, hb5⟩) | (go_at_call 109; with_reducible refine (K3.out _ hP5).mono ?_; rintro e wz ⟨rfl, htz⟩))
        rw [HX.out]
        exact ⟨rfl, rfl, (HT2.out.next hb5).trans htz⟩
    have q116 : ((c.toNat : Int) == 116) = false := beq_u8 116 (by decide) h116
    rw [if_neg h116] at hX
    by_cases h102 : c = 102
    · have q102 : ((c.toNat : Int) == 102) = true := by rw [h102]; rfl
      rw [if_pos h102] at hX
      have K3 := Lib.hid (fun w hP => word_lit bp s ⟨#[102, 97, 108, 115, 101]⟩ [102, 97, 108, 115, 101] rfl j2 (c :: r) w hP HL2.out hs (by decide))
      rcases hv : wordB [102, 97, 108, 115, 101] (c :: r) with ⟨u, r2⟩ | ⟨r2, e2⟩
      · rw [hv] at hX K3
        have HX := Lib.hid (show valF (f + 1) deep l = .ok (.mk 1 0 [] [] []) r2 from hX)
        unfold OutU unitV at K3
        dsimp only at K3
        clear hv hX
        go_wp2_with (first | (go_at_call 105; with_reducible refine (K2.out _ j2 HP2.out HL2.out).mono ?_; rintro e w5 ⟨rfl, hP5, hb5⟩) | (go_at_call 109; with_reducible refine (K3.out _ hP5).mono ?_; rintro e wz ⟨⟨rfl, jz, hps, hlz⟩, htz⟩; have hr5 := (HR2.out.below hb5).touch htz hne; have g0 := hr5.c0; have f0 := hr5.fz 0; have g1 := hr5.c1; have f1 := hr5.fz 1; have g2 := hr5.c2; have f2 := hr5.fz 2; have g3 := hr5.c3; have f3 := hr5.fz 3; have g4 := hr5.c4; have f4 := hr5.fz 4; have ht5 := (HT2.out.next hb5).trans htz))
        have hx10 := hr5.put 1 0 ⟨#[]⟩ (.slice none 0 0) (.slice none 0 0)
        have HTZ := Lib.hid (ht5.putJ (Nat.le_refl _) 1 0 ⟨#[]⟩ (.slice none 0 0) (.slice none 0 0))
        have HPZ := Lib.hid (hps.putJ (fun e => hne e.symm) 1 0 ⟨#[]⟩ (.slice none 0 0) (.slice none 0 0))
        have hc0 := hx10.c0
        have hc1 := hx10.c1
        have hc2 := hx10.c2
        have hc3 := hx10.c3
        have hc4 := hx10.c4
        refine bodyPost_ret (v := .agg #[.int .i64 1, .int .i64 0, .string ⟨#[]⟩, .slice none 0 0, .slice none 0 0]) (by simp [results, Tryz.results76, go_sem, hc0, hc1, hc2, hc3, hc4]) rfl ⟨?_, HTZ.out⟩
        rw [HX.out]
        exact ⟨⟨_, _, rfl, rj_plain 1 0 []⟩, jz, HPZ.out, hlz⟩
      · rw [hv] at hX K3
        have HX := Lib.hid (show valF (f + 1) deep l = .fail r2 e2 from hX)
        unfold OutU at K3
        dsimp only at K3
        clear hv hX
        go_wp2_with (first | (go_at_call 105; with_reducible refine (K2.out _ j2 HP2.out HL2.out).mono ?_; rintro e w5 ⟨rfl, hP5, hb5⟩) | (go_at_call 109; with_reducible refine (K3.out _ hP5).mono ?_; rintro e wz ⟨rfl, htz⟩))
        rw [HX.out]
        exact ⟨rfl, rfl, (HT2.out.next hb5).trans htz⟩
    have q102 : ((c.toNat : Int) == 102) = false := beq_u8 102 (by decide) h102
    rw [if_neg h102] at hX
    have K3 := Lib.hid (fun w => ibyte_any c (ofL sgnL) w)
    rw [toL_ofL, show ofL sgnL = ⟨#[45, 48, 49, 50, 51, 52, 53, 54, 55, 56, 57]⟩ from rfl] at K3
    have hn := idx_neg c sgnL
    by_cases hnum : c = 45 ∨ digB c = true
    · rw [if_pos hnum] at hX
      have h1 : ¬ Lib.indexByte sgnL c < 0 := by rw [hn, (sgn_in c).2 hnum]; decide
      have K4 := Lib.hid (fun w hP => number_any bp s j2 (c :: r) w hP HL2.out hs)
      generalize Lib.indexByte sgnL c = ix at *
      clear hn hnum
      rcases hv : numberB (c :: r) with ⟨n, r2⟩ | ⟨r2, e2⟩
      · rw [hv] at hX K4
        have HX := Lib.hid (show valF (f + 1) deep l = .ok (.mk 2 n [] [] []) r2 from hX)
        unfold OutU numV at K4
        dsimp only at K4
        rw [ofL_nil] at K4
        clear hv hX
        go_wp2_with (first | (go_at_call 105; with_reducible refine (K2.out _ j2 HP2.out HL2.out).mono ?_; rintro e w5 ⟨rfl, hP5, hb5⟩) | (go_at_call 105; with_reducible refine (K2.out _ j2 hP5 HL2.out).mono ?_; rintro e w6 ⟨rfl, hP6, hb6⟩) | (go_at_call 110; with_reducible refine (K3.out _).mono ?_; rintro e w7 ⟨rfl, rfl⟩) | (go_at_call 111; with_reducible refine (K4.out _ hP6).mono ?_; rintro e wz ⟨⟨rfl, jz, hps, hlz⟩, htz⟩; have hr5 := ((HR2.out.below hb5).below hb6).touch htz hne; have g0 := hr5.c0; have f0 := hr5.fz 0; have g1 := hr5.c1; have f1 := hr5.fz 1; have g2 := hr5.c2; have f2 := hr5.fz 2; have g3 := hr5.c3; have f3 := hr5.fz 3; have g4 := hr5.c4; have f4 := hr5.fz 4; have ht5 := ((HT2.out.next hb5).next hb6).trans htz))
        have hx10 := hr5.put 2 n ⟨#[]⟩ (.slice none 0 0) (.slice none 0 0)
        have HTZ := Lib.hid (ht5.putJ (Nat.le_refl _) 2 n ⟨#[]⟩ (.slice none 0 0) (.slice none 0 0))
        have HPZ := Lib.hid (hps.putJ (fun e => hne e.symm) 2 n ⟨#[]⟩ (.slice none 0 0) (.slice none 0 0))
        have hc0 := hx10.c0
        have hc1 := hx10.c1
        have hc2 := hx10.c2
        have hc3 := hx10.c3
        have hc4 := hx10.c4
        refine bodyPost_ret (v := .agg #[.int .i64 2, .int .i64 n, .string ⟨#[]⟩, (.slice none 0 0), (.slice none 0 0)]) (by simp [results, Tryz.results76, go_sem, hc0, hc1, hc2, hc3, hc4]) rfl ⟨?_, HTZ.out⟩
        rw [HX.out]
        exact ⟨⟨_, _, rfl, rj_plain 2 n []⟩, jz, HPZ.out, hlz⟩
      · rw [hv] at hX K4
        have HX := Lib.hid (show valF (f + 1) deep l = .fail r2 e2 from hX)
        unfold OutU at K4
        dsimp only at K4
        clear hv hX
        go_wp2_with (first | (go_at_call 105; with_reducible refine (K2.out _ j2 HP2.out HL2.out).mono ?_; rintro e w5 ⟨rfl, hP5, hb5⟩) | (go_at_call 105; with_reducible refine (K2.out _ j2 hP5 HL2.out).mono ?_; rintro e w6 ⟨rfl, hP6, hb6⟩) | (go_at_call 110; with_reducible refine (K3.out _).mono ?_; rintro e w7 ⟨rfl, rfl⟩) | (go_at_call 111; with_reducible refine (K4.out _ hP6).mono ?_; rintro e wz ⟨rfl, htz⟩))
        rw [HX.out]
        exact ⟨rfl, rfl, ((HT2.out.next hb5).next hb6).trans htz⟩
    · rw [if_neg hnum] at hX
      have HX := Lib.hid hX
      have h1 : Lib.indexByte sgnL c < 0 := by
        rw [hn]
        cases hc : sgnL.contains c with
        | false => rfl
        | true => exact absurd ((sgn_in c).1 hc) hnum
      have K4 := Lib.hid (fun w hP => fail_any bp s j2 40 w hP)
      generalize Lib.indexByte sgnL c = ix at *
      clear hn hnum hX
      go_wp2_with (first | (go_at_call 105; with_reducible refine (K2.out _ j2 HP2.out HL2.out).mono ?_; rintro e w5 ⟨rfl, hP5, hb5⟩) | (go_at_call 105; with_reducible refine (K2.out _ j2 hP5 HL2.out).mono ?_; rintro e w6 ⟨rfl, hP6, hb6⟩) | (go_at_call 110; with_reducible refine (K3.out _).mono ?_; rintro e w7 ⟨rfl, rfl⟩) | (go_at_call 78; with_reducible refine (K4.out _ hP6).mono ?_; rintro e w8 ⟨rfl, rfl⟩))
      rw [HX.out]
      exact ⟨rfl, OutU.giveup HL2.out (valV w.heap.size) 40 _, (HT2.out.next hb5).next hb6⟩
theorem value_any : ∀ f, VA f := by
  intro f
  induction f using Nat.strongRecOn with
  | _ f ih => exact value_step f ih
end Go.Proofs.YtigdjnfnkjfkmaaGreatDoor
namespace Go.Proofs.YtigdjnfnkjfkmaaGreatDoor
open Go.RowKit Go.Maps
set_option linter.unusedVariables false
set_option linter.unusedSimpArgs false
set_option maxRecDepth 100000

abbrev catchW (w : World) (rb eb : Nat) (x : Value) : World := (putJ w rb 0 0 ⟨#[]⟩ (.slice none 0 0) (.slice none 0 0)).setCell ⟨eb, 0, none⟩ x
theorem assert_fault (pv : Value) (w : World) : (Instr.typeAssert (.iface 84 pv) 20 80 true).run Tryz.prog w = .ok (.tuple #[.iface 84 pv, .bool true]) w := by kernel_rfl
set_option maxHeartbeats 4000000 in
theorem catch_any (rb eb : Nat) (pv : Value) (older : List PanicEntry) (w : World) {k n : Int} {t : ByteArray} {N I : Value} (hJ : JC w rb k n t N I) (hne : ¬ rb = eb) (x : Value) (hE : w.cell? ⟨eb, 0, none⟩ = some x) (hf : w.frozen? ⟨eb, 0, none⟩ = false) :
    CallsD Tryz.prog 75 #[.pointer (some ⟨rb, 0, none⟩), .pointer (some ⟨eb, 0, none⟩)] (.panicking ({ v := .iface 84 pv, recovered := false } :: older)) w fun e u' w' =>
      e = .returned (.tuple #[]) ∧ u' = .panicking ({ v := .iface 84 pv, recovered := true } :: older) ∧ w' = catchW w rb eb (.iface 84 pv) := by
  refine callsD_of_wpS Tryz.func75 rfl fun c₀ cs hu => ?_
  have c0 := hJ.c0
  have c1 := hJ.c1
  have c2 := hJ.c2
  have c3 := hJ.c3
  have c4 := hJ.c4
  have f0 := hJ.fz 0
  have f1 := hJ.fz 1
  have f2 := hJ.fz 2
  have f3 := hJ.fz 3
  have f4 := hJ.fz 4
  apply wpS_seq
  apply wpS_region
  simp [wpOpsS, go_sem, recoverD, hu, Tryz.ntmps75, Exit.thenS, Array.replicate, List.replicate]
  have ka := fun w => assert_fault pv w
  refine wpS_of_wp ?_
  go_wp2
  simp [bodyPostS, results, Tryz.results75, go_sem]
theorem catch_idle (rb eb : Nat) (w : World) :
    CallsD Tryz.prog 75 #[.pointer (some ⟨rb, 0, none⟩), .pointer (some ⟨eb, 0, none⟩)] .returning w fun e u' w' => e = .returned (.tuple #[]) ∧ u' = .returning ∧ w' = w := by
  refine callsD_of_wpS Tryz.func75 rfl fun c₀ cs hu => ?_
  apply wpS_seq
  apply wpS_region
  simp [wpOpsS, go_sem, recoverD, hu, Tryz.ntmps75, Exit.thenS, Array.replicate, List.replicate]
  refine wpS_of_wp ?_
  go_wp2
  cases c₀
  simp_all [bodyPostS, results, Tryz.results75]
/-- A block of one cell. -/
def EC (w : World) (b : Nat) (x : Value) : Prop := w.heap[b]? = some (.cells #[x] 80 (0, 0))
theorem EC.c0 {w : World} {b : Nat} {x : Value} (h : EC w b x) : w.cell? ⟨b, 0, none⟩ = some x := by rw [Lib.cell_of_heap h]; rfl
theorem EC.fz {w : World} {b : Nat} {x : Value} (h : EC w b x) (i : Nat) : w.frozen? ⟨b, i, none⟩ = false := Lib.frozen_of_heap h i
theorem EC.lt {w : World} {b : Nat} {x : Value} (h : EC w b x) : b < w.heap.size := (Array.getElem?_eq_some_iff.1 h).1
theorem EC.touch {F : Nat → Prop} {w w' : World} {b : Nat} {x : Value} (h : EC w b x) (ht : Touch F w w') (hf : ¬ F b) : EC w' b x := by unfold EC; rw [ht.block b h.lt hf]; exact h
theorem EC.below {w w' : World} {b : Nat} {x : Value} (h : EC w b x) (hb : Below w.heap.size w w') : EC w' b x := h.touch (.of_below (F := fun _ => False) hb) id
theorem EC.set {w : World} {b : Nat} {x : Value} (h : EC w b x) (u : Value) : EC (w.setCell ⟨b, 0, none⟩ u) b u := heap_set_own h 0 _
theorem catch_t {w w' : World} {rb eb : Nat} {x : Value} (hw : w' = catchW w rb eb x) : Touch (fun k => k = rb ∨ k = eb) w w' := by
  subst hw
  exact ((((((Touch.refl _ w).setCell (p := ⟨rb, 0, none⟩) (.inl rfl) _).setCell (p := ⟨rb, 1, none⟩) (.inl rfl) _).setCell (p := ⟨rb, 2, none⟩) (.inl rfl) _).setCell (p := ⟨rb, 3, none⟩) (.inl rfl) _).setCell (p := ⟨rb, 4, none⟩) (.inl rfl) _).setCell (p := ⟨eb, 0, none⟩) (.inr rfl) _
theorem catch_r {w w' : World} {rb eb : Nat} {x : Value} {k n : Int} {t : ByteArray} {N I : Value} (h : JC w rb k n t N I) (hne : ¬ rb = eb) (hw : w' = catchW w rb eb x) : JC w' rb 0 0 ⟨#[]⟩ (.slice none 0 0) (.slice none 0 0) := by
  subst hw
  exact (h.put 0 0 ⟨#[]⟩ (.slice none 0 0) (.slice none 0 0)).touch ((Touch.refl (fun k => k = eb) _).setCell (p := ⟨eb, 0, none⟩) rfl x) hne
theorem catch_e {w w' : World} {rb eb : Nat} {x y : Value} (h : EC w eb y) (hne : ¬ rb = eb) (hw : w' = catchW w rb eb x) : EC w' eb x := by
  subst hw
  exact EC.set (h.touch (((((Touch.refl (fun k => k = rb) w).setCell (p := ⟨rb, 0, none⟩) rfl _).setCell (p := ⟨rb, 1, none⟩) rfl _).setCell (p := ⟨rb, 2, none⟩) rfl _).setCell (p := ⟨rb, 3, none⟩) rfl _ |>.setCell (p := ⟨rb, 4, none⟩) rfl _) (fun e => hne e.symm)) x
def readV (H : Nat) (l : B) (e : Ending) (w : World) : Prop := match wholeP l with
  | .ok v _ => ∃ N I, e = .returned (.tuple #[.agg #[.int .i64 v.kind, .int .i64 v.int, .string (ofL v.text), N, I], .nilIface]) ∧ RJ (fun b => H ≤ b) w v [.int .i64 v.kind, .int .i64 v.int, .string (ofL v.text), N, I]
  | .fail r n => e = .returned (.tuple #[.agg #[.int .i64 0, .int .i64 0, .string ⟨#[]⟩, .slice none 0 0, .slice none 0 0], .iface 84 (.agg #[.int .i64 ((l.length - r.length : Nat) : Int), .int .i64 (n : Int)])])
set_option maxHeartbeats 8000000 in
theorem read_any (s : ByteArray) (hs : s.size ≤ 65536) (w : World) :
    Calls Tryz.prog 54 #[.string s] w fun e w' => readV w.heap.size s.toList e w' ∧ Below w.heap.size w w' := by
  have hmf : ∀ (fn : Fn) (first cap : Array Value) (w : World), (Instr.makeFunc fn first cap).run Tryz.prog w = .ok (.func fn first cap) w := fun _ _ _ _ => rfl
  go_enter_defers Tryz.func54, Tryz.ntmps54
  go_upto_region 3 with fail
  have hb1 := (((Below.refl w.heap.size w).alloc (Nat.le_refl _) (.cells #[.int .i64 0, .int .i64 0, .string ⟨#[]⟩, .slice none 0 0, .slice none 0 0] 49)).alloc (by simp) (.cells #[.nilIface] 80)).alloc (by simp; omega) (.cells #[.string s, .int .i64 0] 113)
  have hr1 : JC (((w.alloc (.cells #[.int .i64 0, .int .i64 0, .string ⟨#[]⟩, .slice none 0 0, .slice none 0 0] 49)).alloc (.cells #[.nilIface] 80)).alloc (.cells #[.string s, .int .i64 0] 113)) w.heap.size 0 0 ⟨#[]⟩ (.slice none 0 0) (.slice none 0 0) :=
    ((JC.new w).below ((Below.refl _ _).alloc (Nat.le_refl _) _)).below ((Below.refl _ _).alloc (Nat.le_refl _) _)
  have he1 : EC (((w.alloc (.cells #[.int .i64 0, .int .i64 0, .string ⟨#[]⟩, .slice none 0 0, .slice none 0 0] 49)).alloc (.cells #[.nilIface] 80)).alloc (.cells #[.string s, .int .i64 0] 113)) (w.heap.size + 1) .nilIface := by
    have := heap_alloc_new (w.alloc (.cells #[.int .i64 0, .int .i64 0, .string ⟨#[]⟩, .slice none 0 0, .slice none 0 0] 49)) (.cells #[.nilIface] 80)
    rw [World.size_alloc] at this
    exact EC.below this ((Below.refl _ _).alloc (Nat.le_refl _) _)
  have hp1 : PC (((w.alloc (.cells #[.int .i64 0, .int .i64 0, .string ⟨#[]⟩, .slice none 0 0, .slice none 0 0] 49)).alloc (.cells #[.nilIface] 80)).alloc (.cells #[.string s, .int .i64 0] 113)) (w.heap.size + 1 + 1) s 0 := by
    have := heap_alloc_new ((w.alloc (.cells #[.int .i64 0, .int .i64 0, .string ⟨#[]⟩, .slice none 0 0, .slice none 0 0] 49)).alloc (.cells #[.nilIface] 80)) (.cells #[.string s, .int .i64 0] 113)
    rw [World.size_alloc, World.size_alloc] at this; exact this
  have hsz1 : ((((w.alloc (.cells #[.int .i64 0, .int .i64 0, .string ⟨#[]⟩, .slice none 0 0, .slice none 0 0] 49)).alloc (.cells #[.nilIface] 80)).alloc (.cells #[.string s, .int .i64 0] 113))).heap.size = w.heap.size + 3 := by simp
  generalize (((w.alloc (.cells #[.int .i64 0, .int .i64 0, .string ⟨#[]⟩, .slice none 0 0, .slice none 0 0] 49)).alloc (.cells #[.nilIface] 80)).alloc (.cells #[.string s, .int .i64 0] 113)) = w1 at hb1 hr1 he1 hp1 hsz1 ⊢
  have HP1 := Lib.hid hp1
  have HB1 := Lib.hid hb1
  have HR1 := Lib.hid hr1
  have HE1 := Lib.hid he1
  generalize hpb : w.heap.size + 1 + 1 = pb at *
  generalize heb : w.heap.size + 1 = eb at *
  have hne : ¬ w.heap.size = pb ∧ ¬ eb = pb ∧ ¬ w.heap.size = eb := by omega
  clear hb1 hr1 he1 hp1 hmf
  have HL1 : Hid (At s 0 s.toList) := ⟨Nat.zero_le _, rfl⟩
  have hlen := HL1.out.size
  have K1 := Lib.hid (fun w hP => value_any (fuelB s.toList) pb s 0 0 s.toList w hP HL1.out hs (by decide) (by unfold fuelB; omega))
  rw [show ((0 : Nat) : Int) = 0 from rfl] at K1
  have hld : s.toList.length = s.size := len_toL s
  rcases hv : valF (fuelB s.toList) 0 s.toList with ⟨v, r⟩ | ⟨r, e1⟩
  rotate_left
  · have HX := Lib.hid (show wholeP s.toList = .fail r e1 by unfold wholeP; rw [hv])
    rw [hv] at K1
    unfold OutU at K1
    dsimp only at K1
    clear hv
    go_wp2_with (go_at_call 76; with_reducible refine (K1.out _ HP1.out).mono ?_; rintro e w2 ⟨rfl, ht2⟩)
    refine leaves_cons (f := 75) (args := #[.pointer (some ⟨w.heap.size, 0, none⟩), .pointer (some ⟨eb, 0, none⟩)]) (by simp) (by simp [go_sem]) ?_
    have he2 := HE1.out.touch ht2 hne.2.1
    have hr2 := HR1.out.touch ht2 hne.1
    have hb2 := Touch.under (Touch.of_below (F := fun _ => False) HB1.out) ht2 (fun k hk h => by omega)
    (refine (catch_any w.heap.size eb _ [] _ hr2 hne.2.2 _ he2.c0 (he2.fz 0)).mono ?_); (rintro e u' w'' ⟨rfl, rfl, hw⟩); (have hx := catch_r hr2 hne.2.2 hw); (have hy := catch_e he2 hne.2.2 hw); (have hb5 := Touch.under hb2 (catch_t hw) (fun k hk h => by omega)); (have hc0 := hx.c0); (have hc1 := hx.c1); (have hc2 := hx.c2); (have hc3 := hx.c3); (have hc4 := hx.c4); (have hd0 := hy.c0); (clear hw); (simp [Leaves, settle, results, Tryz.results54, go_sem, hc0, hc1, hc2, hc3, hc4, hd0])
    refine ⟨?_, hb5.below (fun _ _ h => h) (Nat.le_refl _)⟩
    unfold readV
    rw [HX.out, hld]
  · unfold OutU valV at K1
    rw [hv] at K1
    dsimp only at K1
    have HV := Lib.hid hv
    clear hv
    go_upto_region 4 with (go_at_call 76; with_reducible refine (K1.out _ HP1.out).mono ?_; rintro e w2 ⟨⟨⟨N0, I0, rfl, hRJ⟩, j2, hP2, hl2⟩, ht2⟩; obtain ⟨⟨AN, nN, cN, rfl⟩, ⟨AI, nI, cI, rfl⟩⟩ := rj_shape hRJ; have hr2 := HR1.out.touch ht2 hne.1; have g0 := hr2.c0; have f0 := hr2.fz 0; have g1 := hr2.c1; have f1 := hr2.fz 1; have g2 := hr2.c2; have f2 := hr2.fz 2; have g3 := hr2.c3; have f3 := hr2.fz 3; have g4 := hr2.c4; have f4 := hr2.fz 4)
    have he2 := HE1.out.touch ht2 hne.2.1
    have hr3 := hr2.put v.kind v.int (ofL v.text) (.slice AN nN cN) (.slice AI nI cI)
    have hts : Touch (fun k => k = w.heap.size) w2 (putJ w2 w.heap.size v.kind v.int (ofL v.text) (.slice AN nN cN) (.slice AI nI cI)) := (((((Touch.refl (fun k => k = w.heap.size) w2).setCell (p := ⟨w.heap.size, 0, none⟩) rfl _).setCell (p := ⟨w.heap.size, 1, none⟩) rfl _).setCell (p := ⟨w.heap.size, 2, none⟩) rfl _).setCell (p := ⟨w.heap.size, 3, none⟩) rfl _).setCell (p := ⟨w.heap.size, 4, none⟩) rfl _
    have hp3 := hP2.touch hts (fun e => hne.1 e.symm)
    have he3 := he2.touch hts (fun e => hne.2.2 e.symm)
    have hb3 := Touch.under (Touch.of_below (F := fun _ => False) HB1.out) (F := fun k => k = pb ∨ k = w.heap.size) ((ht2.mono fun k _ h => .inl h).trans (hts.mono fun k _ h => .inr h)) (fun k hk h => by omega)
    have hRJ3 := RJ.keep (touch_keeps hts (fun b hb e => by have h1 : w1.heap.size ≤ b := hb; have h2 : b = w.heap.size := e; omega)) _ _ hRJ
    clear g0 f0 g1 f1 g2 f2 g3 f3 g4 f4 hr2 he2 hRJ ht2 hP2 hts K1 HP1 HR1 HE1
    change Code.wp _ _ _ _ (putJ w2 w.heap.size v.kind v.int (ofL v.text) (.slice AN nN cN) (.slice AI nI cI))
    generalize putJ w2 w.heap.size v.kind v.int (ofL v.text) (.slice AN nN cN) (.slice AI nI cI) = w3 at *
    have HR3 := Lib.hid hr3
    have HE3 := Lib.hid he3
    have HP3 := Lib.hid hp3
    have HB3 := Lib.hid hb3
    have HRJ3 := Lib.hid hRJ3
    clear hr3 he3 hp3 hb3 hRJ3
    have K2 := Lib.hid (fun w hP => blanks_any pb s j2 r w hP hl2 hs)
    cases hsk : skipB r with
    | nil =>
      rw [hsk] at K2
      have HX := Lib.hid (show wholeP s.toList = .ok v [] by unfold wholeP; rw [HV.out]; dsimp only; rw [hsk])
      clear hsk HV
      go_upto_region 7 with (go_at_call 77; with_reducible refine (K2.out _ HP3.out).mono ?_; rintro e w4 ⟨rfl, ⟨j4, hP4, hl4⟩, ht4⟩; have k1 := hP4.c1; have hk4 := hl4.nil; have hlt4 : ¬ (j4 : Int) < (s.size : Int) := by omega)
      have hr4 := HR3.out.touch ht4 hne.1
      have he4 := HE3.out.touch ht4 hne.2.1
      have hb4 := HB3.out.under ht4 (fun k hk h => by omega)
      have hRJ4 := RJ.keep (touch_keeps ht4 (fun b hb e => by have h1 : w1.heap.size ≤ b := hb; have h2 : b = pb := e; omega)) _ _ HRJ3.out
      have g0 := hr4.c0
      have f0 := hr4.fz 0
      have g1 := hr4.c1
      have f1 := hr4.fz 1
      have g2 := hr4.c2
      have f2 := hr4.fz 2
      have g3 := hr4.c3
      have f3 := hr4.fz 3
      have g4 := hr4.c4
      have f4 := hr4.fz 4
      have e0 := he4.c0
      have e1 := he4.fz 0
      have hr5 := (hr4.put v.kind v.int (ofL v.text) (.slice AN nN cN) (.slice AI nI cI)).touch ((Touch.refl (fun k => k = eb) _).setCell (p := ⟨eb, 0, none⟩) rfl .nilIface) hne.2.2
      have hts : Touch (fun k => k = w.heap.size ∨ k = eb) w4 ((putJ w4 w.heap.size v.kind v.int (ofL v.text) (.slice AN nN cN) (.slice AI nI cI)).setCell ⟨eb, 0, none⟩ .nilIface) := ((((((Touch.refl (fun k => k = w.heap.size ∨ k = eb) w4).setCell (p := ⟨w.heap.size, 0, none⟩) (.inl rfl) _).setCell (p := ⟨w.heap.size, 1, none⟩) (.inl rfl) _).setCell (p := ⟨w.heap.size, 2, none⟩) (.inl rfl) _).setCell (p := ⟨w.heap.size, 3, none⟩) (.inl rfl) _).setCell (p := ⟨w.heap.size, 4, none⟩) (.inl rfl) _).setCell (p := ⟨eb, 0, none⟩) (.inr rfl) _
      have he5 : EC ((putJ w4 w.heap.size v.kind v.int (ofL v.text) (.slice AN nN cN) (.slice AI nI cI)).setCell ⟨eb, 0, none⟩ .nilIface) eb .nilIface := (he4.touch (((((Touch.refl (fun k => k = w.heap.size) w4).setCell (p := ⟨w.heap.size, 0, none⟩) rfl _).setCell (p := ⟨w.heap.size, 1, none⟩) rfl _).setCell (p := ⟨w.heap.size, 2, none⟩) rfl _).setCell (p := ⟨w.heap.size, 3, none⟩) rfl _ |>.setCell (p := ⟨w.heap.size, 4, none⟩) rfl _) (fun e => hne.2.2 e.symm)).set _
      have HR5 := Lib.hid hr5
      have HE5 := Lib.hid he5
      have HB5 := Lib.hid (hb4.under hts (fun k hk h => by omega))
      have HRJ5 := Lib.hid (RJ.keep (touch_keeps hts (fun b hb e => by have h1 : w1.heap.size ≤ b := hb; rcases e with e | e <;> omega)) _ _ hRJ4)
      clear hr4 he4 hb4 hRJ4 hr5 he5 hts k1 hlt4
      go_wp2_with fail
      refine leaves_cons (f := 75) (args := #[.pointer (some ⟨w.heap.size, 0, none⟩), .pointer (some ⟨eb, 0, none⟩)]) (by simp) (by simp [go_sem]) ?_
      refine (catch_idle w.heap.size eb _).mono ?_
      rintro e u' w'' ⟨rfl, rfl, hw⟩
      have hw' : w'' = (putJ w4 w.heap.size v.kind v.int (ofL v.text) (.slice AN nN cN) (.slice AI nI cI)).setCell ⟨eb, 0, none⟩ .nilIface := hw
      rw [← hw'] at HR5 HE5 HB5 HRJ5
      clear hw hw'
      have hc0 := HR5.out.c0
      have hc1 := HR5.out.c1
      have hc2 := HR5.out.c2
      have hc3 := HR5.out.c3
      have hc4 := HR5.out.c4
      have hd0 := HE5.out.c0
      simp [Leaves, settle, results, Tryz.results54, go_sem, hc0, hc1, hc2, hc3, hc4, hd0]
      refine ⟨?_, HB5.out.below (fun _ _ h => h) (Nat.le_refl _)⟩
      unfold readV
      rw [HX.out]
      exact ⟨_, _, rfl, RJ.mono (fun b hb _ => by have h1 : w1.heap.size ≤ b := hb; show w.heap.size ≤ b; omega) _ _ HRJ5.out⟩
    | cons c q =>
      rw [hsk] at K2
      have HX := Lib.hid (show wholeP s.toList = .fail (c :: q) 40 by unfold wholeP; rw [HV.out]; dsimp only; rw [hsk])
      clear hsk HV
      go_wp2_with (first | (go_at_call 77; with_reducible refine (K2.out _ HP3.out).mono ?_; rintro e w4 ⟨rfl, ⟨j4, hP4, hl4⟩, ht4⟩; have k1 := hP4.c1; obtain ⟨hk4, -, -⟩ := hl4.cons; have hlt4 : (j4 : Int) < (s.size : Int) := by omega) | (go_at_call 78; with_reducible refine (fail_any pb s j4 40 _ hP4).mono ?_; rintro e w5 ⟨rfl, rfl⟩))
      refine leaves_cons (f := 75) (args := #[.pointer (some ⟨w.heap.size, 0, none⟩), .pointer (some ⟨eb, 0, none⟩)]) (by simp) (by simp [go_sem]) ?_
      have he2 := HE3.out.touch ht4 hne.2.1
      have hr2 := HR3.out.touch ht4 hne.1
      have hb2 := Touch.under (HB3.out) ht4 (fun k hk h => by omega)
      have hj4 : j4 = s.toList.length - (c :: q).length := by have := hl4.size; omega
      subst hj4
      (refine (catch_any w.heap.size eb _ [] _ hr2 hne.2.2 _ he2.c0 (he2.fz 0)).mono ?_); (rintro e u' w'' ⟨rfl, rfl, hw⟩); (have hx := catch_r hr2 hne.2.2 hw); (have hy := catch_e he2 hne.2.2 hw); (have hb5 := Touch.under hb2 (catch_t hw) (fun k hk h => by omega)); (have hc0 := hx.c0); (have hc1 := hx.c1); (have hc2 := hx.c2); (have hc3 := hx.c3); (have hc4 := hx.c4); (have hd0 := hy.c0); (clear hw); (simp [Leaves, settle, results, Tryz.results54, go_sem, hc0, hc1, hc2, hc3, hc4, hd0])
      refine ⟨?_, hb5.below (fun _ _ h => h) (Nat.le_refl _)⟩
      unfold readV
      rw [HX.out]
      rfl
end Go.Proofs.YtigdjnfnkjfkmaaGreatDoor
