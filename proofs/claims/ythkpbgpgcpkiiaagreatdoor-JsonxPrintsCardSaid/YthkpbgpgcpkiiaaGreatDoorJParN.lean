/- A value (jsonx): the parser's parts together. Conditions: the text is short. -/
import Derived.Test.YthkpbgpgcpkiiaaGreatDoorJParM
namespace Go.Proofs.YthkpbgpgcpkiiaaGreatDoor
open Go.RowKit Go.Maps
set_option linter.unusedVariables false
set_option linter.unusedSimpArgs false
set_option maxRecDepth 100000

theorem valF_cons {f deep : Nat} {l r : B} {c : UInt8} (h : skipB l = c :: r) : valF (f + 1) deep l =
    if c = 91 ∨ c = 123 then (if 16 ≤ deep then .fail (c :: r) 41 else if c = 91 then listB f (deep + 1) r else objB f (deep + 1) r)
    else if c = 34 then (match textB (c :: r) with
        | .fail r e => .fail r e
        | .ok s r => .ok (.mk 3 0 s [] []) (r.drop 1))
    else if c = 110 then mapPR (fun _ => J0) (wordB [110, 117, 108, 108] (c :: r))
    else if c = 116 then mapPR (fun _ => .mk 1 1 [] [] []) (wordB [116, 114, 117, 101] (c :: r))
    else if c = 102 then mapPR (fun _ => .mk 1 0 [] [] []) (wordB [102, 97, 108, 115, 101] (c :: r))
    else if c = 45 ∨ digB c = true then mapPR (fun n => .mk 2 n [] [] []) (numberB (c :: r))
    else .fail (c :: r) 40 := by
  rw [valF, h]
  simp only [listB, objB]
  split
  · split
    · rfl
    · split
      · cases skipB r <;> rfl
      · cases skipB r <;> rfl
  · split
    · cases textB (c :: r) <;> rfl
    · rfl
theorem rj_shape {P : Nat → Prop} {w : World} {v : J} {k n : Int} {t : ByteArray} {N I : Value} (h : RJ P w v [.int .i64 k, .int .i64 n, .string t, N, I]) : (∃ A m c, N = .slice A m c) ∧ ∃ A m c, I = .slice A m c := by
  cases v with
  | mk k' n' t' ns is =>
    rw [RJ] at h
    obtain ⟨N', I', e, h1, xs, h2, _⟩ := h
    simp only [List.cons.injEq, and_true] at e
    obtain ⟨_, _, _, rfl, rfl⟩ := e
    obtain ⟨⟨A, c, rfl⟩, _⟩ := h1
    obtain ⟨⟨A', c', rfl⟩, _⟩ := h2
    exact ⟨⟨A, _, c, rfl⟩, ⟨A', _, c', rfl⟩⟩
theorem valF_nil {f deep : Nat} {l : B} (h : skipB l = []) : valF (f + 1) deep l = .fail [] 40 := by rw [valF, h]
theorem beq_u8 {c : UInt8} (n : Nat) (hn : n < 256) (h : c ≠ UInt8.ofNat n) : ((c.toNat : Int) == (n : Int)) = false := by rw [u8_eq c n hn]; simpa using h
def sgnL : B := [45, 48, 49, 50, 51, 52, 53, 54, 55, 56, 57]
theorem sgn_in (c : UInt8) : sgnL.contains c = true ↔ (c = 45 ∨ digB c = true) := by
  have : ∀ n : Nat, n < 256 → (sgnL.contains (UInt8.ofNat n) = true ↔ (UInt8.ofNat n = 45 ∨ digB (UInt8.ofNat n) = true)) := by decide
  have := this c.toNat c.toNat_lt; rw [UInt8.ofNat_toNat] at this; exact this
set_option maxHeartbeats 16000000 in
theorem value_step (f : Nat) (hV : ∀ g, g < f → VA g) : VA f := by
  intro bp s k deep l w hP hl hs hd hf
  obtain ⟨f, rfl⟩ : ∃ g, f = g + 1 := ⟨f - 1, by omega⟩
  have KL := Lib.hid (list_any f (fun g hg => hV g (by omega)))
  have KM := Lib.hid (members_any f (fun g hg => hV g (by omega)))
  have HP1 := Lib.hid (hP.below ((Below.refl _ w).alloc (Nat.le_refl _) (.cells #[.int .i64 0, .int .i64 0, .string ⟨#[]⟩, .slice none 0 0, .slice none 0 0] 25)))
  have HR1 := Lib.hid (JC.new w)
  have HB1 := Lib.hid ((Below.refl _ w).alloc (Nat.le_refl _) (.cells #[.int .i64 0, .int .i64 0, .string ⟨#[]⟩, .slice none 0 0, .slice none 0 0] 25))
  have hz1 : (w.alloc (.cells #[.int .i64 0, .int .i64 0, .string ⟨#[]⟩, .slice none 0 0, .slice none 0 0] 25)).heap.size = w.heap.size + 1 := by simp
  have HL := Lib.hid hl
  have hlen := hl.size
  have hbw := hP.lt
  have hne : ¬ w.heap.size = bp := by omega
  have K1 := Lib.hid (fun w hP => blanks_any bp s k l w hP hl hs)
  clear hP hl hV
  go_enter Tryz.func42, Tryz.ntmps42
  go_upto_region 1 with fail
  generalize w.alloc (.cells #[.int .i64 0, .int .i64 0, .string ⟨#[]⟩, .slice none 0 0, .slice none 0 0] 25) = w1 at *
  go_upto_region 2 with (go_at_call 43; with_reducible refine (K1.out _ HP1.out).mono ?_; rintro e w2 ⟨rfl, ⟨j2, hP2, hl2⟩, ht2⟩)
  have HP2 := Lib.hid hP2
  have HL2 := Lib.hid hl2
  have HR2 := Lib.hid (HR1.out.touch ht2 hne)
  have HT2 := Lib.hid ((Touch.of_below HB1.out).trans ht2)
  have hz2 : w.heap.size < w2.heap.size := by have := ht2.size; omega
  have hsl := skip_le l
  clear hP2 hl2 ht2 HP1 HR1 HB1 K1 HL
  cases hsk : skipB l with
  | nil =>
    have HX := Lib.hid (valF_nil (f := f) (deep := deep) hsk)
    rw [hsk] at HL2
    have K2 := Lib.hid (fun w hP => peek_nil bp s j2 w hP HL2.out hs)
    clear hsk
    go_wp2_with (go_at_call 59; with_reducible refine (K2.out _ HP2.out).mono ?_; rintro e w5 ⟨rfl, hP5, hb5⟩)
    rw [HX.out]
    exact ⟨rfl, rfl, HT2.out.next hb5⟩
  | cons c r =>
    have hX := valF_cons (f := f) (deep := deep) hsk
    rw [hsk] at HL2 hsl
    rw [List.length_cons] at hsl
    have K2 := Lib.hid (fun w j hP hl => peek_cons bp s j c r w hP hl hs)
    obtain ⟨hk3, -, ha3⟩ := HL2.out.cons
    have HA3 := Lib.hid ha3
    clear hsk ha3
    by_cases h91 : c = 91
    · have q91 : ((c.toNat : Int) == 91) = true := by rw [h91]; rfl
      by_cases h16 : 16 ≤ deep
      · have HX := Lib.hid (show valF (f + 1) deep l = .fail (c :: r) 41 by rw [hX, if_pos (.inl h91), if_pos h16])
        have hq16 : (deep : Int) ≥ 16 := by omega
        have K3 := Lib.hid (fun w hP => fail_any bp s j2 41 w hP)
        clear hX
        go_wp2_with (first | (go_at_call 59; with_reducible refine (K2.out _ j2 HP2.out HL2.out).mono ?_; rintro e w5 ⟨rfl, hP5, hb5⟩) | (go_at_call 44; with_reducible refine (K3.out _ hP5).mono ?_; rintro e w6 ⟨rfl, rfl⟩))
        rw [HX.out]
        exact ⟨rfl, OutU.giveup HL2.out (valV w.heap.size) 41 _, HT2.out.next hb5⟩
      have HX := Lib.hid (show valF (f + 1) deep l = listB f (deep + 1) r by rw [hX, if_pos (.inl h91), if_neg h16, if_pos h91])
      have hq16 : ¬ (deep : Int) ≥ 16 := by omega
      clear hX
      go_upto_region 9 with (go_at_call 59; with_reducible refine (K2.out _ j2 HP2.out HL2.out).mono ?_; rintro e w5 ⟨rfl, hP5, hb5⟩; have k1 := hP5.c1; have f1 := hP5.fz 1)
      have hps := hP5.set (j2 + 1)
      rw [Int.natCast_add, Int.natCast_one] at hps
      have htp := (Touch.refl (fun j => j = bp) w5).setCell (p := ⟨bp, 1, none⟩) rfl (.int .i64 ((j2 : Int) + 1))
      have HR6 := Lib.hid ((HR2.out.below hb5).touch htp hne)
      have HT6 := Lib.hid ((HT2.out.next hb5).trans htp)
      have HP6 := Lib.hid hps
      have hz6 : w.heap.size < (w5.setCell ⟨bp, 1, none⟩ (.int .i64 ((j2 : Int) + 1))).heap.size := by have := hb5.size; simp; omega
      clear k1 f1 hP5 hps htp
      generalize w5.setCell ⟨bp, 1, none⟩ (.int .i64 ((j2 : Int) + 1)) = w6 at *
      have K3 := Lib.hid (fun w hP => KL.out bp s (j2 + 1) (deep + 1) r w hP HA3.out hs (by omega) (by omega))
      rcases hv : listB f (deep + 1) r with ⟨v, r2⟩ | ⟨r2, e2⟩
      · rw [hv] at HX K3
        unfold OutU valV at K3
        dsimp only at K3
        rw [Int.natCast_add, Int.natCast_one] at K3
        clear hv
        go_wp2_with (go_at_call 60; with_reducible refine (K3.out _ HP6.out).mono ?_; rintro e wz ⟨⟨⟨N0, I0, rfl, hRJ⟩, jz, hps, hlz⟩, htz⟩; obtain ⟨⟨AN, nN, cN, rfl⟩, ⟨AI, nI, cI, rfl⟩⟩ := rj_shape hRJ; have hr5 := HR6.out.touch htz hne; have g0 := hr5.c0; have f0 := hr5.fz 0; have g1 := hr5.c1; have f1 := hr5.fz 1; have g2 := hr5.c2; have f2 := hr5.fz 2; have g3 := hr5.c3; have f3 := hr5.fz 3; have g4 := hr5.c4; have f4 := hr5.fz 4; have ht5 := HT6.out.trans htz)
        have hx10 := hr5.put v.kind v.int (ofL v.text) (.slice AN nN cN) (.slice AI nI cI)
        have HTZ := Lib.hid (ht5.putJ (Nat.le_refl _) v.kind v.int (ofL v.text) (.slice AN nN cN) (.slice AI nI cI))
        have HPZ := Lib.hid (hps.putJ (fun e => hne e.symm) v.kind v.int (ofL v.text) (.slice AN nN cN) (.slice AI nI cI))
        have hc0 := hx10.c0
        have hc1 := hx10.c1
        have hc2 := hx10.c2
        have hc3 := hx10.c3
        have hc4 := hx10.c4
        refine bodyPost_ret (v := .agg #[.int .i64 v.kind, .int .i64 v.int, .string (ofL v.text), .slice AN nN cN, .slice AI nI cI]) (by simp [results, Tryz.results42, go_sem, hc0, hc1, hc2, hc3, hc4]) rfl ⟨?_, HTZ.out⟩
        rw [HX.out]
        exact ⟨⟨_, _, rfl, RJ.keep (touch_keeps ((((((Touch.refl (fun j => j = w.heap.size) wz).setCell (p := ⟨w.heap.size, 0, none⟩) rfl (.int .i64 v.kind)).setCell (p := ⟨w.heap.size, 1, none⟩) rfl (.int .i64 v.int)).setCell (p := ⟨w.heap.size, 2, none⟩) rfl (.string (ofL v.text))).setCell (p := ⟨w.heap.size, 3, none⟩) rfl (.slice AN nN cN)).setCell (p := ⟨w.heap.size, 4, none⟩) rfl (.slice AI nI cI)) (fun b hb e => by have h1 : w6.heap.size ≤ b := hb; have h2 : b = w.heap.size := e; omega)) _ _ (RJ.mono (fun b hb _ => hb) _ _ hRJ) |> RJ.mono (fun b hb _ => by have h1 : w6.heap.size ≤ b := hb; show w.heap.size ≤ b; omega) _ _⟩, jz, HPZ.out, hlz⟩
      · rw [hv] at HX K3
        unfold OutU at K3
        dsimp only at K3
        rw [Int.natCast_add, Int.natCast_one] at K3
        clear hv
        go_wp2_with (go_at_call 60; with_reducible refine (K3.out _ HP6.out).mono ?_; rintro e wz ⟨rfl, htz⟩)
        rw [HX.out]
        exact ⟨rfl, rfl, HT6.out.trans htz⟩
    have q91 : ((c.toNat : Int) == 91) = false := beq_u8 91 (by decide) h91
    by_cases h123 : c = 123
    · have q123 : ((c.toNat : Int) == 123) = true := by rw [h123]; rfl
      by_cases h16 : 16 ≤ deep
      · have HX := Lib.hid (show valF (f + 1) deep l = .fail (c :: r) 41 by rw [hX, if_pos (.inr h123), if_pos h16])
        have hq16 : (deep : Int) ≥ 16 := by omega
        have K3 := Lib.hid (fun w hP => fail_any bp s j2 41 w hP)
        clear hX
        go_wp2_with (first | (go_at_call 59; with_reducible refine (K2.out _ j2 HP2.out HL2.out).mono ?_; rintro e w5 ⟨rfl, hP5, hb5⟩) | (go_at_call 44; with_reducible refine (K3.out _ hP5).mono ?_; rintro e w6 ⟨rfl, rfl⟩))
        rw [HX.out]
        exact ⟨rfl, OutU.giveup HL2.out (valV w.heap.size) 41 _, HT2.out.next hb5⟩
      have HX := Lib.hid (show valF (f + 1) deep l = objB f (deep + 1) r by rw [hX, if_pos (.inr h123), if_neg h16, if_neg h91])
      have hq16 : ¬ (deep : Int) ≥ 16 := by omega
      clear hX
      go_upto_region 9 with (go_at_call 59; with_reducible refine (K2.out _ j2 HP2.out HL2.out).mono ?_; rintro e w5 ⟨rfl, hP5, hb5⟩; have k1 := hP5.c1; have f1 := hP5.fz 1)
      have hps := hP5.set (j2 + 1)
      rw [Int.natCast_add, Int.natCast_one] at hps
      have htp := (Touch.refl (fun j => j = bp) w5).setCell (p := ⟨bp, 1, none⟩) rfl (.int .i64 ((j2 : Int) + 1))
      have HR6 := Lib.hid ((HR2.out.below hb5).touch htp hne)
      have HT6 := Lib.hid ((HT2.out.next hb5).trans htp)
      have HP6 := Lib.hid hps
      have hz6 : w.heap.size < (w5.setCell ⟨bp, 1, none⟩ (.int .i64 ((j2 : Int) + 1))).heap.size := by have := hb5.size; simp; omega
      clear k1 f1 hP5 hps htp
      generalize w5.setCell ⟨bp, 1, none⟩ (.int .i64 ((j2 : Int) + 1)) = w6 at *
      have K3 := Lib.hid (fun w hP => KM.out bp s (j2 + 1) (deep + 1) r w hP HA3.out hs (by omega) (by omega))
      rcases hv : objB f (deep + 1) r with ⟨v, r2⟩ | ⟨r2, e2⟩
      · rw [hv] at HX K3
        unfold OutU valV at K3
        dsimp only at K3
        rw [Int.natCast_add, Int.natCast_one] at K3
        clear hv
        go_wp2_with (go_at_call 61; with_reducible refine (K3.out _ HP6.out).mono ?_; rintro e wz ⟨⟨⟨N0, I0, rfl, hRJ⟩, jz, hps, hlz⟩, htz⟩; obtain ⟨⟨AN, nN, cN, rfl⟩, ⟨AI, nI, cI, rfl⟩⟩ := rj_shape hRJ; have hr5 := HR6.out.touch htz hne; have g0 := hr5.c0; have f0 := hr5.fz 0; have g1 := hr5.c1; have f1 := hr5.fz 1; have g2 := hr5.c2; have f2 := hr5.fz 2; have g3 := hr5.c3; have f3 := hr5.fz 3; have g4 := hr5.c4; have f4 := hr5.fz 4; have ht5 := HT6.out.trans htz)
        have hx10 := hr5.put v.kind v.int (ofL v.text) (.slice AN nN cN) (.slice AI nI cI)
        have HTZ := Lib.hid (ht5.putJ (Nat.le_refl _) v.kind v.int (ofL v.text) (.slice AN nN cN) (.slice AI nI cI))
        have HPZ := Lib.hid (hps.putJ (fun e => hne e.symm) v.kind v.int (ofL v.text) (.slice AN nN cN) (.slice AI nI cI))
        have hc0 := hx10.c0
        have hc1 := hx10.c1
        have hc2 := hx10.c2
        have hc3 := hx10.c3
        have hc4 := hx10.c4
        refine bodyPost_ret (v := .agg #[.int .i64 v.kind, .int .i64 v.int, .string (ofL v.text), .slice AN nN cN, .slice AI nI cI]) (by simp [results, Tryz.results42, go_sem, hc0, hc1, hc2, hc3, hc4]) rfl ⟨?_, HTZ.out⟩
        rw [HX.out]
        exact ⟨⟨_, _, rfl, RJ.keep (touch_keeps ((((((Touch.refl (fun j => j = w.heap.size) wz).setCell (p := ⟨w.heap.size, 0, none⟩) rfl (.int .i64 v.kind)).setCell (p := ⟨w.heap.size, 1, none⟩) rfl (.int .i64 v.int)).setCell (p := ⟨w.heap.size, 2, none⟩) rfl (.string (ofL v.text))).setCell (p := ⟨w.heap.size, 3, none⟩) rfl (.slice AN nN cN)).setCell (p := ⟨w.heap.size, 4, none⟩) rfl (.slice AI nI cI)) (fun b hb e => by have h1 : w6.heap.size ≤ b := hb; have h2 : b = w.heap.size := e; omega)) _ _ (RJ.mono (fun b hb _ => hb) _ _ hRJ) |> RJ.mono (fun b hb _ => by have h1 : w6.heap.size ≤ b := hb; show w.heap.size ≤ b; omega) _ _⟩, jz, HPZ.out, hlz⟩
      · rw [hv] at HX K3
        unfold OutU at K3
        dsimp only at K3
        rw [Int.natCast_add, Int.natCast_one] at K3
        clear hv
        go_wp2_with (go_at_call 61; with_reducible refine (K3.out _ HP6.out).mono ?_; rintro e wz ⟨rfl, htz⟩)
        rw [HX.out]
        exact ⟨rfl, rfl, HT6.out.trans htz⟩
    have q123 : ((c.toNat : Int) == 123) = false := beq_u8 123 (by decide) h123
    rw [if_neg (by intro h; exact h.elim h91 h123)] at hX
    clear KL KM
    by_cases h34 : c = 34
    · have q34 : ((c.toNat : Int) == 34) = true := by rw [h34]; rfl
      rw [if_pos h34] at hX
      have K3 := Lib.hid (fun w hP => text_any bp s j2 (c :: r) w hP HL2.out hs)
      rcases hv : textB (c :: r) with ⟨nm, r2⟩ | ⟨r2, e2⟩
      · obtain ⟨r2, rfl⟩ := (text_ok hv).2
        rw [hv] at hX K3
        have HX := Lib.hid (show valF (f + 1) deep l = .ok (.mk 3 0 nm [] []) r2 from hX)
        unfold OutU strV at K3
        dsimp only at K3
        clear hv hX
        go_upto_region 15 with (first | (go_at_call 59; with_reducible refine (K2.out _ j2 HP2.out HL2.out).mono ?_; rintro e w5 ⟨rfl, hP5, hb5⟩) | (go_at_call 62; with_reducible refine (K3.out _ hP5).mono ?_; rintro e w6 ⟨⟨rfl, j6, hP6, hl6⟩, ht6⟩; have k1 := hP6.c1; have f1 := hP6.fz 1; obtain ⟨hk6, -, ha6⟩ := hl6.cons))
        have hps := hP6.set (j6 + 1)
        rw [Int.natCast_add, Int.natCast_one] at hps
        have htp := (Touch.refl (fun j => j = bp) w6).setCell (p := ⟨bp, 1, none⟩) rfl (.int .i64 ((j6 : Int) + 1))
        have hr5 := ((HR2.out.below hb5).touch ht6 hne).touch htp hne
        have ht5 := ((HT2.out.next hb5).trans ht6).trans htp
        clear k1 f1 hP5 hP6 htp
        generalize w6.setCell ⟨bp, 1, none⟩ (.int .i64 ((j6 : Int) + 1)) = wz at *
        have g0 := hr5.c0; have f0 := hr5.fz 0; have g1 := hr5.c1; have f1 := hr5.fz 1; have g2 := hr5.c2; have f2 := hr5.fz 2; have g3 := hr5.c3; have f3 := hr5.fz 3; have g4 := hr5.c4; have f4 := hr5.fz 4
        go_wp2_with fail
        have hx10 := hr5.put 3 0 (ofL nm) (.slice none 0 0) (.slice none 0 0)
        have HTZ := Lib.hid (ht5.putJ (Nat.le_refl _) 3 0 (ofL nm) (.slice none 0 0) (.slice none 0 0))
        have HPZ := Lib.hid (hps.putJ (fun e => hne e.symm) 3 0 (ofL nm) (.slice none 0 0) (.slice none 0 0))
        have hc0 := hx10.c0
        have hc1 := hx10.c1
        have hc2 := hx10.c2
        have hc3 := hx10.c3
        have hc4 := hx10.c4
        refine bodyPost_ret (v := .agg #[.int .i64 3, .int .i64 0, .string (ofL nm), .slice none 0 0, .slice none 0 0]) (by simp [results, Tryz.results42, go_sem, hc0, hc1, hc2, hc3, hc4]) rfl ⟨?_, HTZ.out⟩
        rw [HX.out]
        exact ⟨⟨_, _, rfl, rj_plain 3 0 nm⟩, j6 + 1, HPZ.out, ha6⟩
      · rw [hv] at hX K3
        have HX := Lib.hid (show valF (f + 1) deep l = .fail r2 e2 from hX)
        unfold OutU at K3
        dsimp only at K3
        clear hv hX
        go_wp2_with (first | (go_at_call 59; with_reducible refine (K2.out _ j2 HP2.out HL2.out).mono ?_; rintro e w5 ⟨rfl, hP5, hb5⟩) | (go_at_call 62; with_reducible refine (K3.out _ hP5).mono ?_; rintro e w6 ⟨rfl, ht6⟩))
        rw [HX.out]
        exact ⟨rfl, rfl, (HT2.out.next hb5).trans ht6⟩
    have q34 : ((c.toNat : Int) == 34) = false := beq_u8 34 (by decide) h34
    rw [if_neg h34] at hX
    by_cases h110 : c = 110
    · have q110 : ((c.toNat : Int) == 110) = true := by rw [h110]; rfl
      rw [if_pos h110] at hX
      have K3 := Lib.hid (fun w hP => word_lit bp s ⟨#[110, 117, 108, 108]⟩ [110, 117, 108, 108] rfl j2 (c :: r) w hP HL2.out hs (by decide))
      rcases hv : wordB [110, 117, 108, 108] (c :: r) with ⟨u, r2⟩ | ⟨r2, e2⟩
      · rw [hv] at hX K3
        have HX := Lib.hid (show valF (f + 1) deep l = .ok (J0) r2 from hX)
        unfold OutU unitV at K3
        dsimp only at K3
        clear hv hX
        go_wp2_with (first | (go_at_call 59; with_reducible refine (K2.out _ j2 HP2.out HL2.out).mono ?_; rintro e w5 ⟨rfl, hP5, hb5⟩) | (go_at_call 63; with_reducible refine (K3.out _ hP5).mono ?_; rintro e wz ⟨⟨rfl, jz, hps, hlz⟩, htz⟩; have hr5 := (HR2.out.below hb5).touch htz hne; have g0 := hr5.c0; have f0 := hr5.fz 0; have g1 := hr5.c1; have f1 := hr5.fz 1; have g2 := hr5.c2; have f2 := hr5.fz 2; have g3 := hr5.c3; have f3 := hr5.fz 3; have g4 := hr5.c4; have f4 := hr5.fz 4; have ht5 := (HT2.out.next hb5).trans htz))
        have hx10 := hr5.put 0 0 ⟨#[]⟩ (.slice none 0 0) (.slice none 0 0)
        have HTZ := Lib.hid (ht5.putJ (Nat.le_refl _) 0 0 ⟨#[]⟩ (.slice none 0 0) (.slice none 0 0))
        have HPZ := Lib.hid (hps.putJ (fun e => hne e.symm) 0 0 ⟨#[]⟩ (.slice none 0 0) (.slice none 0 0))
        have hc0 := hx10.c0
        have hc1 := hx10.c1
        have hc2 := hx10.c2
        have hc3 := hx10.c3
        have hc4 := hx10.c4
        refine bodyPost_ret (v := .agg #[.int .i64 0, .int .i64 0, .string ⟨#[]⟩, .slice none 0 0, .slice none 0 0]) (by simp [results, Tryz.results42, go_sem, hc0, hc1, hc2, hc3, hc4]) rfl ⟨?_, HTZ.out⟩
        rw [HX.out]
        exact ⟨⟨_, _, rfl, rj_plain 0 0 []⟩, jz, HPZ.out, hlz⟩
      · rw [hv] at hX K3
        have HX := Lib.hid (show valF (f + 1) deep l = .fail r2 e2 from hX)
        unfold OutU at K3
        dsimp only at K3
        clear hv hX
        go_wp2_with (first | (go_at_call 59; with_reducible refine (K2.out _ j2 HP2.out HL2.out).mono ?_; rintro e w5 ⟨rfl, hP5, hb5⟩) | (go_at_call 63; with_reducible refine (K3.out _ hP5).mono ?_; rintro e wz ⟨rfl, htz⟩))
        rw [HX.out]
        exact ⟨rfl, rfl, (HT2.out.next hb5).trans htz⟩
    have q110 : ((c.toNat : Int) == 110) = false := beq_u8 110 (by decide) h110
    rw [if_neg h110] at hX
    by_cases h116 : c = 116
    · have q116 : ((c.toNat : Int) == 116) = true := by rw [h116]; rfl
      rw [if_pos h116] at hX
      have K3 := Lib.hid (fun w hP => word_lit bp s ⟨#[116, 114, 117, 101]⟩ [116, 114, 117, 101] rfl j2 (c :: r) w hP HL2.out hs (by decide))
      rcases hv : wordB [116, 114, 117, 101] (c :: r) with ⟨u, r2⟩ | ⟨r2, e2⟩
      · rw [hv] at hX K3
        have HX := Lib.hid (show valF (f + 1) deep l = .ok (.mk 1 1 [] [] []) r2 from hX)
        unfold OutU unitV at K3
        dsimp only at K3
        clear hv hX
        go_wp2_with (first | (go_at_call 59; with_reducible refine (K2.out _ j2 HP2.out HL2.out).mono ?_; rintro e w5 ⟨rfl, hP5, hb5⟩) | (go_at_call 63; with_reducible refine (K3.out _ hP5).mono ?_; rintro e wz ⟨⟨rfl, jz, hps, hlz⟩, htz⟩; have hr5 := (HR2.out.below hb5).touch htz hne; have g0 := hr5.c0; have f0 := hr5.fz 0; have g1 := hr5.c1; have f1 := hr5.fz 1; have g2 := hr5.c2; have f2 := hr5.fz 2; have g3 := hr5.c3; have f3 := hr5.fz 3; have g4 := hr5.c4; have f4 := hr5.fz 4; have ht5 := (HT2.out.next hb5).trans htz))
        have hx10 := hr5.put 1 1 ⟨#[]⟩ (.slice none 0 0) (.slice none 0 0)
        have HTZ := Lib.hid (ht5.putJ (Nat.le_refl _) 1 1 ⟨#[]⟩ (.slice none 0 0) (.slice none 0 0))
        have HPZ := Lib.hid (hps.putJ (fun e => hne e.symm) 1 1 ⟨#[]⟩ (.slice none 0 0) (.slice none 0 0))
        have hc0 := hx10.c0
        have hc1 := hx10.c1
        have hc2 := hx10.c2
        have hc3 := hx10.c3
        have hc4 := hx10.c4
        refine bodyPost_ret (v := .agg #[.int .i64 1, .int .i64 1, .string ⟨#[]⟩, .slice none 0 0, .slice none 0 0]) (by simp [results, Tryz.results42, go_sem, hc0, hc1, hc2, hc3, hc4]) rfl ⟨?_, HTZ.out⟩
        rw [HX.out]
        exact ⟨⟨_, _, rfl, rj_plain 1 1 []⟩, jz, HPZ.out, hlz⟩
      · rw [hv] at hX K3
        have HX := Lib.hid (show valF (f + 1) deep l = .fail r2 e2 from hX)
        unfold OutU at K3
        dsimp only at K3
        clear hv hX
        go_wp2_with (first | (go_at_call 59; with_reducible refine (K2.out _ j2 HP2.out HL2.out).mono ?_; rintro e w5 ⟨rfl, hP5, hb5⟩) | (go_at_call 63; with_reducible refine (K3.out _ hP5).mono ?_; rintro e wz ⟨rfl, htz⟩))
        rw [HX.out]
        exact ⟨rfl, rfl, (HT2.out.next hb5).trans htz⟩
    have q116 : ((c.toNat : Int) == 116) = false := beq_u8 116 (by decide) h116
    rw [if_neg h116] at hX
    by_cases h102 : c = 102
    · have q102 : ((c.toNat : Int) == 102) = true := by rw [h102]; rfl
      rw [if_pos h102] at hX
      have K3 := Lib.hid (fun w hP => word_lit bp s ⟨#[102, 97, 108, 115, 101]⟩ [102, 97, 108, 115, 101] rfl j2 (c :: r) w hP HL2.out hs (by decide))
      rcases hv : wordB [102, 97, 108, 115, 101] (c :: r) with ⟨u, r2⟩ | ⟨r2, e2⟩
      · rw [hv] at hX K3
        have HX := Lib.hid (show valF (f + 1) deep l = .ok (.mk 1 0 [] [] []) r2 from hX)
        unfold OutU unitV at K3
        dsimp only at K3
        clear hv hX
        go_wp2_with (first | (go_at_call 59; with_reducible refine (K2.out _ j2 HP2.out HL2.out).mono ?_; rintro e w5 ⟨rfl, hP5, hb5⟩) | (go_at_call 63; with_reducible refine (K3.out _ hP5).mono ?_; rintro e wz ⟨⟨rfl, jz, hps, hlz⟩, htz⟩; have hr5 := (HR2.out.below hb5).touch htz hne; have g0 := hr5.c0; have f0 := hr5.fz 0; have g1 := hr5.c1; have f1 := hr5.fz 1; have g2 := hr5.c2; have f2 := hr5.fz 2; have g3 := hr5.c3; have f3 := hr5.fz 3; have g4 := hr5.c4; have f4 := hr5.fz 4; have ht5 := (HT2.out.next hb5).trans htz))
        have hx10 := hr5.put 1 0 ⟨#[]⟩ (.slice none 0 0) (.slice none 0 0)
        have HTZ := Lib.hid (ht5.putJ (Nat.le_refl _) 1 0 ⟨#[]⟩ (.slice none 0 0) (.slice none 0 0))
        have HPZ := Lib.hid (hps.putJ (fun e => hne e.symm) 1 0 ⟨#[]⟩ (.slice none 0 0) (.slice none 0 0))
        have hc0 := hx10.c0
        have hc1 := hx10.c1
        have hc2 := hx10.c2
        have hc3 := hx10.c3
        have hc4 := hx10.c4
        refine bodyPost_ret (v := .agg #[.int .i64 1, .int .i64 0, .string ⟨#[]⟩, .slice none 0 0, .slice none 0 0]) (by simp [results, Tryz.results42, go_sem, hc0, hc1, hc2, hc3, hc4]) rfl ⟨?_, HTZ.out⟩
        rw [HX.out]
        exact ⟨⟨_, _, rfl, rj_plain 1 0 []⟩, jz, HPZ.out, hlz⟩
      · rw [hv] at hX K3
        have HX := Lib.hid (show valF (f + 1) deep l = .fail r2 e2 from hX)
        unfold OutU at K3
        dsimp only at K3
        clear hv hX
        go_wp2_with (first | (go_at_call 59; with_reducible refine (K2.out _ j2 HP2.out HL2.out).mono ?_; rintro e w5 ⟨rfl, hP5, hb5⟩) | (go_at_call 63; with_reducible refine (K3.out _ hP5).mono ?_; rintro e wz ⟨rfl, htz⟩))
        rw [HX.out]
        exact ⟨rfl, rfl, (HT2.out.next hb5).trans htz⟩
    have q102 : ((c.toNat : Int) == 102) = false := beq_u8 102 (by decide) h102
    rw [if_neg h102] at hX
    have K3 := Lib.hid (fun w => ibyte_any c (ofL sgnL) w)
    rw [toL_ofL, show ofL sgnL = ⟨#[45, 48, 49, 50, 51, 52, 53, 54, 55, 56, 57]⟩ from rfl] at K3
    have hn := idx_neg c sgnL
    by_cases hnum : c = 45 ∨ digB c = true
    · rw [if_pos hnum] at hX
      have h1 : ¬ Lib.indexByte sgnL c < 0 := by rw [hn, (sgn_in c).2 hnum]; decide
      have K4 := Lib.hid (fun w hP => number_any bp s j2 (c :: r) w hP HL2.out hs)
      generalize Lib.indexByte sgnL c = ix at *
      clear hn hnum
      rcases hv : numberB (c :: r) with ⟨n, r2⟩ | ⟨r2, e2⟩
      · rw [hv] at hX K4
        have HX := Lib.hid (show valF (f + 1) deep l = .ok (.mk 2 n [] [] []) r2 from hX)
        unfold OutU numV at K4
        dsimp only at K4
        rw [ofL_nil] at K4
        clear hv hX
        go_wp2_with (first | (go_at_call 59; with_reducible refine (K2.out _ j2 HP2.out HL2.out).mono ?_; rintro e w5 ⟨rfl, hP5, hb5⟩) | (go_at_call 59; with_reducible refine (K2.out _ j2 hP5 HL2.out).mono ?_; rintro e w6 ⟨rfl, hP6, hb6⟩) | (go_at_call 64; with_reducible refine (K3.out _).mono ?_; rintro e w7 ⟨rfl, rfl⟩) | (go_at_call 65; with_reducible refine (K4.out _ hP6).mono ?_; rintro e wz ⟨⟨rfl, jz, hps, hlz⟩, htz⟩; have hr5 := ((HR2.out.below hb5).below hb6).touch htz hne; have g0 := hr5.c0; have f0 := hr5.fz 0; have g1 := hr5.c1; have f1 := hr5.fz 1; have g2 := hr5.c2; have f2 := hr5.fz 2; have g3 := hr5.c3; have f3 := hr5.fz 3; have g4 := hr5.c4; have f4 := hr5.fz 4; have ht5 := ((HT2.out.next hb5).next hb6).trans htz))
        have hx10 := hr5.put 2 n ⟨#[]⟩ (.slice none 0 0) (.slice none 0 0)
        have HTZ := Lib.hid (ht5.putJ (Nat.le_refl _) 2 n ⟨#[]⟩ (.slice none 0 0) (.slice none 0 0))
        have HPZ := Lib.hid (hps.putJ (fun e => hne e.symm) 2 n ⟨#[]⟩ (.slice none 0 0) (.slice none 0 0))
        have hc0 := hx10.c0
        have hc1 := hx10.c1
        have hc2 := hx10.c2
        have hc3 := hx10.c3
        have hc4 := hx10.c4
        refine bodyPost_ret (v := .agg #[.int .i64 2, .int .i64 n, .string ⟨#[]⟩, (.slice none 0 0), (.slice none 0 0)]) (by simp [results, Tryz.results42, go_sem, hc0, hc1, hc2, hc3, hc4]) rfl ⟨?_, HTZ.out⟩
        rw [HX.out]
        exact ⟨⟨_, _, rfl, rj_plain 2 n []⟩, jz, HPZ.out, hlz⟩
      · rw [hv] at hX K4
        have HX := Lib.hid (show valF (f + 1) deep l = .fail r2 e2 from hX)
        unfold OutU at K4
        dsimp only at K4
        clear hv hX
        go_wp2_with (first | (go_at_call 59; with_reducible refine (K2.out _ j2 HP2.out HL2.out).mono ?_; rintro e w5 ⟨rfl, hP5, hb5⟩) | (go_at_call 59; with_reducible refine (K2.out _ j2 hP5 HL2.out).mono ?_; rintro e w6 ⟨rfl, hP6, hb6⟩) | (go_at_call 64; with_reducible refine (K3.out _).mono ?_; rintro e w7 ⟨rfl, rfl⟩) | (go_at_call 65; with_reducible refine (K4.out _ hP6).mono ?_; rintro e wz ⟨rfl, htz⟩))
        rw [HX.out]
        exact ⟨rfl, rfl, ((HT2.out.next hb5).next hb6).trans htz⟩
    · rw [if_neg hnum] at hX
      have HX := Lib.hid hX
      have h1 : Lib.indexByte sgnL c < 0 := by
        rw [hn]
        cases hc : sgnL.contains c with
        | false => rfl
        | true => exact absurd ((sgn_in c).1 hc) hnum
      have K4 := Lib.hid (fun w hP => fail_any bp s j2 40 w hP)
      generalize Lib.indexByte sgnL c = ix at *
      clear hn hnum hX
      go_wp2_with (first | (go_at_call 59; with_reducible refine (K2.out _ j2 HP2.out HL2.out).mono ?_; rintro e w5 ⟨rfl, hP5, hb5⟩) | (go_at_call 59; with_reducible refine (K2.out _ j2 hP5 HL2.out).mono ?_; rintro e w6 ⟨rfl, hP6, hb6⟩) | (go_at_call 64; with_reducible refine (K3.out _).mono ?_; rintro e w7 ⟨rfl, rfl⟩) | (go_at_call 44; with_reducible refine (K4.out _ hP6).mono ?_; rintro e w8 ⟨rfl, rfl⟩))
      rw [HX.out]
      exact ⟨rfl, OutU.giveup HL2.out (valV w.heap.size) 40 _, (HT2.out.next hb5).next hb6⟩
theorem value_any : ∀ f, VA f := by
  intro f
  induction f using Nat.strongRecOn with
  | _ f ih => exact value_step f ih
end Go.Proofs.YthkpbgpgcpkiiaaGreatDoor
