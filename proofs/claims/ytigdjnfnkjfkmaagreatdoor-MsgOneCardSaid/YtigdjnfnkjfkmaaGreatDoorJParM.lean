/- An object's members (jsonx): by what a value's call tells. Conditions: the text is short. -/
import Derived.Test.YtigdjnfnkjfkmaaGreatDoorJVal
namespace Go.Proofs.YtigdjnfnkjfkmaaGreatDoor
open Go.RowKit Go.Maps
set_option linter.unusedVariables false
set_option linter.unusedSimpArgs false
set_option maxRecDepth 100000

theorem rowS : Row Tryz.prog 46 9 (.string ⟨#[]⟩) 1 16 :=
  ⟨Tryz.underlying46, info_parts (by kernel_rfl), rfl, by decide, by decide⟩
/-- 'append(xs, x)' of an own slice, and where it lies then. -/
theorem wpList_pushL {P : Program} (w0 : World) {ops : Array Oper} {rest : List Oper} {o : Oper} {a : Act} {Q : Exit → Act → World → Prop} (hgd : o.guard = none) (s x : Operand) (t : TypeId)
    (ho : o.op = .call { callee := .builtin .append, args := #[s, x], argTypes := #[t, t] })
    (base : Nat) {e : TypeId} {z : Value} {size bytes : Nat} (hrow : Row P t e z size bytes)
    (v : Value) (n : Nat) (xs : List Value) (hs : a.eval s = v) (hown : w0.ownsRow base e size v n xs)
    (news : List Value) (g : Nat) (hx : a.eval x = .slice (some ⟨g, 0, none⟩) 1 1) (hg : g = w0.heap.size) (hl : news.length = size) (h1 : ∀ u ∈ news, u.oneCell' = true)
    (hbytes : (n + 1) * bytes ≤ 140737488355328) (hbase : base ≤ w0.heap.size)
    (h : ∀ v' w', w'.ownsRow base e size v' (n + 1) (xs ++ news) → Touch (fun k => v.ownBlock = some k) w0 w' → Lies w0 v v' → wpList P ops Q rest (a.put o.dst v') w') :
    wpList P ops Q (o :: rest) a (w0.alloc (.cells news.toArray e)) := by
  obtain ⟨ht, ⟨i, hi, hz, hsize, hby⟩, hzs, hsz, hbz⟩ := hrow
  subst hg
  have hle : n + 1 ≤ (n + 1) * bytes := Nat.le_mul_of_pos_right _ hbz
  refine wpList_append_own_at _ hgd s x t ho base e i z size bytes ht hi hz hsize hby hzs hsz v n xs hs (hown.alloc _) ⟨w0.heap.size, 0, none⟩ 1 1 news hx (by rw [hl, Nat.one_mul]) cells_new h1
    (by unfold maxLen; omega) hbytes (by simp; omega) fun v' w' h2 h3 h4 h5 => ?_
  exact h v' w' h2 (touch_push h3) (lies_of h5)
theorem textF_len : ∀ {f : Nat} {acc l r b : B}, textF f acc l = .ok b r → b.length + 4 * r.length ≤ acc.length + 4 * l.length
  | 0, _, _, _, _, h => by rw [textF] at h; cases h
  | f + 1, acc, [], r, b, h => by rw [textF.eq_def] at h; cases h
  | f + 1, acc, c :: q, r, b, h => by
    rw [textF_step] at h
    split at h
    · simp only [PR.ok.injEq] at h
      rw [← h.1, ← h.2]; exact Nat.le_refl _
    · split at h
      · cases h
      · split at h
        · cases h1 : escB q with
          | fail r e => rw [h1] at h; cases h
          | ok d q2 =>
            rw [h1] at h
            simp only at h
            have h2 := textF_len h
            have h3 := esc_ok h1
            have h4 := esc_len h1
            rw [List.length_append] at h2
            rw [List.length_cons]; omega
        · cases h1 : charB (c :: q) with
          | fail r e => rw [h1] at h; cases h
          | ok d q2 =>
            rw [h1] at h
            simp only at h
            have h2 := textF_len h
            have h3 := congrArg List.length (char_ok (by simp) h1).2
            rw [List.length_append] at h2 h3
            omega
theorem text_len {l r b : B} (h : textB l = .ok b r) : b.length + 4 * r.length ≤ 4 * l.length := by
  unfold textB at h
  cases h1 : oneB [34] l with
  | fail r e => rw [h1] at h; cases h
  | ok c q =>
    rw [h1] at h
    simp only at h
    have h2 := textF_len h
    have h3 := congrArg List.length (one_ok h1).1
    rw [List.length_cons] at h3
    rw [List.length_nil] at h2
    omega
def objB (f deep : Nat) (l : B) : PR J := match skipB l with
  | [] => .fail [] 40
  | d :: r => if d = 125 then .ok (.mk 5 0 [] [] []) r else memsF f deep [] [] (d :: r)
set_option maxHeartbeats 8000000 in
theorem members_any (f : Nat) (hV : ∀ g, g < f → VA g) (bp : Nat) (s : ByteArray) (k deep : Nat) (l : B) (w : World) (hP : PC w bp s k) (hl : At s k l) (hs : s.size ≤ 65536) (hd : deep ≤ 16) (hf : 2 * l.length + 2 ≤ f) :
    Calls Tryz.prog 107 #[.pointer (some ⟨bp, 0, none⟩), .int .i64 (deep : Int)] w fun e w' => OutU bp s (valV w.heap.size) e w' (objB f deep l) ∧ Touch (fun j => j = bp) w w' := by
  have HP := Lib.hid hP
  have HL := Lib.hid hl
  have hlen := hl.size
  have hbw := hP.lt
  have HV := Lib.hid hV
  have hmm := @run_makeMap Tryz.prog
  clear hP hl hV
  go_enter Tryz.func107, Tryz.ntmps107
  go_upto_region 3 with fail
  have hb1 := (((Below.refl w.heap.size w).alloc (Nat.le_refl _) (.cells #[.int .i64 0, .int .i64 0, .string ⟨#[]⟩, .slice none 0 0, .slice none 0 0] 49)).alloc (by simp) (.cells #[.int .i64 5, .int .i64 0, .string ⟨#[]⟩, .slice none 0 0, .slice none 0 0] 49)).alloc (by simp; omega) (.map #[] 0)
  have hr1 : JC (((w.alloc (.cells #[.int .i64 0, .int .i64 0, .string ⟨#[]⟩, .slice none 0 0, .slice none 0 0] 49)).alloc (.cells #[.int .i64 5, .int .i64 0, .string ⟨#[]⟩, .slice none 0 0, .slice none 0 0] 49)).alloc (.map #[] 0)) w.heap.size 0 0 ⟨#[]⟩ (.slice none 0 0) (.slice none 0 0) :=
    ((JC.new w).below ((Below.refl _ _).alloc (Nat.le_refl _) _)).below ((Below.refl _ _).alloc (Nat.le_refl _) _)
  have hv1 : JC (((w.alloc (.cells #[.int .i64 0, .int .i64 0, .string ⟨#[]⟩, .slice none 0 0, .slice none 0 0] 49)).alloc (.cells #[.int .i64 5, .int .i64 0, .string ⟨#[]⟩, .slice none 0 0, .slice none 0 0] 49)).alloc (.map #[] 0)) (w.heap.size + 1) 5 0 ⟨#[]⟩ (.slice none 0 0) (.slice none 0 0) := by
    have := heap_alloc_new (w.alloc (.cells #[.int .i64 0, .int .i64 0, .string ⟨#[]⟩, .slice none 0 0, .slice none 0 0] 49)) (.cells #[.int .i64 5, .int .i64 0, .string ⟨#[]⟩, .slice none 0 0, .slice none 0 0] 49)
    rw [World.size_alloc] at this
    exact JC.below this ((Below.refl _ _).alloc (Nat.le_refl _) _)
  have hm1 : Seen (((w.alloc (.cells #[.int .i64 0, .int .i64 0, .string ⟨#[]⟩, .slice none 0 0, .slice none 0 0] 49)).alloc (.cells #[.int .i64 5, .int .i64 0, .string ⟨#[]⟩, .slice none 0 0, .slice none 0 0] 49)).alloc (.map #[] 0)) (w.heap.size + 1 + 1) [] := by
    have := Seen.made ((w.alloc (.cells #[.int .i64 0, .int .i64 0, .string ⟨#[]⟩, .slice none 0 0, .slice none 0 0] 49)).alloc (.cells #[.int .i64 5, .int .i64 0, .string ⟨#[]⟩, .slice none 0 0, .slice none 0 0] 49))
    rw [World.size_alloc, World.size_alloc] at this; exact this
  have hsz1 : ((((w.alloc (.cells #[.int .i64 0, .int .i64 0, .string ⟨#[]⟩, .slice none 0 0, .slice none 0 0] 49)).alloc (.cells #[.int .i64 5, .int .i64 0, .string ⟨#[]⟩, .slice none 0 0, .slice none 0 0] 49)).alloc (.map #[] 0))).heap.size = w.heap.size + 3 := by simp
  generalize (((w.alloc (.cells #[.int .i64 0, .int .i64 0, .string ⟨#[]⟩, .slice none 0 0, .slice none 0 0] 49)).alloc (.cells #[.int .i64 5, .int .i64 0, .string ⟨#[]⟩, .slice none 0 0, .slice none 0 0] 49)).alloc (.map #[] 0)) = w1 at hb1 hr1 hv1 hm1 hsz1 ⊢
  have HP1 := Lib.hid (HP.out.below hb1)
  have HB1 := Lib.hid hb1
  have HR1 := Lib.hid hr1
  have HV1 := Lib.hid hv1
  have HM1 := Lib.hid hm1
  generalize hmb : w.heap.size + 1 + 1 = mb at *
  generalize hvb : w.heap.size + 1 = vb at *
  clear hb1 hr1 hv1 hm1 HP hmm
  have K1 := Lib.hid (fun w hP => blanks_any bp s k l w hP HL.out hs)
  go_upto_region 4 with (go_at_call 77; with_reducible refine (K1.out _ HP1.out).mono ?_; rintro e w2 ⟨rfl, ⟨j2, hP2, hl2⟩, ht2⟩)
  have hne : ¬ vb = bp ∧ ¬ w.heap.size = bp ∧ ¬ w.heap.size = vb ∧ ¬ mb = bp ∧ ¬ mb = vb ∧ ¬ w.heap.size = mb := by omega
  have HP2 := Lib.hid hP2
  have HL2 := Lib.hid hl2
  have HT2 := Lib.hid ht2
  have HR2 := Lib.hid (HR1.out.touch ht2 hne.2.1)
  have HV2 := Lib.hid (HV1.out.touch ht2 hne.1)
  have HM2 := Lib.hid (HM1.out.touch ht2 hne.2.2.2.1)
  have hlt : bp < w1.heap.size ∧ vb < w1.heap.size ∧ w.heap.size < w1.heap.size ∧ mb < w1.heap.size := by omega
  clear hP2 hl2 ht2 K1
  have HLB := Lib.hid (show objB f deep l = (match skipB l with | [] => .fail [] 40 | d :: r => if d = 125 then .ok (.mk 5 0 [] [] []) r else memsF f deep [] [] (d :: r)) from rfl)
  have hsl := skip_le l
  generalize hsk : skipB l = l2 at *
  clear hsk
  cases l2 with
  | nil =>
    have K2 := Lib.hid (fun w hP => peek_nil bp s j2 w hP HL2.out hs)
    go_wp2_with (go_at_call 105; with_reducible refine (K2.out _ HP2.out).mono ?_; rintro e w5 ⟨rfl, hP5, hb5⟩)
    rw [HLB.out]
    exact ⟨rfl, rfl, ((Touch.of_below HB1.out).trans HT2.out).next hb5⟩
  | cons d r =>
    have K2 := Lib.hid (fun w hP => peek_cons bp s j2 d r w hP HL2.out hs)
    dsimp only at HLB
    by_cases hd93 : d = 125
    · have HX := Lib.hid (show objB f deep l = .ok (.mk 5 0 [] [] []) r by rw [HLB.out, if_pos hd93])
      have hq : ((d.toNat : Int) == 125) = true := by rw [hd93]; rfl
      obtain ⟨hk3, -, ha3⟩ := HL2.out.cons
      have HA3 := Lib.hid ha3
      clear HLB hd93 ha3
      go_upto_region 6 with (go_at_call 105; with_reducible refine (K2.out _ HP2.out).mono ?_; rintro e w5 ⟨rfl, hP5, hb5⟩; have k1 := hP5.c1; have f1 := hP5.fz 1)
      have hps := hP5.set (j2 + 1)
      rw [Int.natCast_add, Int.natCast_one] at hps
      have htp := (Touch.refl (fun j => j = bp) w5).setCell (p := ⟨bp, 1, none⟩) rfl (.int .i64 ((j2 : Int) + 1))
      have hr5 := (HR2.out.below hb5).touch htp hne.2.1
      have hv5 := (HV2.out.below hb5).touch htp hne.1
      have ht5 := (((Touch.of_below HB1.out).trans HT2.out).next hb5).trans htp
      clear k1 f1 hP5
      generalize w5.setCell ⟨bp, 1, none⟩ (.int .i64 ((j2 : Int) + 1)) = wz at hps hr5 hv5 ht5 ⊢
      clear htp
      (have c0 := hv5.c0); (have c1 := hv5.c1); (have c2 := hv5.c2); (have c3 := hv5.c3); (have c4 := hv5.c4); (have g0 := hr5.c0); (have g1 := hr5.c1); (have g2 := hr5.c2); (have g3 := hr5.c3); (have g4 := hr5.c4); (have f0 := hr5.fz 0); (have f1 := hr5.fz 1); (have f2 := hr5.fz 2); (have f3 := hr5.fz 3); (have f4 := hr5.fz 4); (have hx10 := hr5.put 5 0 ⟨#[]⟩ (.slice none 0 0) (.slice none 0 0)); (have HPZ := Lib.hid (hps.putJ (fun e => hne.2.1 e.symm) 5 0 ⟨#[]⟩ (.slice none 0 0) (.slice none 0 0))); (have HTZ := Lib.hid (ht5.putJ (Nat.le_refl _) 5 0 ⟨#[]⟩ (.slice none 0 0) (.slice none 0 0))); (clear hps hr5 hv5 ht5); (go_wp2_with fail); (have hc0 := hx10.c0); (have hc1 := hx10.c1); (have hc2 := hx10.c2); (have hc3 := hx10.c3); (have hc4 := hx10.c4); (refine bodyPost_ret (v := .agg #[.int .i64 5, .int .i64 0, .string ⟨#[]⟩, .slice none 0 0, .slice none 0 0]) (by simp [results, Tryz.results107, go_sem, hc0, hc1, hc2, hc3, hc4]) rfl ⟨?_, HTZ.out⟩)
      rw [HX.out]
      exact ⟨⟨_, _, rfl, rj_plain 5 0 []⟩, j2 + 1, HPZ.out, HA3.out⟩
    · have HX := Lib.hid (show memsF f deep [] [] (d :: r) = objB f deep l by rw [HLB.out, if_neg hd93])
      have hq : ((d.toNat : Int) == 125) = false := by rw [show (125 : Int) = ((125 : Nat) : Int) from rfl, u8_eq d 125 (by decide)]; simpa using hd93
      have hlr : (d :: r).length ≤ l.length := hsl
      clear HLB hd93 hsl
      generalize (d :: r) = l3 at *
      go_wp2_with (go_at_call 105; with_reducible refine (K2.out _ HP2.out).mono ?_; rintro e w5 ⟨rfl, hP5, hb5⟩)
      have HP5 := Lib.hid hP5
      have HR5 := Lib.hid (HR2.out.below hb5)
      have HV5 := Lib.hid (HV2.out.below hb5)
      have HM5 := Lib.hid (HM2.out.touch (Touch.of_below (F := fun _ => False) hb5) id)
      have HT5 := Lib.hid (((Touch.of_below HB1.out).trans HT2.out).next hb5)
      have hlt5 : bp < w5.heap.size ∧ vb < w5.heap.size ∧ w.heap.size < w5.heap.size ∧ mb < w5.heap.size := by
        have := HT2.out.size; have := hb5.size; omega
      have hw5 : w.heap.size ≤ w5.heap.size := by omega
      clear hP5 hb5 K2 HR2 HV2 HM2 HT2 HP2 HR1 HV1 HM1 HB1 hsz1 HP1
      go_loopw [] (fun wr => ∃ (ns : List B) (is : List J) (N I : Value) (xs : List Value) (j : Nat) (m : B) (g : Nat), JC wr vb 5 0 ⟨#[]⟩ N I ∧ wr.ownsRow w5.heap.size 9 1 N ns.length (strs ns) ∧ wr.ownsRow w5.heap.size 49 5 I is.length xs ∧ (∀ k, N.ownBlock = some k → ¬ I.ownBlock = some k) ∧ RJs (fun b => w5.heap.size ≤ b ∧ ¬ I.ownBlock = some b ∧ ¬ N.ownBlock = some b) wr is xs ∧ JC wr w.heap.size 0 0 ⟨#[]⟩ (.slice none 0 0) (.slice none 0 0) ∧ Seen wr mb ns ∧ PC wr bp s j ∧ At s j m ∧ 2 * m.length + 2 ≤ g ∧ g ≤ f ∧ is.length + m.length ≤ l3.length ∧ ns.length = is.length ∧ Hid (memsF g deep ns is m = objB f deep l) ∧ Touch (fun k => k = bp ∨ k = vb ∨ k = mb) w5 wr) (fun wr => s.size - (intOf ((wr.cell? ⟨bp, 1, none⟩).getD undef)).toNat)
      case atStart => exact ⟨[], [], .slice none 0 0, .slice none 0 0, [], j2, l3, f, HV5.out, World.ownsRow_nil _ _ _ _, World.ownsRow_nil _ _ _ _, (fun k h => by cases h), by rw [RJs], HR5.out, HM5.out, HP5.out, HL2.out, by omega, Nat.le_refl _, by simp, rfl, HX.out, Touch.refl _ _⟩
      case round =>
        obtain ⟨ns, is, N, I, xs, j, m, g, hJ, hN, hO, hNI, hRJ, hR, hM, hP, hL, hg1, hg2, hil, hni, hW, hT⟩ := hrel
        obtain ⟨g, rfl⟩ : ∃ g', g = g' + 1 := ⟨g - 1, by omega⟩
        have hsz := hT.size
        have HJ := Lib.hid hJ
        have HN := Lib.hid hN
        have HO := Lib.hid hO
        have HNI := Lib.hid hNI
        have HRJ := Lib.hid hRJ
        have HR := Lib.hid hR
        have HM := Lib.hid hM
        have HPr := Lib.hid hP
        have HLr := Lib.hid hL
        have HT := Lib.hid hT
        have hms := hL.size
        have hnb : ns.length ≤ 65536 := by omega
        have HNi := Lib.hid hni
        clear hni
        clear hJ hN hO hNI hRJ hR hM hP hL hT
        rw [memsF] at hW
        have hsm := skip_le m
        have K1 := Lib.hid (fun w hP => blanks_any bp s j m w hP HLr.out hs)
        have K2 := Lib.hid (fun w j hP hl => text_any bp s j (skipB m) w hP hl hs)
        rcases hv : textB (skipB m) with ⟨nm, r1⟩ | ⟨r1, e1⟩
        rotate_left
        · rw [hv] at hW K2
          unfold OutU at K2
          dsimp only at hW K2
          clear hv
          go_wp2_with (first | (go_at_call 77; with_reducible refine (K1.out _ HPr.out).mono ?_; rintro e w6 ⟨rfl, ⟨j6, hP6, hl6⟩, ht6⟩) | (go_at_call 108; with_reducible refine (K2.out _ j6 hP6 hl6).mono ?_; rintro e w7 ⟨rfl, ht7⟩))
          rw [← hW.out]
          exact ⟨rfl, rfl, HT5.out.under (HT.out.trans ((ht6.trans ht7).mono fun k _ h => .inl h)) (fun k hk h => by
            rcases h with h | h | h
            · exact h
            · omega
            · omega)⟩
        rw [hv] at hW K2
        unfold OutU strV at K2
        dsimp only at hW K2
        have hnl := text_len hv
        obtain ⟨r1, rfl⟩ := (text_ok hv).2
        rw [List.length_cons] at hnl
        clear hv
        go_upto_region 9 with (first | (go_at_call 77; with_reducible refine (K1.out _ HPr.out).mono ?_; rintro e w6 ⟨rfl, ⟨j6, hP6, hl6⟩, ht6⟩) | (go_at_call 108; with_reducible refine (K2.out _ j6 hP6 hl6).mono ?_; rintro e w7 ⟨⟨rfl, j7, hP7, hl7⟩, ht7⟩))
        have ht67 := ht6.trans ht7
        have hmb := hlt5.2.2.2
        obtain ⟨mn, D, hD, hmn, hTl⟩ := HM.out.touch ht67 hne.2.2.2.1
        have hkey := key_of nm (by have := hms; omega)
        have HD := Lib.hid hD
        have HTl := Lib.hid hTl
        have hmn2 : mn < maxLen := by unfold maxLen; omega
        have HP7 := Lib.hid hP7
        have HT7 := Lib.hid ht67
        clear hD hTl hP7 ht67 ht6 ht7 hP6 hl6 K1 K2
        by_cases hin : ns.contains nm = true
        · have HF := Lib.hid (show objB f deep l = .fail (34 :: r1) 43 by rw [← hW.out, if_pos hin])
          have hc1 : ∀ c : Int, D.atKey (.string nm) (.lit (.int .i64 0)) = .lit (.int .i64 c) → c = 1 := fun c hc => by rw [tells_at HTl.out hc, if_pos hin]
          have K3 := Lib.hid (fun w hP => fail_any bp s j7 43 w hP)
          clear hW hin
          go_wp2_with (first
            | (at_lookup; refine wpList_lookup_own_int _ rfl _ _ 161 rfl 9 3 .i64 keyedS Tryz.underlying161 Tryz.underlying3 (zeroI _) mb mn D rfl HD.out _ _ rfl hkey ?_; intro c hat hwc; obtain rfl := hc1 c hat)
            | (at_mapUpdate; refine wpList_mapUpdate_own _ rfl _ _ _ 161 rfl 9 3 keyedS Tryz.underlying161 _ mb mn D rfl HD.out hmn2 _ _ _ rfl rfl hkey _ [] (plainElem_int Tryz.underlying3 (by decide)) ?_; intro w8 hown8 hgrow8; have hp8 := HP7.out.touch ((Touch.refl (fun k => k = mb) w7).grown hgrow8 (fun k hk => by cases hk; rfl)) (fun e => hne.2.2.2.1 e.symm); have ht8 := ((Touch.refl (fun k => k = mb) w7).grown hgrow8 (fun k hk => by cases hk; rfl)))
            | (at_lookup; refine wpList_lookup_own_int _ rfl _ _ 161 rfl 9 3 .i64 keyedS Tryz.underlying161 Tryz.underlying3 (zeroI _) mb (mn + 1) _ rfl hown8 _ _ rfl hkey ?_; intro c hat hwc; obtain rfl := put_at HD.out hat)
            | (go_at_call 78; with_reducible refine (K3.out _ hp8).mono ?_; rintro e w9 ⟨rfl, rfl⟩))
          rw [HF.out]
          exact ⟨rfl, OutU.giveup hl7 (valV w.heap.size) 43 _, HT5.out.under ((HT.out.trans (HT7.out.mono fun k _ h => .inl h)).trans (ht8.mono fun k _ h => .inr (.inr h))) (fun k hk h => by rcases h with h | h | h; exact h; omega; omega)⟩
        · have hin' : ns.contains nm = false := by simpa using hin
          have hc1 : ∀ c : Int, D.atKey (.string nm) (.lit (.int .i64 0)) = .lit (.int .i64 c) → c = 0 := fun c hc => by rw [tells_at HTl.out hc, if_neg hin]
          have hTl2 := tells_put HD.out HTl.out hin'
          have HTl2 := Lib.hid hTl2
          rw [if_neg hin] at hW
          simp only [List.drop_succ_cons, List.drop_zero] at hW
          clear hin hTl2
          go_upto_region 12 with (first
            | (at_lookup; refine wpList_lookup_own_int _ rfl _ _ 161 rfl 9 3 .i64 keyedS Tryz.underlying161 Tryz.underlying3 (zeroI _) mb mn D rfl HD.out _ _ rfl hkey ?_; intro c hat hwc; obtain rfl := hc1 c hat)
            | (at_mapUpdate; refine wpList_mapUpdate_own _ rfl _ _ _ 161 rfl 9 3 keyedS Tryz.underlying161 _ mb mn D rfl HD.out hmn2 _ _ _ rfl rfl hkey _ [] (plainElem_int Tryz.underlying3 (by decide)) ?_; intro w8 hown8 hgrow8)
            | (at_lookup; refine wpList_lookup_own_int _ rfl _ _ 161 rfl 9 3 .i64 keyedS Tryz.underlying161 Tryz.underlying3 (zeroI _) mb (mn + 1) _ rfl hown8 _ _ rfl hkey ?_; intro c hat hwc; obtain rfl := put_at HD.out hat))
          have ht8 := ((Touch.refl (fun k => k = mb) w7).grown hgrow8 (fun k hk => by cases hk; rfl))
          have hp8 := HP7.out.touch ht8 (fun e => hne.2.2.2.1 e.symm)
          have hs8 : Seen w8 mb (ns ++ [nm]) := ⟨mn + 1, _, hown8, by rw [List.length_append, List.length_singleton]; omega, HTl2.out⟩
          have k1 := hp8.c1
          have f1 := hp8.fz 1
          have hps := hp8.set (j7 + 1)
          rw [Int.natCast_add, Int.natCast_one] at hps
          obtain ⟨hk8, -, ha8⟩ := hl7.cons
          have HA8 := Lib.hid ha8
          have htp := (Touch.refl (fun j => j = bp) w8).setCell (p := ⟨bp, 1, none⟩) rfl (.int .i64 ((j7 : Int) + 1))
          have HT9 : Hid (Touch (fun k => k = bp ∨ k = mb) wr (w8.setCell ⟨bp, 1, none⟩ (.int .i64 ((j7 : Int) + 1)))) := ((HT7.out.mono fun k _ h => .inl h).trans (ht8.mono fun k _ h => .inr h)).trans (htp.mono fun k _ h => .inl h)
          have HS9 := Lib.hid (hs8.touch htp hne.2.2.2.1)
          have HP9 := Lib.hid hps
          clear ha8 hl7 hs8 hp8 ht8 htp hown8 hgrow8 hps HD HTl HTl2 hc1 hkey hmn2 hat hwc HM HT7 HP7
          have K1 := Lib.hid (fun w hP => blanks_any bp s (j7 + 1) r1 w hP HA8.out hs)
          have K2 := Lib.hid (fun w j hP hl => one_lit bp s ⟨#[58]⟩ [58] rfl j (skipB r1) w hP hl hs)
          have hsr1 := skip_le r1
          rcases ho : oneB [58] (skipB r1) with ⟨cc, r2⟩ | ⟨r2, e2⟩
          rotate_left
          · rw [ho] at hW K2
            unfold OutU at K2
            dsimp only at hW K2
            clear ho
            go_wp2_with (first | (go_at_call 77; with_reducible refine (K1.out _ HP9.out).mono ?_; rintro e w10 ⟨rfl, ⟨j10, hP10, hl10⟩, ht10⟩) | (go_at_call 129; with_reducible refine (K2.out _ j10 hP10 hl10).mono ?_; rintro e w11 ⟨rfl, ht11⟩))
            rw [← hW.out]
            exact ⟨rfl, rfl, HT5.out.under ((HT.out.trans (HT9.out.mono fun k _ h => h.imp id .inr)).trans ((ht10.trans ht11).mono fun k _ h => .inl h)) (fun k hk h => by rcases h with h | h | h; exact h; omega; omega)⟩
          rw [ho] at hW K2
          unfold OutU byteV at K2
          dsimp only at hW K2
          have hrl2 := congrArg List.length (one_ok ho).1
          rw [List.length_cons] at hrl2
          clear ho
          go_upto_region 15 with (first | (go_at_call 77; with_reducible refine (K1.out _ HP9.out).mono ?_; rintro e w10 ⟨rfl, ⟨j10, hP10, hl10⟩, ht10⟩) | (go_at_call 129; with_reducible refine (K2.out _ j10 hP10 hl10).mono ?_; rintro e w11 ⟨⟨rfl, j11, hP11, hl11⟩, ht11⟩))
          have hT11 := HT9.out.trans ((ht10.trans ht11).mono fun k _ h => .inl h)
          have HS11 := Lib.hid (HS9.out.touch (ht10.trans ht11) hne.2.2.2.1)
          have hj11 := HJ.out.touch hT11 (by rintro (h | h); exact hne.1 h; exact hne.2.2.2.2.1 h.symm)
          have HR11 := Lib.hid (HR.out.touch hT11 (by rintro (h | h); exact hne.2.1 h; exact hne.2.2.2.2.2 h))
          have HN11 := Lib.hid (own_touch HN.out hT11 (fun k hk => by rintro (h | h); exact row_ne HN.out hlt5.1 k hk h; exact row_ne HN.out hlt5.2.2.2 k hk h))
          have HO11 := Lib.hid (own_touch HO.out hT11 (fun k hk => by rintro (h | h); exact row_ne HO.out hlt5.1 k hk h; exact row_ne HO.out hlt5.2.2.2 k hk h))
          have HJ11 := Lib.hid (RJs.keep (touch_keeps hT11 (fun b hb => by rintro (h | h) <;> (have := hb.1; omega))) HRJ.out)
          have HP11 := Lib.hid hP11
          have HL11 := Lib.hid hl11
          have HT11 := Lib.hid (HT.out.trans (hT11.mono fun k _ h => h.imp id .inr))
          have hz11 : w5.heap.size ≤ w11.heap.size := Nat.le_trans hsz hT11.size
          have k3 := hj11.c3
          have f3 := hj11.fz 3
          have k3a := keeps_alloc k3 (.cells #[.string (ofL nm)] 9)
          have hJv := Lib.hid hj11
          clear k1 f1 hj11 hT11 ht10 ht11 hP10 hl10 hP11 hl11 HT9 HS9 HP9 K1 K2 HA8 HJ HN HO HR HRJ
          go_upto_region 16 with (at_builtin; refine wpList_pushL w11 (by rfl) _ _ _ (by rfl) w5.heap.size rowS N ns.length (strs ns) (by rfl) HN11.out [.string (ofL nm)] _ (by rfl) rfl rfl (oneCell_str _) (by omega) hz11 ?_; intro v12 w12 hO12 hT12 hL12; obtain ⟨A12, c12, rfl⟩ := (rd_of_own hO12).shape; have hj12 := hJv.out.touch hT12 (row_nb HN11.out hlt5.2.1); have k12 := hj12.c3; have f12 := hj12.fz 3)
          have hT13 : Touch (fun k => N.ownBlock = some k ∨ k = vb) w11 (w12.setCell ⟨vb, 3, none⟩ (.slice A12 (ns.length + 1) c12)) := (hT12.mono fun k _ h => .inl h).setCell (p := ⟨vb, 3, none⟩) (.inr rfl) _
          have hNl := fun k hk => (HN11.out.lt k hk)
          have hIl := fun k hk => (HO11.out.lt k hk)
          have HNI' : Hid (∀ k, (Value.slice A12 (ns.length + 1) c12).ownBlock = some k → ¬ I.ownBlock = some k) := fun k hk hk2 => by
            rcases hL12 k hk with h | h
            · exact HNI.out k h hk2
            · have := hIl k hk2; omega
          have HN13 := Lib.hid (own_touch hO12 ((Touch.refl (fun k => k = vb) w12).setCell (p := ⟨vb, 3, none⟩) rfl (.slice A12 (ns.length + 1) c12)) (row_ne hO12 hlt5.2.1))
          have HO13 := Lib.hid (own_touch HO11.out hT13 (fun k hk => by
            rintro (h | h)
            · exact HNI.out k h hk
            · exact row_ne HO11.out hlt5.2.1 k hk h))
          have HV13 := Lib.hid (hj12.set3 (.slice A12 (ns.length + 1) c12))
          have HR13 := Lib.hid (HR11.out.touch hT13 (by
            rintro (h | h)
            · exact row_nb HN11.out hlt5.2.2.1 h
            · exact hne.2.2.1 h))
          have HS13 := Lib.hid (HS11.out.touch hT13 (by
            rintro (h | h)
            · exact row_nb HN11.out hlt5.2.2.2 h
            · exact hne.2.2.2.2.1 h))
          have HP13 := Lib.hid (HP11.out.touch hT13 (by
            rintro (h | h)
            · exact row_nb HN11.out hlt5.1 h
            · exact hne.1 h.symm))
          have HJ13 := Lib.hid (RJs.keep (touch_keeps hT13 (fun b hb => by
              rintro (h | h)
              · exact hb.2.2.1 h
              · have := hb.1; omega)) (RJs.mono (Q := fun b => w5.heap.size ≤ b ∧ ¬ I.ownBlock = some b ∧ ¬ N.ownBlock = some b ∧ ¬ (Value.slice A12 (ns.length + 1) c12).ownBlock = some b) (fun b hb hlt => ⟨hb.1, hb.2.1, hb.2.2, fun e => by
                rcases hL12 b e with h | h
                · exact hb.2.2 h
                · omega⟩) HJ11.out))
          have HT13 := Lib.hid (HT11.out.under hT13 (fun k hk h => by
              rcases h with h | h
              · have := row_nb HN11.out hk; exact absurd h this
              · exact .inr (.inl h)))
          have hz13 : w5.heap.size ≤ (w12.setCell ⟨vb, 3, none⟩ (.slice A12 (ns.length + 1) c12)).heap.size := Nat.le_trans hz11 hT13.size
          clear hT13 hNl hIl hT12 hL12 hO12 hj12 k12 f12 hJv k3 f3 k3a HT11 HJ11 HP11 HS11 HR11 HO11 HN11 HNI hz11 HT
          generalize hNn : Value.slice A12 (ns.length + 1) c12 = N' at *
          generalize w12.setCell ⟨vb, 3, none⟩ N' = wc at *
          have K4 := Lib.hid (fun w hP => HV.out g (by omega) bp s j11 deep r2 w hP HL11.out hs hd (by omega))
          have hsz := hz13
          have kd := HV13.out.c4
          rcases hv : valF g deep r2 with ⟨v, r3⟩ | ⟨r3, e3⟩
          rotate_left
          · rw [hv] at hW K4
            unfold OutU at K4
            dsimp only at hW K4
            refine wp_region_any (by kernel_rfl) ?_
            try (change wpAny _ _ _ _ _ _ _ (World.drew _))
            refine wpAny_take (i := 0) (v := ?_) rfl (by kernel_rfl) (by kernel_rfl) (by kernel_rfl) (fun _ _ _ h => h) (Or.inl ⟨by rfl, ?_⟩) ?_; rotate_left; (intro w; go_simp; try with_reducible rfl); rotate_left
            refine wpAny_take (i := 2) (v := ?_) rfl (by kernel_rfl) (by kernel_rfl) (by kernel_rfl) (fun _ _ _ h => h) (Or.inl ⟨by rfl, ?_⟩) ?_; rotate_left; (intro w; go_simp; try with_reducible rfl); rotate_left
            refine wpAny_take (i := 3) (v := ?_) rfl (by kernel_rfl) (by kernel_rfl) (by kernel_rfl) (fun _ _ _ h => h) (Or.inl ⟨by rfl, ?_⟩) ?_; rotate_left; (intro w; go_simp; try with_reducible rfl); rotate_left
            refine wpAny_ready (rs := [1, 4]) (by kernel_rfl) (by simp) ?_
            refine AllReady.cons rfl (fun K hK => ?_) (AllReady.cons rfl (fun K hK => ?_) AllReady.nil)
            · go_simp
              refine hK _ _ ?_
              clear hK K
              refine wpAny_ready (rs := [4]) (by kernel_rfl) (by simp) ?_
              refine AllReady.cons rfl (fun K hK => ?_) AllReady.nil
              go_simp
              go_at_call 76
              refine (K4.out _ (HP13.out.below ((Below.refl _ wc).drew))).mono ?_
              rintro e w6 ⟨rfl, ht6⟩
              exact ⟨rfl, by rw [← hW.out]; rfl, HT5.out.under ((HT13.out.next ((Below.refl _ wc).drew)).trans (ht6.mono fun k _ h => .inl h)) (fun k hk h => by rcases h with h | h | h; exact h; omega; omega)⟩
            · go_simp
              go_at_call 76
              refine (K4.out _ (HP13.out.below ((Below.refl _ wc).drew))).mono ?_
              rintro e w6 ⟨rfl, ht6⟩
              exact ⟨rfl, by rw [← hW.out]; rfl, HT5.out.under ((HT13.out.next ((Below.refl _ wc).drew)).trans (ht6.mono fun k _ h => .inl h)) (fun k hk h => by rcases h with h | h | h; exact h; omega; omega)⟩
          rw [hv] at hW K4
          unfold OutU valV at K4
          dsimp only at hW K4
          have hrl := val_ok hv
          clear hv
          go_region_law (first | (go_simp; go_at_call 76; (with_reducible refine (K4.out _ (HP13.out.below ((Below.refl _ wc).drew))).mono ?_); rintro e w6 ⟨⟨⟨N6, I6, rfl, hRJ6⟩, j6, hP6, hl6⟩, ht6⟩; have hj6 := (HV13.out.below ((Below.refl _ wc).drew)).touch ht6 hne.1; have k6 := hj6.c4; have k6a := keeps_alloc k6 (.cells #[.int .i64 v.kind, .int .i64 v.int, .string (ofL v.text), N6, I6] 49); have ho6 := own_touch (own_below HO13.out ((Below.refl _ wc).drew)) ht6 (row_ne HO13.out hlt5.1); have hz6 := Nat.le_trans hsz ht6.size) | (refine step_pushAt (by rfl) _ _ _ (by rfl) w5.heap.size rowJ _ _ _ (by rfl) ho6 [.int .i64 v.kind, .int .i64 v.int, .string (ofL v.text), N6, I6] _ (by rfl) (by simp) rfl (one_json hRJ6) (by omega) hz6 ?_; intro v10 w10 hO10 hT10 hL10; obtain ⟨A10, c10, rfl⟩ := (rd_of_own hO10).shape; have hj10 := hj6.touch hT10 (row_nb ho6 hlt5.2.1); have k10 := hj10.c4; have f10 := hj10.fz 4))
          all_goals
            have hsd : wc.heap.size ≤ w6.heap.size := ht6.size
            have hI := fun k hk => (HO13.out.lt k hk).2
            have hN := fun k hk => (HN13.out.lt k hk).2
            have hT14 : Touch (fun k => k = bp ∨ I.ownBlock = some k ∨ k = vb) wc (w10.setCell ⟨vb, 4, none⟩ (.slice A10 (is.length + 1) c10)) :=
              (((Touch.of_below ((Below.refl _ wc).drew)).trans (ht6.mono fun k _ h => .inl h)).trans (hT10.mono fun k _ h => .inr (.inl h))).setCell (p := ⟨vb, 4, none⟩) (.inr (.inr rfl)) _
            have hT6 : Touch (fun k => I.ownBlock = some k ∨ k = vb) w6 (w10.setCell ⟨vb, 4, none⟩ (.slice A10 (is.length + 1) c10)) :=
              (hT10.mono fun k _ h => .inl h).setCell (p := ⟨vb, 4, none⟩) (.inr rfl) _
            have HO14 := Lib.hid (own_touch hO10 ((Touch.refl (fun k => k = vb) w10).setCell (p := ⟨vb, 4, none⟩) rfl (.slice A10 (is.length + 1) c10)) (row_ne hO10 hlt5.2.1))
            have HN14 := Lib.hid (own_touch HN13.out hT14 (fun k hk => by
              rintro (h | h | h)
              · exact row_ne HN13.out hlt5.1 k hk h
              · exact HNI'.out k hk h
              · exact row_ne HN13.out hlt5.2.1 k hk h))
            have HNI2 : Hid (∀ k, N'.ownBlock = some k → ¬ (Value.slice A10 (is.length + 1) c10).ownBlock = some k) := fun k hk e => by
              rcases hL10 k e with h | h
              · exact HNI'.out k hk h
              · have := hN k hk; omega
            have HV14 := Lib.hid (hj10.set4 (.slice A10 (is.length + 1) c10))
            have HR14 := Lib.hid (HR13.out.touch hT14 (by
              rintro (h | h | h)
              · exact hne.2.1 h
              · exact row_nb HO13.out hlt5.2.2.1 h
              · exact hne.2.2.1 h))
            have HS14 := Lib.hid (HS13.out.touch hT14 (by
              rintro (h | h | h)
              · exact hne.2.2.2.1 h
              · exact row_nb HO13.out hlt5.2.2.2 h
              · exact hne.2.2.2.2.1 h))
            have HP14 := Lib.hid (hP6.touch hT6 (by
              rintro (h | h)
              · exact row_nb HO13.out hlt5.1 h
              · exact hne.1 h.symm))
            have ha := RJs.keep (touch_keeps hT14 (fun b hb => by
              rintro (h | h | h)
              · have := hb.1; omega
              · exact hb.2.1 h
              · have := hb.1; omega)) (RJs.mono (Q := fun b => w5.heap.size ≤ b ∧ ¬ I.ownBlock = some b ∧ ¬ N'.ownBlock = some b ∧ ¬ (Value.slice A10 (is.length + 1) c10).ownBlock = some b) (fun b hb hlt => ⟨hb.1, hb.2.1, hb.2.2.2, fun e => by
                rcases hL10 b e with h | h
                · exact hb.2.1 h
                · omega⟩) HJ13.out)
            have hb' := RJ.keep (touch_keeps hT6 (fun b hb => by
              rintro (h | h)
              · have := hI b h; have := hb.1; omega
              · have := hb.1; omega)) _ _ (RJ.mono (Q := fun b => wc.heap.size ≤ b ∧ ¬ (Value.slice A10 (is.length + 1) c10).ownBlock = some b) (fun b hb hlt => ⟨hb, fun e => by
                have hb2 : wc.heap.size ≤ b := hb
                rcases hL10 b e with h | h
                · have := hI b h; omega
                · omega⟩) _ _ hRJ6)
            have HJ14 := Lib.hid (RJs.snoc (RJ.mono (Q := fun b => w5.heap.size ≤ b ∧ ¬ (Value.slice A10 (is.length + 1) c10).ownBlock = some b ∧ ¬ N'.ownBlock = some b) (fun b hb _ => ⟨by have := hb.1; omega, hb.2, fun e => by have := hN b e; have := hb.1; omega⟩) _ _ hb') (RJs.mono (fun b hb _ => ⟨hb.1, hb.2.2.2, hb.2.2.1⟩) ha))
            have HT14 := Lib.hid (HT13.out.under hT14 (fun k hk h => by
              rcases h with h | h | h
              · exact .inl h
              · have := row_nb HO13.out hk; exact absurd h this
              · exact .inr (.inl h)))
            clear ha hb' hT14 hT6 hI hN hj10 k10 f10 hO10 hT10 hL10 hz6 ho6 k6a k6 hj6 hP6 hRJ6 ht6 hsd K4 kd HT13 HN13 HO13 HV13 HR13 HS13 HP13 HJ13 HNI'
            generalize w10.setCell ⟨vb, 4, none⟩ (.slice A10 (is.length + 1) c10) = w14 at *
            have K5 := Lib.hid (fun w hP => blanks_any bp s j6 r3 w hP hl6 hs)
            have K6 := Lib.hid (fun w j hP hl => one_lit bp s ⟨#[44, 125]⟩ [44, 125] rfl j (skipB r3) w hP hl hs)
            have hsr := skip_le r3
            rcases ho : oneB [44, 125] (skipB r3) with ⟨c, r4⟩ | ⟨r4, e2⟩
            · rw [ho] at hW K6
              unfold OutU byteV at K6
              dsimp only at hW K6
              have hrl4 := congrArg List.length (one_ok ho).1
              rw [List.length_cons] at hrl4
              clear ho
              by_cases h93 : c = 125
              · have HF := Lib.hid (show objB f deep l = .ok (.mk 5 0 [] (ns ++ [nm]) (is ++ [v])) r4 by rw [← hW.out, if_pos h93])
                have hq2 : ((c.toNat : Int) == 125) = true := by rw [h93]; rfl
                clear h93
                go_upto_region 19 with (first | (go_at_call 77; with_reducible refine (K5.out _ HP14.out).mono ?_; rintro e w15 ⟨rfl, ⟨j15, hP15, hl15⟩, ht15⟩) | (go_at_call 129; with_reducible refine (K6.out _ j15 hP15 hl15).mono ?_; rintro e wz ⟨⟨rfl, jz, hps, hlz⟩, htz1⟩))
                have ht1z := ht15.trans htz1
                have hr5 := HR14.out.touch ht1z hne.2.1
                have hv5 := HV14.out.touch ht1z hne.1
                have ht5 := HT5.out.under (HT14.out.trans (ht1z.mono fun k _ h => .inl h)) (fun k hk h => by rcases h with h | h | h; exact h; omega; omega)
                have HO11 := Lib.hid (own_touch HO14.out ht1z (row_ne HO14.out hlt5.1))
                have HN11 := Lib.hid (own_touch HN14.out ht1z (row_ne HN14.out hlt5.1))
                have HJ11 := Lib.hid (RJs.keep (touch_keeps ht1z (fun b hb e => by have h1 := hb.1; have e' : b = bp := e; omega)) HJ14.out)
                clear HO14 HN14 HJ14 ht1z ht15 htz1 hP15 hl15
                subst hNn
                (have c0 := hv5.c0); (have c1 := hv5.c1); (have c2 := hv5.c2); (have c3 := hv5.c3); (have c4 := hv5.c4); (have g0 := hr5.c0); (have g1 := hr5.c1); (have g2 := hr5.c2); (have g3 := hr5.c3); (have g4 := hr5.c4); (have f0 := hr5.fz 0); (have f1 := hr5.fz 1); (have f2 := hr5.fz 2); (have f3 := hr5.fz 3); (have f4 := hr5.fz 4); (have hx10 := hr5.put 5 0 ⟨#[]⟩ (.slice A12 (ns.length + 1) c12) (.slice A10 (is.length + 1) c10)); (have HPZ := Lib.hid (hps.putJ (fun e => hne.2.1 e.symm) 5 0 ⟨#[]⟩ (.slice A12 (ns.length + 1) c12) (.slice A10 (is.length + 1) c10))); (have HTZ := Lib.hid (ht5.putJ (Nat.le_refl _) 5 0 ⟨#[]⟩ (.slice A12 (ns.length + 1) c12) (.slice A10 (is.length + 1) c10))); (have htz := ((((((Touch.refl (fun j => j = w.heap.size) wz).setCell (p := ⟨w.heap.size, 0, none⟩) rfl (.int .i64 5)).setCell (p := ⟨w.heap.size, 1, none⟩) rfl (.int .i64 0)).setCell (p := ⟨w.heap.size, 2, none⟩) rfl (.string ⟨#[]⟩)).setCell (p := ⟨w.heap.size, 3, none⟩) rfl (.slice A12 (ns.length + 1) c12)).setCell (p := ⟨w.heap.size, 4, none⟩) rfl (.slice A10 (is.length + 1) c10))); (have HOZ := Lib.hid (own_touch HO11.out htz (row_ne HO11.out hlt5.2.2.1))); (have HNZ := Lib.hid (own_touch HN11.out htz (row_ne HN11.out hlt5.2.2.1))); (have HJZ := Lib.hid (RJs.keep (touch_keeps htz (fun b hb e => by have h1 := hb.1; have e' : b = w.heap.size := e; omega)) HJ11.out)); (clear hps hr5 hv5 ht5 htz); (go_wp2_with fail); (have hc0 := hx10.c0); (have hc1 := hx10.c1); (have hc2 := hx10.c2); (have hc3 := hx10.c3); (have hc4 := hx10.c4); (refine bodyPost_ret (v := .agg #[.int .i64 5, .int .i64 0, .string ⟨#[]⟩, .slice A12 (ns.length + 1) c12, .slice A10 (is.length + 1) c10]) (by simp [results, Tryz.results107, go_sem, hc0, hc1, hc2, hc3, hc4]) rfl ⟨?_, HTZ.out⟩)
                rw [HF.out]
                refine ⟨⟨_, _, rfl, ?_⟩, jz, HPZ.out, hlz⟩
                rw [RJ]
                exact ⟨_, _, rfl, own_rdp (by rw [List.length_append, List.length_singleton, strs_snoc]; exact HNZ.out) (fun b hb => by have hb' : w5.heap.size ≤ b := hb; show w.heap.size ≤ b; omega), _, own_rdp (by rw [List.length_append, List.length_singleton]; exact HOZ.out) (fun b hb => by have hb' : w5.heap.size ≤ b := hb; show w.heap.size ≤ b; omega), RJs.mono (fun b hb _ => by have h1 := hb.1; show w.heap.size ≤ b; omega) HJZ.out⟩
              · have HF := Lib.hid (show memsF g deep (ns ++ [nm]) (is ++ [v]) r4 = objB f deep l by rw [← hW.out, if_neg h93])
                have hq2 : ((c.toNat : Int) == 125) = false := by rw [show (125 : Int) = ((125 : Nat) : Int) from rfl, u8_eq c 125 (by decide)]; simpa using h93
                clear h93
                go_wp2_with (first | (go_at_call 77; with_reducible refine (K5.out _ HP14.out).mono ?_; rintro e w15 ⟨rfl, ⟨j15, hP15, hl15⟩, ht15⟩) | (go_at_call 129; with_reducible refine (K6.out _ j15 hP15 hl15).mono ?_; rintro e wz ⟨⟨rfl, jz, hps, hlz⟩, htz1⟩))
                have ht1z := ht15.trans htz1
                have hlsz := hlz.size
                go_roundw
                case rel => exact ⟨ns ++ [nm], is ++ [v], _, _, _, jz, r4, g, HV14.out.touch ht1z hne.1, by rw [List.length_append, List.length_singleton, strs_snoc]; exact own_touch HN14.out ht1z (row_ne HN14.out hlt5.1), by rw [List.length_append, List.length_singleton]; exact own_touch HO14.out ht1z (row_ne HO14.out hlt5.1), HNI2.out, RJs.keep (touch_keeps ht1z (fun b hb e => by have h1 := hb.1; have e' : b = bp := e; omega)) HJ14.out, HR14.out.touch ht1z hne.2.1, HS14.out.touch ht1z hne.2.2.2.1, hps, hlz, by omega, by omega, by rw [List.length_append, List.length_singleton]; omega, by rw [List.length_append, List.length_append, HNi.out]; rfl, HF, HT14.out.trans (ht1z.mono fun k _ h => .inl h)⟩
                case measure =>
                  rw [HPr.out.c1, hps.c1]
                  simp [intOf]; omega
            · rw [ho] at hW K6
              unfold OutU at K6
              dsimp only at hW K6
              clear ho
              go_wp2_with (first | (go_at_call 77; with_reducible refine (K5.out _ HP14.out).mono ?_; rintro e w15 ⟨rfl, ⟨j15, hP15, hl15⟩, ht15⟩) | (go_at_call 129; with_reducible refine (K6.out _ j15 hP15 hl15).mono ?_; rintro e wz ⟨rfl, htz1⟩))
              rw [← hW.out]
              exact ⟨rfl, rfl, HT5.out.under (HT14.out.trans ((ht15.trans htz1).mono fun k _ h => .inl h)) (fun k hk h => by rcases h with h | h | h; exact h; omega; omega)⟩
end Go.Proofs.YtigdjnfnkjfkmaaGreatDoor
