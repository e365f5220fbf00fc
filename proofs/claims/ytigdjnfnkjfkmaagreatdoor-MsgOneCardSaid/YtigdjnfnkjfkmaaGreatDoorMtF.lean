/- The law MsgOne. Conditions: as awake's; the text lies in memory. -/
import Derived.Test.YtigdjnfnkjfkmaaGreatDoorMtE
namespace Go.Proofs.YtigdjnfnkjfkmaaGreatDoor
open Go.RowKit
set_option linter.unusedVariables false
set_option linter.unusedSimpArgs false
set_option maxRecDepth 100000

theorem get_can {v y : J} {s : B} (hc : Can 0 v) (h : getJ v s = some y) : Can 1 y := by
  obtain ⟨k, n, t, ns, is⟩ := v
  unfold getJ at h
  split at h
  · rename_i hk
    have hk' : k = 5 := hk
    subst hk'
    split at h
    · have hy : y ∈ is := List.mem_of_getElem? h
      obtain ⟨c1, c2, c3, c4⟩ := check_parts hc.1
      have hde : deeper 5 0 = 1 := by unfold deeper; rw [if_pos (.inr rfl)]
      rw [hde] at c4
      have hw := hc.2
      rw [wfJ] at hw
      simp only [Bool.and_eq_true] at hw
      exact ⟨c4 y hy, wfs_all.1 hw.2 y hy⟩
    · cases h
  · cases h
/-- What is read may be, and written again it is the same value. -/
theorem one_read {s : B} {v : J} {p n : Nat} (hp : parseJ s = (v, p, n)) (h : readB s = true) : n = 0 ∧ okMs (readM s) = true ∧ MsOK (readM s) ∧ (∃ u, parseJ (msgT (readM s)) = (u, 0, 0) ∧ sameJ v u = true) ∧ (getJ v typeN).isSome = true := by
  have hm : readM s = (msgR v (typeJ v).text).2 := by unfold readM; rw [if_pos h, hp]
  unfold readB at h
  rw [hp] at h
  simp only [Bool.and_eq_true, decide_eq_true_eq, Bool.not_eq_true'] at h
  obtain ⟨⟨⟨h1, h2⟩, h3⟩, h4⟩ := h
  subst h1
  have hc := (parse_can hp).1
  rw [← hm] at h4
  have hwt := parse_wt hp
  have hok : MsOK (readM s) := by rw [hm]; exact msg_small _ (by omega) hc.2
  have ht : (getJ v typeN).getD J0 = txtJ (typeJ v).text := by
    cases hg : getJ v typeN with
    | none => unfold typeJ at h2; rw [hg] at h2; cases h2
    | some y =>
      have he : typeJ v = y := by unfold typeJ; rw [hg]; rfl
      rw [he] at h2 ⊢
      show y = _
      exact txt_is (get_can hc hg) (by unfold txtR; rw [decide_eq_true h2]; rfl)
  have he : msgR v (typeJ v).text = (false, readM s) := by rw [hm]; exact pr_eta _ h3
  obtain ⟨g1, g2, g3, g4⟩ := msg_is hc ht he h4
  have hf := msg_fits h4 g2 g3
  refine ⟨rfl, h4, hok, ⟨canonJ (msgJ (readM s)), ?_, ?_⟩, g4⟩
  · rw [← text_msg]
    exact parse_print hf.1.1 hf.1.2 (by omega)
  · exact same_canon hc hf.1 g1
theorem one_get {s : B} {v : J} {p n : Nat} (hp : parseJ s = (v, p, n)) (h : getB s = true) : n = 0 ∧ mayLo (getL s) = true ∧ LoS (getL s) ∧ I64 (getL s).id ∧ (∃ u, parseJ (putB (getL s)) = (u, 0, 0) ∧ sameJ v u = true) ∧ (getJ v typeN).isSome = false := by
  have hm : getL s = (logR v).2 := by unfold getL; rw [if_pos h, hp]
  unfold getB at h
  rw [hp] at h
  simp only [Bool.and_eq_true, decide_eq_true_eq, Bool.not_eq_true'] at h
  obtain ⟨⟨h1, h3⟩, h4⟩ := h
  subst h1
  have hc := (parse_can hp).1
  rw [← hm] at h4
  have hwt := parse_wt hp
  obtain ⟨g1, g2, g3, g4⟩ := log_is hc (show logR v = (false, getL s) by rw [hm]; exact pr_eta _ h3)
  have hcl := can_log h4 g3 (deep := 0) (by omega)
  refine ⟨rfl, h4, by rw [hm]; exact log_small (by omega), ⟨g2, g3⟩, ⟨canonJ (logJ (getL s)), ?_, same_canon hc hcl g1⟩, by rw [g4]; rfl⟩
  have hl := log_len h4 g3
  unfold putB
  rw [if_pos h4]
  exact parse_print hcl.1 hcl.2 (by omega)
set_option maxHeartbeats 16000000 in
theorem lawMsgOne_any (st : ByteArray) (hst : st.size ≤ 140737488351232) (w : World) (hG : Good w) :
    Calls Tryz.prog 8 #[.string st] w fun e w' => e = .returned (.bool true) ∧ Below w.heap.size w w' := by
  have KA := fun (w' : World) (hb : Below w.heap.size w w') => mawake_any w' (hG.below hb)
  have HKA := Lib.hid KA
  have hsz := size_eq st
  by_cases hbig : st.size > 65536
  · have hb' : (st.size : Int) > 65536 := by omega
    have HK := Lib.hid (HKA.out w (Below.refl _ _))
    clear hG KA HKA hsz hbig
    go_enter Tryz.func8, Tryz.ntmps8
    go_wp2_with fail
    (with_reducible refine HK.out.mono ?_); rintro e w2 ⟨rfl, hb2⟩
    go_wp2_with fail
    go_ret
    exact ⟨rfl, hb2⟩
  have hb' : ¬ (st.size : Int) > 65536 := by omega
  obtain ⟨s, hs⟩ : ∃ s : B, st = ofL s := ⟨st.toList, (ofL_toL st).symm⟩
  subst hs
  rw [size_ofL] at hbig hb' hst
  obtain ⟨v, p, n, hp⟩ : ∃ v p n, parseJ s = (v, p, n) := ⟨_, _, _, rfl⟩
  have K1 := parse_at (ofL s) (by rw [size_ofL]; exact hst) w hG.1 (v := v) (p := p) (n := n) (by rw [toL_ofL]; exact hp)
  have K2 := fun (w' : World) (hb : Below w.heap.size w w') => mread_any s (by omega) w' (hG.below hb)
  have K3 := fun (w' : World) (hb : Below w.heap.size w w') => mget_any s (by omega) w' (hG.below hb)
  have R1 := fun (h : readB s = true) => one_read hp h
  have R2 := fun (h : getB s = true) => one_get hp h
  have hwt : wtJ v ≤ 1048576 := by
    by_cases hn : n = 0
    · subst hn; have := parse_wt hp; omega
    · have := parse_bad hp hn; rw [this]; decide
  have hwf : wfJ v = true := by
    by_cases hn : n = 0
    · subst hn; exact (parse_can hp).1.2
    · have := parse_bad hp hn; rw [this]; rfl
  obtain ⟨m, hm⟩ : ∃ m, m = readM s := ⟨_, rfl⟩
  obtain ⟨x, hx⟩ : ∃ x, x = getL s := ⟨_, rfl⟩
  rw [← hm] at K2 R1
  rw [← hx] at K3 R2
  have hn0r : readB s = true → n = 0 := fun h => (R1 h).1
  have hn0g : getB s = true → n = 0 := fun h => (R2 h).1
  have hboth : readB s = true → getB s = true → False := fun h1 h2 => by have a := (R1 h1).2.2.2.2; have b := (R2 h2).2.2.2.2.2; rw [a] at b; cases b
  have KW : readB s = true → ∃ u, sameJ v u = true ∧ wfJ u = true ∧ wtJ u ≤ 1048576 ∧ (∀ (A : Option Addr) (d : Nat) (w' : World), Below w.heap.size w w' → RdP (fun b => b < w'.heap.size) w' 6 (.slice A m.list.length d) m.list.length (logsV m.list) → Calls Tryz.prog 12 #[.agg #[.int .i64 m.kind, .string (ofL m.client), .int .i64 m.sfrom, .int .i64 m.cookie, .int .i64 m.last, .int .i64 m.top, .slice A m.list.length d]] w' fun e w'' => e = .returned (.tuple #[.string (ofL (msgT m)), .int .i64 0]) ∧ Below w'.heap.size w' w'') ∧
      (∀ (A : Option Addr) (d : Nat) (w' : World), RdP (fun b => b < w'.heap.size) w' 6 (.slice A m.list.length d) m.list.length (logsV m.list) → Calls Tryz.prog 14 #[.agg #[.int .i64 m.kind, .string (ofL m.client), .int .i64 m.sfrom, .int .i64 m.cookie, .int .i64 m.last, .int .i64 m.top, .slice A m.list.length d]] w' fun e w'' => e = .returned (.int .i64 0) ∧ Below w'.heap.size w' w'') ∧
      (∀ w' : World, Below w.heap.size w w' → Calls Tryz.prog 23 #[.string (ofL (msgT m))] w' fun e w'' => ∃ A1 m1 c1 A2 m2 c2, e = .returned (.tuple #[.agg #[.int .i64 u.kind, .int .i64 u.int, .string (ofL u.text), .slice A1 m1 c1, .slice A2 m2 c2], .int .i64 ((0 : Nat) : Int), .int .i64 ((0 : Nat) : Int)]) ∧
      RJ (fun b => b < w''.heap.size) w'' u [.int .i64 u.kind, .int .i64 u.int, .string (ofL u.text), .slice A1 m1 c1, .slice A2 m2 c2] ∧ Below w'.heap.size w' w'') := fun h => by
    obtain ⟨-, h2, h3, ⟨u, h4, h5⟩, -⟩ := R1 h
    refine ⟨u, h5, (parse_can h4).1.2, by have := parse_wt h4; omega, fun A d w' hb hR => ?_, fun A d w' hR => ?_, fun w' hb => ?_⟩
    · have := mwrite_any m A d w' hR h3 (hG.below hb)
      rw [h2, show writeB m = msgT m by unfold writeB; rw [if_pos h2]] at this
      exact this
    · have := mcheck_any m A d w' hR h3
      rw [h2] at this
      exact this
    · exact parse_at (ofL (msgT m)) (by rw [size_ofL]; have := (msg_fits h2 h3.last.2 (fun x hx => (h3.ids x hx).2)).2; rw [text_msg] at this; omega) w' (hG.below hb).1 (by rw [toL_ofL]; exact h4)
  have KP : getB s = true → ∃ u, sameJ v u = true ∧ wfJ u = true ∧ wtJ u ≤ 1048576 ∧ (∀ w' : World, Below w.heap.size w w' → Calls Tryz.prog 19 #[.agg #[.string (ofL x.client), .int .i64 x.id, .int .i64 x.m.kind, .string (ofL x.m.issue), .string (ofL x.m.name), .string (ofL x.m.text)]] w' fun e w'' => e = .returned (.tuple #[.string (ofL (putB x)), .int .i64 0]) ∧ Below w'.heap.size w' w'') ∧
      (∀ w' : World, Below w.heap.size w w' → Calls Tryz.prog 23 #[.string (ofL (putB x))] w' fun e w'' => ∃ A1 m1 c1 A2 m2 c2, e = .returned (.tuple #[.agg #[.int .i64 u.kind, .int .i64 u.int, .string (ofL u.text), .slice A1 m1 c1, .slice A2 m2 c2], .int .i64 ((0 : Nat) : Int), .int .i64 ((0 : Nat) : Int)]) ∧
      RJ (fun b => b < w''.heap.size) w'' u [.int .i64 u.kind, .int .i64 u.int, .string (ofL u.text), .slice A1 m1 c1, .slice A2 m2 c2] ∧ Below w'.heap.size w' w'') := fun h => by
    obtain ⟨-, h2, h3, h6, ⟨u, h4, h5⟩, -⟩ := R2 h
    refine ⟨u, h5, (parse_can h4).1.2, by have := parse_wt h4; omega, fun w' hb => ?_, fun w' hb => ?_⟩
    · have := mput_any x w' h3 h6 (hG.below hb)
      rw [h2] at this
      exact this
    · exact parse_at (ofL (putB x)) (by rw [size_ofL]; unfold putB; rw [if_pos h2]; have := log_len h2 h6.2; omega) w' (hG.below hb).1 (by rw [toL_ofL]; exact h4)
  have KS := fun (u : J) (N I M Q : Value) (w' : World) (hb : Below w.heap.size w w') hR hR' hwf' hwt' => Same_any v u N I M Q w' hR hR' hwf hwt hwf' hwt' (hG.below hb).2.2 (hG.below hb).2.1
  have H1 := Lib.hid K1
  have H2 := Lib.hid K2
  have H3 := Lib.hid K3
  have HKW := Lib.hid KW
  have HKP := Lib.hid KP
  have HKS := Lib.hid KS
  have H0r := Lib.hid hn0r
  have H0g := Lib.hid hn0g
  have Hbo := Lib.hid hboth
  have he1 : errM true = 0 := rfl
  have he2 : errM false = 130 := rfl
  obtain ⟨rb, hrb⟩ : ∃ rb, rb = readB s := ⟨_, rfl⟩
  obtain ⟨gb, hgb⟩ : ∃ gb, gb = getB s := ⟨_, rfl⟩
  rw [← hrb] at H2 HKW H0r Hbo
  rw [← hgb] at H3 HKP H0g Hbo
  clear K1 K2 K3 KW KP KS R1 R2 hn0r hn0g hboth hrb hgb hm hx hwt hwf hp hG KA hsz hbig hst
  go_enter Tryz.func8, Tryz.ntmps8
  go_wp2_with fail
  (with_reducible refine H1.out.mono ?_); rintro e w1 ⟨A1, m1, c1, A2, m2, c2, rfl, hR1, hb1⟩
  have hb2 := (Below.refl w1.heap.size w1).alloc (Nat.le_refl _) (.cells #[.int .i64 v.kind, .int .i64 v.int, .string (ofL v.text), .slice A1 m1 c1, .slice A2 m2 c2] 49)
  have hk2 := CB.new w1 #[.int .i64 v.kind, .int .i64 v.int, .string (ofL v.text), .slice A1 m1 c1, .slice A2 m2 c2] 49
  have HB := Lib.hid (hb1.next hb2)
  have HV := Lib.hid (hR1.grow hb2)
  go_upto_region 4 with fail
  generalize w1.alloc (.cells #[.int .i64 v.kind, .int .i64 v.int, .string (ofL v.text), .slice A1 m1 c1, .slice A2 m2 c2] 49) = w2 at *
  have H2w := Lib.hid (H2.out w2 HB.out)
  have Hk := Lib.hid hk2
  clear hR1 hb1 hb2 hk2 H1
  go_wp2_with fail
  (with_reducible refine H2w.out.mono ?_); rintro e w3 ⟨AM, cM, rfl, hM3, hb3⟩
  have hb4 := (Below.refl w3.heap.size w3).alloc (Nat.le_refl _) (.cells #[.int .i64 m.kind, .string (ofL m.client), .int .i64 m.sfrom, .int .i64 m.cookie, .int .i64 m.last, .int .i64 m.top, .slice AM m.list.length cM] 24)
  have hk4 := CB.new w3 #[.int .i64 m.kind, .string (ofL m.client), .int .i64 m.sfrom, .int .i64 m.cookie, .int .i64 m.last, .int .i64 m.top, .slice AM m.list.length cM] 24
  have HB := Lib.hid ((HB.out.next hb3).next hb4)
  have HV := Lib.hid ((HV.out.grow hb3).grow hb4)
  have Hk := Lib.hid ((Hk.out.below hb3).below hb4)
  have HM := Lib.hid ((hM3.keep (below_keeps hb4)).mono (Q := fun k => k < (w3.alloc (.cells #[.int .i64 m.kind, .string (ofL m.client), .int .i64 m.sfrom, .int .i64 m.cookie, .int .i64 m.last, .int .i64 m.top, .slice AM m.list.length cM] 24)).heap.size) (by decide) (fun k _ h => h))
  go_upto_region 5 with fail
  generalize w3.alloc (.cells #[.int .i64 m.kind, .string (ofL m.client), .int .i64 m.sfrom, .int .i64 m.cookie, .int .i64 m.last, .int .i64 m.top, .slice AM m.list.length cM] 24) = w4 at *
  have H3w := Lib.hid (H3.out w4 HB.out)
  have Hq := Lib.hid hk4
  clear hM3 hb3 hb4 hk4 H2w
  go_wp2_with fail
  (with_reducible refine H3w.out.mono ?_); rintro e w5 ⟨rfl, hb5⟩
  have hb6 := (Below.refl w5.heap.size w5).alloc (Nat.le_refl _) (.cells #[.string (ofL x.client), .int .i64 x.id, .int .i64 x.m.kind, .string (ofL x.m.issue), .string (ofL x.m.name), .string (ofL x.m.text)] 31)
  have hk6 := CB.new w5 #[.string (ofL x.client), .int .i64 x.id, .int .i64 x.m.kind, .string (ofL x.m.issue), .string (ofL x.m.name), .string (ofL x.m.text)] 31
  have HB := Lib.hid ((HB.out.next hb5).next hb6)
  have HV := Lib.hid ((HV.out.grow hb5).grow hb6)
  have Hk := Lib.hid ((Hk.out.below hb5).below hb6)
  have Hq := Lib.hid ((Hq.out.below hb5).below hb6)
  have HM := Lib.hid ((HM.out.keep (below_keeps (hb5.next hb6))).mono (Q := fun k => k < (w5.alloc (.cells #[.string (ofL x.client), .int .i64 x.id, .int .i64 x.m.kind, .string (ofL x.m.issue), .string (ofL x.m.name), .string (ofL x.m.text)] 31)).heap.size) (by decide) (fun k _ h => h))
  go_upto_region 6 with fail
  generalize w5.alloc (.cells #[.string (ofL x.client), .int .i64 x.id, .int .i64 x.m.kind, .string (ofL x.m.issue), .string (ofL x.m.name), .string (ofL x.m.text)] 31) = w6 at *
  have Hx := Lib.hid hk6
  clear hb5 hb6 hk6 H3w
  by_cases hn : n = 0
  · have hni : (n : Int) = 0 := by omega
    cases rb with
    | true =>
      cases gb with
      | true => exact (Hbo.out rfl rfl).elim
      | false =>
        obtain ⟨u, hsm, hwfu, hwtu, hW, hC, hP⟩ := HKW.out rfl
        have HW := Lib.hid (hW AM cM w6 HB.out HM.out)
        have HC := Lib.hid hC
        have HP := Lib.hid hP
        have Hwfu := Lib.hid hwfu
        have Hwtu := Lib.hid hwtu
        have Hsm := Lib.hid hsm
        clear hW hC hP hwfu hwtu hsm
        have q0 : w6.cell? ⟨w3.heap.size, 0, none⟩ = some (.int .i64 m.kind) := Hq.out.c 0 rfl
        have q1 : w6.cell? ⟨w3.heap.size, 1, none⟩ = some (.string (ofL m.client)) := Hq.out.c 1 rfl
        have q2 : w6.cell? ⟨w3.heap.size, 2, none⟩ = some (.int .i64 m.sfrom) := Hq.out.c 2 rfl
        have q3 : w6.cell? ⟨w3.heap.size, 3, none⟩ = some (.int .i64 m.cookie) := Hq.out.c 3 rfl
        have q4 : w6.cell? ⟨w3.heap.size, 4, none⟩ = some (.int .i64 m.last) := Hq.out.c 4 rfl
        have q5 : w6.cell? ⟨w3.heap.size, 5, none⟩ = some (.int .i64 m.top) := Hq.out.c 5 rfl
        have q6 : w6.cell? ⟨w3.heap.size, 6, none⟩ = some (.slice AM m.list.length cM) := Hq.out.c 6 rfl
        go_wp2_with fail
        (with_reducible refine HW.out.mono ?_); rintro e w7 ⟨rfl, hb7⟩
        have HB := Lib.hid (HB.out.next hb7)
        have HV := Lib.hid (HV.out.grow hb7)
        have Hk := Lib.hid (Hk.out.below hb7)
        have Hq := Lib.hid (Hq.out.below hb7)
        have HM := Lib.hid ((HM.out.keep (below_keeps hb7)).mono (Q := fun k => k < w7.heap.size) (by decide) (fun k _ h => h))
        have HPw := Lib.hid (HP.out w7 HB.out)
        clear hb7 q0 q1 q2 q3 q4 q5 q6
        go_wp2_with fail
        (with_reducible refine HPw.out.mono ?_); rintro e w8 ⟨A3, m3, c3, A4, m4, c4, rfl, hU8, hb8⟩
        have hb9 := (Below.refl w8.heap.size w8).alloc (Nat.le_refl _) (.cells #[.int .i64 u.kind, .int .i64 u.int, .string (ofL u.text), .slice A3 m3 c3, .slice A4 m4 c4] 49)
        have hk9 := CB.new w8 #[.int .i64 u.kind, .int .i64 u.int, .string (ofL u.text), .slice A3 m3 c3, .slice A4 m4 c4] 49
        have HB := Lib.hid ((HB.out.next hb8).next hb9)
        have HV := Lib.hid ((HV.out.grow hb8).grow hb9)
        have HU := Lib.hid (hU8.grow hb9)
        have Hk := Lib.hid ((Hk.out.below hb8).below hb9)
        have Hq := Lib.hid ((Hq.out.below hb8).below hb9)
        have HM := Lib.hid ((HM.out.keep (below_keeps (hb8.next hb9))).mono (Q := fun k => k < (w8.alloc (.cells #[.int .i64 u.kind, .int .i64 u.int, .string (ofL u.text), .slice A3 m3 c3, .slice A4 m4 c4] 49)).heap.size) (by decide) (fun k _ h => h))
        go_upto_region 11 with fail
        generalize w8.alloc (.cells #[.int .i64 u.kind, .int .i64 u.int, .string (ofL u.text), .slice A3 m3 c3, .slice A4 m4 c4] 49) = w9 at *
        have d0 : w9.cell? ⟨w1.heap.size, 0, none⟩ = some (.int .i64 v.kind) := Hk.out.c 0 rfl
        have d1 : w9.cell? ⟨w1.heap.size, 1, none⟩ = some (.int .i64 v.int) := Hk.out.c 1 rfl
        have d2 : w9.cell? ⟨w1.heap.size, 2, none⟩ = some (.string (ofL v.text)) := Hk.out.c 2 rfl
        have d3 : w9.cell? ⟨w1.heap.size, 3, none⟩ = some (.slice A1 m1 c1) := Hk.out.c 3 rfl
        have d4 : w9.cell? ⟨w1.heap.size, 4, none⟩ = some (.slice A2 m2 c2) := Hk.out.c 4 rfl
        have u0 : w9.cell? ⟨w8.heap.size, 0, none⟩ = some (.int .i64 u.kind) := hk9.c 0 rfl
        have u1 : w9.cell? ⟨w8.heap.size, 1, none⟩ = some (.int .i64 u.int) := hk9.c 1 rfl
        have u2 : w9.cell? ⟨w8.heap.size, 2, none⟩ = some (.string (ofL u.text)) := hk9.c 2 rfl
        have u3 : w9.cell? ⟨w8.heap.size, 3, none⟩ = some (.slice A3 m3 c3) := hk9.c 3 rfl
        have u4 : w9.cell? ⟨w8.heap.size, 4, none⟩ = some (.slice A4 m4 c4) := hk9.c 4 rfl
        have q0 : w9.cell? ⟨w3.heap.size, 0, none⟩ = some (.int .i64 m.kind) := Hq.out.c 0 rfl
        have q1 : w9.cell? ⟨w3.heap.size, 1, none⟩ = some (.string (ofL m.client)) := Hq.out.c 1 rfl
        have q2 : w9.cell? ⟨w3.heap.size, 2, none⟩ = some (.int .i64 m.sfrom) := Hq.out.c 2 rfl
        have q3 : w9.cell? ⟨w3.heap.size, 3, none⟩ = some (.int .i64 m.cookie) := Hq.out.c 3 rfl
        have q4 : w9.cell? ⟨w3.heap.size, 4, none⟩ = some (.int .i64 m.last) := Hq.out.c 4 rfl
        have q5 : w9.cell? ⟨w3.heap.size, 5, none⟩ = some (.int .i64 m.top) := Hq.out.c 5 rfl
        have q6 : w9.cell? ⟨w3.heap.size, 6, none⟩ = some (.slice AM m.list.length cM) := Hq.out.c 6 rfl
        have hS := HKS.out u _ _ _ _ w9 HB.out HV.out HU.out Hwfu.out Hwtu.out
        rw [Hsm.out] at hS
        have HS := Lib.hid hS
        clear hS hU8 hb8 hb9 hk9 HPw
        go_wp2_with fail
        (with_reducible refine HS.out.mono ?_); rintro e w10 ⟨rfl, hb10⟩
        have HB := Lib.hid (HB.out.next hb10)
        have q0 := Below.keeps hb10 q0; have q1 := Below.keeps hb10 q1; have q2 := Below.keeps hb10 q2; have q3 := Below.keeps hb10 q3; have q4 := Below.keeps hb10 q4; have q5 := Below.keeps hb10 q5; have q6 := Below.keeps hb10 q6
        have HCw := Lib.hid (HC.out AM cM w10 ((HM.out.keep (below_keeps hb10)).mono (by decide) (fun k _ h => h)))
        clear hb10 HS d0 d1 d2 d3 d4 u0 u1 u2 u3 u4
        go_wp2_with fail
        (with_reducible refine HCw.out.mono ?_); rintro e w11 ⟨rfl, hb11⟩
        have HB := Lib.hid (HB.out.next hb11)
        have HA := Lib.hid (HKA.out w11 HB.out)
        clear hb11 q0 q1 q2 q3 q4 q5 q6
        go_wp2_with fail
        (with_reducible refine HA.out.mono ?_); rintro e w12 ⟨rfl, hb12⟩
        have HB := Lib.hid (HB.out.next hb12)
        clear hb12
        go_wp2_with fail
        go_ret
        exact ⟨rfl, HB.out⟩
    | false =>
      cases gb with
      | true =>
        obtain ⟨u, hsm, hwfu, hwtu, hW, hP⟩ := HKP.out rfl
        have HW := Lib.hid (hW w6 HB.out)
        have HP := Lib.hid hP
        have Hwfu := Lib.hid hwfu
        have Hwtu := Lib.hid hwtu
        have Hsm := Lib.hid hsm
        clear hW hP hwfu hwtu hsm
        have x0 : w6.cell? ⟨w5.heap.size, 0, none⟩ = some (.string (ofL x.client)) := Hx.out.c 0 rfl
        have x1 : w6.cell? ⟨w5.heap.size, 1, none⟩ = some (.int .i64 x.id) := Hx.out.c 1 rfl
        have x2 : w6.cell? ⟨w5.heap.size, 2, none⟩ = some (.int .i64 x.m.kind) := Hx.out.c 2 rfl
        have x3 : w6.cell? ⟨w5.heap.size, 3, none⟩ = some (.string (ofL x.m.issue)) := Hx.out.c 3 rfl
        have x4 : w6.cell? ⟨w5.heap.size, 4, none⟩ = some (.string (ofL x.m.name)) := Hx.out.c 4 rfl
        have x5 : w6.cell? ⟨w5.heap.size, 5, none⟩ = some (.string (ofL x.m.text)) := Hx.out.c 5 rfl
        go_wp2_with fail
        (with_reducible refine HW.out.mono ?_); rintro e w7 ⟨rfl, hb7⟩
        have HB := Lib.hid (HB.out.next hb7)
        have HV := Lib.hid (HV.out.grow hb7)
        have Hk := Lib.hid (Hk.out.below hb7)
        have HPw := Lib.hid (HP.out w7 HB.out)
        clear hb7 x0 x1 x2 x3 x4 x5
        go_wp2_with fail
        (with_reducible refine HPw.out.mono ?_); rintro e w8 ⟨A3, m3, c3, A4, m4, c4, rfl, hU8, hb8⟩
        have hb9 := (Below.refl w8.heap.size w8).alloc (Nat.le_refl _) (.cells #[.int .i64 u.kind, .int .i64 u.int, .string (ofL u.text), .slice A3 m3 c3, .slice A4 m4 c4] 49)
        have hk9 := CB.new w8 #[.int .i64 u.kind, .int .i64 u.int, .string (ofL u.text), .slice A3 m3 c3, .slice A4 m4 c4] 49
        have HB := Lib.hid ((HB.out.next hb8).next hb9)
        have HV := Lib.hid ((HV.out.grow hb8).grow hb9)
        have HU := Lib.hid (hU8.grow hb9)
        have Hk := Lib.hid ((Hk.out.below hb8).below hb9)
        go_upto_region 16 with fail
        generalize w8.alloc (.cells #[.int .i64 u.kind, .int .i64 u.int, .string (ofL u.text), .slice A3 m3 c3, .slice A4 m4 c4] 49) = w9 at *
        have d0 : w9.cell? ⟨w1.heap.size, 0, none⟩ = some (.int .i64 v.kind) := Hk.out.c 0 rfl
        have d1 : w9.cell? ⟨w1.heap.size, 1, none⟩ = some (.int .i64 v.int) := Hk.out.c 1 rfl
        have d2 : w9.cell? ⟨w1.heap.size, 2, none⟩ = some (.string (ofL v.text)) := Hk.out.c 2 rfl
        have d3 : w9.cell? ⟨w1.heap.size, 3, none⟩ = some (.slice A1 m1 c1) := Hk.out.c 3 rfl
        have d4 : w9.cell? ⟨w1.heap.size, 4, none⟩ = some (.slice A2 m2 c2) := Hk.out.c 4 rfl
        have u0 : w9.cell? ⟨w8.heap.size, 0, none⟩ = some (.int .i64 u.kind) := hk9.c 0 rfl
        have u1 : w9.cell? ⟨w8.heap.size, 1, none⟩ = some (.int .i64 u.int) := hk9.c 1 rfl
        have u2 : w9.cell? ⟨w8.heap.size, 2, none⟩ = some (.string (ofL u.text)) := hk9.c 2 rfl
        have u3 : w9.cell? ⟨w8.heap.size, 3, none⟩ = some (.slice A3 m3 c3) := hk9.c 3 rfl
        have u4 : w9.cell? ⟨w8.heap.size, 4, none⟩ = some (.slice A4 m4 c4) := hk9.c 4 rfl
        have hS := HKS.out u _ _ _ _ w9 HB.out HV.out HU.out Hwfu.out Hwtu.out
        rw [Hsm.out] at hS
        have HS := Lib.hid hS
        clear hS hU8 hb8 hb9 hk9 HPw
        go_wp2_with fail
        (with_reducible refine HS.out.mono ?_); rintro e w10 ⟨rfl, hb10⟩
        have HB := Lib.hid (HB.out.next hb10)
        have HA := Lib.hid (HKA.out w10 HB.out)
        clear hb10 HS d0 d1 d2 d3 d4 u0 u1 u2 u3 u4
        go_wp2_with fail
        (with_reducible refine HA.out.mono ?_); rintro e w12 ⟨rfl, hb12⟩
        have HB := Lib.hid (HB.out.next hb12)
        clear hb12
        go_wp2_with fail
        go_ret
        exact ⟨rfl, HB.out⟩
      | false =>
        have HA := Lib.hid (HKA.out w6 HB.out)
        go_wp2_with fail
        (with_reducible refine HA.out.mono ?_); rintro e w12 ⟨rfl, hb12⟩
        have HB := Lib.hid (HB.out.next hb12)
        clear hb12
        go_wp2_with fail
        go_ret
        exact ⟨rfl, HB.out⟩
  · have hni : ¬ (n : Int) = 0 := by omega
    cases rb with
    | true => exact (hn (H0r.out rfl)).elim
    | false =>
      cases gb with
      | true => exact (hn (H0g.out rfl)).elim
      | false =>
        have HA := Lib.hid (HKA.out w6 HB.out)
        go_wp2_with fail
        (with_reducible refine HA.out.mono ?_); rintro e w12 ⟨rfl, hb12⟩
        have HB := Lib.hid (HB.out.next hb12)
        clear hb12
        go_wp2_with fail
        go_ret
        exact ⟨rfl, HB.out⟩
end Go.Proofs.YtigdjnfnkjfkmaaGreatDoor
