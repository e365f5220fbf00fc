/- The law JsonxOne. Conditions: as awake's; the texts lie in memory. -/
import Derived.Test.YthkpbgpgcpkiiaaGreatDoorJLawA
import Derived.Test.YthkpbgpgcpkiiaaGreatDoorJsonO
namespace Go.Proofs.YthkpbgpgcpkiiaaGreatDoor
open Go.RowKit
set_option linter.unusedVariables false
set_option linter.unusedSimpArgs false
set_option maxRecDepth 100000

set_option maxHeartbeats 16000000 in
theorem lawOne_any (s t : ByteArray) (hs : s.size ≤ 140737488351232) (ht : t.size ≤ 140737488351232) (w : World) (hG : Good w) :
    Calls Tryz.prog 8 #[.string s, .string t] w fun e w' => e = .returned (.bool true) ∧ Below w.heap.size w w' := by
  obtain ⟨v, p, n, hv⟩ : ∃ v p n, parseJ s.toList = (v, p, n) := ⟨_, _, _, rfl⟩
  obtain ⟨u, q, m, hu⟩ : ∃ v p n, parseJ t.toList = (v, p, n) := ⟨_, _, _, rfl⟩
  have K1 := Lib.hid (parse_at s hs w hG.1 hv)
  have K2 := Lib.hid (fun (w' : World) (hb : Below w.heap.size w w') => parse_at t ht w' (hG.below hb).1 hu)
  have KA := Lib.hid (fun (w' : World) (hb : Below w.heap.size w w') => awake_any w' (hG.below hb))
  have HV := Lib.hid hv
  have HU := Lib.hid hu
  have HG := Lib.hid hG
  clear hv hu hG
  go_enter Tryz.func8, Tryz.ntmps8
  go_wp2_with fail
  (with_reducible refine K1.out.mono ?_); rintro e w1 ⟨A1, m1, c1, A2, m2, c2, rfl, hR, hb1⟩
  have HB1 := Lib.hid hb1
  clear hb1 K1
  have hb2 := (Below.refl w1.heap.size w1).alloc (Nat.le_refl _) (.cells #[.int .i64 v.kind, .int .i64 v.int, .string (ofL v.text), .slice A1 m1 c1, .slice A2 m2 c2] 25)
  have hk2 : (w1.alloc (.cells #[.int .i64 v.kind, .int .i64 v.int, .string (ofL v.text), .slice A1 m1 c1, .slice A2 m2 c2] 25)).heap[w1.heap.size]? = some (.cells #[.int .i64 v.kind, .int .i64 v.int, .string (ofL v.text), .slice A1 m1 c1, .slice A2 m2 c2] 25 (0, 0)) := heap_alloc_new w1 _
  have HR2 := Lib.hid (hR.grow hb2)
  clear hR
  go_upto_region 2 with fail
  generalize w1.alloc (.cells #[.int .i64 v.kind, .int .i64 v.int, .string (ofL v.text), .slice A1 m1 c1, .slice A2 m2 c2] 25) = w2 at *
  obtain ⟨d0, d1, d2, d3, d4, hz2⟩ := box5 hk2
  have HB2 := Lib.hid (HB1.out.next hb2)
  have K2 := Lib.hid (K2.out _ HB2.out)
  clear hb2 hk2
  go_wp2_with fail
  (with_reducible refine K2.out.mono ?_); rintro e w3 ⟨A3, m3, c3, A4, m4, c4, rfl, hR3, hb3⟩
  have HB3 := Lib.hid (HB2.out.next hb3)
  have d0 := Below.keeps hb3 d0
  have d1 := Below.keeps hb3 d1
  have d2 := Below.keeps hb3 d2
  have d3 := Below.keeps hb3 d3
  have d4 := Below.keeps hb3 d4
  have HR3v := Lib.hid (HR2.out.grow hb3)
  clear hb3 K2
  have hb4 := (Below.refl w3.heap.size w3).alloc (Nat.le_refl _) (.cells #[.int .i64 u.kind, .int .i64 u.int, .string (ofL u.text), .slice A3 m3 c3, .slice A4 m4 c4] 25)
  have hk4 : (w3.alloc (.cells #[.int .i64 u.kind, .int .i64 u.int, .string (ofL u.text), .slice A3 m3 c3, .slice A4 m4 c4] 25)).heap[w3.heap.size]? = some (.cells #[.int .i64 u.kind, .int .i64 u.int, .string (ofL u.text), .slice A3 m3 c3, .slice A4 m4 c4] 25 (0, 0)) := heap_alloc_new w3 _
  have HR4 := Lib.hid (hR3.grow hb4)
  clear hR3
  go_upto_region 3 with fail
  generalize w3.alloc (.cells #[.int .i64 u.kind, .int .i64 u.int, .string (ofL u.text), .slice A3 m3 c3, .slice A4 m4 c4] 25) = w4 at *
  obtain ⟨g0, g1, g2, g3, g4, hz4⟩ := box5 hk4
  have d0 := Below.keeps hb4 d0
  have d1 := Below.keeps hb4 d1
  have d2 := Below.keeps hb4 d2
  have d3 := Below.keeps hb4 d3
  have d4 := Below.keeps hb4 d4
  have HR4v := Lib.hid (HR3v.out.grow hb4)
  have HB4 := Lib.hid (HB3.out.next hb4)
  clear hb4 hk4
  have K5 := Lib.hid (KA.out _ HB4.out)
  by_cases hn : n = 0
  · by_cases hm : m = 0
    · subst hn
      subst hm
      obtain ⟨c1', c2', hp4, hlaw⟩ := one_law HV.out HU.out
      have hwfv := (parse_can HV.out).1.2
      have hwfu := (parse_can HU.out).1.2
      have hwtv := parse_wt HV.out
      have hwtu := parse_wt HU.out
      have KP := Lib.hid (fun (w' : World) N I (hb : Below w.heap.size w w') hR => Print_any v N I w' hR hwfv (by omega) (HG.out.below hb).2.2 (HG.out.below hb).2.1)
      have KQ := Lib.hid (fun (w' : World) N I (hb : Below w.heap.size w w') hR => Print_any u N I w' hR hwfu (by omega) (HG.out.below hb).2.2 (HG.out.below hb).2.1)
      have HLaw := Lib.hid hlaw
      generalize hpv : (printJ v).1 = pv at *
      generalize hev : (printJ v).2 = ev at *
      generalize hpu : (printJ u).1 = pu at *
      generalize heu : (printJ u).2 = eu at *
      have hp4' : eu = 0 ∨ eu = 4 := by rw [← heu]; exact (one_law HU.out HU.out).2.2.1
      have KPv := Lib.hid (KP.out w4 _ _ HB4.out HR4v.out)
      clear hlaw KP hpv hev hpu heu
      go_wp2_with fail
      (with_reducible refine KPv.out.mono ?_); rintro e w5 ⟨rfl, hb5⟩
      have HB5 := Lib.hid (HB4.out.next hb5)
      have d0 := Below.keeps hb5 d0
      have d1 := Below.keeps hb5 d1
      have d2 := Below.keeps hb5 d2
      have d3 := Below.keeps hb5 d3
      have d4 := Below.keeps hb5 d4
      have g0 := Below.keeps hb5 g0
      have g1 := Below.keeps hb5 g1
      have g2 := Below.keeps hb5 g2
      have g3 := Below.keeps hb5 g3
      have g4 := Below.keeps hb5 g4
      have HR5v := Lib.hid (HR4v.out.grow hb5)
      have HR5 := Lib.hid (HR4.out.grow hb5)
      have KPu := Lib.hid (KQ.out w5 _ _ HB5.out HR5.out)
      clear hb5 KPv KQ
      go_wp2_with fail
      (with_reducible refine KPu.out.mono ?_); rintro e w6 ⟨rfl, hb6⟩
      have HB6 := Lib.hid (HB5.out.next hb6)
      have d0 := Below.keeps hb6 d0
      have d1 := Below.keeps hb6 d1
      have d2 := Below.keeps hb6 d2
      have d3 := Below.keeps hb6 d3
      have d4 := Below.keeps hb6 d4
      have g0 := Below.keeps hb6 g0
      have g1 := Below.keeps hb6 g1
      have g2 := Below.keeps hb6 g2
      have g3 := Below.keeps hb6 g3
      have g4 := Below.keeps hb6 g4
      have HR6v := Lib.hid (HR5v.out.grow hb6)
      have HR6 := Lib.hid (HR5.out.grow hb6)
      have KC := Check_any v _ _ w6 HR6v.out (by omega)
      rw [c1'] at KC
      have KC := Lib.hid KC
      clear hb6 KPu
      go_wp2_with fail
      (with_reducible refine KC.out.mono ?_); rintro e w7 ⟨rfl, hb7⟩
      have HB7 := Lib.hid (HB6.out.next hb7)
      have d0 := Below.keeps hb7 d0
      have d1 := Below.keeps hb7 d1
      have d2 := Below.keeps hb7 d2
      have d3 := Below.keeps hb7 d3
      have d4 := Below.keeps hb7 d4
      have g0 := Below.keeps hb7 g0
      have g1 := Below.keeps hb7 g1
      have g2 := Below.keeps hb7 g2
      have g3 := Below.keeps hb7 g3
      have g4 := Below.keeps hb7 g4
      have HR7v := Lib.hid (HR6v.out.grow hb7)
      have HR7 := Lib.hid (HR6.out.grow hb7)
      have KD := Check_any u _ _ w7 HR7.out (by omega)
      rw [c2'] at KD
      have KD := Lib.hid KD
      clear hb7 KC
      go_wp2_with fail
      (with_reducible refine KD.out.mono ?_); rintro e w8 ⟨rfl, hb8⟩
      have HB8 := Lib.hid (HB7.out.next hb8)
      have d0 := Below.keeps hb8 d0
      have d1 := Below.keeps hb8 d1
      have d2 := Below.keeps hb8 d2
      have d3 := Below.keeps hb8 d3
      have d4 := Below.keeps hb8 d4
      have g0 := Below.keeps hb8 g0
      have g1 := Below.keeps hb8 g1
      have g2 := Below.keeps hb8 g2
      have g3 := Below.keeps hb8 g3
      have g4 := Below.keeps hb8 g4
      have HR8v := Lib.hid (HR7v.out.grow hb8)
      have HR8 := Lib.hid (HR7.out.grow hb8)
      have K9 := Lib.hid (KA.out _ HB8.out)
      clear hb8 KD
      by_cases hz : ev = 0 ∧ eu = 0
      · obtain ⟨hz1, hz2⟩ := hz
        obtain ⟨⟨x, r, hx1, hx2⟩, hsame⟩ := HLaw.out hz1 hz2
        subst hz1
        subst hz2
        have hwfx := (parse_can hx1).1.2
        have hwtx := parse_wt hx1
        have hpl : pv.length ≤ 65536 := (parse_can hx1).2.2.2
        have K9 := Lib.hid (parse_at (ofL pv) (by rw [size_ofL]; omega) w8 (HG.out.below HB8.out).1 (v := x) (p := r) (n := 0) (by rw [toL_ofL]; exact hx1))
        clear hx1 HLaw
        go_wp2_with fail
        (with_reducible refine K9.out.mono ?_); rintro e w9 ⟨A5, m5, c5, A6, m6, c6, rfl, hR9, hb9⟩
        have HB9 := Lib.hid (HB8.out.next hb9)
        have d0 := Below.keeps hb9 d0
        have d1 := Below.keeps hb9 d1
        have d2 := Below.keeps hb9 d2
        have d3 := Below.keeps hb9 d3
        have d4 := Below.keeps hb9 d4
        have g0 := Below.keeps hb9 g0
        have g1 := Below.keeps hb9 g1
        have g2 := Below.keeps hb9 g2
        have g3 := Below.keeps hb9 g3
        have g4 := Below.keeps hb9 g4
        have HR9v := Lib.hid (HR8v.out.grow hb9)
        have HR9 := Lib.hid (HR8.out.grow hb9)
        clear hb9 K9
        have hba := (Below.refl w9.heap.size w9).alloc (Nat.le_refl _) (.cells #[.int .i64 x.kind, .int .i64 x.int, .string (ofL x.text), .slice A5 m5 c5, .slice A6 m6 c6] 25)
        have hka : (w9.alloc (.cells #[.int .i64 x.kind, .int .i64 x.int, .string (ofL x.text), .slice A5 m5 c5, .slice A6 m6 c6] 25)).heap[w9.heap.size]? = some (.cells #[.int .i64 x.kind, .int .i64 x.int, .string (ofL x.text), .slice A5 m5 c5, .slice A6 m6 c6] 25 (0, 0)) := heap_alloc_new w9 _
        have HRa := Lib.hid (hR9.grow hba)
        clear hR9
        go_upto_region 12 with fail
        generalize w9.alloc (.cells #[.int .i64 x.kind, .int .i64 x.int, .string (ofL x.text), .slice A5 m5 c5, .slice A6 m6 c6] 25) = wa at *
        obtain ⟨h0, h1, h2, h3, h4, -⟩ := box5 hka
        have HBa := Lib.hid (HB9.out.next hba)
        have d0 := Below.keeps hba d0
        have d1 := Below.keeps hba d1
        have d2 := Below.keeps hba d2
        have d3 := Below.keeps hba d3
        have d4 := Below.keeps hba d4
        have g0 := Below.keeps hba g0
        have g1 := Below.keeps hba g1
        have g2 := Below.keeps hba g2
        have g3 := Below.keeps hba g3
        have g4 := Below.keeps hba g4
        have HRav := Lib.hid (HR9v.out.grow hba)
        have HRau := Lib.hid (HR9.out.grow hba)
        have KS := Same_any x v _ _ _ _ wa HRa.out HRav.out hwfx (by omega) hwfv (by omega) (HG.out.below HBa.out).2.2 (HG.out.below HBa.out).2.1
        rw [hx2] at KS
        have KS := Lib.hid KS
        clear hba hka
        go_wp2_with fail
        (with_reducible refine KS.out.mono ?_); rintro e wb ⟨rfl, hbb⟩
        have HBb := Lib.hid (HBa.out.next hbb)
        have d0 := Below.keeps hbb d0
        have d1 := Below.keeps hbb d1
        have d2 := Below.keeps hbb d2
        have d3 := Below.keeps hbb d3
        have d4 := Below.keeps hbb d4
        have g0 := Below.keeps hbb g0
        have g1 := Below.keeps hbb g1
        have g2 := Below.keeps hbb g2
        have g3 := Below.keeps hbb g3
        have g4 := Below.keeps hbb g4
        have KT := Same_any v u _ _ _ _ wb (HRav.out.grow hbb) (HRau.out.grow hbb) hwfv (by omega) hwfu (by omega) (HG.out.below HBb.out).2.2 (HG.out.below HBb.out).2.1
        rw [hsame] at KT
        have KT := Lib.hid KT
        clear hbb KS
        go_wp2_with fail
        (with_reducible refine KT.out.mono ?_); rintro e wc ⟨rfl, hbc⟩
        have HBc := Lib.hid (HBb.out.next hbc)
        have KW := Lib.hid (KA.out _ HBc.out)
        clear hbc KT
        by_cases hpq : pv = pu
        · rw [decide_eq_true hpq]
          subst hpq
          go_wp2_with fail
          (with_reducible refine KW.out.mono ?_); rintro e wd ⟨rfl, hbd⟩
          have HBd := Lib.hid (HBc.out.next hbd)
          clear hbd KW
          go_wp2_with fail
          go_ret
          exact ⟨ret_bool (by simp), HBd.out⟩
        · rw [decide_eq_false hpq]
          have hpl : ¬ (ofL pv).toList = (ofL pu).toList := by rw [toL_ofL, toL_ofL]; exact hpq
          have hpb : ((ofL pv).toList == (ofL pu).toList) = false := by rw [beq_eq_false_iff_ne]; exact hpl
          go_wp2_with fail
          (with_reducible refine KW.out.mono ?_); rintro e wd ⟨rfl, hbd⟩
          have HBd := Lib.hid (HBc.out.next hbd)
          clear hbd KW
          go_wp2_with fail
          go_ret
          exact ⟨ret_bool (by simp), HBd.out⟩
      · clear HLaw
        rcases hp4 with h1 | h1 <;> rcases hp4' with h2 | h2
        · exact absurd ⟨h1, h2⟩ hz
        all_goals
          subst h1
          subst h2
          go_wp2_with fail
          (with_reducible refine K9.out.mono ?_); rintro e w9 ⟨rfl, hb9⟩
          have HB9 := Lib.hid (HB8.out.next hb9)
          clear hb9 K9
          go_wp2_with fail
          go_ret
          exact ⟨ret_bool (by simp), HB9.out⟩
    · have hmi : ¬ (m : Int) = 0 := by omega
      subst hn
      go_wp2_with fail
      (with_reducible refine K5.out.mono ?_); rintro e w5 ⟨rfl, hb5⟩
      have HB5 := Lib.hid (HB4.out.next hb5)
      clear hb5
      go_wp2_with fail
      go_ret
      exact ⟨rfl, HB5.out⟩
  · have hni : ¬ (n : Int) = 0 := by omega
    go_wp2_with fail
    (with_reducible refine K5.out.mono ?_); rintro e w5 ⟨rfl, hb5⟩
    have HB5 := Lib.hid (HB4.out.next hb5)
    clear hb5
    go_wp2_with fail
    go_ret
    exact ⟨rfl, HB5.out⟩
end Go.Proofs.YthkpbgpgcpkiiaaGreatDoor
