/- The law JsonxCut. Conditions: the value lies in memory and is right; the program's variables hold what they hold. -/
import Derived.Test.YthkpbgpgcpkiiaaGreatDoorJLawC
import Derived.Test.YthkpbgpgcpkiiaaGreatDoorJsonK
import Derived.Test.YthkpbgpgcpkiiaaGreatDoorJsonO
namespace Go.Proofs.YthkpbgpgcpkiiaaGreatDoor
open Go.RowKit
set_option linter.unusedVariables false
set_option linter.unusedSimpArgs false
set_option maxRecDepth 100000

theorem print_no2 {v : J} (h : (printJ v).2 ≠ 0) : (printJ v).1 = [] := by
  unfold printJ at h ⊢
  split
  · rfl
  · rename_i h1
    rw [if_neg h1] at h
    split
    · rfl
    · rename_i h2; rw [if_neg h2] at h; exact absurd rfl h
set_option maxHeartbeats 16000000 in
theorem lawCut_any (v : J) (N I : Value) (z : Int) (w : World) (hR : RJ (fun b => b < w.heap.size) w v [.int .i64 v.kind, .int .i64 v.int, .string (ofL v.text), N, I]) (hwf : wfJ v = true) (hlen : lenJ v = true) (hG : Good w) :
    Calls Tryz.prog 5 #[.agg #[.int .i64 v.kind, .int .i64 v.int, .string (ofL v.text), N, I], .int .i64 z] w fun e w' => e = .returned (.bool true) ∧ Below w.heap.size w w' := by
  obtain ⟨⟨A1, m1, c1, rfl⟩, A2, m2, c2, rfl⟩ := rj_slices hR
  have hb1 := (Below.refl w.heap.size w).alloc (Nat.le_refl _) (.cells #[.int .i64 v.kind, .int .i64 v.int, .string (ofL v.text), .slice A1 m1 c1, .slice A2 m2 c2] 25)
  have hk1 : (w.alloc (.cells #[.int .i64 v.kind, .int .i64 v.int, .string (ofL v.text), .slice A1 m1 c1, .slice A2 m2 c2] 25)).heap[w.heap.size]? = some (.cells #[.int .i64 v.kind, .int .i64 v.int, .string (ofL v.text), .slice A1 m1 c1, .slice A2 m2 c2] 25 (0, 0)) := heap_alloc_new w _
  have HR := Lib.hid (hR.grow hb1)
  have HG := Lib.hid hG
  have KA := Lib.hid (fun (w' : World) (hb : Below w.heap.size w w') => awake_any w' (hG.below hb))
  clear hR hG
  go_enter Tryz.func5, Tryz.ntmps5
  go_upto_region 1 with fail
  generalize w.alloc (.cells #[.int .i64 v.kind, .int .i64 v.int, .string (ofL v.text), .slice A1 m1 c1, .slice A2 m2 c2] 25) = w1 at *
  obtain ⟨d0, d1, d2, d3, d4, hz1⟩ := box5 hk1
  have HB1 := Lib.hid hb1
  have K2 := Lib.hid (can_any v _ _ w1 hlen HR.out)
  clear hb1 hk1
  go_wp2_with fail
  (with_reducible refine K2.out.mono ?_); rintro e w2 ⟨bc, rfl, hbc, hb2⟩
  have HB2 := Lib.hid (HB1.out.next hb2)
  have d0 := Below.keeps hb2 d0
  have d1 := Below.keeps hb2 d1
  have d2 := Below.keeps hb2 d2
  have d3 := Below.keeps hb2 d3
  have d4 := Below.keeps hb2 d4
  have HR2 := Lib.hid (HR.out.grow hb2)
  have K3 := Lib.hid (KA.out _ HB2.out)
  have HC := Lib.hid hbc
  clear hb2 K2 hbc HR
  cases bc
  · go_wp2_with fail
    (with_reducible refine K3.out.mono ?_); rintro e w3 ⟨rfl, hb3⟩
    have HB3 := Lib.hid (HB2.out.next hb3)
    clear hb3
    go_wp2_with fail
    go_ret
    exact ⟨rfl, HB3.out⟩
  · have hwt := HC.out rfl
    have K4 := Lib.hid (own_any v (by omega) _ _ w2 HR2.out)
    clear K3 HC
    go_wp2_with fail
    (with_reducible refine K4.out.mono ?_); rintro e w3 ⟨A3, m3, c3, A4, m4, c4, rfl, hR3, hb3⟩
    have HB3 := Lib.hid (HB2.out.next hb3)
    have d0 := Below.keeps hb3 d0
    have d1 := Below.keeps hb3 d1
    have d2 := Below.keeps hb3 d2
    have d3 := Below.keeps hb3 d3
    have d4 := Below.keeps hb3 d4
    have HR3v := Lib.hid (HR2.out.grow hb3)
    have HR3 : Hid (RJ (fun b => b < w3.heap.size) w3 v [.int .i64 v.kind, .int .i64 v.int, .string (ofL v.text), .slice A3 m3 c3, .slice A4 m4 c4]) := Lib.hid (RJ.mono (fun b _ hb => hb) _ _ hR3)
    clear hR3 hb3 K4 HR2
    have K5 := Lib.hid (Print_any v _ _ w3 HR3.out hwf (by omega) (HG.out.below HB3.out).2.2 (HG.out.below HB3.out).2.1)
    have hct : (printJ v).2 = 0 → 3 ≤ v.kind → ∀ k, k < (printJ v).1.length → parseJ ((printJ v).1.take k) = (J0, k, 40) := fun h h3 k hk => cut_law hwf (s := (printJ v).1) (by rw [← h]) h3 hk
    have hnz : (printJ v).2 = 0 → 0 < (printJ v).1.length ∧ (printJ v).1.length ≤ 65536 := fun h => by
      have hbl := back_law (v := v) (s := (printJ v).1) hwf (by rw [← h])
      have h9 := print_ok (v := v) (s := (printJ v).1) (by rw [← h])
      refine ⟨?_, (parse_can hbl.1).2.2.2⟩
      rw [h9.2.1]
      exact List.length_pos_iff.2 (text_ne v hwf)
    have HCT := Lib.hid hct
    have HNZ := Lib.hid hnz
    clear hct hnz
    generalize hpv : (printJ v).1 = pv at *
    generalize (printJ v).2 = ev at *
    clear hpv
    go_wp2_with fail
    (with_reducible refine K5.out.mono ?_); rintro e w4 ⟨rfl, hb4⟩
    have HB4 := Lib.hid (HB3.out.next hb4)
    have d0 := Below.keeps hb4 d0
    have d1 := Below.keeps hb4 d1
    have d2 := Below.keeps hb4 d2
    have d3 := Below.keeps hb4 d3
    have d4 := Below.keeps hb4 d4
    have HR4v := Lib.hid (HR3v.out.grow hb4)
    have K6 := Lib.hid (KA.out _ HB4.out)
    clear hb4 K5 HR3 HR3v
    by_cases hev : ev = 0
    · subst hev
      have e00 : ((0 : Nat) : Int) = 0 := rfl
      obtain ⟨hp0, hp1⟩ := HNZ.out rfl
      by_cases h3 : v.kind < 3
      · clear HCT HNZ hp0 hp1
        go_wp2_with fail
        (with_reducible refine K6.out.mono ?_); rintro e w5 ⟨rfl, hbz⟩
        have HBz := Lib.hid (HB4.out.next hbz)
        clear hbz K6
        go_wp2_with fail
        go_ret
        exact ⟨rfl, HBz.out⟩
      · have HCT := Lib.hid (HCT.out rfl (by omega))
        clear HNZ K6
        obtain ⟨k, hk, hkl⟩ := uMod z pv.length hp0 (by omega)
        have hsp : (ofL pv).size = pv.length := size_ofL pv
        have K7 := parse_at ((ofL pv).extract 0 k) (by rw [ByteArray.size_extract, hsp]; omega) w4 (HG.out.below HB4.out).1 (v := J0) (p := k) (n := 40) (by rw [toL_to, toL_ofL]; exact HCT.out k hkl)
        have HK7 := Lib.hid K7
        clear K7 HCT
        generalize ofL pv = sp at *
        have hmax : max (sp.size : Int) 1 = sp.size := by omega
        rw [← hsp] at hk hkl hp0 hp1
        clear hsp
        go_upto_region 7 with fail
        rw [hk]
        clear hmax hk
        go_wp2_with fail
        (with_reducible refine HK7.out.mono ?_); rintro e w5 ⟨A5, m5, c5, A6, m6, c6, rfl, hR5, hb5⟩
        have HB5 := Lib.hid (HB4.out.next hb5)
        have hR5' : RJ (fun b => b < w5.heap.size) w5 J0 [.int .i64 0, .int .i64 0, .string ⟨#[]⟩, .slice A5 m5 c5, .slice A6 m6 c6] := hR5
        clear hb5 HK7 HR4v d0 d1 d2 d3 d4
        have hb6 := (Below.refl w5.heap.size w5).alloc (Nat.le_refl _) (.cells #[.int .i64 0, .int .i64 0, .string ⟨#[]⟩, .slice A5 m5 c5, .slice A6 m6 c6] 25)
        have hk6 : (w5.alloc (.cells #[.int .i64 0, .int .i64 0, .string ⟨#[]⟩, .slice A5 m5 c5, .slice A6 m6 c6] 25)).heap[w5.heap.size]? = some (.cells #[.int .i64 0, .int .i64 0, .string ⟨#[]⟩, .slice A5 m5 c5, .slice A6 m6 c6] 25 (0, 0)) := heap_alloc_new w5 _
        have HR6 := Lib.hid (hR5'.grow hb6)
        clear hR5 hR5'
        rw [show J0.kind = 0 from rfl, show J0.int = 0 from rfl, show ofL J0.text = ⟨#[]⟩ from rfl]
        go_upto_region 8 with fail
        generalize w5.alloc (.cells #[.int .i64 0, .int .i64 0, .string ⟨#[]⟩, .slice A5 m5 c5, .slice A6 m6 c6] 25) = w6 at *
        obtain ⟨g0, g1, g2, g3, g4, hz6⟩ := box5 hk6
        have HB6 := Lib.hid (HB5.out.next hb6)
        have KE : Calls Tryz.prog 17 #[.agg #[.int .i64 0, .int .i64 0, .string ⟨#[]⟩, .slice A5 m5 c5, .slice A6 m6 c6], .agg #[.int .i64 0, .int .i64 0, .string ⟨#[]⟩, .slice none 0 0, .slice none 0 0]] w6 fun e w' => e = .returned (.bool true) ∧ Below w6.heap.size w6 w' :=
          equal_any J0 (by rw [show wtJ J0 = 1 from rfl]; omega) _ _ _ _ w6 HR6.out (rj_plain 0 0 [])
        have KE := Lib.hid KE
        clear hb6 hk6
        go_wp2_with fail
        (with_reducible refine KE.out.mono ?_); rintro e w7 ⟨rfl, hb7⟩
        have HB7 := Lib.hid (HB6.out.next hb7)
        have K9 := Lib.hid (KA.out _ HB7.out)
        clear hb7 KE
        go_wp2_with fail
        (with_reducible refine K9.out.mono ?_); rintro e w8 ⟨rfl, hbz⟩
        have HBz := Lib.hid (HB7.out.next hbz)
        clear hbz K9
        go_wp2_with fail
        go_ret
        exact ⟨ret_bool (by simp), HBz.out⟩
    · have hni : ¬ (ev : Int) = 0 := by omega
      clear HCT HNZ
      go_wp2_with fail
      (with_reducible refine K6.out.mono ?_); rintro e w5 ⟨rfl, hbz⟩
      have HBz := Lib.hid (HB4.out.next hbz)
      clear hbz K6
      go_wp2_with fail
      go_ret
      exact ⟨rfl, HBz.out⟩
end Go.Proofs.YthkpbgpgcpkiiaaGreatDoor
