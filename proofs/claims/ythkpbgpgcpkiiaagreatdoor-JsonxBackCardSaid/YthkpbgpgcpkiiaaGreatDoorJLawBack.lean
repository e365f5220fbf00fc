/- The law JsonxBack. Conditions: the value lies in memory and is right; the program's variables hold what they hold. -/
import Derived.Test.YthkpbgpgcpkiiaaGreatDoorJLawC
import Derived.Test.YthkpbgpgcpkiiaaGreatDoorJsonO
namespace Go.Proofs.YthkpbgpgcpkiiaaGreatDoor
open Go.RowKit
set_option linter.unusedVariables false
set_option linter.unusedSimpArgs false
set_option maxRecDepth 100000

theorem print_no {v : J} (h : (printJ v).2 ≠ 0) : (printJ v).1 = [] := by
  unfold printJ at h ⊢
  split
  · rfl
  · rename_i h1
    rw [if_neg h1] at h
    split
    · rfl
    · rename_i h2; rw [if_neg h2] at h; exact absurd rfl h
set_option maxHeartbeats 16000000 in
theorem lawBack_any (v : J) (N I : Value) (w : World) (hR : RJ (fun b => b < w.heap.size) w v [.int .i64 v.kind, .int .i64 v.int, .string (ofL v.text), N, I]) (hwf : wfJ v = true) (hlen : lenJ v = true) (hG : Good w) :
    Calls Tryz.prog 7 #[.agg #[.int .i64 v.kind, .int .i64 v.int, .string (ofL v.text), N, I]] w fun e w' => e = .returned (.bool true) ∧ Below w.heap.size w w' := by
  obtain ⟨⟨A1, m1, c1, rfl⟩, A2, m2, c2, rfl⟩ := rj_slices hR
  have hb1 := (Below.refl w.heap.size w).alloc (Nat.le_refl _) (.cells #[.int .i64 v.kind, .int .i64 v.int, .string (ofL v.text), .slice A1 m1 c1, .slice A2 m2 c2] 25)
  have hk1 : (w.alloc (.cells #[.int .i64 v.kind, .int .i64 v.int, .string (ofL v.text), .slice A1 m1 c1, .slice A2 m2 c2] 25)).heap[w.heap.size]? = some (.cells #[.int .i64 v.kind, .int .i64 v.int, .string (ofL v.text), .slice A1 m1 c1, .slice A2 m2 c2] 25 (0, 0)) := heap_alloc_new w _
  have HR := Lib.hid (hR.grow hb1)
  have HG := Lib.hid hG
  have KA := Lib.hid (fun (w' : World) (hb : Below w.heap.size w w') => awake_any w' (hG.below hb))
  clear hR hG
  go_enter Tryz.func7, Tryz.ntmps7
  go_upto_region 1 with fail
  generalize w.alloc (.cells #[.int .i64 v.kind, .int .i64 v.int, .string (ofL v.text), .slice A1 m1 c1, .slice A2 m2 c2] 25) = w1 at *
  obtain ⟨d0, d1, d2, d3, d4, hz1⟩ := box5 hk1
  have HB1 := Lib.hid hb1
  have K2 := Lib.hid (can_any v _ _ w1 hlen HR.out)
  clear hb1 hk1
  go_wp2_with fail
  (with_reducible refine K2.out.mono ?_); rintro e w2 ⟨bc, rfl, hbc, hb2⟩
  have HB2 := Lib.hid (HB1.out.next hb2)
  have d0 := Below.keeps hb2 d0
  have d1 := Below.keeps hb2 d1
  have d2 := Below.keeps hb2 d2
  have d3 := Below.keeps hb2 d3
  have d4 := Below.keeps hb2 d4
  have HR2 := Lib.hid (HR.out.grow hb2)
  have K3 := Lib.hid (KA.out _ HB2.out)
  have HC := Lib.hid hbc
  clear hb2 K2 hbc HR
  cases bc
  · go_wp2_with fail
    (with_reducible refine K3.out.mono ?_); rintro e w3 ⟨rfl, hb3⟩
    have HB3 := Lib.hid (HB2.out.next hb3)
    clear hb3
    go_wp2_with fail
    go_ret
    exact ⟨rfl, HB3.out⟩
  · have hwt := HC.out rfl
    have K4 := Lib.hid (own_any v (by omega) _ _ w2 HR2.out)
    clear K3 HC
    go_wp2_with fail
    (with_reducible refine K4.out.mono ?_); rintro e w3 ⟨A3, m3, c3, A4, m4, c4, rfl, hR3, hb3⟩
    have HB3 := Lib.hid (HB2.out.next hb3)
    have d0 := Below.keeps hb3 d0
    have d1 := Below.keeps hb3 d1
    have d2 := Below.keeps hb3 d2
    have d3 := Below.keeps hb3 d3
    have d4 := Below.keeps hb3 d4
    have HR3v := Lib.hid (HR2.out.grow hb3)
    have HR3 : Hid (RJ (fun b => b < w3.heap.size) w3 v [.int .i64 v.kind, .int .i64 v.int, .string (ofL v.text), .slice A3 m3 c3, .slice A4 m4 c4]) := Lib.hid (RJ.mono (fun b _ hb => hb) _ _ hR3)
    clear hR3 hb3 K4 HR2
    have K5 := Lib.hid (Print_any v _ _ w3 HR3.out hwf (by omega) (HG.out.below HB3.out).2.2 (HG.out.below HB3.out).2.1)
    have hno := print_no (v := v)
    have hbk : (printJ v).2 = 0 → parseJ (printJ v).1 = (canonJ v, 0, 0) ∧ printJ (canonJ v) = ((printJ v).1, 0) ∧ sameJ v (canonJ v) = true := fun h => by
      have := back_law (v := v) (s := (printJ v).1) hwf (by rw [← h])
      exact ⟨this.1, this.2.1, this.2.2.1⟩
    have HBK := Lib.hid hbk
    have HNO := Lib.hid hno
    clear hbk hno
    generalize (printJ v).1 = pv at *
    generalize (printJ v).2 = ev at *
    go_wp2_with fail
    (with_reducible refine K5.out.mono ?_); rintro e w4 ⟨rfl, hb4⟩
    have HB4 := Lib.hid (HB3.out.next hb4)
    have d0 := Below.keeps hb4 d0
    have d1 := Below.keeps hb4 d1
    have d2 := Below.keeps hb4 d2
    have d3 := Below.keeps hb4 d3
    have d4 := Below.keeps hb4 d4
    have HR4v := Lib.hid (HR3v.out.grow hb4)
    have K6 := Lib.hid (KA.out _ HB4.out)
    clear hb4 K5 HR3 HR3v
    by_cases hev : ev = 0
    · subst hev
      obtain ⟨hp, hpr, hsame⟩ := HBK.out rfl
      have hwfx := (parse_can hp).1.2
      have hwtx := parse_wt hp
      have hpl := (parse_can hp).2.2.2
      clear HBK HNO K6
      generalize canonJ v = x at *
      have K7 := Lib.hid (parse_at (ofL pv) (by rw [size_ofL]; omega) w4 (HG.out.below HB4.out).1 (v := x) (p := 0) (n := 0) (by rw [toL_ofL]; exact hp))
      have e00 : ((0 : Nat) : Int) = 0 := rfl
      have HPR := Lib.hid hpr
      have HSM := Lib.hid hsame
      clear hp hpr hsame hpl
      go_wp2_with fail
      (with_reducible refine K7.out.mono ?_); rintro e w5 ⟨A5, m5, c5, A6, m6, c6, rfl, hR5, hb5⟩
      have HB5 := Lib.hid (HB4.out.next hb5)
      have d0 := Below.keeps hb5 d0
      have d1 := Below.keeps hb5 d1
      have d2 := Below.keeps hb5 d2
      have d3 := Below.keeps hb5 d3
      have d4 := Below.keeps hb5 d4
      have HR5v := Lib.hid (HR4v.out.grow hb5)
      clear hb5 K7 HR4v
      have hb6 := (Below.refl w5.heap.size w5).alloc (Nat.le_refl _) (.cells #[.int .i64 x.kind, .int .i64 x.int, .string (ofL x.text), .slice A5 m5 c5, .slice A6 m6 c6] 25)
      have hk6 : (w5.alloc (.cells #[.int .i64 x.kind, .int .i64 x.int, .string (ofL x.text), .slice A5 m5 c5, .slice A6 m6 c6] 25)).heap[w5.heap.size]? = some (.cells #[.int .i64 x.kind, .int .i64 x.int, .string (ofL x.text), .slice A5 m5 c5, .slice A6 m6 c6] 25 (0, 0)) := heap_alloc_new w5 _
      have HR6 := Lib.hid (hR5.grow hb6)
      clear hR5
      go_upto_region 7 with fail
      generalize w5.alloc (.cells #[.int .i64 x.kind, .int .i64 x.int, .string (ofL x.text), .slice A5 m5 c5, .slice A6 m6 c6] 25) = w6 at *
      obtain ⟨g0, g1, g2, g3, g4, hz6⟩ := box5 hk6
      have HB6 := Lib.hid (HB5.out.next hb6)
      have d0 := Below.keeps hb6 d0
      have d1 := Below.keeps hb6 d1
      have d2 := Below.keeps hb6 d2
      have d3 := Below.keeps hb6 d3
      have d4 := Below.keeps hb6 d4
      have HR6v := Lib.hid (HR5v.out.grow hb6)
      clear hb6 hk6 HR5v
      have K8 := Print_any x _ _ w6 HR6.out hwfx (by omega) (HG.out.below HB6.out).2.2 (HG.out.below HB6.out).2.1
      rw [HPR.out] at K8
      have K8 := Lib.hid K8
      go_wp2_with fail
      (with_reducible refine K8.out.mono ?_); rintro e w7 ⟨rfl, hb7⟩
      have HB7 := Lib.hid (HB6.out.next hb7)
      have d0 := Below.keeps hb7 d0
      have d1 := Below.keeps hb7 d1
      have d2 := Below.keeps hb7 d2
      have d3 := Below.keeps hb7 d3
      have d4 := Below.keeps hb7 d4
      have g0 := Below.keeps hb7 g0
      have g1 := Below.keeps hb7 g1
      have g2 := Below.keeps hb7 g2
      have g3 := Below.keeps hb7 g3
      have g4 := Below.keeps hb7 g4
      have HR7 := Lib.hid (HR6.out.grow hb7)
      have HR7v := Lib.hid (HR6v.out.grow hb7)
      clear hb7 K8 HR6 HR6v
      have K9 := Same_any v x _ _ _ _ w7 HR7v.out HR7.out hwf (by omega) hwfx (by omega) (HG.out.below HB7.out).2.2 (HG.out.below HB7.out).2.1
      rw [HSM.out] at K9
      have K9 := Lib.hid K9
      go_wp2_with fail
      (with_reducible refine K9.out.mono ?_); rintro e w8 ⟨rfl, hb8⟩
      have HB8 := Lib.hid (HB7.out.next hb8)
      have Ka := Lib.hid (KA.out _ HB8.out)
      clear hb8 K9
      go_wp2_with fail
      (with_reducible refine Ka.out.mono ?_); rintro e w9 ⟨rfl, hbz⟩
      have HBz := Lib.hid (HB8.out.next hbz)
      clear hbz Ka
      go_wp2_with fail
      go_ret
      exact ⟨ret_bool (by simp), HBz.out⟩
    · have hni : ¬ (ev : Int) = 0 := by omega
      have hpe := HNO.out hev
      subst hpe
      have hse : ((ofL ([] : B)).toList == ([] : List UInt8)) = true := by rw [toL_ofL]; rfl
      clear HBK HNO
      go_wp2_with fail
      (with_reducible refine K6.out.mono ?_); rintro e w5 ⟨rfl, hbz⟩
      have HBz := Lib.hid (HB4.out.next hbz)
      clear hbz K6
      go_wp2_with fail
      go_ret
      exact ⟨ret_bool (by simp), HBz.out⟩
end Go.Proofs.YthkpbgpgcpkiiaaGreatDoor
