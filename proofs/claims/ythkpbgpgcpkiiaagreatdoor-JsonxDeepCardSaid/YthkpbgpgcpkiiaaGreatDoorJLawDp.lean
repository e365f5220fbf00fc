/- The law JsonxDeep. Conditions: as awake's; the text lies in memory. -/
import Derived.Test.YthkpbgpgcpkiiaaGreatDoorJLawEq
namespace Go.Proofs.YthkpbgpgcpkiiaaGreatDoor
open Go.RowKit
set_option linter.unusedVariables false
set_option linter.unusedSimpArgs false
set_option maxRecDepth 100000

theorem nest_wt (u : J) : ∀ n, wtJ (nestJ n u) = n + wtJ u
  | 0 => by rw [nestJ]; omega
  | n + 1 => by rw [nestJ, wtJ, wtsJ, wtsJ, nest_wt u n]; simp; omega
/-- A list of one value, its five cells in a block of their own. -/
theorem rj_one {P : Nat → Prop} {w : World} {x : J} {A1 A2 : Option Addr} {m1 c1 m2 c2 g : Nat} (hR : RJ P w x [.int .i64 x.kind, .int .i64 x.int, .string (ofL x.text), .slice A1 m1 c1, .slice A2 m2 c2])
    (hg : w.heap[g]? = some (.cells #[.int .i64 x.kind, .int .i64 x.int, .string (ofL x.text), .slice A1 m1 c1, .slice A2 m2 c2] 25 (0, 0))) (hP : P g) :
    RJ P w (.mk 4 0 [] [] [x]) [.int .i64 4, .int .i64 0, .string ⟨#[]⟩, .slice none 0 0, .slice (some ⟨g, 0, none⟩) 1 1] := by
  rw [RJ]
  refine ⟨_, _, rfl, RdP.nil, [.int .i64 x.kind, .int .i64 x.int, .string (ofL x.text), .slice A1 m1 c1, .slice A2 m2 c2], ⟨⟨_, _, rfl⟩, .inr ⟨⟨rfl, some ⟨g, 0, none⟩, 1, rfl, Nat.le_refl _, by unfold maxLen; omega, (fun h => by cases h), fun a ha => ?_⟩, fun a n c hv => ?_⟩⟩, ?_⟩
  · cases ha
    refine ⟨rfl, fun j u hj => ?_⟩
    rw [Lib.cell_of_heap hg, Nat.zero_add, ← hj]; exact List.getElem?_toArray
  · cases hv; exact hP
  · rw [RJs]; exact ⟨_, [], by simp, hR, by rw [RJs]⟩
set_option maxHeartbeats 16000000 in
theorem lawDeep_any (z : Int) (s : ByteArray) (hs : s.size ≤ 140737488351232) (w : World) (hG : Good w) :
    Calls Tryz.prog 6 #[.int .i64 z, .string s] w fun e w' => e = .returned (.bool true) ∧ Below w.heap.size w w' := by
  have KA := Lib.hid (fun (w' : World) (hb : Below w.heap.size w w') => awake_any w' (hG.below hb))
  obtain ⟨n, hn, hn40⟩ := uMod z 40 (by omega) (by omega)
  have hn' : wrap64 ((IntKind.u64.wrap z).tmod 40) = (n : Int) := hn
  clear hn
  have HG := Lib.hid hG
  clear hG
  go_enter Tryz.func6, Tryz.ntmps6
  go_upto_region 2 with fail
  rw [hn']
  clear hn'
  by_cases hbig : s.size > 1000
  · have hbi : (s.size : Int) > 1000 := by omega
    have K := Lib.hid (KA.out w (Below.refl _ _))
    go_wp2_with fail
    (with_reducible refine K.out.mono ?_); rintro e w1 ⟨rfl, hb1⟩
    have HB1 := Lib.hid hb1
    clear hb1 K
    go_wp2_with fail
    go_ret
    exact ⟨rfl, HB1.out⟩
  have hbi : ¬ (s.size : Int) > 1000 := by omega
  obtain ⟨v, p, en, hv⟩ : ∃ v p n, parseJ s.toList = (v, p, n) := ⟨_, _, _, rfl⟩
  have K1 := Lib.hid (parse_at s hs w HG.out.1 hv)
  have HV := Lib.hid hv
  clear hv
  go_wp2_with fail
  (with_reducible refine K1.out.mono ?_); rintro e w1 ⟨A1, m1, c1, A2, m2, c2, rfl, hR, hb1⟩
  have HB1 := Lib.hid hb1
  clear hb1 K1
  have hb2 := (Below.refl w1.heap.size w1).alloc (Nat.le_refl _) (.cells #[.int .i64 v.kind, .int .i64 v.int, .string (ofL v.text), .slice A1 m1 c1, .slice A2 m2 c2] 25)
  have hk2 : (w1.alloc (.cells #[.int .i64 v.kind, .int .i64 v.int, .string (ofL v.text), .slice A1 m1 c1, .slice A2 m2 c2] 25)).heap[w1.heap.size]? = some (.cells #[.int .i64 v.kind, .int .i64 v.int, .string (ofL v.text), .slice A1 m1 c1, .slice A2 m2 c2] 25 (0, 0)) := heap_alloc_new w1 _
  have HR2 := Lib.hid (hR.grow hb2)
  clear hR
  go_upto_region 5 with fail
  generalize w1.alloc (.cells #[.int .i64 v.kind, .int .i64 v.int, .string (ofL v.text), .slice A1 m1 c1, .slice A2 m2 c2] 25) = w2 at *
  obtain ⟨d0, d1, d2, d3, d4, hz2⟩ := box5 hk2
  have HB2 := Lib.hid (HB1.out.next hb2)
  clear hb2 hk2
  have K5 := Lib.hid (KA.out _ HB2.out)
  by_cases he : en = 0
  · by_cases hk : v.kind ≥ 4
    · subst he
      go_wp2_with fail
      (with_reducible refine K5.out.mono ?_); rintro e w5 ⟨rfl, hb5⟩
      have HB5 := Lib.hid (HB2.out.next hb5)
      clear hb5
      go_wp2_with fail
      go_ret
      exact ⟨rfl, HB5.out⟩
    · subst he
      have hwt := parse_wt HV.out
      obtain ⟨hl1, hl2⟩ := deep_law HV.out (by rw [len_toL]; omega) (by omega) hn40
      have HL1 := Lib.hid hl1
      have HL2 := Lib.hid hl2
      clear hl1 hl2 HV K5
      have hb7 := (Below.refl w2.heap.size w2).alloc (Nat.le_refl _) (.cells #[.int .i64 v.kind, .int .i64 v.int, .string (ofL v.text), .slice A1 m1 c1, .slice A2 m2 c2] 25)
      have hk7 : JC (w2.alloc (.cells #[.int .i64 v.kind, .int .i64 v.int, .string (ofL v.text), .slice A1 m1 c1, .slice A2 m2 c2] 25)) w2.heap.size v.kind v.int (ofL v.text) (.slice A1 m1 c1) (.slice A2 m2 c2) := heap_alloc_new w2 _
      have hR7 := HR2.out.below hb7
      go_upto_region 8 with fail
      generalize w2.alloc (.cells #[.int .i64 v.kind, .int .i64 v.int, .string (ofL v.text), .slice A1 m1 c1, .slice A2 m2 c2] 25) = w7 at *
      have hz7 := hk7.lt
      have HB7 := Lib.hid (HB2.out.next hb7)
      have HK7 := Lib.hid hk7
      have HR7 := Lib.hid hR7
      clear hb7 hk7 hR7 d0 d1 d2 d3 d4
      go_upto_region 9 with fail
      have hso : s = ofL (nestB 0 s.toList) := by rw [nestB, ofL_toL]
      go_loopw [9, 38] (fun t i wr => ∃ (m : Nat) (A3 : Option Addr) (m3 c3 : Nat) (A4 : Option Addr) (m4 c4 : Nat), m ≤ n ∧ t = .string (ofL (nestB m s.toList)) ∧ i = .int .i64 m ∧ JC wr w2.heap.size (nestJ m v).kind (nestJ m v).int (ofL (nestJ m v).text) (.slice A3 m3 c3) (.slice A4 m4 c4) ∧
        Hid (RJ (fun b => b < wr.heap.size ∧ b ≠ w2.heap.size) wr (nestJ m v) [.int .i64 (nestJ m v).kind, .int .i64 (nestJ m v).int, .string (ofL (nestJ m v).text), .slice A3 m3 c3, .slice A4 m4 c4]) ∧ Hid (Touch (fun k => k = w2.heap.size) w7 wr)) (fun _ i _ => n - (intOf i).toNat)
      case atStart => exact ⟨0, A1, m1, c1, A2, m2, c2, Nat.zero_le _, congrArg Value.string hso, rfl, HK7.out, RJ.mono (fun b h _ => ⟨by have h' : b < w2.heap.size := h; omega, by have h' : b < w2.heap.size := h; omega⟩) _ _ HR7.out, Touch.refl _ _⟩
      case round =>
        obtain ⟨m, A3, m3, c3, A4, m4, c4, hm, rfl, rfl, hJ, hRr, hT⟩ := hrel
        have hzr : w7.heap.size ≤ wr.heap.size := hT.out.size
        by_cases hlt : m < n
        · have hnb : ofL (nestB (m + 1) s.toList) = ofL [91] ++ ofL (nestB m s.toList) ++ ofL [93] := by rw [nestB, ← ofL_app, ← ofL_app]; simp
          have hnj : nestJ (m + 1) v = .mk 4 0 [] [] [nestJ m v] := rfl
          have hlen : (ofL (nestB m s.toList)).size = s.size + 2 * m := by rw [size_ofL, nestB_len, len_toL]
          have HNb := Lib.hid hnb
          have HNj := Lib.hid hnj
          have k0 := hJ.c0
          have k1 := hJ.c1
          have k2 := hJ.c2
          have k3 := hJ.c3
          have k4 := hJ.c4
          have hba := (Below.refl wr.heap.size wr).alloc (Nat.le_refl _) (.cells #[.int .i64 (nestJ m v).kind, .int .i64 (nestJ m v).int, .string (ofL (nestJ m v).text), .slice A3 m3 c3, .slice A4 m4 c4] 25)
          have hka : (wr.alloc (.cells #[.int .i64 (nestJ m v).kind, .int .i64 (nestJ m v).int, .string (ofL (nestJ m v).text), .slice A3 m3 c3, .slice A4 m4 c4] 25)).heap[wr.heap.size]? = some (.cells #[.int .i64 (nestJ m v).kind, .int .i64 (nestJ m v).int, .string (ofL (nestJ m v).text), .slice A3 m3 c3, .slice A4 m4 c4] 25 (0, 0)) := heap_alloc_new wr _
          have hJa := hJ.below hba
          have hRa := hRr.out.below hba
          have p0 := hJa.c0
          have p1 := hJa.c1
          have p2 := hJa.c2
          have p3 := hJa.c3
          have p4 := hJa.c4
          have q0 := hJa.fz 0
          have q1 := hJa.fz 1
          have q2 := hJa.fz 2
          have q3 := hJa.fz 3
          have q4 := hJa.fz 4
          clear hnb hnj hso
          go_upto_region 11 with fail
          generalize wr.alloc (.cells #[.int .i64 (nestJ m v).kind, .int .i64 (nestJ m v).int, .string (ofL (nestJ m v).text), .slice A3 m3 c3, .slice A4 m4 c4] 25) = wa at *
          have hza : wr.heap.size < wa.heap.size := (Array.getElem?_eq_some_iff.1 hka).1
          have hJb := hJa.put 4 0 ⟨#[]⟩ (.slice none 0 0) (.slice (some ⟨wr.heap.size, 0, none⟩) 1 1)
          have htb : Touch (fun k => k = w2.heap.size) wa (putJ wa w2.heap.size 4 0 ⟨#[]⟩ (.slice none 0 0) (.slice (some ⟨wr.heap.size, 0, none⟩) 1 1)) :=
            (((((Touch.refl (fun k => k = w2.heap.size) wa).setCell (p := ⟨w2.heap.size, 0, none⟩) rfl _).setCell (p := ⟨w2.heap.size, 1, none⟩) rfl _).setCell (p := ⟨w2.heap.size, 2, none⟩) rfl _).setCell (p := ⟨w2.heap.size, 3, none⟩) rfl _).setCell (p := ⟨w2.heap.size, 4, none⟩) rfl _
          change Code.wp _ _ _ _ (putJ wa w2.heap.size 4 0 ⟨#[]⟩ (.slice none 0 0) (.slice (some ⟨wr.heap.size, 0, none⟩) 1 1))
          generalize putJ wa w2.heap.size 4 0 ⟨#[]⟩ (.slice none 0 0) (.slice (some ⟨wr.heap.size, 0, none⟩) 1 1) = wb at *
          have hzb := htb.size
          have hkb : wb.heap[wr.heap.size]? = some (.cells #[.int .i64 (nestJ m v).kind, .int .i64 (nestJ m v).int, .string (ofL (nestJ m v).text), .slice A3 m3 c3, .slice A4 m4 c4] 25 (0, 0)) := by
            rw [htb.block _ hza (fun e => by omega)]; exact hka
          have hRb : RJ (fun b => b < wb.heap.size ∧ b ≠ w2.heap.size) wb (nestJ m v) [.int .i64 (nestJ m v).kind, .int .i64 (nestJ m v).int, .string (ofL (nestJ m v).text), .slice A3 m3 c3, .slice A4 m4 c4] :=
            RJ.mono (fun b h _ => ⟨by have h' : b < wr.heap.size := h.1; omega, h.2⟩) _ _ (RJ.keep (touch_keeps htb (fun b h e => h.2 e)) _ _ hRa)
          have hRc := rj_one hRb hkb ⟨by omega, by omega⟩
          have HJb := Lib.hid hJb
          have HRc := Lib.hid hRc
          have HTb := Lib.hid ((hT.out.next hba).trans htb)
          clear hJb hRc hRb hkb htb hka hba hJa hRa p0 p1 p2 p3 p4 q0 q1 q2 q3 q4 k0 k1 k2 k3 k4 hJ
          go_wp2_with fail
          refine ⟨⟨m + 1, none, 0, 0, some ⟨wr.heap.size, 0, none⟩, 1, 1, by omega, congrArg Value.string HNb.out.symm, by go_num, ?_, ?_, HTb⟩, by simp [intOf]; omega⟩
          · rw [HNj.out]; exact HJb.out
          · rw [HNj.out]; exact HRc
        · have hmn : m = n := by omega
          subst hmn
          have HTr := Lib.hid (HB7.out.trans (hT.out.below (B := w.heap.size) (fun k hk e => by have e' : k = w2.heap.size := e; have := HB2.out.size; omega) (by have := HB7.out.size; exact this)))
          have HRr := Lib.hid (RJ.mono (Q := fun b => b < wr.heap.size) (fun b h _ => h.1) _ _ hRr.out)
          have hlen : (ofL (nestB m s.toList)).size = s.size + 2 * m := by rw [size_ofL, nestB_len, len_toL]
          have hwn : wtJ (nestJ m v) ≤ 1048576 := by rw [nest_wt]; omega
          have KC := Lib.hid (fun (w' : World) (hb : Below wr.heap.size wr w') => Check_any (nestJ m v) _ _ w' (HRr.out.grow hb) hwn)
          have k0 := hJ.c0
          have k1 := hJ.c1
          have k2 := hJ.c2
          have k3 := hJ.c3
          have k4 := hJ.c4
          clear hso hJ
          by_cases h16 : 16 < m
          · obtain ⟨hp, hc⟩ := HL1.out h16
            have KP := Lib.hid (parse_at (ofL (nestB m s.toList)) (by rw [hlen]; omega) wr (HG.out.below HTr.out).1 (v := J0) (p := 16) (n := 41) (by rw [toL_ofL]; exact hp))
            rw [hc] at KC
            have hmi : (m : Int) > 16 := by omega
            generalize nestJ m v = nv at *
            go_wp2_with fail
            (with_reducible refine KP.out.mono ?_); rintro e w8 ⟨A5, m5, c5, A6, m6, c6, rfl, hR8, hb8⟩
            have HB8 := Lib.hid hb8
            have k0 := Below.keeps hb8 k0
            have k1 := Below.keeps hb8 k1
            have k2 := Below.keeps hb8 k2
            have k3 := Below.keeps hb8 k3
            have k4 := Below.keeps hb8 k4
            clear hb8 KP
            have hb9 := (Below.refl w8.heap.size w8).alloc (Nat.le_refl _) (.cells #[.int .i64 J0.kind, .int .i64 J0.int, .string (ofL J0.text), .slice A5 m5 c5, .slice A6 m6 c6] 25)
            have hk9 : (w8.alloc (.cells #[.int .i64 J0.kind, .int .i64 J0.int, .string (ofL J0.text), .slice A5 m5 c5, .slice A6 m6 c6] 25)).heap[w8.heap.size]? = some (.cells #[.int .i64 J0.kind, .int .i64 J0.int, .string (ofL J0.text), .slice A5 m5 c5, .slice A6 m6 c6] 25 (0, 0)) := heap_alloc_new w8 _
            have HR9 := Lib.hid (hR8.grow hb9)
            have HB9 := Lib.hid (HB8.out.next hb9)
            have k0 := Below.keeps hb9 k0
            have k1 := Below.keeps hb9 k1
            have k2 := Below.keeps hb9 k2
            have k3 := Below.keeps hb9 k3
            have k4 := Below.keeps hb9 k4
            clear hR8
            go_upto_region 13 with fail
            generalize w8.alloc (.cells #[.int .i64 J0.kind, .int .i64 J0.int, .string (ofL J0.text), .slice A5 m5 c5, .slice A6 m6 c6] 25) = w9 at *
            obtain ⟨g0, g1, g2, g3, g4, hz9⟩ := box5 hk9
            clear hb9 hk9
            have KC := Lib.hid (KC.out _ HB9.out)
            go_wp2_with fail
            (with_reducible refine KC.out.mono ?_); rintro e wd ⟨rfl, hbd⟩
            have HBd := Lib.hid (HTr.out.next (HB9.out.next hbd))
            have KW := Lib.hid (KA.out _ HBd.out)
            clear hbd KC
            go_wp2_with fail
            (with_reducible refine KW.out.mono ?_); rintro e we ⟨rfl, hbe⟩
            have HBe := Lib.hid (HBd.out.next hbe)
            clear hbe KW
            go_wp2_with fail
            go_ret
            exact ⟨ret_bool (by simp), HBe.out⟩
          · obtain ⟨hp, hc⟩ := HL2.out (by omega)
            have KP := Lib.hid (parse_at (ofL (nestB m s.toList)) (by rw [hlen]; omega) wr (HG.out.below HTr.out).1 (v := nestJ m v) (p := 0) (n := 0) (by rw [toL_ofL]; exact hp))
            rw [hc] at KC
            have hmi : ¬ (m : Int) > 16 := by omega
            generalize nestJ m v = nv at *
            go_wp2_with fail
            (with_reducible refine KP.out.mono ?_); rintro e w8 ⟨A5, m5, c5, A6, m6, c6, rfl, hR8, hb8⟩
            have HB8 := Lib.hid hb8
            have k0 := Below.keeps hb8 k0
            have k1 := Below.keeps hb8 k1
            have k2 := Below.keeps hb8 k2
            have k3 := Below.keeps hb8 k3
            have k4 := Below.keeps hb8 k4
            clear hb8 KP
            have hb9 := (Below.refl w8.heap.size w8).alloc (Nat.le_refl _) (.cells #[.int .i64 nv.kind, .int .i64 nv.int, .string (ofL nv.text), .slice A5 m5 c5, .slice A6 m6 c6] 25)
            have hk9 : (w8.alloc (.cells #[.int .i64 nv.kind, .int .i64 nv.int, .string (ofL nv.text), .slice A5 m5 c5, .slice A6 m6 c6] 25)).heap[w8.heap.size]? = some (.cells #[.int .i64 nv.kind, .int .i64 nv.int, .string (ofL nv.text), .slice A5 m5 c5, .slice A6 m6 c6] 25 (0, 0)) := heap_alloc_new w8 _
            have HR9 := Lib.hid (hR8.grow hb9)
            have HB9 := Lib.hid (HB8.out.next hb9)
            have k0 := Below.keeps hb9 k0
            have k1 := Below.keeps hb9 k1
            have k2 := Below.keeps hb9 k2
            have k3 := Below.keeps hb9 k3
            have k4 := Below.keeps hb9 k4
            clear hR8
            go_upto_region 13 with fail
            generalize w8.alloc (.cells #[.int .i64 nv.kind, .int .i64 nv.int, .string (ofL nv.text), .slice A5 m5 c5, .slice A6 m6 c6] 25) = w9 at *
            obtain ⟨g0, g1, g2, g3, g4, hz9⟩ := box5 hk9
            clear hb9 hk9
            have KE := Lib.hid (equal_any nv hwn _ _ _ _ w9 (HRr.out.grow HB9.out) HR9.out)
            go_wp2_with fail
            (with_reducible refine KE.out.mono ?_); rintro e wc ⟨rfl, hbc⟩
            have HBc := Lib.hid (HB9.out.next hbc)
            have k0 := Below.keeps hbc k0
            have k1 := Below.keeps hbc k1
            have k2 := Below.keeps hbc k2
            have k3 := Below.keeps hbc k3
            have k4 := Below.keeps hbc k4
            have KC := Lib.hid (KC.out _ HBc.out)
            clear hbc KE
            go_wp2_with fail
            (with_reducible refine KC.out.mono ?_); rintro e wd ⟨rfl, hbd⟩
            have HBd := Lib.hid (HTr.out.next (HBc.out.next hbd))
            have KW := Lib.hid (KA.out _ HBd.out)
            clear hbd KC
            go_wp2_with fail
            (with_reducible refine KW.out.mono ?_); rintro e we ⟨rfl, hbe⟩
            have HBe := Lib.hid (HBd.out.next hbe)
            clear hbe KW
            go_wp2_with fail
            go_ret
            exact ⟨ret_bool (by simp), HBe.out⟩
  · have hni : ¬ (en : Int) = 0 := by omega
    go_wp2_with fail
    (with_reducible refine K5.out.mono ?_); rintro e w5 ⟨rfl, hb5⟩
    have HB5 := Lib.hid (HB2.out.next hb5)
    clear hb5
    go_wp2_with fail
    go_ret
    exact ⟨rfl, HB5.out⟩
end Go.Proofs.YthkpbgpgcpkiiaaGreatDoor
