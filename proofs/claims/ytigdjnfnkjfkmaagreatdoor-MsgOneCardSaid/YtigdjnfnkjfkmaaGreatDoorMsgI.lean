/- A message taken out of a value: a patch (msg's reader.message). Conditions: the value is small. A message taken out of a value, of any type (msg's reader.message). Conditions: the value is small. -/
import Derived.Test.YtigdjnfnkjfkmaaGreatDoorMsgH
namespace Go.Proofs.YtigdjnfnkjfkmaaGreatDoor
open Go.RowKit
set_option linter.unusedVariables false
set_option linter.unusedSimpArgs false
set_option maxRecDepth 100000

set_option maxHeartbeats 16000000 in
theorem rmsg_patch (x : J) (N I : Value) (rb : Nat) (b : Bool) (w : World)
    (hR : RJ (fun k => k < w.heap.size ∧ ¬ k = rb) w x [.int .i64 x.kind, .int .i64 x.int, .string (ofL x.text), N, I]) (hwt : wtJ x ≤ 1048576) (hB : RB w rb b) :
    Calls Tryz.prog 43 #[.pointer (some ⟨rb, 0, none⟩), .agg #[.int .i64 x.kind, .int .i64 x.int, .string (ofL x.text), N, I], .string (ofL patchN)] w (MsgP rb (msgR x patchN).2 (b || (msgR x patchN).1) w) := by
  obtain ⟨⟨A1, m1, c1, rfl⟩, A2, m2, c2, rfl⟩ := rj_slices hR
  have KO := fun (w' : World) (nv : Value) (hb : Below w.heap.size w w') (hN : RdP (fun k => k < w'.heap.size ∧ ¬ k = rb) w' 1 nv 6 (strs [typeN, fromN, cookieN, lastN, topN, listN])) (hB' : RB w' rb b) =>
    robject_any x _ _ nv [typeN, fromN, cookieN, lastN, topN, listN] rb b w' (RJ.mono (fun k hk _ => ⟨Nat.lt_of_lt_of_le hk.1 hb.size, hk.2⟩) _ _ (RJ.below hR hb)) hwt hN (by show 6 ≤ 1000; decide) hB'
  have hlt := hB.lt
  obtain ⟨bl, xs, hox⟩ : ∃ bl xs, objR x [typeN, fromN, cookieN, lastN, topN, listN] = (bl, xs) := ⟨_, _, rfl⟩
  have hxl : xs.length = 6 := by have := congrArg (fun p => p.2.length) hox; simpa [objR] using this.symm
  have hxw := objR_wt x [typeN, fromN, cookieN, lastN, topN, listN]
  rw [hox] at hxw
  obtain ⟨x0, x1, x2, x3, x4, x5, rfl⟩ := len6 hxl
  have hmr : msgR x patchN = (bl || !decide (x1.kind = 2) || !decide (x2.kind = 2) || !decide (x3.kind = 2) || !decide (x4.kind = 2) || !decide (x5.kind = 4) || (x5.items.map logR).any (·.1), ⟨4, [], x1.int, x2.int, x3.int, x4.int, (x5.items.map logR).map (·.2)⟩) := by
    unfold msgR
    rw [hox]
    rfl
  rw [hmr]
  rw [hox] at KO
  have hw2 : wtJ x5 ≤ 1048576 := Nat.le_trans (hxw x5 (by simp)) hwt
  have HKO := Lib.hid KO
  have hall : ∃ W, W = ((w.alloc (.cells #[.int .i64 x.kind, .int .i64 x.int, .string (ofL x.text), .slice A1 m1 c1, .slice A2 m2 c2] 49)).alloc (.cells #[.int .i64 0, .string ⟨#[]⟩, .int .i64 0, .int .i64 0, .int .i64 0, .int .i64 0, .slice none 0 0] 24)).alloc (.cells #[.int .i64 0, .string ⟨#[]⟩, .int .i64 0, .int .i64 0, .int .i64 0, .int .i64 0, .slice none 0 0] 24) ∧ JC W w.heap.size x.kind x.int (ofL x.text) (.slice A1 m1 c1) (.slice A2 m2 c2) ∧ CB W (w.heap.size + 1) #[.int .i64 0, .string ⟨#[]⟩, .int .i64 0, .int .i64 0, .int .i64 0, .int .i64 0, .slice none 0 0] 24 ∧ CB W (w.heap.size + 1 + 1) #[.int .i64 0, .string ⟨#[]⟩, .int .i64 0, .int .i64 0, .int .i64 0, .int .i64 0, .slice none 0 0] 24 ∧ Below w.heap.size w W := by
    have h2 := (Below.refl (w.alloc (.cells #[.int .i64 x.kind, .int .i64 x.int, .string (ofL x.text), .slice A1 m1 c1, .slice A2 m2 c2] 49)).heap.size (w.alloc (.cells #[.int .i64 x.kind, .int .i64 x.int, .string (ofL x.text), .slice A1 m1 c1, .slice A2 m2 c2] 49))).alloc (Nat.le_refl _) (.cells #[.int .i64 0, .string ⟨#[]⟩, .int .i64 0, .int .i64 0, .int .i64 0, .int .i64 0, .slice none 0 0] 24)
    have h3 := (Below.refl ((w.alloc (.cells #[.int .i64 x.kind, .int .i64 x.int, .string (ofL x.text), .slice A1 m1 c1, .slice A2 m2 c2] 49)).alloc (.cells #[.int .i64 0, .string ⟨#[]⟩, .int .i64 0, .int .i64 0, .int .i64 0, .int .i64 0, .slice none 0 0] 24)).heap.size ((w.alloc (.cells #[.int .i64 x.kind, .int .i64 x.int, .string (ofL x.text), .slice A1 m1 c1, .slice A2 m2 c2] 49)).alloc (.cells #[.int .i64 0, .string ⟨#[]⟩, .int .i64 0, .int .i64 0, .int .i64 0, .int .i64 0, .slice none 0 0] 24))).alloc (Nat.le_refl _) (.cells #[.int .i64 0, .string ⟨#[]⟩, .int .i64 0, .int .i64 0, .int .i64 0, .int .i64 0, .slice none 0 0] 24)
    refine ⟨_, rfl, (JC.below (show JC (w.alloc _) w.heap.size _ _ _ _ _ from heap_alloc_new w _) h2).below h3, ?_, ?_, (((Below.refl w.heap.size w).alloc (Nat.le_refl _) _).next h2).next h3⟩
    · have := CB.new (w.alloc (.cells #[.int .i64 x.kind, .int .i64 x.int, .string (ofL x.text), .slice A1 m1 c1, .slice A2 m2 c2] 49)) #[.int .i64 0, .string ⟨#[]⟩, .int .i64 0, .int .i64 0, .int .i64 0, .int .i64 0, .slice none 0 0] 24
      rw [World.size_alloc] at this; exact this.below h3
    · have := CB.new ((w.alloc (.cells #[.int .i64 x.kind, .int .i64 x.int, .string (ofL x.text), .slice A1 m1 c1, .slice A2 m2 c2] 49)).alloc (.cells #[.int .i64 0, .string ⟨#[]⟩, .int .i64 0, .int .i64 0, .int .i64 0, .int .i64 0, .slice none 0 0] 24)) #[.int .i64 0, .string ⟨#[]⟩, .int .i64 0, .int .i64 0, .int .i64 0, .int .i64 0, .slice none 0 0] 24
      rw [World.size_alloc, World.size_alloc] at this; exact this
  obtain ⟨w1, hw1, hj1, hm1, hn1, hb1⟩ := hall
  generalize hvb : w.heap.size + 1 = vb at *
  generalize hvc : vb + 1 = vc at *
  clear hR KO hxl hmr hox hwt hxw
  obtain ⟨s, hs⟩ : ∃ s : ByteArray, s = ofL patchN := ⟨_, rfl⟩
  rw [← hs]
  have htpush : (s.toList == [112, 117, 115, 104]) = false := by rw [hs, toL_ofL]; decide
  have htpushed : (s.toList == [112, 117, 115, 104, 101, 100]) = false := by rw [hs, toL_ofL]; decide
  have htpull : (s.toList == [112, 117, 108, 108]) = false := by rw [hs, toL_ofL]; decide
  have htpatch : (s.toList == [112, 97, 116, 99, 104]) = true := by rw [hs, toL_ofL]; decide
  clear hs
  generalize x.kind = k at *
  generalize x.int = i at *
  generalize ofL x.text = t at *
  go_enter Tryz.func43, Tryz.ntmps43
  go_upto_region 2 with fail
  try simp only [hvb, hvc]
  rw [← hw1]
  clear hw1
  have d0 := hj1.c0
  have d1 := hj1.c1
  have d2 := hj1.c2
  have d3 := hj1.c3
  have d4 := hj1.c4
  have hz1 := hn1.lt
  have hb2 := (Below.refl w1.heap.size w1).alloc (Nat.le_refl _) (.cells ([Value.string ⟨#[116, 121, 112, 101]⟩, .string ⟨#[102, 114, 111, 109]⟩, .string ⟨#[99, 111, 111, 107, 105, 101]⟩, .string ⟨#[108, 97, 115, 116]⟩, .string ⟨#[116, 111, 112]⟩, .string ⟨#[108, 105, 115, 116]⟩]).toArray 9)
  have hN2 := RdP.mono (Q := fun k => k < (w1.alloc (.cells ([Value.string ⟨#[116, 121, 112, 101]⟩, .string ⟨#[102, 114, 111, 109]⟩, .string ⟨#[99, 111, 111, 107, 105, 101]⟩, .string ⟨#[108, 97, 115, 116]⟩, .string ⟨#[116, 111, 112]⟩, .string ⟨#[108, 105, 115, 116]⟩]).toArray 9)).heap.size ∧ ¬ k = rb) (rdp_new1 (w := w1) (ty := 9) [Value.string ⟨#[116, 121, 112, 101]⟩, .string ⟨#[102, 114, 111, 109]⟩, .string ⟨#[99, 111, 111, 107, 105, 101]⟩, .string ⟨#[108, 97, 115, 116]⟩, .string ⟨#[116, 111, 112]⟩, .string ⟨#[108, 105, 115, 116]⟩] (show 6 = 6 * 1 from rfl) (by decide)) (by omega) (fun k hk _ => ⟨hk.2, by have := hk.1; omega⟩)
  have K := Lib.hid (HKO.out _ _ (hb1.next hb2) (show RdP _ _ 1 _ 6 (strs [typeN, fromN, cookieN, lastN, topN, listN]) from hN2) ((hB.below hb1).below hb2))
  have hm2 := hm1.below hb2
  have hn2 := hn1.below hb2
  have hb12 := hb1.next hb2
  clear hN2 hb2
  go_wp2_with fail
  (with_reducible refine K.out.mono ?_); rintro e w2 ⟨A, c, ys, rfl, hRd, hRs, hB2, hT2⟩
  obtain ⟨g, o, rfl, hg, hcs⟩ := cells_of hRd (by rfl) hRs (by decide)
  have hg' : (w1.alloc (.cells ([Value.string ⟨#[116, 121, 112, 101]⟩, .string ⟨#[102, 114, 111, 109]⟩, .string ⟨#[99, 111, 111, 107, 105, 101]⟩, .string ⟨#[108, 97, 115, 116]⟩, .string ⟨#[116, 111, 112]⟩, .string ⟨#[108, 105, 115, 116]⟩]).toArray 9)).heap.size ≤ g := hg
  rw [World.size_alloc] at hg'
  have hgr : ¬ g = rb := by have := hb12.size; omega
  have hgv : ¬ g = vc := by omega
  obtain ⟨B1, n1, e1, C1, p1, f1, -, c10, c11, c12, c13, c14⟩ := hcs 1 x1 rfl
  obtain ⟨B2, n2, e2, C2, p2, f2, -, c20, c21, c22, c23, c24⟩ := hcs 2 x2 rfl
  obtain ⟨B3, n3, e3, C3, p3, f3, -, c30, c31, c32, c33, c34⟩ := hcs 3 x3 rfl
  obtain ⟨B4, n4, e4, C4, p4, f4, -, c40, c41, c42, c43, c44⟩ := hcs 4 x4 rfl
  obtain ⟨B5, n5, e5, C5, p5, f5, hX, c50, c51, c52, c53, c54⟩ := hcs 5 x5 rfl
  simp only [Nat.zero_mul, Nat.add_zero, Nat.one_mul, Nat.add_assoc, Nat.reduceMul, Nat.reduceAdd] at c10 c11 c12 c13 c14 c20 c21 c22 c23 c24 c30 c31 c32 c33 c34 c40 c41 c42 c43 c44 c50 c51 c52 c53 c54
  obtain ⟨g0, hg0⟩ : ∃ g0, g0 = (w1.alloc (.cells ([Value.string ⟨#[116, 121, 112, 101]⟩, .string ⟨#[102, 114, 111, 109]⟩, .string ⟨#[99, 111, 111, 107, 105, 101]⟩, .string ⟨#[108, 97, 115, 116]⟩, .string ⟨#[116, 111, 112]⟩, .string ⟨#[108, 105, 115, 116]⟩]).toArray 9)).heap.size := ⟨_, rfl⟩
  have hX0 := RJ.mono (Q := fun k => g0 ≤ k) (fun k hk _ => by rw [hg0]; exact hk) _ _ hX
  have hz0 : w1.heap.size < g0 := by rw [hg0, World.size_alloc]; exact Nat.lt_succ_self _
  have HRB := Lib.hid hB2
  have HT := Lib.hid ((Touch.of_below (F := fun k => k = rb) hb12).trans hT2)
  have HM := Lib.hid (hm2.touch hT2 (by omega))
  have HN := Lib.hid (hn2.touch hT2 (by omega))
  have HX := Lib.hid hX0
  have hw12 : w.heap.size ≤ w1.heap.size := hb1.size
  have hwz2 : g0 ≤ w2.heap.size := by rw [hg0]; exact hT2.size
  clear hcs hRs hRd hB2 hT2 hB hm1 hm2 hn1 hn2 hj1 hb1 hb12 K d0 d1 d2 d3 d4 hg hg' hX hX0 hg0
  have hd := (Below.refl w2.heap.size w2).drew
  have q10 := Below.keeps hd c10
  have q11 := Below.keeps hd c11
  have q12 := Below.keeps hd c12
  have q13 := Below.keeps hd c13
  have q14 := Below.keeps hd c14
  have q20 := Below.keeps hd c20
  have q21 := Below.keeps hd c21
  have q22 := Below.keeps hd c22
  have q23 := Below.keeps hd c23
  have q24 := Below.keeps hd c24
  have q30 := Below.keeps hd c30
  have q31 := Below.keeps hd c31
  have q32 := Below.keeps hd c32
  have q33 := Below.keeps hd c33
  have q34 := Below.keeps hd c34
  have q40 := Below.keeps hd c40
  have q41 := Below.keeps hd c41
  have q42 := Below.keeps hd c42
  have q43 := Below.keeps hd c43
  have q44 := Below.keeps hd c44
  have q50 := Below.keeps hd c50
  have q51 := Below.keeps hd c51
  have q52 := Below.keeps hd c52
  have q53 := Below.keeps hd c53
  have q54 := Below.keeps hd c54
  have HRB := Lib.hid (HRB.out.below hd)
  have HT := Lib.hid (HT.out.next hd)
  have HM := Lib.hid (HM.out.below hd)
  have HN := Lib.hid (HN.out.below hd)
  have HX := Lib.hid (RJ.below HX.out hd)
  have hwd : g0 ≤ w2.drew.heap.size := Nat.le_trans hwz2 hd.size
  clear c10 c11 c12 c13 c14 c20 c21 c22 c23 c24 c30 c31 c32 c33 c34 c40 c41 c42 c43 c44 c50 c51 c52 c53 c54 hd
  go_upto_region 20 with fail
  go_region_held3 (fun w' => w'.cell? ⟨g, o + 5, none⟩ = some (.int .i64 x1.kind) ∧ w'.cell? ⟨g, o + 6, none⟩ = some (.int .i64 x1.int) ∧ w'.cell? ⟨g, o + 7, none⟩ = some (.string (ofL x1.text)) ∧ w'.cell? ⟨g, o + 8, none⟩ = some (.slice B1 n1 e1) ∧ w'.cell? ⟨g, o + 9, none⟩ = some (.slice C1 p1 f1) ∧ w'.cell? ⟨g, o + 10, none⟩ = some (.int .i64 x2.kind) ∧ w'.cell? ⟨g, o + 11, none⟩ = some (.int .i64 x2.int) ∧ w'.cell? ⟨g, o + 12, none⟩ = some (.string (ofL x2.text)) ∧ w'.cell? ⟨g, o + 13, none⟩ = some (.slice B2 n2 e2) ∧ w'.cell? ⟨g, o + 14, none⟩ = some (.slice C2 p2 f2) ∧ w'.cell? ⟨g, o + 15, none⟩ = some (.int .i64 x3.kind) ∧ w'.cell? ⟨g, o + 16, none⟩ = some (.int .i64 x3.int) ∧ w'.cell? ⟨g, o + 17, none⟩ = some (.string (ofL x3.text)) ∧ w'.cell? ⟨g, o + 18, none⟩ = some (.slice B3 n3 e3) ∧ w'.cell? ⟨g, o + 19, none⟩ = some (.slice C3 p3 f3) ∧ w'.cell? ⟨g, o + 20, none⟩ = some (.int .i64 x4.kind) ∧ w'.cell? ⟨g, o + 21, none⟩ = some (.int .i64 x4.int) ∧ w'.cell? ⟨g, o + 22, none⟩ = some (.string (ofL x4.text)) ∧ w'.cell? ⟨g, o + 23, none⟩ = some (.slice B4 n4 e4) ∧ w'.cell? ⟨g, o + 24, none⟩ = some (.slice C4 p4 f4) ∧ w'.cell? ⟨g, o + 25, none⟩ = some (.int .i64 x5.kind) ∧ w'.cell? ⟨g, o + 26, none⟩ = some (.int .i64 x5.int) ∧ w'.cell? ⟨g, o + 27, none⟩ = some (.string (ofL x5.text)) ∧ w'.cell? ⟨g, o + 28, none⟩ = some (.slice B5 n5 e5) ∧ w'.cell? ⟨g, o + 29, none⟩ = some (.slice C5 p5 f5))
    (first | (with_reducible exact ⟨z10, z11, z12, z13, z14, z20, z21, z22, z23, z24, z30, z31, z32, z33, z34, z40, z41, z42, z43, z44, z50, z51, z52, z53, z54⟩) | (with_reducible exact ⟨q10, q11, q12, q13, q14, q20, q21, q22, q23, q24, q30, q31, q32, q33, q34, q40, q41, q42, q43, q44, q50, q51, q52, q53, q54⟩))
    (first | (go_at_call 68; (with_reducible refine (rnum_any _ _ _ _ _ _ _ _ _ rb _ _ HRB.out).mono ?_); rintro e w3 ⟨rfl, hrb2, ht2⟩; have htk := touch_keeps (P := fun k => ¬ k = rb) ht2 (fun k hk e => hk e); have q10 := htk _ _ _ hgr q10; have q11 := htk _ _ _ hgr q11; have q12 := htk _ _ _ hgr q12; have q13 := htk _ _ _ hgr q13; have q14 := htk _ _ _ hgr q14; have q20 := htk _ _ _ hgr q20; have q21 := htk _ _ _ hgr q21; have q22 := htk _ _ _ hgr q22; have q23 := htk _ _ _ hgr q23; have q24 := htk _ _ _ hgr q24; have q30 := htk _ _ _ hgr q30; have q31 := htk _ _ _ hgr q31; have q32 := htk _ _ _ hgr q32; have q33 := htk _ _ _ hgr q33; have q34 := htk _ _ _ hgr q34; have q40 := htk _ _ _ hgr q40; have q41 := htk _ _ _ hgr q41; have q42 := htk _ _ _ hgr q42; have q43 := htk _ _ _ hgr q43; have q44 := htk _ _ _ hgr q44; have q50 := htk _ _ _ hgr q50; have q51 := htk _ _ _ hgr q51; have q52 := htk _ _ _ hgr q52; have q53 := htk _ _ _ hgr q53; have q54 := htk _ _ _ hgr q54; have HRB := Lib.hid hrb2; have HT := Lib.hid (HT.out.trans ht2); have HM := Lib.hid (HM.out.touch ht2 (by omega)); have hn3 := HN.out.touch ht2 (by omega); have HN := Lib.hid hn3; have hwd := Nat.le_trans hwd ht2.size; have HX := Lib.hid (RJ.keep (touch_keeps ht2 (fun k hk e => by have hk' : g0 ≤ k := hk; have e' : k = rb := e; omega)) _ _ HX.out); have h0 := hn3.c 0 rfl; have v0 := hn3.f 0; have h1 := hn3.c 1 rfl; have v1 := hn3.f 1; have h2 := hn3.c 2 rfl; have v2 := hn3.f 2; have h3 := hn3.c 3 rfl; have v3 := hn3.f 3; have h4 := hn3.c 4 rfl; have v4 := hn3.f 4; have h5 := hn3.c 5 rfl; have v5 := hn3.f 5; have h6 := hn3.c 6 rfl; have v6 := hn3.f 6; have htp := ((((((((Touch.refl (fun k => k = vc) w3).setCell (p := ⟨vc, 0, none⟩) rfl (.int .i64 4)).setCell (p := ⟨vc, 1, none⟩) rfl (.string ⟨#[]⟩)).setCell (p := ⟨vc, 2, none⟩) rfl (.int .i64 x1.int)).setCell (p := ⟨vc, 3, none⟩) rfl (.int .i64 x2.int)).setCell (p := ⟨vc, 4, none⟩) rfl (.int .i64 x3.int)).setCell (p := ⟨vc, 5, none⟩) rfl (.int .i64 x4.int)).setCell (p := ⟨vc, 6, none⟩) rfl (.slice none 0 0)); have htk := touch_keeps (P := fun k => ¬ k = vc) htp (fun k hk e => hk e); have z10 := htk _ _ _ hgv q10; have z11 := htk _ _ _ hgv q11; have z12 := htk _ _ _ hgv q12; have z13 := htk _ _ _ hgv q13; have z14 := htk _ _ _ hgv q14; have z20 := htk _ _ _ hgv q20; have z21 := htk _ _ _ hgv q21; have z22 := htk _ _ _ hgv q22; have z23 := htk _ _ _ hgv q23; have z24 := htk _ _ _ hgv q24; have z30 := htk _ _ _ hgv q30; have z31 := htk _ _ _ hgv q31; have z32 := htk _ _ _ hgv q32; have z33 := htk _ _ _ hgv q33; have z34 := htk _ _ _ hgv q34; have z40 := htk _ _ _ hgv q40; have z41 := htk _ _ _ hgv q41; have z42 := htk _ _ _ hgv q42; have z43 := htk _ _ _ hgv q43; have z44 := htk _ _ _ hgv q44; have z50 := htk _ _ _ hgv q50; have z51 := htk _ _ _ hgv q51; have z52 := htk _ _ _ hgv q52; have z53 := htk _ _ _ hgv q53; have z54 := htk _ _ _ hgv q54))
  have HRB := Lib.hid (HRB.out.touch htp (by omega))
  have HT := Lib.hid (HT.out.under htp (fun k hk e => by have e' : k = vc := e; omega))
  have HM := Lib.hid (HM.out.touch htp (by omega))
  have HX := Lib.hid (RJ.keep (touch_keeps htp (fun k hk e => by have hk' : g0 ≤ k := hk; have e' : k = vc := e; omega)) _ _ HX.out)
  have HN := Lib.hid (((((((hn3.set 0 (.int .i64 4)).set 1 (.string ⟨#[]⟩)).set 2 (.int .i64 x1.int)).set 3 (.int .i64 x2.int)).set 4 (.int .i64 x3.int)).set 5 (.int .i64 x4.int)).set 6 (.slice none 0 0))
  have hw3 : g0 ≤ (((((((w3.setCell ⟨vc, 0, none⟩ (.int .i64 4)).setCell ⟨vc, 1, none⟩ (.string ⟨#[]⟩)).setCell ⟨vc, 2, none⟩ (.int .i64 x1.int)).setCell ⟨vc, 3, none⟩ (.int .i64 x2.int)).setCell ⟨vc, 4, none⟩ (.int .i64 x3.int)).setCell ⟨vc, 5, none⟩ (.int .i64 x4.int)).setCell ⟨vc, 6, none⟩ (.slice none 0 0)).heap.size := Nat.le_trans hwd htp.size
  clear q10 q11 q12 q13 q14 q20 q21 q22 q23 q24 q30 q31 q32 q33 q34 q40 q41 q42 q43 q44 q50 q51 q52 q53 q54 hn3
  clear htp htk hrb2 ht2 h0 v0 h1 v1 h2 v2 h3 v3 h4 v4 h5 v5 h6 v6
  generalize (((((((w3.setCell ⟨vc, 0, none⟩ (.int .i64 4)).setCell ⟨vc, 1, none⟩ (.string ⟨#[]⟩)).setCell ⟨vc, 2, none⟩ (.int .i64 x1.int)).setCell ⟨vc, 3, none⟩ (.int .i64 x2.int)).setCell ⟨vc, 4, none⟩ (.int .i64 x3.int)).setCell ⟨vc, 5, none⟩ (.int .i64 x4.int)).setCell ⟨vc, 6, none⟩ (.slice none 0 0)) = w4 at *
  go_wp2_with fail
  (with_reducible refine (ritems_any _ _ _ _ _ _ _ _ _ rb _ _ HRB.out).mono ?_)
  rintro e w5 ⟨rfl, hrb5, ht5⟩
  clear z10 z11 z12 z13 z14 z20 z21 z22 z23 z24 z30 z31 z32 z33 z34 z40 z41 z42 z43 z44 z50 z51 z52 z53 z54
  have HX5 := RJ.keep (touch_keeps ht5 (fun k hk e => by have hk' : g0 ≤ k := hk; have e' : k = rb := e; omega)) _ _ HX.out
  obtain ⟨zs, hIt, hJt⟩ := rj_items HX5
  obtain ⟨AI, cI, eI⟩ := hIt.shape
  simp only [Value.slice.injEq] at eI
  obtain ⟨-, hp5, -⟩ := eI
  obtain ⟨bq, hbq⟩ : ∃ bq, bq = (b || bl || !decide (x1.kind = 2) || !decide (x2.kind = 2) || !decide (x3.kind = 2) || !decide (x4.kind = 2) || !decide (x5.kind = 4)) := ⟨_, rfl⟩
  rw [← hbq] at hrb5
  obtain ⟨base, hbase⟩ : ∃ base, base = w5.heap.size := ⟨_, rfl⟩
  obtain ⟨its, hits⟩ : ∃ its, its = x5.items := ⟨_, rfl⟩
  have hIt := hIt.mono (Q := fun k => g0 ≤ k ∧ k < base) (by decide) (fun k hk hl => ⟨hk, by rw [hbase]; exact hl⟩)
  have hJt := RJs.mono (Q := fun k => g0 ≤ k ∧ k < base) (fun k hk hl => ⟨hk, by rw [hbase]; exact hl⟩) hJt
  have hwi : ∀ y ∈ its, wtJ y ≤ 1048576 := fun y hy => by rw [hits] at hy; exact Nat.le_trans (items_wt hy) hw2
  rw [← hits] at hp5 hIt hJt
  have HIt := Lib.hid (show RdP (fun k => g0 ≤ k ∧ k < base) w5 5 (.slice C5 p5 f5) p5 zs from hp5 ▸ hIt)
  have HJt := Lib.hid hJt
  have HWi := Lib.hid hwi
  have HP5 := Lib.hid hp5
  have HBq := Lib.hid hbq
  have HIts := Lib.hid hits
  have HRB := Lib.hid hrb5
  have HTw := Lib.hid (HT.out.trans ht5)
  have HM := Lib.hid (HM.out.touch ht5 (by omega))
  have HN := Lib.hid (HN.out.touch ht5 (by omega))
  have hz5 : w4.heap.size ≤ base := by rw [hbase]; exact ht5.size
  have hzb : base ≤ w5.heap.size := by rw [hbase]; exact Nat.le_refl _
  have hil : p5 ≤ 1048576 := by have := wts_len its; rw [hp5]; rw [hits]; cases x5 with | mk k n t ns is => rw [wtJ] at hw2; have := wts_len is; show is.length ≤ _; omega
  clear hIt hJt hwi hp5 hbq hits hrb5 ht5 HX5 HX HT hw2 hbase
  go_upto_region 22 with fail
  go_loopw [131] (fun ii wr => ∃ (m : Nat) (L : Value), m ≤ p5 ∧ ii = .int .i64 m ∧ Hid (RB wr rb (bq || ((its.take m).map logR).any (·.1))) ∧ Hid (CB wr vc #[.int .i64 4, .string ⟨#[]⟩, .int .i64 x1.int, .int .i64 x2.int, .int .i64 x3.int, .int .i64 x4.int, L] 24) ∧
    Hid (wr.ownsRow base 31 6 L m (logsV ((its.take m).map fun y => (logR y).2))) ∧ Hid (CB wr vb #[.int .i64 0, .string ⟨#[]⟩, .int .i64 0, .int .i64 0, .int .i64 0, .int .i64 0, .slice none 0 0] 24) ∧ Hid (RdP (fun k => g0 ≤ k ∧ k < base) wr 5 (.slice C5 p5 f5) p5 zs) ∧ Hid (RJs (fun k => g0 ≤ k ∧ k < base) wr its zs) ∧ Hid (base ≤ wr.heap.size) ∧ Hid (Touch (fun k => k = rb) w wr)) (fun ii _ => p5 - (intOf ii).toNat)
  case atStart => exact ⟨0, .slice none 0 0, Nat.zero_le _, rfl, Lib.hid (by rw [List.take_zero, List.map_nil, List.any_nil, Bool.or_false]; exact HRB.out), HN, Lib.hid (World.ownsRow_nil _ _ _ _), HM, HIt, HJt, Lib.hid hzb, HTw⟩
  case round =>
    obtain ⟨m, L, hm, rfl, HRB, HN, HO, HM, HIt, HJt, HZ, HTw⟩ := hrel
    obtain ⟨AL, cL, rfl⟩ := (rd_of_own HO.out).shape
    have hzr := HZ.out
    by_cases hlt' : m < p5
    · obtain ⟨y, hy⟩ : ∃ y, its[m]? = some y := ⟨_, List.getElem?_eq_getElem (by rw [← HP5.out]; exact hlt')⟩
      obtain ⟨ba, oa, ca, Ny, Qy, eI, hba, hRy, j0, j1, j2, j3, j4⟩ := (show RdP (fun k => g0 ≤ k ∧ k < base) wr 5 (.slice C5 p5 f5) its.length zs by have := HIt.out; rw [HP5.out] at this ⊢; exact this).jsonAt HJt.out hy
      simp only [Value.slice.injEq] at eI
      obtain ⟨rfl, hjunk, rfl⟩ := eI
      obtain ⟨⟨A5, m5, c5, rfl⟩, A6, m6, c6, rfl⟩ := rj_slices hRy
      have Hy := Lib.hid hy
      have hwy := HWi.out y (List.mem_of_getElem? hy)
      clear hjunk hy
      have hall6 : ∃ W, W = wr.alloc (.cells #[.int .i64 y.kind, .int .i64 y.int, .string (ofL y.text), .slice A5 m5 c5, .slice A6 m6 c6] 49) ∧ W.heap[wr.heap.size]? = some (.cells #[.int .i64 y.kind, .int .i64 y.int, .string (ofL y.text), .slice A5 m5 c5, .slice A6 m6 c6] 49 (0, 0)) ∧ Below wr.heap.size wr W := ⟨_, rfl, heap_alloc_new wr _, (Below.refl _ _).alloc (Nat.le_refl _) _⟩
      obtain ⟨w6, hw6, hk6, hb6⟩ := hall6
      go_upto_region 24 with fail
      rw [← hw6]
      clear hw6
      obtain ⟨f0', f1', f2', f3', f4', hz6⟩ := box5b hk6
      have hlr : ∀ k, (Value.slice AL m cL).ownBlock = some k → base ≤ k ∧ k < wr.heap.size := fun k hk => HO.out.lt k hk
      have Hlr := Lib.hid hlr
      have hg2r : ¬ wr.heap.size = rb := by omega
      have hg2c : ¬ wr.heap.size = vc := by omega
      have hd := (Below.refl w6.heap.size w6).drew
      have hn6 := HN.out.below hb6
      have q0 := Below.keeps hd f0'
      have q1 := Below.keeps hd f1'
      have q2 := Below.keeps hd f2'
      have q3 := Below.keeps hd f3'
      have q4 := Below.keeps hd f4'
      have y6c : w6.drew.cell? ⟨vc, 6, none⟩ = some (.slice AL m cL) := Below.keeps hd (hn6.c 6 rfl)
      have hzd : w6.heap.size ≤ w6.drew.heap.size := hd.size
      have hK := (rlogged_any y _ _ rb _ w6.drew (RJ.mono (fun k hk hl => ⟨hl, by have := hk.1; omega⟩) _ _ (RJ.below (RJ.below hRy hb6) hd)) hwy ((HRB.out.below hb6).below hd))
      obtain ⟨lob, lo, hlo⟩ : ∃ lob lo, logR y = (lob, lo) := ⟨_, _, rfl⟩
      rw [hlo] at hK
      dsimp only at hK
      have KL := Lib.hid hK
      have Hlo := Lib.hid hlo
      clear hK hlo
      have HTC := Lib.hid ((Touch.of_below (F := fun k => k = rb) hb6).next hd)
      have hmx : m ≤ 1048576 := by omega
      clear hn6 hRy hb6 f0' f1' f2' f3' f4' j0 j1 j2 j3 j4 hd hlr hk6
      refine wp_region_noPanic ?_
      refine wp_region_held_drew (S := fun w' => w'.cell? ⟨wr.heap.size, 0, none⟩ = some (.int .i64 y.kind) ∧ w'.cell? ⟨wr.heap.size, 1, none⟩ = some (.int .i64 y.int) ∧ w'.cell? ⟨wr.heap.size, 2, none⟩ = some (.string (ofL y.text)) ∧ w'.cell? ⟨wr.heap.size, 3, none⟩ = some (.slice A5 m5 c5) ∧ w'.cell? ⟨wr.heap.size, 4, none⟩ = some (.slice A6 m6 c6)) (by kernel_rfl) (by (try dsimp only); (first | (with_reducible exact ⟨z0, z1, z2, z3, z4⟩) | (with_reducible exact ⟨b0, b1, b2, b3, b4⟩) | (with_reducible exact ⟨a0, a1, a2, a3, a4⟩) | (with_reducible exact ⟨q0, q1, q2, q3, q4⟩))) (fun hHeld => ?_)
      ((refine wpAnyH_take (i := 0) (oi := { dst := some 135, op := Op.fieldAddr _ (Operand.tmp 7) 6, type := _, pos := _, after := _, guard := none }) (v := ?_) rfl (by kernel_rfl) (by kernel_rfl) (by kernel_rfl) (fun _ _ _ h => h) (Or.inl ⟨by kernel_rfl, ?_⟩) hHeld ?_); (rotate_left 1); (next => (intro w hSw; (try dsimp only at hSw); go_simp; try with_reducible rfl)); (try simp only [Act.put, List.setIfInBounds_toArray, List.set_cons_zero, List.set_cons_succ]))
      ((refine wpAnyH_take (i := 2) (oi := { dst := some 137, op := Op.move (Operand.tmp 0), type := _, pos := _, after := _, guard := none }) (v := ?_) rfl (by kernel_rfl) (by kernel_rfl) (by kernel_rfl) (fun _ _ _ h => h) (Or.inl ⟨by kernel_rfl, ?_⟩) hHeld ?_); (rotate_left 1); (next => (intro w hSw; (try dsimp only at hSw); go_simp; try with_reducible rfl)); (try simp only [Act.put, List.setIfInBounds_toArray, List.set_cons_zero, List.set_cons_succ]))
      ((refine wpAnyH_take (i := 3) (oi := { dst := some 138, op := Op.load _ (Operand.tmp 16), type := _, pos := _, after := _, guard := none }) (v := ?_) rfl (by kernel_rfl) (by kernel_rfl) (by kernel_rfl) (fun _ _ _ h => h) (Or.inl ⟨by kernel_rfl, ?_⟩) hHeld ?_); (rotate_left 1); (next => (intro w hSw; (try dsimp only at hSw); go_simp; try with_reducible rfl)); (try simp only [Act.put, List.setIfInBounds_toArray, List.set_cons_zero, List.set_cons_succ]))
      refine wpAnyH_ready (rs := [1, 4]) (by kernel_rfl) (by simp) (AllReadyH.cons (o := { dst := some 136, op := Op.load _ (Operand.tmp 135), type := _, pos := _, after := _, guard := none }) rfl (fun K hK => ?_) (AllReadyH.cons (o := { dst := some 139, op := Op.call { callee := Callee.value (Operand.func 53), args := #[Operand.tmp 137, Operand.tmp 138], argTypes := _ }, type := _, pos := _, after := _, guard := none }) rfl (fun K hK => ?_) AllReadyH.nil))
      · go_simp
        clear hHeld
        refine hK.out _ _ ?_ (fun hHeld => ?_)
        (next => ((try dsimp only); (first | (with_reducible exact ⟨z0, z1, z2, z3, z4⟩) | (with_reducible exact ⟨b0, b1, b2, b3, b4⟩) | (with_reducible exact ⟨a0, a1, a2, a3, a4⟩) | (with_reducible exact ⟨q0, q1, q2, q3, q4⟩))))
        clear hK K
        (try simp only [Act.put, List.setIfInBounds_toArray, List.set_cons_zero, List.set_cons_succ])
        refine wpAnyH_ready (rs := [4]) (by kernel_rfl) (by simp) (AllReadyH.cons (o := { dst := some 139, op := Op.call { callee := Callee.value (Operand.func 53), args := #[Operand.tmp 137, Operand.tmp 138], argTypes := _ }, type := _, pos := _, after := _, guard := none }) rfl (fun K hK => ?_) AllReadyH.nil)
        go_simp
        (with_reducible refine KL.out.mono ?_); rintro e w9 ⟨rfl, hrb9, ht9⟩; have htk := touch_keeps (P := fun k => ¬ k = rb) ht9 (fun k hk e => hk e); have q0 := htk _ _ _ hg2r q0; have q1 := htk _ _ _ hg2r q1; have q2 := htk _ _ _ hg2r q2; have q3 := htk _ _ _ hg2r q3; have q4 := htk _ _ _ hg2r q4; have y6c := htk _ _ _ (by omega) y6c; have HRB := Lib.hid hrb9; have HTC := Lib.hid (HTC.out.trans ht9); have y6a := keeps_alloc y6c (.cells ([Value.string (ofL lo.client), .int .i64 lo.id, .int .i64 lo.m.kind, .string (ofL lo.m.issue), .string (ofL lo.m.name), .string (ofL lo.m.text)]).toArray 31); have a0 := keeps_alloc q0 (.cells ([Value.string (ofL lo.client), .int .i64 lo.id, .int .i64 lo.m.kind, .string (ofL lo.m.issue), .string (ofL lo.m.name), .string (ofL lo.m.text)]).toArray 31); have a1 := keeps_alloc q1 (.cells ([Value.string (ofL lo.client), .int .i64 lo.id, .int .i64 lo.m.kind, .string (ofL lo.m.issue), .string (ofL lo.m.name), .string (ofL lo.m.text)]).toArray 31); have a2 := keeps_alloc q2 (.cells ([Value.string (ofL lo.client), .int .i64 lo.id, .int .i64 lo.m.kind, .string (ofL lo.m.issue), .string (ofL lo.m.name), .string (ofL lo.m.text)]).toArray 31); have a3 := keeps_alloc q3 (.cells ([Value.string (ofL lo.client), .int .i64 lo.id, .int .i64 lo.m.kind, .string (ofL lo.m.issue), .string (ofL lo.m.name), .string (ofL lo.m.text)]).toArray 31); have a4 := keeps_alloc q4 (.cells ([Value.string (ofL lo.client), .int .i64 lo.id, .int .i64 lo.m.kind, .string (ofL lo.m.issue), .string (ofL lo.m.name), .string (ofL lo.m.text)]).toArray 31); have hO9 := own_touch HO.out HTC.out (fun k hk e => by have := (HO.out.lt k hk).1; have e' : k = rb := e; omega); have hz9 := HTC.out.size; have hn9 := HN.out.touch HTC.out (by omega)
        (try go_wp2_with fail)
        clear hHeld
        refine hK.out _ _ ?_ (fun hHeld => ?_)
        (next => ((try dsimp only); (first | (with_reducible exact ⟨z0, z1, z2, z3, z4⟩) | (with_reducible exact ⟨b0, b1, b2, b3, b4⟩) | (with_reducible exact ⟨a0, a1, a2, a3, a4⟩) | (with_reducible exact ⟨q0, q1, q2, q3, q4⟩))))
        clear hK K
        (try simp only [Act.put, List.setIfInBounds_toArray, List.set_cons_zero, List.set_cons_succ])
        refine wpAnyH_ready (rs := [5]) (by kernel_rfl) (by simp) (AllReadyH.cons (o := { dst := some 140, op := Op.buildSlice _ 1 #[(0, Operand.tmp 139)], type := _, pos := _, after := _, guard := none }) rfl (fun K hK => ?_) AllReadyH.nil)
        go_simp
        clear hHeld
        refine hK.out _ _ ?_ (fun hHeld => ?_)
        (next => ((try dsimp only); (first | (with_reducible exact ⟨z0, z1, z2, z3, z4⟩) | (with_reducible exact ⟨b0, b1, b2, b3, b4⟩) | (with_reducible exact ⟨a0, a1, a2, a3, a4⟩) | (with_reducible exact ⟨q0, q1, q2, q3, q4⟩))))
        clear hK K
        (try simp only [Act.put, List.setIfInBounds_toArray, List.set_cons_zero, List.set_cons_succ])
        refine wpAnyH_ready (rs := [6]) (by kernel_rfl) (by simp) (AllReadyH.cons (o := { dst := some 141, op := Op.call { callee := Callee.builtin Builtin.append, args := #[Operand.tmp 136, Operand.tmp 140], argTypes := _ }, type := _, pos := _, after := _, guard := none }) rfl (fun K hK => ?_) AllReadyH.nil)
        (refine step_pushAt (by rfl) _ _ _ (by rfl) base rowLo (.slice AL m cL) m _ (by rfl) hO9 [Value.string (ofL lo.client), .int .i64 lo.id, .int .i64 lo.m.kind, .string (ofL lo.m.issue), .string (ofL lo.m.name), .string (ofL lo.m.text)] _ (by rfl) rfl rfl (one_log lo) (by omega) (by omega) ?_; intro v10 w10 hO10 hT10 hL10; obtain ⟨A10, c10, rfl⟩ := (rd_of_own hO10).shape; have htk := touch_keeps (P := fun k => ¬ (Value.slice AL m cL).ownBlock = some k) hT10 (fun k hk e => hk e); have hgl : ¬ (Value.slice AL m cL).ownBlock = some wr.heap.size := fun e => (by have := (Hlr.out _ e).2; omega); have b0 := htk _ _ _ hgl q0; have b1 := htk _ _ _ hgl q1; have b2 := htk _ _ _ hgl q2; have b3 := htk _ _ _ hgl q3; have b4 := htk _ _ _ hgl q4; have hn10 := hn9.touch hT10 (fun e => by have := (Hlr.out _ e).1; omega); have k6 : w10.cell? ⟨vc, 6, none⟩ = some (.slice AL m cL) := hn10.c 6 rfl; have v6 := hn10.f 6; have hts := (Touch.refl (fun k => k = vc) w10).setCell (p := ⟨vc, 6, none⟩) rfl (.slice A10 (m + 1) c10); have hns := hn10.set 6 (.slice A10 (m + 1) c10); have htk := touch_keeps (P := fun k => ¬ k = vc) hts (fun k hk e => hk e); have z0 := htk _ _ _ hg2c b0; have z1 := htk _ _ _ hg2c b1; have z2 := htk _ _ _ hg2c b2; have z3 := htk _ _ _ hg2c b3; have z4 := htk _ _ _ hg2c b4)
        clear hHeld
        refine hK.out _ _ ?_ (fun hHeld => ?_)
        (next => ((try dsimp only); (first | (with_reducible exact ⟨z0, z1, z2, z3, z4⟩) | (with_reducible exact ⟨b0, b1, b2, b3, b4⟩) | (with_reducible exact ⟨a0, a1, a2, a3, a4⟩) | (with_reducible exact ⟨q0, q1, q2, q3, q4⟩))))
        clear hK K
        (try simp only [Act.put, List.setIfInBounds_toArray, List.set_cons_zero, List.set_cons_succ])
        ((refine wpAnyH_take (i := 7) (oi := { dst := some 142, op := Op.fieldAddr _ (Operand.tmp 7) 6, type := _, pos := _, after := _, guard := none }) (v := ?_) rfl (by kernel_rfl) (by kernel_rfl) (by kernel_rfl) (fun _ _ _ h => h) (Or.inl ⟨by kernel_rfl, ?_⟩) hHeld ?_); (rotate_left 1); (next => (intro w hSw; (try dsimp only at hSw); go_simp; try with_reducible rfl)); (try simp only [Act.put, List.setIfInBounds_toArray, List.set_cons_zero, List.set_cons_succ]))
        refine wpAnyH_ready (rs := [8]) (by kernel_rfl) (by simp) (AllReadyH.cons (o := { dst := none, op := Op.store _ (Operand.tmp 142) (Operand.tmp 141), type := _, pos := _, after := _, guard := none }) rfl (fun K hK => ?_) AllReadyH.nil)
        go_simp
        clear hHeld
        refine hK.out _ _ ?_ (fun hHeld => ?_)
        (next => ((try dsimp only); (first | (with_reducible exact ⟨z0, z1, z2, z3, z4⟩) | (with_reducible exact ⟨b0, b1, b2, b3, b4⟩) | (with_reducible exact ⟨a0, a1, a2, a3, a4⟩) | (with_reducible exact ⟨q0, q1, q2, q3, q4⟩))))
        clear hK K
        (try simp only [Act.put, List.setIfInBounds_toArray, List.set_cons_zero, List.set_cons_succ])
        refine wpAnyH_done (by kernel_rfl) ?_ _
        refine NoPanic.normal ?_
        have hall : Touch (fun k => k = rb ∨ (Value.slice AL m cL).ownBlock = some k ∨ k = vc) wr (w10.setCell ⟨vc, 6, none⟩ (.slice A10 (m + 1) c10)) :=
          ((HTC.out.mono fun k _ e => .inl e).trans (hT10.mono fun k _ e => .inr (.inl e))).trans (hts.mono fun k _ e => .inr (.inr e))
        have hno : ∀ k, g0 ≤ k ∧ k < base → ¬ (k = rb ∨ (Value.slice AL m cL).ownBlock = some k ∨ k = vc) := fun k hk e => by
          rcases e with e | e | e
          · omega
          · have := (Hlr.out _ e).1; omega
          · omega
        have hnl : ∀ q, q < base → ¬ (Value.slice AL m cL).ownBlock = some q := fun q hq e => by have := (Hlr.out _ e).1; omega
        have HZz := Lib.hid (Nat.le_trans hzr hall.size)
        have HRz := Lib.hid ((HRB.out.touch hT10 (hnl rb (by omega))).touch hts (by omega))
        have HOz := Lib.hid (own_touch hO10 hts (row_ne hO10 (by omega)))
        have HMz := Lib.hid (HM.out.touch hall (fun e => by
          rcases e with e | e | e
          · omega
          · exact hnl vb (by omega) e
          · omega))
        have HItz := Lib.hid (HIt.out.keep (touch_keeps hall hno))
        have HJtz := Lib.hid (RJs.keep (touch_keeps hall hno) HJt.out)
        have HTz := Lib.hid (HTw.out.under hall (fun k hk e => by
          rcases e with e | e | e
          · exact e
          · exact absurd e (hnl k (by omega))
          · omega))
        have HNz : Hid (CB (w10.setCell ⟨vc, 6, none⟩ (.slice A10 (m + 1) c10)) vc #[.int .i64 4, .string ⟨#[]⟩, .int .i64 x1.int, .int .i64 x2.int, .int .i64 x3.int, .int .i64 x4.int, .slice A10 (m + 1) c10] 24) := Lib.hid hns
        clear hall hno hnl hns hts htk k6 v6 hn10 hT10 hO10 hL10 hgl hn9 hO9 hrb9 ht9 hz9
        generalize w10.setCell ⟨vc, 6, none⟩ (.slice A10 (m + 1) c10) = wz at *
        go_wp2_with fail
        refine ⟨⟨m + 1, .slice A10 (m + 1) c10, by omega, by go_num, Lib.hid ?_, HNz, Lib.hid ?_, HMz, HItz, HJtz, HZz, HTz⟩, by simp [intOf]; omega⟩
        · have h1 := any_snoc logR its Hy.out
          rw [Hlo.out] at h1
          rw [h1]
          have h2 := HRz.out
          simp only [Bool.or_assoc] at h2 ⊢
          exact h2
        · have h1 := map_snoc logR its Hy.out
          rw [h1, logs_snoc, Hlo.out]
          exact HOz.out
      · go_simp
        (with_reducible refine KL.out.mono ?_); rintro e w9 ⟨rfl, hrb9, ht9⟩; have htk := touch_keeps (P := fun k => ¬ k = rb) ht9 (fun k hk e => hk e); have q0 := htk _ _ _ hg2r q0; have q1 := htk _ _ _ hg2r q1; have q2 := htk _ _ _ hg2r q2; have q3 := htk _ _ _ hg2r q3; have q4 := htk _ _ _ hg2r q4; have y6c := htk _ _ _ (by omega) y6c; have HRB := Lib.hid hrb9; have HTC := Lib.hid (HTC.out.trans ht9); have y6a := keeps_alloc y6c (.cells ([Value.string (ofL lo.client), .int .i64 lo.id, .int .i64 lo.m.kind, .string (ofL lo.m.issue), .string (ofL lo.m.name), .string (ofL lo.m.text)]).toArray 31); have a0 := keeps_alloc q0 (.cells ([Value.string (ofL lo.client), .int .i64 lo.id, .int .i64 lo.m.kind, .string (ofL lo.m.issue), .string (ofL lo.m.name), .string (ofL lo.m.text)]).toArray 31); have a1 := keeps_alloc q1 (.cells ([Value.string (ofL lo.client), .int .i64 lo.id, .int .i64 lo.m.kind, .string (ofL lo.m.issue), .string (ofL lo.m.name), .string (ofL lo.m.text)]).toArray 31); have a2 := keeps_alloc q2 (.cells ([Value.string (ofL lo.client), .int .i64 lo.id, .int .i64 lo.m.kind, .string (ofL lo.m.issue), .string (ofL lo.m.name), .string (ofL lo.m.text)]).toArray 31); have a3 := keeps_alloc q3 (.cells ([Value.string (ofL lo.client), .int .i64 lo.id, .int .i64 lo.m.kind, .string (ofL lo.m.issue), .string (ofL lo.m.name), .string (ofL lo.m.text)]).toArray 31); have a4 := keeps_alloc q4 (.cells ([Value.string (ofL lo.client), .int .i64 lo.id, .int .i64 lo.m.kind, .string (ofL lo.m.issue), .string (ofL lo.m.name), .string (ofL lo.m.text)]).toArray 31); have hO9 := own_touch HO.out HTC.out (fun k hk e => by have := (HO.out.lt k hk).1; have e' : k = rb := e; omega); have hz9 := HTC.out.size; have hn9 := HN.out.touch HTC.out (by omega)
        (try go_wp2_with fail)
        clear hHeld
        refine hK.out _ _ ?_ (fun hHeld => ?_)
        (next => ((try dsimp only); (first | (with_reducible exact ⟨z0, z1, z2, z3, z4⟩) | (with_reducible exact ⟨b0, b1, b2, b3, b4⟩) | (with_reducible exact ⟨a0, a1, a2, a3, a4⟩) | (with_reducible exact ⟨q0, q1, q2, q3, q4⟩))))
        clear hK K
        (try simp only [Act.put, List.setIfInBounds_toArray, List.set_cons_zero, List.set_cons_succ])
        refine wpAnyH_ready (rs := [1, 5]) (by kernel_rfl) (by simp) (AllReadyH.cons (o := { dst := some 136, op := Op.load _ (Operand.tmp 135), type := _, pos := _, after := _, guard := none }) rfl (fun K hK => ?_) (AllReadyH.cons (o := { dst := some 140, op := Op.buildSlice _ 1 #[(0, Operand.tmp 139)], type := _, pos := _, after := _, guard := none }) rfl (fun K hK => ?_) AllReadyH.nil))
        · go_simp
          clear hHeld
          refine hK.out _ _ ?_ (fun hHeld => ?_)
          (next => ((try dsimp only); (first | (with_reducible exact ⟨z0, z1, z2, z3, z4⟩) | (with_reducible exact ⟨b0, b1, b2, b3, b4⟩) | (with_reducible exact ⟨a0, a1, a2, a3, a4⟩) | (with_reducible exact ⟨q0, q1, q2, q3, q4⟩))))
          clear hK K
          (try simp only [Act.put, List.setIfInBounds_toArray, List.set_cons_zero, List.set_cons_succ])
          refine wpAnyH_ready (rs := [5]) (by kernel_rfl) (by simp) (AllReadyH.cons (o := { dst := some 140, op := Op.buildSlice _ 1 #[(0, Operand.tmp 139)], type := _, pos := _, after := _, guard := none }) rfl (fun K hK => ?_) AllReadyH.nil)
          go_simp
          clear hHeld
          refine hK.out _ _ ?_ (fun hHeld => ?_)
          (next => ((try dsimp only); (first | (with_reducible exact ⟨z0, z1, z2, z3, z4⟩) | (with_reducible exact ⟨b0, b1, b2, b3, b4⟩) | (with_reducible exact ⟨a0, a1, a2, a3, a4⟩) | (with_reducible exact ⟨q0, q1, q2, q3, q4⟩))))
          clear hK K
          (try simp only [Act.put, List.setIfInBounds_toArray, List.set_cons_zero, List.set_cons_succ])
          refine wpAnyH_ready (rs := [6]) (by kernel_rfl) (by simp) (AllReadyH.cons (o := { dst := some 141, op := Op.call { callee := Callee.builtin Builtin.append, args := #[Operand.tmp 136, Operand.tmp 140], argTypes := _ }, type := _, pos := _, after := _, guard := none }) rfl (fun K hK => ?_) AllReadyH.nil)
          (refine step_pushAt (by rfl) _ _ _ (by rfl) base rowLo (.slice AL m cL) m _ (by rfl) hO9 [Value.string (ofL lo.client), .int .i64 lo.id, .int .i64 lo.m.kind, .string (ofL lo.m.issue), .string (ofL lo.m.name), .string (ofL lo.m.text)] _ (by rfl) rfl rfl (one_log lo) (by omega) (by omega) ?_; intro v10 w10 hO10 hT10 hL10; obtain ⟨A10, c10, rfl⟩ := (rd_of_own hO10).shape; have htk := touch_keeps (P := fun k => ¬ (Value.slice AL m cL).ownBlock = some k) hT10 (fun k hk e => hk e); have hgl : ¬ (Value.slice AL m cL).ownBlock = some wr.heap.size := fun e => (by have := (Hlr.out _ e).2; omega); have b0 := htk _ _ _ hgl q0; have b1 := htk _ _ _ hgl q1; have b2 := htk _ _ _ hgl q2; have b3 := htk _ _ _ hgl q3; have b4 := htk _ _ _ hgl q4; have hn10 := hn9.touch hT10 (fun e => by have := (Hlr.out _ e).1; omega); have k6 : w10.cell? ⟨vc, 6, none⟩ = some (.slice AL m cL) := hn10.c 6 rfl; have v6 := hn10.f 6; have hts := (Touch.refl (fun k => k = vc) w10).setCell (p := ⟨vc, 6, none⟩) rfl (.slice A10 (m + 1) c10); have hns := hn10.set 6 (.slice A10 (m + 1) c10); have htk := touch_keeps (P := fun k => ¬ k = vc) hts (fun k hk e => hk e); have z0 := htk _ _ _ hg2c b0; have z1 := htk _ _ _ hg2c b1; have z2 := htk _ _ _ hg2c b2; have z3 := htk _ _ _ hg2c b3; have z4 := htk _ _ _ hg2c b4)
          clear hHeld
          refine hK.out _ _ ?_ (fun hHeld => ?_)
          (next => ((try dsimp only); (first | (with_reducible exact ⟨z0, z1, z2, z3, z4⟩) | (with_reducible exact ⟨b0, b1, b2, b3, b4⟩) | (with_reducible exact ⟨a0, a1, a2, a3, a4⟩) | (with_reducible exact ⟨q0, q1, q2, q3, q4⟩))))
          clear hK K
          (try simp only [Act.put, List.setIfInBounds_toArray, List.set_cons_zero, List.set_cons_succ])
          ((refine wpAnyH_take (i := 7) (oi := { dst := some 142, op := Op.fieldAddr _ (Operand.tmp 7) 6, type := _, pos := _, after := _, guard := none }) (v := ?_) rfl (by kernel_rfl) (by kernel_rfl) (by kernel_rfl) (fun _ _ _ h => h) (Or.inl ⟨by kernel_rfl, ?_⟩) hHeld ?_); (rotate_left 1); (next => (intro w hSw; (try dsimp only at hSw); go_simp; try with_reducible rfl)); (try simp only [Act.put, List.setIfInBounds_toArray, List.set_cons_zero, List.set_cons_succ]))
          refine wpAnyH_ready (rs := [8]) (by kernel_rfl) (by simp) (AllReadyH.cons (o := { dst := none, op := Op.store _ (Operand.tmp 142) (Operand.tmp 141), type := _, pos := _, after := _, guard := none }) rfl (fun K hK => ?_) AllReadyH.nil)
          go_simp
          clear hHeld
          refine hK.out _ _ ?_ (fun hHeld => ?_)
          (next => ((try dsimp only); (first | (with_reducible exact ⟨z0, z1, z2, z3, z4⟩) | (with_reducible exact ⟨b0, b1, b2, b3, b4⟩) | (with_reducible exact ⟨a0, a1, a2, a3, a4⟩) | (with_reducible exact ⟨q0, q1, q2, q3, q4⟩))))
          clear hK K
          (try simp only [Act.put, List.setIfInBounds_toArray, List.set_cons_zero, List.set_cons_succ])
          refine wpAnyH_done (by kernel_rfl) ?_ _
          refine NoPanic.normal ?_
          have hall : Touch (fun k => k = rb ∨ (Value.slice AL m cL).ownBlock = some k ∨ k = vc) wr (w10.setCell ⟨vc, 6, none⟩ (.slice A10 (m + 1) c10)) :=
            ((HTC.out.mono fun k _ e => .inl e).trans (hT10.mono fun k _ e => .inr (.inl e))).trans (hts.mono fun k _ e => .inr (.inr e))
          have hno : ∀ k, g0 ≤ k ∧ k < base → ¬ (k = rb ∨ (Value.slice AL m cL).ownBlock = some k ∨ k = vc) := fun k hk e => by
            rcases e with e | e | e
            · omega
            · have := (Hlr.out _ e).1; omega
            · omega
          have hnl : ∀ q, q < base → ¬ (Value.slice AL m cL).ownBlock = some q := fun q hq e => by have := (Hlr.out _ e).1; omega
          have HZz := Lib.hid (Nat.le_trans hzr hall.size)
          have HRz := Lib.hid ((HRB.out.touch hT10 (hnl rb (by omega))).touch hts (by omega))
          have HOz := Lib.hid (own_touch hO10 hts (row_ne hO10 (by omega)))
          have HMz := Lib.hid (HM.out.touch hall (fun e => by
            rcases e with e | e | e
            · omega
            · exact hnl vb (by omega) e
            · omega))
          have HItz := Lib.hid (HIt.out.keep (touch_keeps hall hno))
          have HJtz := Lib.hid (RJs.keep (touch_keeps hall hno) HJt.out)
          have HTz := Lib.hid (HTw.out.under hall (fun k hk e => by
            rcases e with e | e | e
            · exact e
            · exact absurd e (hnl k (by omega))
            · omega))
          have HNz : Hid (CB (w10.setCell ⟨vc, 6, none⟩ (.slice A10 (m + 1) c10)) vc #[.int .i64 4, .string ⟨#[]⟩, .int .i64 x1.int, .int .i64 x2.int, .int .i64 x3.int, .int .i64 x4.int, .slice A10 (m + 1) c10] 24) := Lib.hid hns
          clear hall hno hnl hns hts htk k6 v6 hn10 hT10 hO10 hL10 hgl hn9 hO9 hrb9 ht9 hz9
          generalize w10.setCell ⟨vc, 6, none⟩ (.slice A10 (m + 1) c10) = wz at *
          go_wp2_with fail
          refine ⟨⟨m + 1, .slice A10 (m + 1) c10, by omega, by go_num, Lib.hid ?_, HNz, Lib.hid ?_, HMz, HItz, HJtz, HZz, HTz⟩, by simp [intOf]; omega⟩
          · have h1 := any_snoc logR its Hy.out
            rw [Hlo.out] at h1
            rw [h1]
            have h2 := HRz.out
            simp only [Bool.or_assoc] at h2 ⊢
            exact h2
          · have h1 := map_snoc logR its Hy.out
            rw [h1, logs_snoc, Hlo.out]
            exact HOz.out
        · go_simp
          clear hHeld
          refine hK.out _ _ ?_ (fun hHeld => ?_)
          (next => ((try dsimp only); (first | (with_reducible exact ⟨z0, z1, z2, z3, z4⟩) | (with_reducible exact ⟨b0, b1, b2, b3, b4⟩) | (with_reducible exact ⟨a0, a1, a2, a3, a4⟩) | (with_reducible exact ⟨q0, q1, q2, q3, q4⟩))))
          clear hK K
          (try simp only [Act.put, List.setIfInBounds_toArray, List.set_cons_zero, List.set_cons_succ])
          refine wpAnyH_ready (rs := [1]) (by kernel_rfl) (by simp) (AllReadyH.cons (o := { dst := some 136, op := Op.load _ (Operand.tmp 135), type := _, pos := _, after := _, guard := none }) rfl (fun K hK => ?_) AllReadyH.nil)
          go_simp
          clear hHeld
          refine hK.out _ _ ?_ (fun hHeld => ?_)
          (next => ((try dsimp only); (first | (with_reducible exact ⟨z0, z1, z2, z3, z4⟩) | (with_reducible exact ⟨b0, b1, b2, b3, b4⟩) | (with_reducible exact ⟨a0, a1, a2, a3, a4⟩) | (with_reducible exact ⟨q0, q1, q2, q3, q4⟩))))
          clear hK K
          (try simp only [Act.put, List.setIfInBounds_toArray, List.set_cons_zero, List.set_cons_succ])
          refine wpAnyH_ready (rs := [6]) (by kernel_rfl) (by simp) (AllReadyH.cons (o := { dst := some 141, op := Op.call { callee := Callee.builtin Builtin.append, args := #[Operand.tmp 136, Operand.tmp 140], argTypes := _ }, type := _, pos := _, after := _, guard := none }) rfl (fun K hK => ?_) AllReadyH.nil)
          (refine step_pushAt (by rfl) _ _ _ (by rfl) base rowLo (.slice AL m cL) m _ (by rfl) hO9 [Value.string (ofL lo.client), .int .i64 lo.id, .int .i64 lo.m.kind, .string (ofL lo.m.issue), .string (ofL lo.m.name), .string (ofL lo.m.text)] _ (by rfl) rfl rfl (one_log lo) (by omega) (by omega) ?_; intro v10 w10 hO10 hT10 hL10; obtain ⟨A10, c10, rfl⟩ := (rd_of_own hO10).shape; have htk := touch_keeps (P := fun k => ¬ (Value.slice AL m cL).ownBlock = some k) hT10 (fun k hk e => hk e); have hgl : ¬ (Value.slice AL m cL).ownBlock = some wr.heap.size := fun e => (by have := (Hlr.out _ e).2; omega); have b0 := htk _ _ _ hgl q0; have b1 := htk _ _ _ hgl q1; have b2 := htk _ _ _ hgl q2; have b3 := htk _ _ _ hgl q3; have b4 := htk _ _ _ hgl q4; have hn10 := hn9.touch hT10 (fun e => by have := (Hlr.out _ e).1; omega); have k6 : w10.cell? ⟨vc, 6, none⟩ = some (.slice AL m cL) := hn10.c 6 rfl; have v6 := hn10.f 6; have hts := (Touch.refl (fun k => k = vc) w10).setCell (p := ⟨vc, 6, none⟩) rfl (.slice A10 (m + 1) c10); have hns := hn10.set 6 (.slice A10 (m + 1) c10); have htk := touch_keeps (P := fun k => ¬ k = vc) hts (fun k hk e => hk e); have z0 := htk _ _ _ hg2c b0; have z1 := htk _ _ _ hg2c b1; have z2 := htk _ _ _ hg2c b2; have z3 := htk _ _ _ hg2c b3; have z4 := htk _ _ _ hg2c b4)
          clear hHeld
          refine hK.out _ _ ?_ (fun hHeld => ?_)
          (next => ((try dsimp only); (first | (with_reducible exact ⟨z0, z1, z2, z3, z4⟩) | (with_reducible exact ⟨b0, b1, b2, b3, b4⟩) | (with_reducible exact ⟨a0, a1, a2, a3, a4⟩) | (with_reducible exact ⟨q0, q1, q2, q3, q4⟩))))
          clear hK K
          (try simp only [Act.put, List.setIfInBounds_toArray, List.set_cons_zero, List.set_cons_succ])
          ((refine wpAnyH_take (i := 7) (oi := { dst := some 142, op := Op.fieldAddr _ (Operand.tmp 7) 6, type := _, pos := _, after := _, guard := none }) (v := ?_) rfl (by kernel_rfl) (by kernel_rfl) (by kernel_rfl) (fun _ _ _ h => h) (Or.inl ⟨by kernel_rfl, ?_⟩) hHeld ?_); (rotate_left 1); (next => (intro w hSw; (try dsimp only at hSw); go_simp; try with_reducible rfl)); (try simp only [Act.put, List.setIfInBounds_toArray, List.set_cons_zero, List.set_cons_succ]))
          refine wpAnyH_ready (rs := [8]) (by kernel_rfl) (by simp) (AllReadyH.cons (o := { dst := none, op := Op.store _ (Operand.tmp 142) (Operand.tmp 141), type := _, pos := _, after := _, guard := none }) rfl (fun K hK => ?_) AllReadyH.nil)
          go_simp
          clear hHeld
          refine hK.out _ _ ?_ (fun hHeld => ?_)
          (next => ((try dsimp only); (first | (with_reducible exact ⟨z0, z1, z2, z3, z4⟩) | (with_reducible exact ⟨b0, b1, b2, b3, b4⟩) | (with_reducible exact ⟨a0, a1, a2, a3, a4⟩) | (with_reducible exact ⟨q0, q1, q2, q3, q4⟩))))
          clear hK K
          (try simp only [Act.put, List.setIfInBounds_toArray, List.set_cons_zero, List.set_cons_succ])
          refine wpAnyH_done (by kernel_rfl) ?_ _
          refine NoPanic.normal ?_
          have hall : Touch (fun k => k = rb ∨ (Value.slice AL m cL).ownBlock = some k ∨ k = vc) wr (w10.setCell ⟨vc, 6, none⟩ (.slice A10 (m + 1) c10)) :=
            ((HTC.out.mono fun k _ e => .inl e).trans (hT10.mono fun k _ e => .inr (.inl e))).trans (hts.mono fun k _ e => .inr (.inr e))
          have hno : ∀ k, g0 ≤ k ∧ k < base → ¬ (k = rb ∨ (Value.slice AL m cL).ownBlock = some k ∨ k = vc) := fun k hk e => by
            rcases e with e | e | e
            · omega
            · have := (Hlr.out _ e).1; omega
            · omega
          have hnl : ∀ q, q < base → ¬ (Value.slice AL m cL).ownBlock = some q := fun q hq e => by have := (Hlr.out _ e).1; omega
          have HZz := Lib.hid (Nat.le_trans hzr hall.size)
          have HRz := Lib.hid ((HRB.out.touch hT10 (hnl rb (by omega))).touch hts (by omega))
          have HOz := Lib.hid (own_touch hO10 hts (row_ne hO10 (by omega)))
          have HMz := Lib.hid (HM.out.touch hall (fun e => by
            rcases e with e | e | e
            · omega
            · exact hnl vb (by omega) e
            · omega))
          have HItz := Lib.hid (HIt.out.keep (touch_keeps hall hno))
          have HJtz := Lib.hid (RJs.keep (touch_keeps hall hno) HJt.out)
          have HTz := Lib.hid (HTw.out.under hall (fun k hk e => by
            rcases e with e | e | e
            · exact e
            · exact absurd e (hnl k (by omega))
            · omega))
          have HNz : Hid (CB (w10.setCell ⟨vc, 6, none⟩ (.slice A10 (m + 1) c10)) vc #[.int .i64 4, .string ⟨#[]⟩, .int .i64 x1.int, .int .i64 x2.int, .int .i64 x3.int, .int .i64 x4.int, .slice A10 (m + 1) c10] 24) := Lib.hid hns
          clear hall hno hnl hns hts htk k6 v6 hn10 hT10 hO10 hL10 hgl hn9 hO9 hrb9 ht9 hz9
          generalize w10.setCell ⟨vc, 6, none⟩ (.slice A10 (m + 1) c10) = wz at *
          go_wp2_with fail
          refine ⟨⟨m + 1, .slice A10 (m + 1) c10, by omega, by go_num, Lib.hid ?_, HNz, Lib.hid ?_, HMz, HItz, HJtz, HZz, HTz⟩, by simp [intOf]; omega⟩
          · have h1 := any_snoc logR its Hy.out
            rw [Hlo.out] at h1
            rw [h1]
            have h2 := HRz.out
            simp only [Bool.or_assoc] at h2 ⊢
            exact h2
          · have h1 := map_snoc logR its Hy.out
            rw [h1, logs_snoc, Hlo.out]
            exact HOz.out
    · have hmn : m = p5 := by omega
      subst hmn
      have hRB := HRB.out
      have hO := HO.out
      rw [List.take_of_length_le (by rw [HP5.out]; exact Nat.le_refl _)] at hRB hO
      have HNf := HN
      have HMf := HM
      have HRf := Lib.hid hRB
      have HTf := HTw
      have hz : base ≤ wr.heap.size := hzr
      have HOf := Lib.hid hO
      clear hRB hO HRB HO HN HM HTw
      generalize wr = wz at *
      have h0 : wz.cell? ⟨vc, 0, none⟩ = some (.int .i64 4) := HNf.out.c 0 rfl
      have h1 : wz.cell? ⟨vc, 1, none⟩ = some (.string ⟨#[]⟩) := HNf.out.c 1 rfl
      have h2 : wz.cell? ⟨vc, 2, none⟩ = some (.int .i64 x1.int) := HNf.out.c 2 rfl
      have h3 : wz.cell? ⟨vc, 3, none⟩ = some (.int .i64 x2.int) := HNf.out.c 3 rfl
      have h4 : wz.cell? ⟨vc, 4, none⟩ = some (.int .i64 x3.int) := HNf.out.c 4 rfl
      have h5 : wz.cell? ⟨vc, 5, none⟩ = some (.int .i64 x4.int) := HNf.out.c 5 rfl
      have h6 : wz.cell? ⟨vc, 6, none⟩ = some (.slice AL m cL) := HNf.out.c 6 rfl
      have k0 := HMf.out.c 0 rfl
      have v0 := HMf.out.f 0
      have k1 := HMf.out.c 1 rfl
      have v1 := HMf.out.f 1
      have k2 := HMf.out.c 2 rfl
      have v2 := HMf.out.f 2
      have k3 := HMf.out.c 3 rfl
      have v3 := HMf.out.f 3
      have k4 := HMf.out.c 4 rfl
      have v4 := HMf.out.f 4
      have k5 := HMf.out.c 5 rfl
      have v5 := HMf.out.f 5
      have k6 := HMf.out.c 6 rfl
      have v6 := HMf.out.f 6
      have htp := ((((((((Touch.refl (fun k => k = vb) wz).setCell (p := ⟨vb, 0, none⟩) rfl (.int .i64 4)).setCell (p := ⟨vb, 1, none⟩) rfl (.string ⟨#[]⟩)).setCell (p := ⟨vb, 2, none⟩) rfl (.int .i64 x1.int)).setCell (p := ⟨vb, 3, none⟩) rfl (.int .i64 x2.int)).setCell (p := ⟨vb, 4, none⟩) rfl (.int .i64 x3.int)).setCell (p := ⟨vb, 5, none⟩) rfl (.int .i64 x4.int)).setCell (p := ⟨vb, 6, none⟩) rfl (.slice AL m cL))
      have HMg := Lib.hid (((((((HMf.out.set 0 (.int .i64 4)).set 1 (.string ⟨#[]⟩)).set 2 (.int .i64 x1.int)).set 3 (.int .i64 x2.int)).set 4 (.int .i64 x3.int)).set 5 (.int .i64 x4.int)).set 6 (.slice AL m cL))
      have HRg := Lib.hid (HRf.out.touch htp (by omega))
      have HOg := Lib.hid (own_touch HOf.out htp (row_ne HOf.out (by omega)))
      have HTg := Lib.hid (HTf.out.under htp (fun k hk e => by have e' : k = vb := e; omega))
      clear htp
      go_wp2_with fail
      generalize (((((((wz.setCell ⟨vb, 0, none⟩ (.int .i64 4)).setCell ⟨vb, 1, none⟩ (.string ⟨#[]⟩)).setCell ⟨vb, 2, none⟩ (.int .i64 x1.int)).setCell ⟨vb, 3, none⟩ (.int .i64 x2.int)).setCell ⟨vb, 4, none⟩ (.int .i64 x3.int)).setCell ⟨vb, 5, none⟩ (.int .i64 x4.int)).setCell ⟨vb, 6, none⟩ (.slice AL m cL)) = wy at *
      have g0' : wy.cell? ⟨vb, 0, none⟩ = some (.int .i64 4) := HMg.out.c 0 rfl
      have g1 : wy.cell? ⟨vb, 1, none⟩ = some (.string ⟨#[]⟩) := HMg.out.c 1 rfl
      have g2 : wy.cell? ⟨vb, 2, none⟩ = some (.int .i64 x1.int) := HMg.out.c 2 rfl
      have g3 : wy.cell? ⟨vb, 3, none⟩ = some (.int .i64 x2.int) := HMg.out.c 3 rfl
      have g4 : wy.cell? ⟨vb, 4, none⟩ = some (.int .i64 x3.int) := HMg.out.c 4 rfl
      have g5 : wy.cell? ⟨vb, 5, none⟩ = some (.int .i64 x4.int) := HMg.out.c 5 rfl
      have g6 : wy.cell? ⟨vb, 6, none⟩ = some (.slice AL m cL) := HMg.out.c 6 rfl
      refine bodyPost_ret (v := .agg #[.int .i64 4, .string ⟨#[]⟩, .int .i64 x1.int, .int .i64 x2.int, .int .i64 x3.int, .int .i64 x4.int, .slice AL m cL]) (by simp [results, Tryz.results43, go_sem, g0', g1, g2, g3, g4, g5, g6]) rfl ?_
      have hf := HRg.out
      have hl : m = ((x5.items.map logR).map (·.2)).length := by rw [List.length_map, List.length_map, ← HIts.out]; exact HP5.out
      have hO := HOg.out
      have hmm : ((its.map fun y => (logR y).2)) = (x5.items.map logR).map (·.2) := by rw [HIts.out, List.map_map]; rfl
      rw [hmm] at hO
      rw [HBq.out, HIts.out] at hf
      refine ⟨AL, cL, by first | (rw [← hl]; done) | (rw [← hl]; rfl), by rw [← hl]; exact own_rdp hO (fun k hk => by omega), ?_, HTg.out⟩
      simp only [Bool.or_assoc] at hf ⊢
      exact hf
end Go.Proofs.YtigdjnfnkjfkmaaGreatDoor
namespace Go.Proofs.YtigdjnfnkjfkmaaGreatDoor
open Go.RowKit
set_option linter.unusedVariables false
set_option linter.unusedSimpArgs false
set_option maxRecDepth 100000

theorem rmsg_any (x : J) (N I : Value) (ty : B) (rb : Nat) (b : Bool) (w : World)
    (hR : RJ (fun k => k < w.heap.size ∧ ¬ k = rb) w x [.int .i64 x.kind, .int .i64 x.int, .string (ofL x.text), N, I]) (hwt : wtJ x ≤ 1048576) (hB : RB w rb b) :
    Calls Tryz.prog 43 #[.pointer (some ⟨rb, 0, none⟩), .agg #[.int .i64 x.kind, .int .i64 x.int, .string (ofL x.text), N, I], .string (ofL ty)] w (MsgP rb (msgR x ty).2 (b || (msgR x ty).1) w) := by
  by_cases h1 : ty = pushN
  · subst h1; exact rmsg_push x N I rb b w hR hwt hB
  by_cases h2 : ty = pushedN
  · subst h2; exact rmsg_pushed x N I rb b w hR hwt hB
  by_cases h3 : ty = pullN
  · subst h3; exact rmsg_pull x N I rb b w hR hwt hB
  by_cases h4 : ty = patchN
  · subst h4; exact rmsg_patch x N I rb b w hR hwt hB
  by_cases h5 : ty = pokeN
  · subst h5; exact rmsg_poke x N I rb b w hR hwt hB
  exact rmsg_other x N I ty rb b w hR hB h1 h2 h3 h4 h5
end Go.Proofs.YtigdjnfnkjfkmaaGreatDoor
