/- A message taken out of a value: the types without a list (msg's reader.message). Conditions: the value is small. -/
import Derived.Test.YtigdjnfnkjfkmaaGreatDoorMsgF
namespace Go.Proofs.YtigdjnfnkjfkmaaGreatDoor
open Go.RowKit
set_option linter.unusedVariables false
set_option linter.unusedSimpArgs false
set_option maxRecDepth 100000

/-- What the reader's message answers. -/
def MsgP (rb : Nat) (m : Ms) (bad : Bool) (w : World) (e : Ending) (w' : World) : Prop := ∃ A c, e = .returned (.agg #[.int .i64 m.kind, .string (ofL m.client), .int .i64 m.sfrom, .int .i64 m.cookie, .int .i64 m.last, .int .i64 m.top, .slice A m.list.length c]) ∧
  RdP (fun k => w.heap.size ≤ k) w' 6 (.slice A m.list.length c) m.list.length (logsV m.list) ∧ RB w' rb bad ∧ Touch (fun k => k = rb) w w'
theorem msgp_nil {rb : Nat} {k f q a t : Int} {c : B} {bad : Bool} {w w' : World} (h1 : RB w' rb bad) (h2 : Touch (fun k => k = rb) w w') :
    MsgP rb ⟨k, c, f, q, a, t, []⟩ bad w (.returned (.agg #[.int .i64 k, .string (ofL c), .int .i64 f, .int .i64 q, .int .i64 a, .int .i64 t, .slice none 0 0])) w' :=
  ⟨none, 0, rfl, RdP.nil, h1, h2⟩
set_option maxHeartbeats 16000000 in
theorem rmsg_pushed (x : J) (N I : Value) (rb : Nat) (b : Bool) (w : World)
    (hR : RJ (fun k => k < w.heap.size ∧ ¬ k = rb) w x [.int .i64 x.kind, .int .i64 x.int, .string (ofL x.text), N, I]) (hwt : wtJ x ≤ 1048576) (hB : RB w rb b) :
    Calls Tryz.prog 43 #[.pointer (some ⟨rb, 0, none⟩), .agg #[.int .i64 x.kind, .int .i64 x.int, .string (ofL x.text), N, I], .string (ofL pushedN)] w (MsgP rb (msgR x pushedN).2 (b || (msgR x pushedN).1) w) := by
  obtain ⟨⟨A1, m1, c1, rfl⟩, A2, m2, c2, rfl⟩ := rj_slices hR
  have KO := fun (w' : World) (nv : Value) (hb : Below w.heap.size w w') (hN : RdP (fun k => k < w'.heap.size ∧ ¬ k = rb) w' 1 nv 3 (strs [typeN, lastN, topN])) (hB' : RB w' rb b) =>
    robject_any x _ _ nv [typeN, lastN, topN] rb b w' (RJ.mono (fun k hk _ => ⟨Nat.lt_of_lt_of_le hk.1 hb.size, hk.2⟩) _ _ (RJ.below hR hb)) hwt hN (by show 3 ≤ 1000; decide) hB'
  have hlt := hB.lt
  obtain ⟨bl, xs, hox⟩ : ∃ bl xs, objR x [typeN, lastN, topN] = (bl, xs) := ⟨_, _, rfl⟩
  have hxl : xs.length = 3 := by have := congrArg (fun p => p.2.length) hox; simpa [objR] using this.symm
  have hxw := objR_wt x [typeN, lastN, topN]
  rw [hox] at hxw
  obtain ⟨x0, x1, x2, rfl⟩ := len3 hxl
  have hmr : msgR x pushedN = (bl || !decide (x1.kind = 2) || !decide (x2.kind = 2), ⟨2, [], 0, 0, x1.int, x2.int, []⟩) := by
    unfold msgR
    rw [hox]
    rfl
  rw [hmr]
  rw [hox] at KO
  have HKO := Lib.hid KO
  have hall : ∃ W, W = ((w.alloc (.cells #[.int .i64 x.kind, .int .i64 x.int, .string (ofL x.text), .slice A1 m1 c1, .slice A2 m2 c2] 49)).alloc (.cells #[.int .i64 0, .string ⟨#[]⟩, .int .i64 0, .int .i64 0, .int .i64 0, .int .i64 0, .slice none 0 0] 24)).alloc (.cells #[.int .i64 0, .string ⟨#[]⟩, .int .i64 0, .int .i64 0, .int .i64 0, .int .i64 0, .slice none 0 0] 24) ∧ JC W w.heap.size x.kind x.int (ofL x.text) (.slice A1 m1 c1) (.slice A2 m2 c2) ∧ CB W (w.heap.size + 1) #[.int .i64 0, .string ⟨#[]⟩, .int .i64 0, .int .i64 0, .int .i64 0, .int .i64 0, .slice none 0 0] 24 ∧ CB W (w.heap.size + 1 + 1) #[.int .i64 0, .string ⟨#[]⟩, .int .i64 0, .int .i64 0, .int .i64 0, .int .i64 0, .slice none 0 0] 24 ∧ Below w.heap.size w W := by
    have h2 := (Below.refl (w.alloc (.cells #[.int .i64 x.kind, .int .i64 x.int, .string (ofL x.text), .slice A1 m1 c1, .slice A2 m2 c2] 49)).heap.size (w.alloc (.cells #[.int .i64 x.kind, .int .i64 x.int, .string (ofL x.text), .slice A1 m1 c1, .slice A2 m2 c2] 49))).alloc (Nat.le_refl _) (.cells #[.int .i64 0, .string ⟨#[]⟩, .int .i64 0, .int .i64 0, .int .i64 0, .int .i64 0, .slice none 0 0] 24)
    have h3 := (Below.refl ((w.alloc (.cells #[.int .i64 x.kind, .int .i64 x.int, .string (ofL x.text), .slice A1 m1 c1, .slice A2 m2 c2] 49)).alloc (.cells #[.int .i64 0, .string ⟨#[]⟩, .int .i64 0, .int .i64 0, .int .i64 0, .int .i64 0, .slice none 0 0] 24)).heap.size ((w.alloc (.cells #[.int .i64 x.kind, .int .i64 x.int, .string (ofL x.text), .slice A1 m1 c1, .slice A2 m2 c2] 49)).alloc (.cells #[.int .i64 0, .string ⟨#[]⟩, .int .i64 0, .int .i64 0, .int .i64 0, .int .i64 0, .slice none 0 0] 24))).alloc (Nat.le_refl _) (.cells #[.int .i64 0, .string ⟨#[]⟩, .int .i64 0, .int .i64 0, .int .i64 0, .int .i64 0, .slice none 0 0] 24)
    refine ⟨_, rfl, (JC.below (show JC (w.alloc _) w.heap.size _ _ _ _ _ from heap_alloc_new w _) h2).below h3, ?_, ?_, (((Below.refl w.heap.size w).alloc (Nat.le_refl _) _).next h2).next h3⟩
    · have := CB.new (w.alloc (.cells #[.int .i64 x.kind, .int .i64 x.int, .string (ofL x.text), .slice A1 m1 c1, .slice A2 m2 c2] 49)) #[.int .i64 0, .string ⟨#[]⟩, .int .i64 0, .int .i64 0, .int .i64 0, .int .i64 0, .slice none 0 0] 24
      rw [World.size_alloc] at this; exact this.below h3
    · have := CB.new ((w.alloc (.cells #[.int .i64 x.kind, .int .i64 x.int, .string (ofL x.text), .slice A1 m1 c1, .slice A2 m2 c2] 49)).alloc (.cells #[.int .i64 0, .string ⟨#[]⟩, .int .i64 0, .int .i64 0, .int .i64 0, .int .i64 0, .slice none 0 0] 24)) #[.int .i64 0, .string ⟨#[]⟩, .int .i64 0, .int .i64 0, .int .i64 0, .int .i64 0, .slice none 0 0] 24
      rw [World.size_alloc, World.size_alloc] at this; exact this
  obtain ⟨w1, hw1, hj1, hm1, hn1, hb1⟩ := hall
  generalize hvb : w.heap.size + 1 = vb at *
  generalize hvc : vb + 1 = vc at *
  clear hR KO hxl hmr hox hwt hxw
  obtain ⟨s, hs⟩ : ∃ s : ByteArray, s = ofL pushedN := ⟨_, rfl⟩
  rw [← hs]
  have htpush : (s.toList == [112, 117, 115, 104]) = false := by rw [hs, toL_ofL]; decide
  have htpushed : (s.toList == [112, 117, 115, 104, 101, 100]) = true := by rw [hs, toL_ofL]; decide
  clear hs
  generalize x.kind = k at *
  generalize x.int = i at *
  generalize ofL x.text = t at *
  go_enter Tryz.func43, Tryz.ntmps43
  go_upto_region 2 with fail
  try simp only [hvb, hvc]
  rw [← hw1]
  clear hw1
  have d0 := hj1.c0
  have d1 := hj1.c1
  have d2 := hj1.c2
  have d3 := hj1.c3
  have d4 := hj1.c4
  have hz1 := hn1.lt
  have hb2 := (Below.refl w1.heap.size w1).alloc (Nat.le_refl _) (.cells ([Value.string ⟨#[116, 121, 112, 101]⟩, .string ⟨#[108, 97, 115, 116]⟩, .string ⟨#[116, 111, 112]⟩]).toArray 9)
  have hN2 := RdP.mono (Q := fun k => k < (w1.alloc (.cells ([Value.string ⟨#[116, 121, 112, 101]⟩, .string ⟨#[108, 97, 115, 116]⟩, .string ⟨#[116, 111, 112]⟩]).toArray 9)).heap.size ∧ ¬ k = rb) (rdp_new1 (w := w1) (ty := 9) [Value.string ⟨#[116, 121, 112, 101]⟩, .string ⟨#[108, 97, 115, 116]⟩, .string ⟨#[116, 111, 112]⟩] (show 3 = 3 * 1 from rfl) (by decide)) (by omega) (fun k hk _ => ⟨hk.2, by have := hk.1; omega⟩)
  have K := Lib.hid (HKO.out _ _ (hb1.next hb2) (show RdP _ _ 1 _ 3 (strs [typeN, lastN, topN]) from hN2) ((hB.below hb1).below hb2))
  have hm2 := hm1.below hb2
  have hn2 := hn1.below hb2
  have hb12 := hb1.next hb2
  clear hN2 hb2
  go_wp2_with fail
  (with_reducible refine K.out.mono ?_); rintro e w2 ⟨A, c, ys, rfl, hRd, hRs, hB2, hT2⟩
  obtain ⟨g, o, rfl, hg, hcs⟩ := cells_of hRd (by rfl) hRs (by decide)
  have hg' : (w1.alloc (.cells ([Value.string ⟨#[116, 121, 112, 101]⟩, .string ⟨#[108, 97, 115, 116]⟩, .string ⟨#[116, 111, 112]⟩]).toArray 9)).heap.size ≤ g := hg
  rw [World.size_alloc] at hg'
  have hgr : ¬ g = rb := by have := hb12.size; omega
  have hgv : ¬ g = vc := by omega
  obtain ⟨B1, n1, e1, C1, p1, f1, -, c10, c11, c12, c13, c14⟩ := hcs 1 x1 rfl
  obtain ⟨B2, n2, e2, C2, p2, f2, -, c20, c21, c22, c23, c24⟩ := hcs 2 x2 rfl
  simp only [Nat.zero_mul, Nat.add_zero, Nat.one_mul, Nat.add_assoc, Nat.reduceMul, Nat.reduceAdd] at c10 c11 c12 c13 c14 c20 c21 c22 c23 c24
  have hd := (Below.refl w2.heap.size w2).drew
  have q10 := Below.keeps hd c10
  have q11 := Below.keeps hd c11
  have q12 := Below.keeps hd c12
  have q13 := Below.keeps hd c13
  have q14 := Below.keeps hd c14
  have q20 := Below.keeps hd c20
  have q21 := Below.keeps hd c21
  have q22 := Below.keeps hd c22
  have q23 := Below.keeps hd c23
  have q24 := Below.keeps hd c24
  have HRB := Lib.hid (hB2.below hd)
  have HT := Lib.hid (((Touch.of_below (F := fun k => k = rb) hb12).trans hT2).next hd)
  have HM := Lib.hid ((hm2.touch hT2 (by omega)).below hd)
  have HN := Lib.hid ((hn2.touch hT2 (by omega)).below hd)
  have hzz := hb12.size
  clear hcs hRs hRd hB2 hT2 hB hm1 hm2 hn1 hn2 hj1 hb1 hb12 K d0 d1 d2 d3 d4 hg hg' hd
  clear c10 c11 c12 c13 c14 c20 c21 c22 c23 c24
  go_upto_region 14 with fail
  go_region_held3 (fun w' => w'.cell? ⟨g, o + 5, none⟩ = some (.int .i64 x1.kind) ∧ w'.cell? ⟨g, o + 6, none⟩ = some (.int .i64 x1.int) ∧ w'.cell? ⟨g, o + 7, none⟩ = some (.string (ofL x1.text)) ∧ w'.cell? ⟨g, o + 8, none⟩ = some (.slice B1 n1 e1) ∧ w'.cell? ⟨g, o + 9, none⟩ = some (.slice C1 p1 f1) ∧ w'.cell? ⟨g, o + 10, none⟩ = some (.int .i64 x2.kind) ∧ w'.cell? ⟨g, o + 11, none⟩ = some (.int .i64 x2.int) ∧ w'.cell? ⟨g, o + 12, none⟩ = some (.string (ofL x2.text)) ∧ w'.cell? ⟨g, o + 13, none⟩ = some (.slice B2 n2 e2) ∧ w'.cell? ⟨g, o + 14, none⟩ = some (.slice C2 p2 f2))
    (first | (with_reducible exact ⟨z10, z11, z12, z13, z14, z20, z21, z22, z23, z24⟩) | (with_reducible exact ⟨q10, q11, q12, q13, q14, q20, q21, q22, q23, q24⟩))
    (first | (go_at_call 68; (with_reducible refine (rnum_any _ _ _ _ _ _ _ _ _ rb _ _ HRB.out).mono ?_); rintro e w2 ⟨rfl, hrb2, ht2⟩; have htk := touch_keeps (P := fun k => ¬ k = rb) ht2 (fun k hk e => hk e); have q10 := htk _ _ _ hgr q10; have q11 := htk _ _ _ hgr q11; have q12 := htk _ _ _ hgr q12; have q13 := htk _ _ _ hgr q13; have q14 := htk _ _ _ hgr q14; have q20 := htk _ _ _ hgr q20; have q21 := htk _ _ _ hgr q21; have q22 := htk _ _ _ hgr q22; have q23 := htk _ _ _ hgr q23; have q24 := htk _ _ _ hgr q24; have HRB := Lib.hid hrb2; have HT := Lib.hid (HT.out.trans ht2); have hm2 := HM.out.touch ht2 (by omega); have HM := Lib.hid hm2; have hn2 := HN.out.touch ht2 (by omega); have HN := Lib.hid hn2; have h0 := hn2.c 0 rfl; have v0 := hn2.f 0; have h1 := hn2.c 1 rfl; have v1 := hn2.f 1; have h2 := hn2.c 2 rfl; have v2 := hn2.f 2; have h3 := hn2.c 3 rfl; have v3 := hn2.f 3; have h4 := hn2.c 4 rfl; have v4 := hn2.f 4; have h5 := hn2.c 5 rfl; have v5 := hn2.f 5; have h6 := hn2.c 6 rfl; have v6 := hn2.f 6; have htp := ((((((((Touch.refl (fun k => k = vc) w2).setCell (p := ⟨vc, 0, none⟩) rfl (.int .i64 2)).setCell (p := ⟨vc, 1, none⟩) rfl (.string ⟨#[]⟩)).setCell (p := ⟨vc, 2, none⟩) rfl (.int .i64 0)).setCell (p := ⟨vc, 3, none⟩) rfl (.int .i64 0)).setCell (p := ⟨vc, 4, none⟩) rfl (.int .i64 x1.int)).setCell (p := ⟨vc, 5, none⟩) rfl (.int .i64 x2.int)).setCell (p := ⟨vc, 6, none⟩) rfl (.slice none 0 0)); have htk := touch_keeps (P := fun k => ¬ k = vc) htp (fun k hk e => hk e); have z10 := htk _ _ _ hgv q10; have z11 := htk _ _ _ hgv q11; have z12 := htk _ _ _ hgv q12; have z13 := htk _ _ _ hgv q13; have z14 := htk _ _ _ hgv q14; have z20 := htk _ _ _ hgv q20; have z21 := htk _ _ _ hgv q21; have z22 := htk _ _ _ hgv q22; have z23 := htk _ _ _ hgv q23; have z24 := htk _ _ _ hgv q24))
  have HNf := Lib.hid (((((((hn2.set 0 (.int .i64 2)).set 1 (.string ⟨#[]⟩)).set 2 (.int .i64 0)).set 3 (.int .i64 0)).set 4 (.int .i64 x1.int)).set 5 (.int .i64 x2.int)).set 6 (.slice none 0 0))
  have HMf := Lib.hid (HM.out.touch htp (by omega))
  have HRf := Lib.hid (HRB.out.touch htp (by omega))
  have HTf := Lib.hid (HT.out.under htp (fun k hk e => by have e' : k = vc := e; omega))
  clear htp htk hm2 hn2 h0 v0 h1 v1 h2 v2 h3 v3 h4 v4 h5 v5 h6 v6
  generalize (((((((w2.setCell ⟨vc, 0, none⟩ (.int .i64 2)).setCell ⟨vc, 1, none⟩ (.string ⟨#[]⟩)).setCell ⟨vc, 2, none⟩ (.int .i64 0)).setCell ⟨vc, 3, none⟩ (.int .i64 0)).setCell ⟨vc, 4, none⟩ (.int .i64 x1.int)).setCell ⟨vc, 5, none⟩ (.int .i64 x2.int)).setCell ⟨vc, 6, none⟩ (.slice none 0 0)) = wz at *
  have h0 : wz.cell? ⟨vc, 0, none⟩ = some (.int .i64 2) := HNf.out.c 0 rfl
  have h1 : wz.cell? ⟨vc, 1, none⟩ = some (.string ⟨#[]⟩) := HNf.out.c 1 rfl
  have h2 : wz.cell? ⟨vc, 2, none⟩ = some (.int .i64 0) := HNf.out.c 2 rfl
  have h3 : wz.cell? ⟨vc, 3, none⟩ = some (.int .i64 0) := HNf.out.c 3 rfl
  have h4 : wz.cell? ⟨vc, 4, none⟩ = some (.int .i64 x1.int) := HNf.out.c 4 rfl
  have h5 : wz.cell? ⟨vc, 5, none⟩ = some (.int .i64 x2.int) := HNf.out.c 5 rfl
  have h6 : wz.cell? ⟨vc, 6, none⟩ = some (.slice none 0 0) := HNf.out.c 6 rfl
  have k0 := HMf.out.c 0 rfl
  have v0 := HMf.out.f 0
  have k1 := HMf.out.c 1 rfl
  have v1 := HMf.out.f 1
  have k2 := HMf.out.c 2 rfl
  have v2 := HMf.out.f 2
  have k3 := HMf.out.c 3 rfl
  have v3 := HMf.out.f 3
  have k4 := HMf.out.c 4 rfl
  have v4 := HMf.out.f 4
  have k5 := HMf.out.c 5 rfl
  have v5 := HMf.out.f 5
  have k6 := HMf.out.c 6 rfl
  have v6 := HMf.out.f 6
  have htp := ((((((((Touch.refl (fun k => k = vb) wz).setCell (p := ⟨vb, 0, none⟩) rfl (.int .i64 2)).setCell (p := ⟨vb, 1, none⟩) rfl (.string ⟨#[]⟩)).setCell (p := ⟨vb, 2, none⟩) rfl (.int .i64 0)).setCell (p := ⟨vb, 3, none⟩) rfl (.int .i64 0)).setCell (p := ⟨vb, 4, none⟩) rfl (.int .i64 x1.int)).setCell (p := ⟨vb, 5, none⟩) rfl (.int .i64 x2.int)).setCell (p := ⟨vb, 6, none⟩) rfl (.slice none 0 0))
  have HMg := Lib.hid (((((((HMf.out.set 0 (.int .i64 2)).set 1 (.string ⟨#[]⟩)).set 2 (.int .i64 0)).set 3 (.int .i64 0)).set 4 (.int .i64 x1.int)).set 5 (.int .i64 x2.int)).set 6 (.slice none 0 0))
  have HRg := Lib.hid (HRf.out.touch htp (by omega))
  have HTg := Lib.hid (HTf.out.under htp (fun k hk e => by have e' : k = vb := e; omega))
  clear htp hrb2 ht2
  go_wp2_with fail
  generalize (((((((wz.setCell ⟨vb, 0, none⟩ (.int .i64 2)).setCell ⟨vb, 1, none⟩ (.string ⟨#[]⟩)).setCell ⟨vb, 2, none⟩ (.int .i64 0)).setCell ⟨vb, 3, none⟩ (.int .i64 0)).setCell ⟨vb, 4, none⟩ (.int .i64 x1.int)).setCell ⟨vb, 5, none⟩ (.int .i64 x2.int)).setCell ⟨vb, 6, none⟩ (.slice none 0 0)) = wy at *
  have g0 : wy.cell? ⟨vb, 0, none⟩ = some (.int .i64 2) := HMg.out.c 0 rfl
  have g1 : wy.cell? ⟨vb, 1, none⟩ = some (.string ⟨#[]⟩) := HMg.out.c 1 rfl
  have g2 : wy.cell? ⟨vb, 2, none⟩ = some (.int .i64 0) := HMg.out.c 2 rfl
  have g3 : wy.cell? ⟨vb, 3, none⟩ = some (.int .i64 0) := HMg.out.c 3 rfl
  have g4 : wy.cell? ⟨vb, 4, none⟩ = some (.int .i64 x1.int) := HMg.out.c 4 rfl
  have g5 : wy.cell? ⟨vb, 5, none⟩ = some (.int .i64 x2.int) := HMg.out.c 5 rfl
  have g6 : wy.cell? ⟨vb, 6, none⟩ = some (.slice none 0 0) := HMg.out.c 6 rfl
  refine bodyPost_ret (v := .agg #[.int .i64 2, .string ⟨#[]⟩, .int .i64 0, .int .i64 0, .int .i64 x1.int, .int .i64 x2.int, .slice none 0 0]) (by simp [results, Tryz.results43, go_sem, g0, g1, g2, g3, g4, g5, g6]) rfl ?_
  have hf := HRg.out
  try simp only [Bool.or_assoc] at hf ⊢
  exact msgp_nil hf HTg.out
set_option maxHeartbeats 16000000 in
theorem rmsg_pull (x : J) (N I : Value) (rb : Nat) (b : Bool) (w : World)
    (hR : RJ (fun k => k < w.heap.size ∧ ¬ k = rb) w x [.int .i64 x.kind, .int .i64 x.int, .string (ofL x.text), N, I]) (hwt : wtJ x ≤ 1048576) (hB : RB w rb b) :
    Calls Tryz.prog 43 #[.pointer (some ⟨rb, 0, none⟩), .agg #[.int .i64 x.kind, .int .i64 x.int, .string (ofL x.text), N, I], .string (ofL pullN)] w (MsgP rb (msgR x pullN).2 (b || (msgR x pullN).1) w) := by
  obtain ⟨⟨A1, m1, c1, rfl⟩, A2, m2, c2, rfl⟩ := rj_slices hR
  have KO := fun (w' : World) (nv : Value) (hb : Below w.heap.size w w') (hN : RdP (fun k => k < w'.heap.size ∧ ¬ k = rb) w' 1 nv 3 (strs [typeN, clientN, cookieN])) (hB' : RB w' rb b) =>
    robject_any x _ _ nv [typeN, clientN, cookieN] rb b w' (RJ.mono (fun k hk _ => ⟨Nat.lt_of_lt_of_le hk.1 hb.size, hk.2⟩) _ _ (RJ.below hR hb)) hwt hN (by show 3 ≤ 1000; decide) hB'
  have hlt := hB.lt
  obtain ⟨bl, xs, hox⟩ : ∃ bl xs, objR x [typeN, clientN, cookieN] = (bl, xs) := ⟨_, _, rfl⟩
  have hxl : xs.length = 3 := by have := congrArg (fun p => p.2.length) hox; simpa [objR] using this.symm
  have hxw := objR_wt x [typeN, clientN, cookieN]
  rw [hox] at hxw
  obtain ⟨x0, x1, x2, rfl⟩ := len3 hxl
  have hmr : msgR x pullN = (bl || !decide (x1.kind = 3) || !decide (x2.kind = 2), ⟨3, x1.text, 0, x2.int, 0, 0, []⟩) := by
    unfold msgR
    rw [hox]
    rfl
  rw [hmr]
  rw [hox] at KO
  have HKO := Lib.hid KO
  have hall : ∃ W, W = ((w.alloc (.cells #[.int .i64 x.kind, .int .i64 x.int, .string (ofL x.text), .slice A1 m1 c1, .slice A2 m2 c2] 49)).alloc (.cells #[.int .i64 0, .string ⟨#[]⟩, .int .i64 0, .int .i64 0, .int .i64 0, .int .i64 0, .slice none 0 0] 24)).alloc (.cells #[.int .i64 0, .string ⟨#[]⟩, .int .i64 0, .int .i64 0, .int .i64 0, .int .i64 0, .slice none 0 0] 24) ∧ JC W w.heap.size x.kind x.int (ofL x.text) (.slice A1 m1 c1) (.slice A2 m2 c2) ∧ CB W (w.heap.size + 1) #[.int .i64 0, .string ⟨#[]⟩, .int .i64 0, .int .i64 0, .int .i64 0, .int .i64 0, .slice none 0 0] 24 ∧ CB W (w.heap.size + 1 + 1) #[.int .i64 0, .string ⟨#[]⟩, .int .i64 0, .int .i64 0, .int .i64 0, .int .i64 0, .slice none 0 0] 24 ∧ Below w.heap.size w W := by
    have h2 := (Below.refl (w.alloc (.cells #[.int .i64 x.kind, .int .i64 x.int, .string (ofL x.text), .slice A1 m1 c1, .slice A2 m2 c2] 49)).heap.size (w.alloc (.cells #[.int .i64 x.kind, .int .i64 x.int, .string (ofL x.text), .slice A1 m1 c1, .slice A2 m2 c2] 49))).alloc (Nat.le_refl _) (.cells #[.int .i64 0, .string ⟨#[]⟩, .int .i64 0, .int .i64 0, .int .i64 0, .int .i64 0, .slice none 0 0] 24)
    have h3 := (Below.refl ((w.alloc (.cells #[.int .i64 x.kind, .int .i64 x.int, .string (ofL x.text), .slice A1 m1 c1, .slice A2 m2 c2] 49)).alloc (.cells #[.int .i64 0, .string ⟨#[]⟩, .int .i64 0, .int .i64 0, .int .i64 0, .int .i64 0, .slice none 0 0] 24)).heap.size ((w.alloc (.cells #[.int .i64 x.kind, .int .i64 x.int, .string (ofL x.text), .slice A1 m1 c1, .slice A2 m2 c2] 49)).alloc (.cells #[.int .i64 0, .string ⟨#[]⟩, .int .i64 0, .int .i64 0, .int .i64 0, .int .i64 0, .slice none 0 0] 24))).alloc (Nat.le_refl _) (.cells #[.int .i64 0, .string ⟨#[]⟩, .int .i64 0, .int .i64 0, .int .i64 0, .int .i64 0, .slice none 0 0] 24)
    refine ⟨_, rfl, (JC.below (show JC (w.alloc _) w.heap.size _ _ _ _ _ from heap_alloc_new w _) h2).below h3, ?_, ?_, (((Below.refl w.heap.size w).alloc (Nat.le_refl _) _).next h2).next h3⟩
    · have := CB.new (w.alloc (.cells #[.int .i64 x.kind, .int .i64 x.int, .string (ofL x.text), .slice A1 m1 c1, .slice A2 m2 c2] 49)) #[.int .i64 0, .string ⟨#[]⟩, .int .i64 0, .int .i64 0, .int .i64 0, .int .i64 0, .slice none 0 0] 24
      rw [World.size_alloc] at this; exact this.below h3
    · have := CB.new ((w.alloc (.cells #[.int .i64 x.kind, .int .i64 x.int, .string (ofL x.text), .slice A1 m1 c1, .slice A2 m2 c2] 49)).alloc (.cells #[.int .i64 0, .string ⟨#[]⟩, .int .i64 0, .int .i64 0, .int .i64 0, .int .i64 0, .slice none 0 0] 24)) #[.int .i64 0, .string ⟨#[]⟩, .int .i64 0, .int .i64 0, .int .i64 0, .int .i64 0, .slice none 0 0] 24
      rw [World.size_alloc, World.size_alloc] at this; exact this
  obtain ⟨w1, hw1, hj1, hm1, hn1, hb1⟩ := hall
  generalize hvb : w.heap.size + 1 = vb at *
  generalize hvc : vb + 1 = vc at *
  clear hR KO hxl hmr hox hwt hxw
  obtain ⟨s, hs⟩ : ∃ s : ByteArray, s = ofL pullN := ⟨_, rfl⟩
  rw [← hs]
  have htpush : (s.toList == [112, 117, 115, 104]) = false := by rw [hs, toL_ofL]; decide
  have htpushed : (s.toList == [112, 117, 115, 104, 101, 100]) = false := by rw [hs, toL_ofL]; decide
  have htpull : (s.toList == [112, 117, 108, 108]) = true := by rw [hs, toL_ofL]; decide
  clear hs
  generalize x.kind = k at *
  generalize x.int = i at *
  generalize ofL x.text = t at *
  go_enter Tryz.func43, Tryz.ntmps43
  go_upto_region 2 with fail
  try simp only [hvb, hvc]
  rw [← hw1]
  clear hw1
  have d0 := hj1.c0
  have d1 := hj1.c1
  have d2 := hj1.c2
  have d3 := hj1.c3
  have d4 := hj1.c4
  have hz1 := hn1.lt
  have hb2 := (Below.refl w1.heap.size w1).alloc (Nat.le_refl _) (.cells ([Value.string ⟨#[116, 121, 112, 101]⟩, .string ⟨#[99, 108, 105, 101, 110, 116]⟩, .string ⟨#[99, 111, 111, 107, 105, 101]⟩]).toArray 9)
  have hN2 := RdP.mono (Q := fun k => k < (w1.alloc (.cells ([Value.string ⟨#[116, 121, 112, 101]⟩, .string ⟨#[99, 108, 105, 101, 110, 116]⟩, .string ⟨#[99, 111, 111, 107, 105, 101]⟩]).toArray 9)).heap.size ∧ ¬ k = rb) (rdp_new1 (w := w1) (ty := 9) [Value.string ⟨#[116, 121, 112, 101]⟩, .string ⟨#[99, 108, 105, 101, 110, 116]⟩, .string ⟨#[99, 111, 111, 107, 105, 101]⟩] (show 3 = 3 * 1 from rfl) (by decide)) (by omega) (fun k hk _ => ⟨hk.2, by have := hk.1; omega⟩)
  have K := Lib.hid (HKO.out _ _ (hb1.next hb2) (show RdP _ _ 1 _ 3 (strs [typeN, clientN, cookieN]) from hN2) ((hB.below hb1).below hb2))
  have hm2 := hm1.below hb2
  have hn2 := hn1.below hb2
  have hb12 := hb1.next hb2
  clear hN2 hb2
  go_wp2_with fail
  (with_reducible refine K.out.mono ?_); rintro e w2 ⟨A, c, ys, rfl, hRd, hRs, hB2, hT2⟩
  obtain ⟨g, o, rfl, hg, hcs⟩ := cells_of hRd (by rfl) hRs (by decide)
  have hg' : (w1.alloc (.cells ([Value.string ⟨#[116, 121, 112, 101]⟩, .string ⟨#[99, 108, 105, 101, 110, 116]⟩, .string ⟨#[99, 111, 111, 107, 105, 101]⟩]).toArray 9)).heap.size ≤ g := hg
  rw [World.size_alloc] at hg'
  have hgr : ¬ g = rb := by have := hb12.size; omega
  have hgv : ¬ g = vc := by omega
  obtain ⟨B1, n1, e1, C1, p1, f1, -, c10, c11, c12, c13, c14⟩ := hcs 1 x1 rfl
  obtain ⟨B2, n2, e2, C2, p2, f2, -, c20, c21, c22, c23, c24⟩ := hcs 2 x2 rfl
  simp only [Nat.zero_mul, Nat.add_zero, Nat.one_mul, Nat.add_assoc, Nat.reduceMul, Nat.reduceAdd] at c10 c11 c12 c13 c14 c20 c21 c22 c23 c24
  have hd := (Below.refl w2.heap.size w2).drew
  have q10 := Below.keeps hd c10
  have q11 := Below.keeps hd c11
  have q12 := Below.keeps hd c12
  have q13 := Below.keeps hd c13
  have q14 := Below.keeps hd c14
  have q20 := Below.keeps hd c20
  have q21 := Below.keeps hd c21
  have q22 := Below.keeps hd c22
  have q23 := Below.keeps hd c23
  have q24 := Below.keeps hd c24
  have HRB := Lib.hid (hB2.below hd)
  have HT := Lib.hid (((Touch.of_below (F := fun k => k = rb) hb12).trans hT2).next hd)
  have HM := Lib.hid ((hm2.touch hT2 (by omega)).below hd)
  have HN := Lib.hid ((hn2.touch hT2 (by omega)).below hd)
  have hzz := hb12.size
  clear hcs hRs hRd hB2 hT2 hB hm1 hm2 hn1 hn2 hj1 hb1 hb12 K d0 d1 d2 d3 d4 hg hg' hd
  clear c10 c11 c12 c13 c14 c20 c21 c22 c23 c24
  go_upto_region 17 with fail
  go_region_held3 (fun w' => w'.cell? ⟨g, o + 5, none⟩ = some (.int .i64 x1.kind) ∧ w'.cell? ⟨g, o + 6, none⟩ = some (.int .i64 x1.int) ∧ w'.cell? ⟨g, o + 7, none⟩ = some (.string (ofL x1.text)) ∧ w'.cell? ⟨g, o + 8, none⟩ = some (.slice B1 n1 e1) ∧ w'.cell? ⟨g, o + 9, none⟩ = some (.slice C1 p1 f1) ∧ w'.cell? ⟨g, o + 10, none⟩ = some (.int .i64 x2.kind) ∧ w'.cell? ⟨g, o + 11, none⟩ = some (.int .i64 x2.int) ∧ w'.cell? ⟨g, o + 12, none⟩ = some (.string (ofL x2.text)) ∧ w'.cell? ⟨g, o + 13, none⟩ = some (.slice B2 n2 e2) ∧ w'.cell? ⟨g, o + 14, none⟩ = some (.slice C2 p2 f2))
    (first | (with_reducible exact ⟨z10, z11, z12, z13, z14, z20, z21, z22, z23, z24⟩) | (with_reducible exact ⟨q10, q11, q12, q13, q14, q20, q21, q22, q23, q24⟩))
    (first | (go_at_call 66; (with_reducible refine (rtxt_any _ _ _ _ _ _ _ _ _ rb _ _ HRB.out).mono ?_); rintro e w2 ⟨rfl, hrb2, ht2⟩; have htk := touch_keeps (P := fun k => ¬ k = rb) ht2 (fun k hk e => hk e); have q10 := htk _ _ _ hgr q10; have q11 := htk _ _ _ hgr q11; have q12 := htk _ _ _ hgr q12; have q13 := htk _ _ _ hgr q13; have q14 := htk _ _ _ hgr q14; have q20 := htk _ _ _ hgr q20; have q21 := htk _ _ _ hgr q21; have q22 := htk _ _ _ hgr q22; have q23 := htk _ _ _ hgr q23; have q24 := htk _ _ _ hgr q24; have HRB := Lib.hid hrb2; have HT := Lib.hid (HT.out.trans ht2); have hm2 := HM.out.touch ht2 (by omega); have HM := Lib.hid hm2; have hn2 := HN.out.touch ht2 (by omega); have HN := Lib.hid hn2; have h0 := hn2.c 0 rfl; have v0 := hn2.f 0; have h1 := hn2.c 1 rfl; have v1 := hn2.f 1; have h2 := hn2.c 2 rfl; have v2 := hn2.f 2; have h3 := hn2.c 3 rfl; have v3 := hn2.f 3; have h4 := hn2.c 4 rfl; have v4 := hn2.f 4; have h5 := hn2.c 5 rfl; have v5 := hn2.f 5; have h6 := hn2.c 6 rfl; have v6 := hn2.f 6; have htp := ((((((((Touch.refl (fun k => k = vc) w2).setCell (p := ⟨vc, 0, none⟩) rfl (.int .i64 3)).setCell (p := ⟨vc, 1, none⟩) rfl (.string (ofL x1.text))).setCell (p := ⟨vc, 2, none⟩) rfl (.int .i64 0)).setCell (p := ⟨vc, 3, none⟩) rfl (.int .i64 x2.int)).setCell (p := ⟨vc, 4, none⟩) rfl (.int .i64 0)).setCell (p := ⟨vc, 5, none⟩) rfl (.int .i64 0)).setCell (p := ⟨vc, 6, none⟩) rfl (.slice none 0 0)); have htk := touch_keeps (P := fun k => ¬ k = vc) htp (fun k hk e => hk e); have z10 := htk _ _ _ hgv q10; have z11 := htk _ _ _ hgv q11; have z12 := htk _ _ _ hgv q12; have z13 := htk _ _ _ hgv q13; have z14 := htk _ _ _ hgv q14; have z20 := htk _ _ _ hgv q20; have z21 := htk _ _ _ hgv q21; have z22 := htk _ _ _ hgv q22; have z23 := htk _ _ _ hgv q23; have z24 := htk _ _ _ hgv q24)
           | (go_at_call 68; (with_reducible refine (rnum_any _ _ _ _ _ _ _ _ _ rb _ _ HRB.out).mono ?_); rintro e w2 ⟨rfl, hrb2, ht2⟩; have htk := touch_keeps (P := fun k => ¬ k = rb) ht2 (fun k hk e => hk e); have q10 := htk _ _ _ hgr q10; have q11 := htk _ _ _ hgr q11; have q12 := htk _ _ _ hgr q12; have q13 := htk _ _ _ hgr q13; have q14 := htk _ _ _ hgr q14; have q20 := htk _ _ _ hgr q20; have q21 := htk _ _ _ hgr q21; have q22 := htk _ _ _ hgr q22; have q23 := htk _ _ _ hgr q23; have q24 := htk _ _ _ hgr q24; have HRB := Lib.hid hrb2; have HT := Lib.hid (HT.out.trans ht2); have hm2 := HM.out.touch ht2 (by omega); have HM := Lib.hid hm2; have hn2 := HN.out.touch ht2 (by omega); have HN := Lib.hid hn2; have h0 := hn2.c 0 rfl; have v0 := hn2.f 0; have h1 := hn2.c 1 rfl; have v1 := hn2.f 1; have h2 := hn2.c 2 rfl; have v2 := hn2.f 2; have h3 := hn2.c 3 rfl; have v3 := hn2.f 3; have h4 := hn2.c 4 rfl; have v4 := hn2.f 4; have h5 := hn2.c 5 rfl; have v5 := hn2.f 5; have h6 := hn2.c 6 rfl; have v6 := hn2.f 6; have htp := ((((((((Touch.refl (fun k => k = vc) w2).setCell (p := ⟨vc, 0, none⟩) rfl (.int .i64 3)).setCell (p := ⟨vc, 1, none⟩) rfl (.string (ofL x1.text))).setCell (p := ⟨vc, 2, none⟩) rfl (.int .i64 0)).setCell (p := ⟨vc, 3, none⟩) rfl (.int .i64 x2.int)).setCell (p := ⟨vc, 4, none⟩) rfl (.int .i64 0)).setCell (p := ⟨vc, 5, none⟩) rfl (.int .i64 0)).setCell (p := ⟨vc, 6, none⟩) rfl (.slice none 0 0)); have htk := touch_keeps (P := fun k => ¬ k = vc) htp (fun k hk e => hk e); have z10 := htk _ _ _ hgv q10; have z11 := htk _ _ _ hgv q11; have z12 := htk _ _ _ hgv q12; have z13 := htk _ _ _ hgv q13; have z14 := htk _ _ _ hgv q14; have z20 := htk _ _ _ hgv q20; have z21 := htk _ _ _ hgv q21; have z22 := htk _ _ _ hgv q22; have z23 := htk _ _ _ hgv q23; have z24 := htk _ _ _ hgv q24))
  have HNf := Lib.hid (((((((hn2.set 0 (.int .i64 3)).set 1 (.string (ofL x1.text))).set 2 (.int .i64 0)).set 3 (.int .i64 x2.int)).set 4 (.int .i64 0)).set 5 (.int .i64 0)).set 6 (.slice none 0 0))
  have HMf := Lib.hid (HM.out.touch htp (by omega))
  have HRf := Lib.hid (HRB.out.touch htp (by omega))
  have HTf := Lib.hid (HT.out.under htp (fun k hk e => by have e' : k = vc := e; omega))
  clear htp htk hm2 hn2 h0 v0 h1 v1 h2 v2 h3 v3 h4 v4 h5 v5 h6 v6
  generalize (((((((w2.setCell ⟨vc, 0, none⟩ (.int .i64 3)).setCell ⟨vc, 1, none⟩ (.string (ofL x1.text))).setCell ⟨vc, 2, none⟩ (.int .i64 0)).setCell ⟨vc, 3, none⟩ (.int .i64 x2.int)).setCell ⟨vc, 4, none⟩ (.int .i64 0)).setCell ⟨vc, 5, none⟩ (.int .i64 0)).setCell ⟨vc, 6, none⟩ (.slice none 0 0)) = wz at *
  have h0 : wz.cell? ⟨vc, 0, none⟩ = some (.int .i64 3) := HNf.out.c 0 rfl
  have h1 : wz.cell? ⟨vc, 1, none⟩ = some (.string (ofL x1.text)) := HNf.out.c 1 rfl
  have h2 : wz.cell? ⟨vc, 2, none⟩ = some (.int .i64 0) := HNf.out.c 2 rfl
  have h3 : wz.cell? ⟨vc, 3, none⟩ = some (.int .i64 x2.int) := HNf.out.c 3 rfl
  have h4 : wz.cell? ⟨vc, 4, none⟩ = some (.int .i64 0) := HNf.out.c 4 rfl
  have h5 : wz.cell? ⟨vc, 5, none⟩ = some (.int .i64 0) := HNf.out.c 5 rfl
  have h6 : wz.cell? ⟨vc, 6, none⟩ = some (.slice none 0 0) := HNf.out.c 6 rfl
  have k0 := HMf.out.c 0 rfl
  have v0 := HMf.out.f 0
  have k1 := HMf.out.c 1 rfl
  have v1 := HMf.out.f 1
  have k2 := HMf.out.c 2 rfl
  have v2 := HMf.out.f 2
  have k3 := HMf.out.c 3 rfl
  have v3 := HMf.out.f 3
  have k4 := HMf.out.c 4 rfl
  have v4 := HMf.out.f 4
  have k5 := HMf.out.c 5 rfl
  have v5 := HMf.out.f 5
  have k6 := HMf.out.c 6 rfl
  have v6 := HMf.out.f 6
  have htp := ((((((((Touch.refl (fun k => k = vb) wz).setCell (p := ⟨vb, 0, none⟩) rfl (.int .i64 3)).setCell (p := ⟨vb, 1, none⟩) rfl (.string (ofL x1.text))).setCell (p := ⟨vb, 2, none⟩) rfl (.int .i64 0)).setCell (p := ⟨vb, 3, none⟩) rfl (.int .i64 x2.int)).setCell (p := ⟨vb, 4, none⟩) rfl (.int .i64 0)).setCell (p := ⟨vb, 5, none⟩) rfl (.int .i64 0)).setCell (p := ⟨vb, 6, none⟩) rfl (.slice none 0 0))
  have HMg := Lib.hid (((((((HMf.out.set 0 (.int .i64 3)).set 1 (.string (ofL x1.text))).set 2 (.int .i64 0)).set 3 (.int .i64 x2.int)).set 4 (.int .i64 0)).set 5 (.int .i64 0)).set 6 (.slice none 0 0))
  have HRg := Lib.hid (HRf.out.touch htp (by omega))
  have HTg := Lib.hid (HTf.out.under htp (fun k hk e => by have e' : k = vb := e; omega))
  clear htp hrb2 ht2
  go_wp2_with fail
  generalize (((((((wz.setCell ⟨vb, 0, none⟩ (.int .i64 3)).setCell ⟨vb, 1, none⟩ (.string (ofL x1.text))).setCell ⟨vb, 2, none⟩ (.int .i64 0)).setCell ⟨vb, 3, none⟩ (.int .i64 x2.int)).setCell ⟨vb, 4, none⟩ (.int .i64 0)).setCell ⟨vb, 5, none⟩ (.int .i64 0)).setCell ⟨vb, 6, none⟩ (.slice none 0 0)) = wy at *
  have g0 : wy.cell? ⟨vb, 0, none⟩ = some (.int .i64 3) := HMg.out.c 0 rfl
  have g1 : wy.cell? ⟨vb, 1, none⟩ = some (.string (ofL x1.text)) := HMg.out.c 1 rfl
  have g2 : wy.cell? ⟨vb, 2, none⟩ = some (.int .i64 0) := HMg.out.c 2 rfl
  have g3 : wy.cell? ⟨vb, 3, none⟩ = some (.int .i64 x2.int) := HMg.out.c 3 rfl
  have g4 : wy.cell? ⟨vb, 4, none⟩ = some (.int .i64 0) := HMg.out.c 4 rfl
  have g5 : wy.cell? ⟨vb, 5, none⟩ = some (.int .i64 0) := HMg.out.c 5 rfl
  have g6 : wy.cell? ⟨vb, 6, none⟩ = some (.slice none 0 0) := HMg.out.c 6 rfl
  refine bodyPost_ret (v := .agg #[.int .i64 3, .string (ofL x1.text), .int .i64 0, .int .i64 x2.int, .int .i64 0, .int .i64 0, .slice none 0 0]) (by simp [results, Tryz.results43, go_sem, g0, g1, g2, g3, g4, g5, g6]) rfl ?_
  have hf := HRg.out
  try simp only [Bool.or_assoc] at hf ⊢
  exact msgp_nil hf HTg.out
set_option maxHeartbeats 16000000 in
theorem rmsg_poke (x : J) (N I : Value) (rb : Nat) (b : Bool) (w : World)
    (hR : RJ (fun k => k < w.heap.size ∧ ¬ k = rb) w x [.int .i64 x.kind, .int .i64 x.int, .string (ofL x.text), N, I]) (hwt : wtJ x ≤ 1048576) (hB : RB w rb b) :
    Calls Tryz.prog 43 #[.pointer (some ⟨rb, 0, none⟩), .agg #[.int .i64 x.kind, .int .i64 x.int, .string (ofL x.text), N, I], .string (ofL pokeN)] w (MsgP rb (msgR x pokeN).2 (b || (msgR x pokeN).1) w) := by
  obtain ⟨⟨A1, m1, c1, rfl⟩, A2, m2, c2, rfl⟩ := rj_slices hR
  have KO := fun (w' : World) (nv : Value) (hb : Below w.heap.size w w') (hN : RdP (fun k => k < w'.heap.size ∧ ¬ k = rb) w' 1 nv 2 (strs [typeN, topN])) (hB' : RB w' rb b) =>
    robject_any x _ _ nv [typeN, topN] rb b w' (RJ.mono (fun k hk _ => ⟨Nat.lt_of_lt_of_le hk.1 hb.size, hk.2⟩) _ _ (RJ.below hR hb)) hwt hN (by show 2 ≤ 1000; decide) hB'
  have hlt := hB.lt
  obtain ⟨bl, xs, hox⟩ : ∃ bl xs, objR x [typeN, topN] = (bl, xs) := ⟨_, _, rfl⟩
  have hxl : xs.length = 2 := by have := congrArg (fun p => p.2.length) hox; simpa [objR] using this.symm
  have hxw := objR_wt x [typeN, topN]
  rw [hox] at hxw
  obtain ⟨x0, x1, rfl⟩ := len2 hxl
  have hmr : msgR x pokeN = (bl || !decide (x1.kind = 2), ⟨5, [], 0, 0, 0, x1.int, []⟩) := by
    unfold msgR
    rw [hox]
    rfl
  rw [hmr]
  rw [hox] at KO
  have HKO := Lib.hid KO
  have hall : ∃ W, W = ((w.alloc (.cells #[.int .i64 x.kind, .int .i64 x.int, .string (ofL x.text), .slice A1 m1 c1, .slice A2 m2 c2] 49)).alloc (.cells #[.int .i64 0, .string ⟨#[]⟩, .int .i64 0, .int .i64 0, .int .i64 0, .int .i64 0, .slice none 0 0] 24)).alloc (.cells #[.int .i64 0, .string ⟨#[]⟩, .int .i64 0, .int .i64 0, .int .i64 0, .int .i64 0, .slice none 0 0] 24) ∧ JC W w.heap.size x.kind x.int (ofL x.text) (.slice A1 m1 c1) (.slice A2 m2 c2) ∧ CB W (w.heap.size + 1) #[.int .i64 0, .string ⟨#[]⟩, .int .i64 0, .int .i64 0, .int .i64 0, .int .i64 0, .slice none 0 0] 24 ∧ CB W (w.heap.size + 1 + 1) #[.int .i64 0, .string ⟨#[]⟩, .int .i64 0, .int .i64 0, .int .i64 0, .int .i64 0, .slice none 0 0] 24 ∧ Below w.heap.size w W := by
    have h2 := (Below.refl (w.alloc (.cells #[.int .i64 x.kind, .int .i64 x.int, .string (ofL x.text), .slice A1 m1 c1, .slice A2 m2 c2] 49)).heap.size (w.alloc (.cells #[.int .i64 x.kind, .int .i64 x.int, .string (ofL x.text), .slice A1 m1 c1, .slice A2 m2 c2] 49))).alloc (Nat.le_refl _) (.cells #[.int .i64 0, .string ⟨#[]⟩, .int .i64 0, .int .i64 0, .int .i64 0, .int .i64 0, .slice none 0 0] 24)
    have h3 := (Below.refl ((w.alloc (.cells #[.int .i64 x.kind, .int .i64 x.int, .string (ofL x.text), .slice A1 m1 c1, .slice A2 m2 c2] 49)).alloc (.cells #[.int .i64 0, .string ⟨#[]⟩, .int .i64 0, .int .i64 0, .int .i64 0, .int .i64 0, .slice none 0 0] 24)).heap.size ((w.alloc (.cells #[.int .i64 x.kind, .int .i64 x.int, .string (ofL x.text), .slice A1 m1 c1, .slice A2 m2 c2] 49)).alloc (.cells #[.int .i64 0, .string ⟨#[]⟩, .int .i64 0, .int .i64 0, .int .i64 0, .int .i64 0, .slice none 0 0] 24))).alloc (Nat.le_refl _) (.cells #[.int .i64 0, .string ⟨#[]⟩, .int .i64 0, .int .i64 0, .int .i64 0, .int .i64 0, .slice none 0 0] 24)
    refine ⟨_, rfl, (JC.below (show JC (w.alloc _) w.heap.size _ _ _ _ _ from heap_alloc_new w _) h2).below h3, ?_, ?_, (((Below.refl w.heap.size w).alloc (Nat.le_refl _) _).next h2).next h3⟩
    · have := CB.new (w.alloc (.cells #[.int .i64 x.kind, .int .i64 x.int, .string (ofL x.text), .slice A1 m1 c1, .slice A2 m2 c2] 49)) #[.int .i64 0, .string ⟨#[]⟩, .int .i64 0, .int .i64 0, .int .i64 0, .int .i64 0, .slice none 0 0] 24
      rw [World.size_alloc] at this; exact this.below h3
    · have := CB.new ((w.alloc (.cells #[.int .i64 x.kind, .int .i64 x.int, .string (ofL x.text), .slice A1 m1 c1, .slice A2 m2 c2] 49)).alloc (.cells #[.int .i64 0, .string ⟨#[]⟩, .int .i64 0, .int .i64 0, .int .i64 0, .int .i64 0, .slice none 0 0] 24)) #[.int .i64 0, .string ⟨#[]⟩, .int .i64 0, .int .i64 0, .int .i64 0, .int .i64 0, .slice none 0 0] 24
      rw [World.size_alloc, World.size_alloc] at this; exact this
  obtain ⟨w1, hw1, hj1, hm1, hn1, hb1⟩ := hall
  generalize hvb : w.heap.size + 1 = vb at *
  generalize hvc : vb + 1 = vc at *
  clear hR KO hxl hmr hox hwt hxw
  obtain ⟨s, hs⟩ : ∃ s : ByteArray, s = ofL pokeN := ⟨_, rfl⟩
  rw [← hs]
  have htpush : (s.toList == [112, 117, 115, 104]) = false := by rw [hs, toL_ofL]; decide
  have htpushed : (s.toList == [112, 117, 115, 104, 101, 100]) = false := by rw [hs, toL_ofL]; decide
  have htpull : (s.toList == [112, 117, 108, 108]) = false := by rw [hs, toL_ofL]; decide
  have htpatch : (s.toList == [112, 97, 116, 99, 104]) = false := by rw [hs, toL_ofL]; decide
  have htpoke : (s.toList == [112, 111, 107, 101]) = true := by rw [hs, toL_ofL]; decide
  clear hs
  generalize x.kind = k at *
  generalize x.int = i at *
  generalize ofL x.text = t at *
  go_enter Tryz.func43, Tryz.ntmps43
  go_upto_region 2 with fail
  try simp only [hvb, hvc]
  rw [← hw1]
  clear hw1
  have d0 := hj1.c0
  have d1 := hj1.c1
  have d2 := hj1.c2
  have d3 := hj1.c3
  have d4 := hj1.c4
  have hz1 := hn1.lt
  have hb2 := (Below.refl w1.heap.size w1).alloc (Nat.le_refl _) (.cells ([Value.string ⟨#[116, 121, 112, 101]⟩, .string ⟨#[116, 111, 112]⟩]).toArray 9)
  have hN2 := RdP.mono (Q := fun k => k < (w1.alloc (.cells ([Value.string ⟨#[116, 121, 112, 101]⟩, .string ⟨#[116, 111, 112]⟩]).toArray 9)).heap.size ∧ ¬ k = rb) (rdp_new1 (w := w1) (ty := 9) [Value.string ⟨#[116, 121, 112, 101]⟩, .string ⟨#[116, 111, 112]⟩] (show 2 = 2 * 1 from rfl) (by decide)) (by omega) (fun k hk _ => ⟨hk.2, by have := hk.1; omega⟩)
  have K := Lib.hid (HKO.out _ _ (hb1.next hb2) (show RdP _ _ 1 _ 2 (strs [typeN, topN]) from hN2) ((hB.below hb1).below hb2))
  have hm2 := hm1.below hb2
  have hn2 := hn1.below hb2
  have hb12 := hb1.next hb2
  clear hN2 hb2
  go_wp2_with fail
  (with_reducible refine K.out.mono ?_); rintro e w2 ⟨A, c, ys, rfl, hRd, hRs, hB2, hT2⟩
  obtain ⟨g, o, rfl, hg, hcs⟩ := cells_of hRd (by rfl) hRs (by decide)
  have hg' : (w1.alloc (.cells ([Value.string ⟨#[116, 121, 112, 101]⟩, .string ⟨#[116, 111, 112]⟩]).toArray 9)).heap.size ≤ g := hg
  rw [World.size_alloc] at hg'
  have hgr : ¬ g = rb := by have := hb12.size; omega
  have hgv : ¬ g = vc := by omega
  obtain ⟨B1, n1, e1, C1, p1, f1, -, c10, c11, c12, c13, c14⟩ := hcs 1 x1 rfl
  simp only [Nat.zero_mul, Nat.add_zero, Nat.one_mul, Nat.add_assoc, Nat.reduceMul, Nat.reduceAdd] at c10 c11 c12 c13 c14
  have q10 := c10
  have q11 := c11
  have q12 := c12
  have q13 := c13
  have q14 := c14
  have HRB := Lib.hid hB2
  have HT := Lib.hid ((Touch.of_below (F := fun k => k = rb) hb12).trans hT2)
  have HM := Lib.hid (hm2.touch hT2 (by omega))
  have HN := Lib.hid (hn2.touch hT2 (by omega))
  have hzz := hb12.size
  clear hcs hRs hRd hB2 hT2 hB hm1 hm2 hn1 hn2 hj1 hb1 hb12 K d0 d1 d2 d3 d4 hg hg'
  clear c10 c11 c12 c13 c14
  go_upto_region 28 with fail
  go_wp2_with fail
  (with_reducible refine (rnum_any _ _ _ _ _ _ _ _ _ rb _ _ HRB.out).mono ?_)
  rintro e w2 ⟨rfl, hrb2, ht2⟩; have htk := touch_keeps (P := fun k => ¬ k = rb) ht2 (fun k hk e => hk e); have q10 := htk _ _ _ hgr q10; have q11 := htk _ _ _ hgr q11; have q12 := htk _ _ _ hgr q12; have q13 := htk _ _ _ hgr q13; have q14 := htk _ _ _ hgr q14; have HRB := Lib.hid hrb2; have HT := Lib.hid (HT.out.trans ht2); have hm2 := HM.out.touch ht2 (by omega); have HM := Lib.hid hm2; have hn2 := HN.out.touch ht2 (by omega); have HN := Lib.hid hn2; have h0 := hn2.c 0 rfl; have v0 := hn2.f 0; have h1 := hn2.c 1 rfl; have v1 := hn2.f 1; have h2 := hn2.c 2 rfl; have v2 := hn2.f 2; have h3 := hn2.c 3 rfl; have v3 := hn2.f 3; have h4 := hn2.c 4 rfl; have v4 := hn2.f 4; have h5 := hn2.c 5 rfl; have v5 := hn2.f 5; have h6 := hn2.c 6 rfl; have v6 := hn2.f 6; have htp := ((((((((Touch.refl (fun k => k = vc) w2).setCell (p := ⟨vc, 0, none⟩) rfl (.int .i64 5)).setCell (p := ⟨vc, 1, none⟩) rfl (.string ⟨#[]⟩)).setCell (p := ⟨vc, 2, none⟩) rfl (.int .i64 0)).setCell (p := ⟨vc, 3, none⟩) rfl (.int .i64 0)).setCell (p := ⟨vc, 4, none⟩) rfl (.int .i64 0)).setCell (p := ⟨vc, 5, none⟩) rfl (.int .i64 x1.int)).setCell (p := ⟨vc, 6, none⟩) rfl (.slice none 0 0)); have htk := touch_keeps (P := fun k => ¬ k = vc) htp (fun k hk e => hk e); have z10 := htk _ _ _ hgv q10; have z11 := htk _ _ _ hgv q11; have z12 := htk _ _ _ hgv q12; have z13 := htk _ _ _ hgv q13; have z14 := htk _ _ _ hgv q14
  go_upto_region 29 with fail
  have HNf := Lib.hid (((((((hn2.set 0 (.int .i64 5)).set 1 (.string ⟨#[]⟩)).set 2 (.int .i64 0)).set 3 (.int .i64 0)).set 4 (.int .i64 0)).set 5 (.int .i64 x1.int)).set 6 (.slice none 0 0))
  have HMf := Lib.hid (HM.out.touch htp (by omega))
  have HRf := Lib.hid (HRB.out.touch htp (by omega))
  have HTf := Lib.hid (HT.out.under htp (fun k hk e => by have e' : k = vc := e; omega))
  clear htp htk hm2 hn2 h0 v0 h1 v1 h2 v2 h3 v3 h4 v4 h5 v5 h6 v6
  generalize (((((((w2.setCell ⟨vc, 0, none⟩ (.int .i64 5)).setCell ⟨vc, 1, none⟩ (.string ⟨#[]⟩)).setCell ⟨vc, 2, none⟩ (.int .i64 0)).setCell ⟨vc, 3, none⟩ (.int .i64 0)).setCell ⟨vc, 4, none⟩ (.int .i64 0)).setCell ⟨vc, 5, none⟩ (.int .i64 x1.int)).setCell ⟨vc, 6, none⟩ (.slice none 0 0)) = wz at *
  have h0 : wz.cell? ⟨vc, 0, none⟩ = some (.int .i64 5) := HNf.out.c 0 rfl
  have h1 : wz.cell? ⟨vc, 1, none⟩ = some (.string ⟨#[]⟩) := HNf.out.c 1 rfl
  have h2 : wz.cell? ⟨vc, 2, none⟩ = some (.int .i64 0) := HNf.out.c 2 rfl
  have h3 : wz.cell? ⟨vc, 3, none⟩ = some (.int .i64 0) := HNf.out.c 3 rfl
  have h4 : wz.cell? ⟨vc, 4, none⟩ = some (.int .i64 0) := HNf.out.c 4 rfl
  have h5 : wz.cell? ⟨vc, 5, none⟩ = some (.int .i64 x1.int) := HNf.out.c 5 rfl
  have h6 : wz.cell? ⟨vc, 6, none⟩ = some (.slice none 0 0) := HNf.out.c 6 rfl
  have k0 := HMf.out.c 0 rfl
  have v0 := HMf.out.f 0
  have k1 := HMf.out.c 1 rfl
  have v1 := HMf.out.f 1
  have k2 := HMf.out.c 2 rfl
  have v2 := HMf.out.f 2
  have k3 := HMf.out.c 3 rfl
  have v3 := HMf.out.f 3
  have k4 := HMf.out.c 4 rfl
  have v4 := HMf.out.f 4
  have k5 := HMf.out.c 5 rfl
  have v5 := HMf.out.f 5
  have k6 := HMf.out.c 6 rfl
  have v6 := HMf.out.f 6
  have htp := ((((((((Touch.refl (fun k => k = vb) wz).setCell (p := ⟨vb, 0, none⟩) rfl (.int .i64 5)).setCell (p := ⟨vb, 1, none⟩) rfl (.string ⟨#[]⟩)).setCell (p := ⟨vb, 2, none⟩) rfl (.int .i64 0)).setCell (p := ⟨vb, 3, none⟩) rfl (.int .i64 0)).setCell (p := ⟨vb, 4, none⟩) rfl (.int .i64 0)).setCell (p := ⟨vb, 5, none⟩) rfl (.int .i64 x1.int)).setCell (p := ⟨vb, 6, none⟩) rfl (.slice none 0 0))
  have HMg := Lib.hid (((((((HMf.out.set 0 (.int .i64 5)).set 1 (.string ⟨#[]⟩)).set 2 (.int .i64 0)).set 3 (.int .i64 0)).set 4 (.int .i64 0)).set 5 (.int .i64 x1.int)).set 6 (.slice none 0 0))
  have HRg := Lib.hid (HRf.out.touch htp (by omega))
  have HTg := Lib.hid (HTf.out.under htp (fun k hk e => by have e' : k = vb := e; omega))
  clear htp hrb2 ht2
  go_wp2_with fail
  generalize (((((((wz.setCell ⟨vb, 0, none⟩ (.int .i64 5)).setCell ⟨vb, 1, none⟩ (.string ⟨#[]⟩)).setCell ⟨vb, 2, none⟩ (.int .i64 0)).setCell ⟨vb, 3, none⟩ (.int .i64 0)).setCell ⟨vb, 4, none⟩ (.int .i64 0)).setCell ⟨vb, 5, none⟩ (.int .i64 x1.int)).setCell ⟨vb, 6, none⟩ (.slice none 0 0)) = wy at *
  have g0 : wy.cell? ⟨vb, 0, none⟩ = some (.int .i64 5) := HMg.out.c 0 rfl
  have g1 : wy.cell? ⟨vb, 1, none⟩ = some (.string ⟨#[]⟩) := HMg.out.c 1 rfl
  have g2 : wy.cell? ⟨vb, 2, none⟩ = some (.int .i64 0) := HMg.out.c 2 rfl
  have g3 : wy.cell? ⟨vb, 3, none⟩ = some (.int .i64 0) := HMg.out.c 3 rfl
  have g4 : wy.cell? ⟨vb, 4, none⟩ = some (.int .i64 0) := HMg.out.c 4 rfl
  have g5 : wy.cell? ⟨vb, 5, none⟩ = some (.int .i64 x1.int) := HMg.out.c 5 rfl
  have g6 : wy.cell? ⟨vb, 6, none⟩ = some (.slice none 0 0) := HMg.out.c 6 rfl
  refine bodyPost_ret (v := .agg #[.int .i64 5, .string ⟨#[]⟩, .int .i64 0, .int .i64 0, .int .i64 0, .int .i64 x1.int, .slice none 0 0]) (by simp [results, Tryz.results43, go_sem, g0, g1, g2, g3, g4, g5, g6]) rfl ?_
  have hf := HRg.out
  try simp only [Bool.or_assoc] at hf ⊢
  exact msgp_nil hf HTg.out
set_option maxHeartbeats 16000000 in
theorem rmsg_other (x : J) (N I : Value) (ty : B) (rb : Nat) (b : Bool) (w : World)
    (hR : RJ (fun k => k < w.heap.size ∧ ¬ k = rb) w x [.int .i64 x.kind, .int .i64 x.int, .string (ofL x.text), N, I]) (hB : RB w rb b)
    (h1 : ty ≠ pushN) (h2 : ty ≠ pushedN) (h3 : ty ≠ pullN) (h4 : ty ≠ patchN) (h5 : ty ≠ pokeN) :
    Calls Tryz.prog 43 #[.pointer (some ⟨rb, 0, none⟩), .agg #[.int .i64 x.kind, .int .i64 x.int, .string (ofL x.text), N, I], .string (ofL ty)] w (MsgP rb (msgR x ty).2 (b || (msgR x ty).1) w) := by
  obtain ⟨⟨A1, m1, c1, rfl⟩, A2, m2, c2, rfl⟩ := rj_slices hR
  have hlt := hB.lt
  have hmr : msgR x ty = (false, ⟨0, [], 0, 0, 0, 0, []⟩) := by
    unfold msgR
    rw [if_neg h1, if_neg h2, if_neg h3, if_neg h4, if_neg h5]
  rw [hmr, Bool.or_false]
  have hall : ∃ W, W = ((w.alloc (.cells #[.int .i64 x.kind, .int .i64 x.int, .string (ofL x.text), .slice A1 m1 c1, .slice A2 m2 c2] 49)).alloc (.cells #[.int .i64 0, .string ⟨#[]⟩, .int .i64 0, .int .i64 0, .int .i64 0, .int .i64 0, .slice none 0 0] 24)).alloc (.cells #[.int .i64 0, .string ⟨#[]⟩, .int .i64 0, .int .i64 0, .int .i64 0, .int .i64 0, .slice none 0 0] 24) ∧ JC W w.heap.size x.kind x.int (ofL x.text) (.slice A1 m1 c1) (.slice A2 m2 c2) ∧ CB W (w.heap.size + 1) #[.int .i64 0, .string ⟨#[]⟩, .int .i64 0, .int .i64 0, .int .i64 0, .int .i64 0, .slice none 0 0] 24 ∧ CB W (w.heap.size + 1 + 1) #[.int .i64 0, .string ⟨#[]⟩, .int .i64 0, .int .i64 0, .int .i64 0, .int .i64 0, .slice none 0 0] 24 ∧ Below w.heap.size w W := by
    have h2 := (Below.refl (w.alloc (.cells #[.int .i64 x.kind, .int .i64 x.int, .string (ofL x.text), .slice A1 m1 c1, .slice A2 m2 c2] 49)).heap.size (w.alloc (.cells #[.int .i64 x.kind, .int .i64 x.int, .string (ofL x.text), .slice A1 m1 c1, .slice A2 m2 c2] 49))).alloc (Nat.le_refl _) (.cells #[.int .i64 0, .string ⟨#[]⟩, .int .i64 0, .int .i64 0, .int .i64 0, .int .i64 0, .slice none 0 0] 24)
    have h3 := (Below.refl ((w.alloc (.cells #[.int .i64 x.kind, .int .i64 x.int, .string (ofL x.text), .slice A1 m1 c1, .slice A2 m2 c2] 49)).alloc (.cells #[.int .i64 0, .string ⟨#[]⟩, .int .i64 0, .int .i64 0, .int .i64 0, .int .i64 0, .slice none 0 0] 24)).heap.size ((w.alloc (.cells #[.int .i64 x.kind, .int .i64 x.int, .string (ofL x.text), .slice A1 m1 c1, .slice A2 m2 c2] 49)).alloc (.cells #[.int .i64 0, .string ⟨#[]⟩, .int .i64 0, .int .i64 0, .int .i64 0, .int .i64 0, .slice none 0 0] 24))).alloc (Nat.le_refl _) (.cells #[.int .i64 0, .string ⟨#[]⟩, .int .i64 0, .int .i64 0, .int .i64 0, .int .i64 0, .slice none 0 0] 24)
    refine ⟨_, rfl, (JC.below (show JC (w.alloc _) w.heap.size _ _ _ _ _ from heap_alloc_new w _) h2).below h3, ?_, ?_, (((Below.refl w.heap.size w).alloc (Nat.le_refl _) _).next h2).next h3⟩
    · have := CB.new (w.alloc (.cells #[.int .i64 x.kind, .int .i64 x.int, .string (ofL x.text), .slice A1 m1 c1, .slice A2 m2 c2] 49)) #[.int .i64 0, .string ⟨#[]⟩, .int .i64 0, .int .i64 0, .int .i64 0, .int .i64 0, .slice none 0 0] 24
      rw [World.size_alloc] at this; exact this.below h3
    · have := CB.new ((w.alloc (.cells #[.int .i64 x.kind, .int .i64 x.int, .string (ofL x.text), .slice A1 m1 c1, .slice A2 m2 c2] 49)).alloc (.cells #[.int .i64 0, .string ⟨#[]⟩, .int .i64 0, .int .i64 0, .int .i64 0, .int .i64 0, .slice none 0 0] 24)) #[.int .i64 0, .string ⟨#[]⟩, .int .i64 0, .int .i64 0, .int .i64 0, .int .i64 0, .slice none 0 0] 24
      rw [World.size_alloc, World.size_alloc] at this; exact this
  obtain ⟨w1, hw1, hj1, hm1, hn1, hb1⟩ := hall
  generalize hvb : w.heap.size + 1 = vb at *
  generalize hvc : vb + 1 = vc at *
  obtain ⟨s, hs⟩ : ∃ s : ByteArray, s = ofL ty := ⟨_, rfl⟩
  rw [← hs]
  have htpush : (s.toList == [112, 117, 115, 104]) = false := by rw [hs, toL_ofL, beq_eq_false_iff_ne]; exact h1
  have htpushed : (s.toList == [112, 117, 115, 104, 101, 100]) = false := by rw [hs, toL_ofL, beq_eq_false_iff_ne]; exact h2
  have htpull : (s.toList == [112, 117, 108, 108]) = false := by rw [hs, toL_ofL, beq_eq_false_iff_ne]; exact h3
  have htpatch : (s.toList == [112, 97, 116, 99, 104]) = false := by rw [hs, toL_ofL, beq_eq_false_iff_ne]; exact h4
  have htpoke : (s.toList == [112, 111, 107, 101]) = false := by rw [hs, toL_ofL, beq_eq_false_iff_ne]; exact h5
  clear hR hmr hs h1 h2 h3 h4 h5
  generalize x.kind = k at *
  generalize x.int = i at *
  generalize ofL x.text = t at *
  go_enter Tryz.func43, Tryz.ntmps43
  go_upto_region 2 with fail
  try simp only [hvb, hvc]
  rw [← hw1]
  clear hw1
  have d0 := hj1.c0
  have d1 := hj1.c1
  have d2 := hj1.c2
  have d3 := hj1.c3
  have d4 := hj1.c4
  have hz1 := hn1.lt
  go_upto_region 29 with fail
  have HNf := Lib.hid hn1
  have HMf := Lib.hid hm1
  have HRf := Lib.hid (hB.below hb1)
  have HTf := Lib.hid (Touch.of_below (F := fun k => k = rb) hb1)
  have hrb2 := hB
  have ht2 := Touch.refl (fun k => k = rb) w
  clear hn1 hm1 hj1 d0 d1 d2 d3 d4
  generalize w1 = wz at *
  have h0 : wz.cell? ⟨vc, 0, none⟩ = some (.int .i64 0) := HNf.out.c 0 rfl
  have h1 : wz.cell? ⟨vc, 1, none⟩ = some (.string ⟨#[]⟩) := HNf.out.c 1 rfl
  have h2 : wz.cell? ⟨vc, 2, none⟩ = some (.int .i64 0) := HNf.out.c 2 rfl
  have h3 : wz.cell? ⟨vc, 3, none⟩ = some (.int .i64 0) := HNf.out.c 3 rfl
  have h4 : wz.cell? ⟨vc, 4, none⟩ = some (.int .i64 0) := HNf.out.c 4 rfl
  have h5 : wz.cell? ⟨vc, 5, none⟩ = some (.int .i64 0) := HNf.out.c 5 rfl
  have h6 : wz.cell? ⟨vc, 6, none⟩ = some (.slice none 0 0) := HNf.out.c 6 rfl
  have k0 := HMf.out.c 0 rfl
  have v0 := HMf.out.f 0
  have k1 := HMf.out.c 1 rfl
  have v1 := HMf.out.f 1
  have k2 := HMf.out.c 2 rfl
  have v2 := HMf.out.f 2
  have k3 := HMf.out.c 3 rfl
  have v3 := HMf.out.f 3
  have k4 := HMf.out.c 4 rfl
  have v4 := HMf.out.f 4
  have k5 := HMf.out.c 5 rfl
  have v5 := HMf.out.f 5
  have k6 := HMf.out.c 6 rfl
  have v6 := HMf.out.f 6
  have htp := ((((((((Touch.refl (fun k => k = vb) wz).setCell (p := ⟨vb, 0, none⟩) rfl (.int .i64 0)).setCell (p := ⟨vb, 1, none⟩) rfl (.string ⟨#[]⟩)).setCell (p := ⟨vb, 2, none⟩) rfl (.int .i64 0)).setCell (p := ⟨vb, 3, none⟩) rfl (.int .i64 0)).setCell (p := ⟨vb, 4, none⟩) rfl (.int .i64 0)).setCell (p := ⟨vb, 5, none⟩) rfl (.int .i64 0)).setCell (p := ⟨vb, 6, none⟩) rfl (.slice none 0 0))
  have HMg := Lib.hid (((((((HMf.out.set 0 (.int .i64 0)).set 1 (.string ⟨#[]⟩)).set 2 (.int .i64 0)).set 3 (.int .i64 0)).set 4 (.int .i64 0)).set 5 (.int .i64 0)).set 6 (.slice none 0 0))
  have HRg := Lib.hid (HRf.out.touch htp (by omega))
  have HTg := Lib.hid (HTf.out.under htp (fun k hk e => by have e' : k = vb := e; omega))
  clear htp hrb2 ht2
  go_wp2_with fail
  generalize (((((((wz.setCell ⟨vb, 0, none⟩ (.int .i64 0)).setCell ⟨vb, 1, none⟩ (.string ⟨#[]⟩)).setCell ⟨vb, 2, none⟩ (.int .i64 0)).setCell ⟨vb, 3, none⟩ (.int .i64 0)).setCell ⟨vb, 4, none⟩ (.int .i64 0)).setCell ⟨vb, 5, none⟩ (.int .i64 0)).setCell ⟨vb, 6, none⟩ (.slice none 0 0)) = wy at *
  have g0 : wy.cell? ⟨vb, 0, none⟩ = some (.int .i64 0) := HMg.out.c 0 rfl
  have g1 : wy.cell? ⟨vb, 1, none⟩ = some (.string ⟨#[]⟩) := HMg.out.c 1 rfl
  have g2 : wy.cell? ⟨vb, 2, none⟩ = some (.int .i64 0) := HMg.out.c 2 rfl
  have g3 : wy.cell? ⟨vb, 3, none⟩ = some (.int .i64 0) := HMg.out.c 3 rfl
  have g4 : wy.cell? ⟨vb, 4, none⟩ = some (.int .i64 0) := HMg.out.c 4 rfl
  have g5 : wy.cell? ⟨vb, 5, none⟩ = some (.int .i64 0) := HMg.out.c 5 rfl
  have g6 : wy.cell? ⟨vb, 6, none⟩ = some (.slice none 0 0) := HMg.out.c 6 rfl
  refine bodyPost_ret (v := .agg #[.int .i64 0, .string ⟨#[]⟩, .int .i64 0, .int .i64 0, .int .i64 0, .int .i64 0, .slice none 0 0]) (by simp [results, Tryz.results43, go_sem, g0, g1, g2, g3, g4, g5, g6]) rfl ?_
  have hf := HRg.out
  try simp only [Bool.or_assoc] at hf ⊢
  exact msgp_nil hf HTg.out
end Go.Proofs.YtigdjnfnkjfkmaaGreatDoor
