/- A mutation, a client's mutation taken out of a value (msg's reader). Conditions: the value is small. -/
import Derived.Test.YtigdjnfnkjfkmaaGreatDoorMsgZ
namespace Go.Proofs.YtigdjnfnkjfkmaaGreatDoor
open Go.RowKit
set_option linter.unusedVariables false
set_option linter.unusedSimpArgs false
set_option maxRecDepth 100000

/-- A block of cells. -/
def CB (w : World) (b : Nat) (cs : Array Value) (ty : TypeId) : Prop := w.heap[b]? = some (.cells cs ty (0, 0))
theorem CB.c {w : World} {b : Nat} {cs : Array Value} {ty : TypeId} (h : CB w b cs ty) (i : Nat) {u : Value} (hu : cs[i]? = some u) : w.cell? ⟨b, i, none⟩ = some u := by rw [Lib.cell_of_heap h]; exact hu
theorem CB.f {w : World} {b : Nat} {cs : Array Value} {ty : TypeId} (h : CB w b cs ty) (i : Nat) : w.frozen? ⟨b, i, none⟩ = false := Lib.frozen_of_heap h i
theorem CB.lt {w : World} {b : Nat} {cs : Array Value} {ty : TypeId} (h : CB w b cs ty) : b < w.heap.size := (Array.getElem?_eq_some_iff.1 h).1
theorem CB.touch {F : Nat → Prop} {w w' : World} {b : Nat} {cs : Array Value} {ty : TypeId} (h : CB w b cs ty) (ht : Touch F w w') (hf : ¬ F b) : CB w' b cs ty := by unfold CB; rw [ht.block b h.lt hf]; exact h
theorem CB.below {w w' : World} {b : Nat} {cs : Array Value} {ty : TypeId} (h : CB w b cs ty) (hb : Below w.heap.size w w') : CB w' b cs ty := h.touch (.of_below (F := fun _ => False) hb) id
theorem CB.new (w : World) (cs : Array Value) (ty : TypeId) : CB (w.alloc (.cells cs ty)) w.heap.size cs ty := heap_alloc_new w _
theorem CB.set {w : World} {b : Nat} {cs : Array Value} {ty : TypeId} (h : CB w b cs ty) (i : Nat) (u : Value) : CB (w.setCell ⟨b, i, none⟩ u) b (cs.set! i u) ty := heap_set_own h i u
theorem rdp_new1 {w : World} {ty : TypeId} {size n : Nat} (cs : List Value) (h : cs.length = n * size) (hn : n ≤ maxLen) :
    RdP (fun b => w.heap.size ≤ b ∧ b < (w.alloc (.cells cs.toArray ty)).heap.size) (w.alloc (.cells cs.toArray ty)) size (.slice (some ⟨w.heap.size, 0, none⟩) n n) n cs := by
  refine RdP.of_rd ⟨h, some ⟨w.heap.size, 0, none⟩, n, rfl, Nat.le_refl _, hn, (fun e => by cases e), fun a ha => ?_⟩ fun a m c e => ?_
  · cases ha
    refine ⟨rfl, fun j u hj => ?_⟩
    rw [Nat.zero_add, World.cell?_alloc_mark]
    simpa using hj
  · cases e; rw [World.size_alloc]; exact ⟨Nat.le_refl _, Nat.lt_succ_self _⟩
/-- A list's first four values, their cells. -/
theorem cells_of {P : Nat → Prop} {w : World} {n c : Nat} {A : Option Addr} {xs : List J} {ys : List Value} (h : RdP P w 5 (.slice A n c) n ys) (hl : xs.length = n) (hR : RJs P w xs ys) (hn : 0 < n) :
    ∃ g o, A = some ⟨g, o, none⟩ ∧ P g ∧ ∀ i v, xs[i]? = some v → ∃ B1 n1 d1 B2 n2 d2, RJ P w v [.int .i64 v.kind, .int .i64 v.int, .string (ofL v.text), .slice B1 n1 d1, .slice B2 n2 d2] ∧
      w.cell? ⟨g, o + i * 5, none⟩ = some (.int .i64 v.kind) ∧ w.cell? ⟨g, o + i * 5 + 1, none⟩ = some (.int .i64 v.int) ∧ w.cell? ⟨g, o + i * 5 + 2, none⟩ = some (.string (ofL v.text)) ∧ w.cell? ⟨g, o + i * 5 + 3, none⟩ = some (.slice B1 n1 d1) ∧ w.cell? ⟨g, o + i * 5 + 4, none⟩ = some (.slice B2 n2 d2) := by
  subst hl
  obtain ⟨v0, h0⟩ : ∃ v0, xs[0]? = some v0 := ⟨_, List.getElem?_eq_getElem hn⟩
  obtain ⟨g, o, c', N, Q, e, hP, -⟩ := h.jsonAt hR h0
  cases e
  refine ⟨g, o, rfl, hP, fun i v hv => ?_⟩
  obtain ⟨g', o', c', N, Q, e, -, hx, k0, k1, k2, k3, k4⟩ := h.jsonAt hR hv
  cases e
  obtain ⟨⟨B1, n1, d1, rfl⟩, B2, n2, d2, rfl⟩ := rj_slices hx
  exact ⟨B1, n1, d1, B2, n2, d2, hx, k0, k1, k2, k3, k4⟩
set_option maxHeartbeats 16000000 in
theorem rmutation_any (x : J) (N I : Value) (rb : Nat) (b : Bool) (w : World)
    (hR : RJ (fun k => k < w.heap.size ∧ ¬ k = rb) w x [.int .i64 x.kind, .int .i64 x.int, .string (ofL x.text), N, I]) (hwt : wtJ x ≤ 1048576) (hB : RB w rb b) :
    Calls Tryz.prog 69 #[.pointer (some ⟨rb, 0, none⟩), .agg #[.int .i64 x.kind, .int .i64 x.int, .string (ofL x.text), N, I]] w
      (RdrP rb (.agg #[.int .i64 (mutR x).2.kind, .string (ofL (mutR x).2.issue), .string (ofL (mutR x).2.name), .string (ofL (mutR x).2.text)]) (b || (mutR x).1) w) := by
  obtain ⟨⟨A1, m1, c1, rfl⟩, A2, m2, c2, rfl⟩ := rj_slices hR
  have KO := fun (w' : World) (nv : Value) (hb : Below w.heap.size w w') (hN : RdP (fun k => k < w'.heap.size ∧ ¬ k = rb) w' 1 nv 4 (strs [kindN, issueN, nameN, textN])) (hB' : RB w' rb b) =>
    robject_any x _ _ nv [kindN, issueN, nameN, textN] rb b w' (RJ.mono (fun k hk _ => ⟨Nat.lt_of_lt_of_le hk.1 hb.size, hk.2⟩) _ _ (RJ.below hR hb)) hwt hN (by show 4 ≤ 1000; decide) hB'
  have hlt := hB.lt
  obtain ⟨bl, xs, hox⟩ : ∃ bl xs, objR x [kindN, issueN, nameN, textN] = (bl, xs) := ⟨_, _, rfl⟩
  have hxl : xs.length = 4 := by have := congrArg (fun p => p.2.length) hox; simpa [objR] using this.symm
  obtain ⟨x0, x1, x2, x3, rfl⟩ := len4 hxl
  have hmr : mutR x = (bl || !decide (x0.kind = 2) || !decide (x1.kind = 3) || !decide (x2.kind = 3) || !decide (x3.kind = 3), ⟨x0.int, x1.text, x2.text, x3.text⟩) := by
    unfold mutR; rw [hox]; rfl
  rw [hmr]
  rw [hox] at KO
  have HKO := Lib.hid KO
  have hall : ∃ W, W = (w.alloc (.cells #[.int .i64 x.kind, .int .i64 x.int, .string (ofL x.text), .slice A1 m1 c1, .slice A2 m2 c2] 49)).alloc (.cells #[.int .i64 0, .string ⟨#[]⟩, .string ⟨#[]⟩, .string ⟨#[]⟩] 29) ∧ JC W w.heap.size x.kind x.int (ofL x.text) (.slice A1 m1 c1) (.slice A2 m2 c2) ∧ CB W (w.heap.size + 1) #[.int .i64 0, .string ⟨#[]⟩, .string ⟨#[]⟩, .string ⟨#[]⟩] 29 ∧ Below w.heap.size w W := by
    have h2 := (Below.refl (w.alloc (.cells #[.int .i64 x.kind, .int .i64 x.int, .string (ofL x.text), .slice A1 m1 c1, .slice A2 m2 c2] 49)).heap.size (w.alloc (.cells #[.int .i64 x.kind, .int .i64 x.int, .string (ofL x.text), .slice A1 m1 c1, .slice A2 m2 c2] 49))).alloc (Nat.le_refl _) (.cells #[.int .i64 0, .string ⟨#[]⟩, .string ⟨#[]⟩, .string ⟨#[]⟩] 29)
    refine ⟨_, rfl, JC.below (show JC (w.alloc _) w.heap.size _ _ _ _ _ from heap_alloc_new w _) h2, ?_, ((Below.refl w.heap.size w).alloc (Nat.le_refl _) _).next h2⟩
    have := CB.new (w.alloc (.cells #[.int .i64 x.kind, .int .i64 x.int, .string (ofL x.text), .slice A1 m1 c1, .slice A2 m2 c2] 49)) #[.int .i64 0, .string ⟨#[]⟩, .string ⟨#[]⟩, .string ⟨#[]⟩] 29
    rw [World.size_alloc] at this; exact this
  obtain ⟨w1, hw1, hj1, hm1, hb1⟩ := hall
  clear hR KO hxl hmr hox hwt
  generalize x.kind = k at *
  generalize x.int = i at *
  generalize ofL x.text = t at *
  go_enter Tryz.func69, Tryz.ntmps69
  go_upto_region 1 with fail
  rw [← hw1]
  clear hw1
  have d0 := hj1.c0
  have d1 := hj1.c1
  have d2 := hj1.c2
  have d3 := hj1.c3
  have d4 := hj1.c4
  have hz1 := hm1.lt
  have hb2 := (Below.refl w1.heap.size w1).alloc (Nat.le_refl _) (.cells ([Value.string ⟨#[107, 105, 110, 100]⟩, .string ⟨#[105, 115, 115, 117, 101]⟩, .string ⟨#[110, 97, 109, 101]⟩, .string ⟨#[116, 101, 120, 116]⟩]).toArray 9)
  have hN2 := RdP.mono (Q := fun k => k < (w1.alloc (.cells ([Value.string ⟨#[107, 105, 110, 100]⟩, .string ⟨#[105, 115, 115, 117, 101]⟩, .string ⟨#[110, 97, 109, 101]⟩, .string ⟨#[116, 101, 120, 116]⟩]).toArray 9)).heap.size ∧ ¬ k = rb) (rdp_new1 (w := w1) (ty := 9) [Value.string ⟨#[107, 105, 110, 100]⟩, .string ⟨#[105, 115, 115, 117, 101]⟩, .string ⟨#[110, 97, 109, 101]⟩, .string ⟨#[116, 101, 120, 116]⟩] (show 4 = 4 * 1 from rfl) (by decide)) (by omega) (fun k hk _ => ⟨hk.2, by have := hk.1; omega⟩)
  have K := Lib.hid (HKO.out _ _ (hb1.next hb2) (show RdP _ _ 1 _ 4 (strs [kindN, issueN, nameN, textN]) from hN2) ((hB.below hb1).below hb2))
  have hm2 := hm1.below hb2
  have hb12 := hb1.next hb2
  have hBw := (hB.below hb1).below hb2
  clear hN2 hb2
  go_wp2_with fail
  (with_reducible refine K.out.mono ?_); rintro e w2 ⟨A, c, ys, rfl, hRd, hRs, hB2, hT2⟩
  obtain ⟨g, o, rfl, hg, hcs⟩ := cells_of hRd (by rfl) hRs (by decide)
  obtain ⟨B0, n0, e0, C0, p0, f0, -, c00, c01, c02, c03, c04⟩ := hcs 0 x0 rfl
  obtain ⟨B1, n1, e1, C1, p1, f1, -, c10, c11, c12, c13, c14⟩ := hcs 1 x1 rfl
  obtain ⟨B2, n2, e2, C2, p2, f2, -, c20, c21, c22, c23, c24⟩ := hcs 2 x2 rfl
  obtain ⟨B3, n3, e3, C3, p3, f3, -, c30, c31, c32, c33, c34⟩ := hcs 3 x3 rfl
  simp only [Nat.zero_mul, Nat.add_zero, Nat.one_mul, Nat.add_assoc, Nat.reduceMul, Nat.reduceAdd] at c00 c01 c02 c03 c04 c10 c11 c12 c13 c14 c20 c21 c22 c23 c24 c30 c31 c32 c33 c34
  have hgr : ¬ g = rb := by have := hb12.size; omega
  have hgv : ¬ g = w.heap.size + 1 := by have hg' : (w1.alloc (.cells ([Value.string ⟨#[107, 105, 110, 100]⟩, .string ⟨#[105, 115, 115, 117, 101]⟩, .string ⟨#[110, 97, 109, 101]⟩, .string ⟨#[116, 101, 120, 116]⟩]).toArray 9)).heap.size ≤ g := hg; rw [World.size_alloc] at hg'; omega
  have hd := (Below.refl w2.heap.size w2).drew
  have q00 := Below.keeps hd c00; have q01 := Below.keeps hd c01; have q02 := Below.keeps hd c02; have q03 := Below.keeps hd c03; have q04 := Below.keeps hd c04; have q10 := Below.keeps hd c10; have q11 := Below.keeps hd c11; have q12 := Below.keeps hd c12; have q13 := Below.keeps hd c13; have q14 := Below.keeps hd c14; have q20 := Below.keeps hd c20; have q21 := Below.keeps hd c21; have q22 := Below.keeps hd c22; have q23 := Below.keeps hd c23; have q24 := Below.keeps hd c24; have q30 := Below.keeps hd c30; have q31 := Below.keeps hd c31; have q32 := Below.keeps hd c32; have q33 := Below.keeps hd c33; have q34 := Below.keeps hd c34
  have HRB := Lib.hid (hB2.below hd)
  have HT := Lib.hid (((Touch.of_below (F := fun k => k = rb) hb12).trans hT2).next hd)
  have HM := Lib.hid ((hm2.touch hT2 (by omega)).below hd)
  have hzz := hb12.size
  clear hcs hRs hRd hB2 hT2 hd hB hm1 hm2 hj1 hb1 hb12 hBw K d0 d1 d2 d3 d4
  clear c00 c01 c02 c03 c04 c10 c11 c12 c13 c14 c20 c21 c22 c23 c24 c30 c31 c32 c33 c34
  go_upto_region 2 with fail
  go_region_held3 (fun w' => w'.cell? ⟨g, o, none⟩ = some (.int .i64 x0.kind) ∧ w'.cell? ⟨g, o + 1, none⟩ = some (.int .i64 x0.int) ∧ w'.cell? ⟨g, o + 2, none⟩ = some (.string (ofL x0.text)) ∧ w'.cell? ⟨g, o + 3, none⟩ = some (.slice B0 n0 e0) ∧ w'.cell? ⟨g, o + 4, none⟩ = some (.slice C0 p0 f0) ∧ w'.cell? ⟨g, o + 5, none⟩ = some (.int .i64 x1.kind) ∧ w'.cell? ⟨g, o + 6, none⟩ = some (.int .i64 x1.int) ∧ w'.cell? ⟨g, o + 7, none⟩ = some (.string (ofL x1.text)) ∧ w'.cell? ⟨g, o + 8, none⟩ = some (.slice B1 n1 e1) ∧ w'.cell? ⟨g, o + 9, none⟩ = some (.slice C1 p1 f1) ∧ w'.cell? ⟨g, o + 10, none⟩ = some (.int .i64 x2.kind) ∧ w'.cell? ⟨g, o + 11, none⟩ = some (.int .i64 x2.int) ∧ w'.cell? ⟨g, o + 12, none⟩ = some (.string (ofL x2.text)) ∧ w'.cell? ⟨g, o + 13, none⟩ = some (.slice B2 n2 e2) ∧ w'.cell? ⟨g, o + 14, none⟩ = some (.slice C2 p2 f2) ∧ w'.cell? ⟨g, o + 15, none⟩ = some (.int .i64 x3.kind) ∧ w'.cell? ⟨g, o + 16, none⟩ = some (.int .i64 x3.int) ∧ w'.cell? ⟨g, o + 17, none⟩ = some (.string (ofL x3.text)) ∧ w'.cell? ⟨g, o + 18, none⟩ = some (.slice B3 n3 e3) ∧ w'.cell? ⟨g, o + 19, none⟩ = some (.slice C3 p3 f3))
    (first | (with_reducible exact ⟨z00, z01, z02, z03, z04, z10, z11, z12, z13, z14, z20, z21, z22, z23, z24, z30, z31, z32, z33, z34⟩) | (with_reducible exact ⟨q00, q01, q02, q03, q04, q10, q11, q12, q13, q14, q20, q21, q22, q23, q24, q30, q31, q32, q33, q34⟩))
    (first | (go_at_call 68; (with_reducible refine (rnum_any _ _ _ _ _ _ _ _ _ rb _ _ HRB.out).mono ?_); rintro e w2 ⟨rfl, hrb2, ht2⟩; have htk := touch_keeps (P := fun k => ¬ k = rb) ht2 (fun k hk e => hk e); have q00 := htk _ _ _ hgr q00; have q01 := htk _ _ _ hgr q01; have q02 := htk _ _ _ hgr q02; have q03 := htk _ _ _ hgr q03; have q04 := htk _ _ _ hgr q04; have q10 := htk _ _ _ hgr q10; have q11 := htk _ _ _ hgr q11; have q12 := htk _ _ _ hgr q12; have q13 := htk _ _ _ hgr q13; have q14 := htk _ _ _ hgr q14; have q20 := htk _ _ _ hgr q20; have q21 := htk _ _ _ hgr q21; have q22 := htk _ _ _ hgr q22; have q23 := htk _ _ _ hgr q23; have q24 := htk _ _ _ hgr q24; have q30 := htk _ _ _ hgr q30; have q31 := htk _ _ _ hgr q31; have q32 := htk _ _ _ hgr q32; have q33 := htk _ _ _ hgr q33; have q34 := htk _ _ _ hgr q34; have HRB := Lib.hid hrb2; have HT := Lib.hid (HT.out.trans ht2); have hm2 := HM.out.touch ht2 (by omega); have HM := Lib.hid hm2; have h0 := hm2.c 0 rfl; have h1 := hm2.c 1 rfl; have h2 := hm2.c 2 rfl; have h3 := hm2.c 3 rfl; have v0 := hm2.f 0; have v1 := hm2.f 1; have v2 := hm2.f 2; have v3 := hm2.f 3; have htp := ((((Touch.refl (fun k => k = w.heap.size + 1) w2).setCell (p := ⟨w.heap.size + 1, 0, none⟩) rfl (.int .i64 x0.int)).setCell (p := ⟨w.heap.size + 1, 1, none⟩) rfl (.string (ofL x1.text))).setCell (p := ⟨w.heap.size + 1, 2, none⟩) rfl (.string (ofL x2.text))).setCell (p := ⟨w.heap.size + 1, 3, none⟩) rfl (.string (ofL x3.text)); have htk := touch_keeps (P := fun k => ¬ k = w.heap.size + 1) htp (fun k hk e => hk e); have z00 := htk _ _ _ hgv q00; have z01 := htk _ _ _ hgv q01; have z02 := htk _ _ _ hgv q02; have z03 := htk _ _ _ hgv q03; have z04 := htk _ _ _ hgv q04; have z10 := htk _ _ _ hgv q10; have z11 := htk _ _ _ hgv q11; have z12 := htk _ _ _ hgv q12; have z13 := htk _ _ _ hgv q13; have z14 := htk _ _ _ hgv q14; have z20 := htk _ _ _ hgv q20; have z21 := htk _ _ _ hgv q21; have z22 := htk _ _ _ hgv q22; have z23 := htk _ _ _ hgv q23; have z24 := htk _ _ _ hgv q24; have z30 := htk _ _ _ hgv q30; have z31 := htk _ _ _ hgv q31; have z32 := htk _ _ _ hgv q32; have z33 := htk _ _ _ hgv q33; have z34 := htk _ _ _ hgv q34)
           | (go_at_call 66; (with_reducible refine (rtxt_any _ _ _ _ _ _ _ _ _ rb _ _ HRB.out).mono ?_); rintro e w2 ⟨rfl, hrb2, ht2⟩; have htk := touch_keeps (P := fun k => ¬ k = rb) ht2 (fun k hk e => hk e); have q00 := htk _ _ _ hgr q00; have q01 := htk _ _ _ hgr q01; have q02 := htk _ _ _ hgr q02; have q03 := htk _ _ _ hgr q03; have q04 := htk _ _ _ hgr q04; have q10 := htk _ _ _ hgr q10; have q11 := htk _ _ _ hgr q11; have q12 := htk _ _ _ hgr q12; have q13 := htk _ _ _ hgr q13; have q14 := htk _ _ _ hgr q14; have q20 := htk _ _ _ hgr q20; have q21 := htk _ _ _ hgr q21; have q22 := htk _ _ _ hgr q22; have q23 := htk _ _ _ hgr q23; have q24 := htk _ _ _ hgr q24; have q30 := htk _ _ _ hgr q30; have q31 := htk _ _ _ hgr q31; have q32 := htk _ _ _ hgr q32; have q33 := htk _ _ _ hgr q33; have q34 := htk _ _ _ hgr q34; have HRB := Lib.hid hrb2; have HT := Lib.hid (HT.out.trans ht2); have hm2 := HM.out.touch ht2 (by omega); have HM := Lib.hid hm2; have h0 := hm2.c 0 rfl; have h1 := hm2.c 1 rfl; have h2 := hm2.c 2 rfl; have h3 := hm2.c 3 rfl; have v0 := hm2.f 0; have v1 := hm2.f 1; have v2 := hm2.f 2; have v3 := hm2.f 3; have htp := ((((Touch.refl (fun k => k = w.heap.size + 1) w2).setCell (p := ⟨w.heap.size + 1, 0, none⟩) rfl (.int .i64 x0.int)).setCell (p := ⟨w.heap.size + 1, 1, none⟩) rfl (.string (ofL x1.text))).setCell (p := ⟨w.heap.size + 1, 2, none⟩) rfl (.string (ofL x2.text))).setCell (p := ⟨w.heap.size + 1, 3, none⟩) rfl (.string (ofL x3.text)); have htk := touch_keeps (P := fun k => ¬ k = w.heap.size + 1) htp (fun k hk e => hk e); have z00 := htk _ _ _ hgv q00; have z01 := htk _ _ _ hgv q01; have z02 := htk _ _ _ hgv q02; have z03 := htk _ _ _ hgv q03; have z04 := htk _ _ _ hgv q04; have z10 := htk _ _ _ hgv q10; have z11 := htk _ _ _ hgv q11; have z12 := htk _ _ _ hgv q12; have z13 := htk _ _ _ hgv q13; have z14 := htk _ _ _ hgv q14; have z20 := htk _ _ _ hgv q20; have z21 := htk _ _ _ hgv q21; have z22 := htk _ _ _ hgv q22; have z23 := htk _ _ _ hgv q23; have z24 := htk _ _ _ hgv q24; have z30 := htk _ _ _ hgv q30; have z31 := htk _ _ _ hgv q31; have z32 := htk _ _ _ hgv q32; have z33 := htk _ _ _ hgv q33; have z34 := htk _ _ _ hgv q34))
  have hmp := (((hm2.set 0 (.int .i64 x0.int)).set 1 (.string (ofL x1.text))).set 2 (.string (ofL x2.text))).set 3 (.string (ofL x3.text))
  have HRf := Lib.hid (HRB.out.touch htp (by omega))
  have HTf := Lib.hid (HT.out.under htp (fun k hk e => by have e' : k = w.heap.size + 1 := e; omega))
  have HMf := Lib.hid hmp
  clear hmp htp htk hm2 h0 h1 h2 h3 v0 v1 v2 v3
  generalize (((w2.setCell ⟨w.heap.size + 1, 0, none⟩ (.int .i64 x0.int)).setCell ⟨w.heap.size + 1, 1, none⟩ (.string (ofL x1.text))).setCell ⟨w.heap.size + 1, 2, none⟩ (.string (ofL x2.text))).setCell ⟨w.heap.size + 1, 3, none⟩ (.string (ofL x3.text)) = wz at *
  have h0 : wz.cell? ⟨w.heap.size + 1, 0, none⟩ = some (.int .i64 x0.int) := HMf.out.c 0 rfl
  have h1 : wz.cell? ⟨w.heap.size + 1, 1, none⟩ = some (.string (ofL x1.text)) := HMf.out.c 1 rfl
  have h2 : wz.cell? ⟨w.heap.size + 1, 2, none⟩ = some (.string (ofL x2.text)) := HMf.out.c 2 rfl
  have h3 : wz.cell? ⟨w.heap.size + 1, 3, none⟩ = some (.string (ofL x3.text)) := HMf.out.c 3 rfl
  clear ht2 hrb2
  go_wp2_with fail
  refine bodyPost_ret (v := .agg #[.int .i64 x0.int, .string (ofL x1.text), .string (ofL x2.text), .string (ofL x3.text)]) (by simp [results, Tryz.results69, go_sem, h0, h1, h2, h3]) rfl ?_
  refine ⟨rfl, ?_, HTf.out⟩
  have := HRf.out
  simp only [Bool.or_assoc] at this ⊢
  exact this
theorem objR_wt (x : J) (ns : List B) : ∀ y ∈ (objR x ns).2, wtJ y ≤ wtJ x := by
  intro y hy
  unfold objR at hy
  obtain ⟨s, -, rfl⟩ := List.mem_map.1 hy
  have h1 : wtJ J0 ≤ wtJ x := Nat.le_trans (by decide) (wt_pos x)
  cases x with
  | mk k n t ns is =>
    unfold getJ
    split
    · split
      · cases hq : (J.mk k n t ns is).items[List.idxOf s (J.mk k n t ns is).names]? with
        | none => exact h1
        | some z =>
          have hz : z ∈ is := List.mem_of_getElem? hq
          show wtJ z ≤ _
          rw [wtJ]
          have := wts_mem hz
          omega
      · exact h1
    · exact h1
set_option maxHeartbeats 16000000 in
theorem rlogged_any (x : J) (N I : Value) (rb : Nat) (b : Bool) (w : World)
    (hR : RJ (fun k => k < w.heap.size ∧ ¬ k = rb) w x [.int .i64 x.kind, .int .i64 x.int, .string (ofL x.text), N, I]) (hwt : wtJ x ≤ 1048576) (hB : RB w rb b) :
    Calls Tryz.prog 53 #[.pointer (some ⟨rb, 0, none⟩), .agg #[.int .i64 x.kind, .int .i64 x.int, .string (ofL x.text), N, I]] w
      (RdrP rb (.agg #[.string (ofL (logR x).2.client), .int .i64 (logR x).2.id, .int .i64 (logR x).2.m.kind, .string (ofL (logR x).2.m.issue), .string (ofL (logR x).2.m.name), .string (ofL (logR x).2.m.text)]) (b || (logR x).1) w) := by
  obtain ⟨⟨A1, m1, c1, rfl⟩, A2, m2, c2, rfl⟩ := rj_slices hR
  have KO := fun (w' : World) (nv : Value) (hb : Below w.heap.size w w') (hN : RdP (fun k => k < w'.heap.size ∧ ¬ k = rb) w' 1 nv 3 (strs [clientN, idN, mN])) (hB' : RB w' rb b) =>
    robject_any x _ _ nv [clientN, idN, mN] rb b w' (RJ.mono (fun k hk _ => ⟨Nat.lt_of_lt_of_le hk.1 hb.size, hk.2⟩) _ _ (RJ.below hR hb)) hwt hN (by show 3 ≤ 1000; decide) hB'
  have hlt := hB.lt
  obtain ⟨bl, xs, hox⟩ : ∃ bl xs, objR x [clientN, idN, mN] = (bl, xs) := ⟨_, _, rfl⟩
  have hxl : xs.length = 3 := by have := congrArg (fun p => p.2.length) hox; simpa [objR] using this.symm
  have hxw := objR_wt x [clientN, idN, mN]
  rw [hox] at hxw
  obtain ⟨x0, x1, x2, rfl⟩ := len3 hxl
  have hw2 : wtJ x2 ≤ 1048576 := Nat.le_trans (hxw x2 (by simp)) hwt
  clear hxw
  have hmr : logR x = (bl || !decide (x0.kind = 3) || !decide (x1.kind = 2) || (mutR x2).1, ⟨x0.text, x1.int, (mutR x2).2⟩) := by
    unfold logR; rw [hox]; rfl
  rw [hmr]
  rw [hox] at KO
  have HKO := Lib.hid KO
  have hall : ∃ W, W = (w.alloc (.cells #[.int .i64 x.kind, .int .i64 x.int, .string (ofL x.text), .slice A1 m1 c1, .slice A2 m2 c2] 49)).alloc (.cells #[.string ⟨#[]⟩, .int .i64 0, .int .i64 0, .string ⟨#[]⟩, .string ⟨#[]⟩, .string ⟨#[]⟩] 31) ∧ JC W w.heap.size x.kind x.int (ofL x.text) (.slice A1 m1 c1) (.slice A2 m2 c2) ∧ CB W (w.heap.size + 1) #[.string ⟨#[]⟩, .int .i64 0, .int .i64 0, .string ⟨#[]⟩, .string ⟨#[]⟩, .string ⟨#[]⟩] 31 ∧ Below w.heap.size w W := by
    have h2 := (Below.refl (w.alloc (.cells #[.int .i64 x.kind, .int .i64 x.int, .string (ofL x.text), .slice A1 m1 c1, .slice A2 m2 c2] 49)).heap.size (w.alloc (.cells #[.int .i64 x.kind, .int .i64 x.int, .string (ofL x.text), .slice A1 m1 c1, .slice A2 m2 c2] 49))).alloc (Nat.le_refl _) (.cells #[.string ⟨#[]⟩, .int .i64 0, .int .i64 0, .string ⟨#[]⟩, .string ⟨#[]⟩, .string ⟨#[]⟩] 31)
    refine ⟨_, rfl, JC.below (show JC (w.alloc _) w.heap.size _ _ _ _ _ from heap_alloc_new w _) h2, ?_, ((Below.refl w.heap.size w).alloc (Nat.le_refl _) _).next h2⟩
    have := CB.new (w.alloc (.cells #[.int .i64 x.kind, .int .i64 x.int, .string (ofL x.text), .slice A1 m1 c1, .slice A2 m2 c2] 49)) #[.string ⟨#[]⟩, .int .i64 0, .int .i64 0, .string ⟨#[]⟩, .string ⟨#[]⟩, .string ⟨#[]⟩] 31
    rw [World.size_alloc] at this; exact this
  obtain ⟨w1, hw1, hj1, hm1, hb1⟩ := hall
  clear hR KO hxl hmr hox hwt
  generalize x.kind = k at *
  generalize x.int = i at *
  generalize ofL x.text = t at *
  go_enter Tryz.func53, Tryz.ntmps53
  go_upto_region 1 with fail
  rw [← hw1]
  clear hw1
  have d0 := hj1.c0
  have d1 := hj1.c1
  have d2 := hj1.c2
  have d3 := hj1.c3
  have d4 := hj1.c4
  have hz1 := hm1.lt
  have hb2 := (Below.refl w1.heap.size w1).alloc (Nat.le_refl _) (.cells ([Value.string ⟨#[99, 108, 105, 101, 110, 116]⟩, .string ⟨#[105, 100]⟩, .string ⟨#[109]⟩]).toArray 9)
  have hN2 := RdP.mono (Q := fun k => k < (w1.alloc (.cells ([Value.string ⟨#[99, 108, 105, 101, 110, 116]⟩, .string ⟨#[105, 100]⟩, .string ⟨#[109]⟩]).toArray 9)).heap.size ∧ ¬ k = rb) (rdp_new1 (w := w1) (ty := 9) [Value.string ⟨#[99, 108, 105, 101, 110, 116]⟩, .string ⟨#[105, 100]⟩, .string ⟨#[109]⟩] (show 3 = 3 * 1 from rfl) (by decide)) (by omega) (fun k hk _ => ⟨hk.2, by have := hk.1; omega⟩)
  have K := Lib.hid (HKO.out _ _ (hb1.next hb2) (show RdP _ _ 1 _ 3 (strs [clientN, idN, mN]) from hN2) ((hB.below hb1).below hb2))
  have hm2 := hm1.below hb2
  have hb12 := hb1.next hb2
  have hBw := (hB.below hb1).below hb2
  clear hN2 hb2
  go_wp2_with fail
  (with_reducible refine K.out.mono ?_); rintro e w2 ⟨A, c, ys, rfl, hRd, hRs, hB2, hT2⟩
  obtain ⟨g, o, rfl, hg, hcs⟩ := cells_of hRd (by rfl) hRs (by decide)
  obtain ⟨B0, n0, e0, C0, p0, f0, -, c00, c01, c02, c03, c04⟩ := hcs 0 x0 rfl
  obtain ⟨B1, n1, e1, C1, p1, f1, -, c10, c11, c12, c13, c14⟩ := hcs 1 x1 rfl
  obtain ⟨B2, n2, e2, C2, p2, f2, hX, c20, c21, c22, c23, c24⟩ := hcs 2 x2 rfl
  simp only [Nat.zero_mul, Nat.add_zero, Nat.one_mul, Nat.add_assoc, Nat.reduceMul, Nat.reduceAdd] at c00 c01 c02 c03 c04 c10 c11 c12 c13 c14 c20 c21 c22 c23 c24 
  have hgr : ¬ g = rb := by have := hb12.size; omega
  have hgv : ¬ g = w.heap.size + 1 := by have hg' : (w1.alloc (.cells ([Value.string ⟨#[99, 108, 105, 101, 110, 116]⟩, .string ⟨#[105, 100]⟩, .string ⟨#[109]⟩]).toArray 9)).heap.size ≤ g := hg; rw [World.size_alloc] at hg'; omega
  have hd := (Below.refl w2.heap.size w2).drew
  have q00 := Below.keeps hd c00; have q01 := Below.keeps hd c01; have q02 := Below.keeps hd c02; have q03 := Below.keeps hd c03; have q04 := Below.keeps hd c04; have q10 := Below.keeps hd c10; have q11 := Below.keeps hd c11; have q12 := Below.keeps hd c12; have q13 := Below.keeps hd c13; have q14 := Below.keeps hd c14; have q20 := Below.keeps hd c20; have q21 := Below.keeps hd c21; have q22 := Below.keeps hd c22; have q23 := Below.keeps hd c23; have q24 := Below.keeps hd c24
  have HRB := Lib.hid (hB2.below hd)
  have HT := Lib.hid (((Touch.of_below (F := fun k => k = rb) hb12).trans hT2).next hd)
  have hg9 : (w1.alloc (.cells ([Value.string ⟨#[99, 108, 105, 101, 110, 116]⟩, .string ⟨#[105, 100]⟩, .string ⟨#[109]⟩]).toArray 9)).heap.size ≤ g := hg
  obtain ⟨g0, hg0⟩ : ∃ g0, g0 = (w1.alloc (.cells ([Value.string ⟨#[99, 108, 105, 101, 110, 116]⟩, .string ⟨#[105, 100]⟩, .string ⟨#[109]⟩]).toArray 9)).heap.size := ⟨_, rfl⟩
  have hgz : rb < g0 := by have := hb12.size; omega
  have HX := Lib.hid (RJ.mono (Q := fun k => g0 ≤ k) (fun k hk _ => by rw [hg0]; exact hk) _ _ (hX.below hd))
  clear hg9 hg0 hX
  have HM := Lib.hid ((hm2.touch hT2 (by omega)).below hd)
  have hzz := hb12.size
  clear hcs hRs hRd hB2 hT2 hd hB hm1 hm2 hj1 hb1 hb12 hBw K d0 d1 d2 d3 d4
  clear c00 c01 c02 c03 c04 c10 c11 c12 c13 c14 c20 c21 c22 c23 c24 
  go_upto_region 2 with fail
  go_region_held3 (fun w' => w'.cell? ⟨g, o, none⟩ = some (.int .i64 x0.kind) ∧ w'.cell? ⟨g, o + 1, none⟩ = some (.int .i64 x0.int) ∧ w'.cell? ⟨g, o + 2, none⟩ = some (.string (ofL x0.text)) ∧ w'.cell? ⟨g, o + 3, none⟩ = some (.slice B0 n0 e0) ∧ w'.cell? ⟨g, o + 4, none⟩ = some (.slice C0 p0 f0) ∧ w'.cell? ⟨g, o + 5, none⟩ = some (.int .i64 x1.kind) ∧ w'.cell? ⟨g, o + 6, none⟩ = some (.int .i64 x1.int) ∧ w'.cell? ⟨g, o + 7, none⟩ = some (.string (ofL x1.text)) ∧ w'.cell? ⟨g, o + 8, none⟩ = some (.slice B1 n1 e1) ∧ w'.cell? ⟨g, o + 9, none⟩ = some (.slice C1 p1 f1) ∧ w'.cell? ⟨g, o + 10, none⟩ = some (.int .i64 x2.kind) ∧ w'.cell? ⟨g, o + 11, none⟩ = some (.int .i64 x2.int) ∧ w'.cell? ⟨g, o + 12, none⟩ = some (.string (ofL x2.text)) ∧ w'.cell? ⟨g, o + 13, none⟩ = some (.slice B2 n2 e2) ∧ w'.cell? ⟨g, o + 14, none⟩ = some (.slice C2 p2 f2))
    (first | (with_reducible exact ⟨z00, z01, z02, z03, z04, z10, z11, z12, z13, z14, z20, z21, z22, z23, z24⟩) | (with_reducible exact ⟨q00, q01, q02, q03, q04, q10, q11, q12, q13, q14, q20, q21, q22, q23, q24⟩))
    (first | (go_at_call 68; (with_reducible refine (rnum_any _ _ _ _ _ _ _ _ _ rb _ _ HRB.out).mono ?_); rintro e w2 ⟨rfl, hrb2, ht2⟩; have htk := touch_keeps (P := fun k => ¬ k = rb) ht2 (fun k hk e => hk e); have q00 := htk _ _ _ hgr q00; have q01 := htk _ _ _ hgr q01; have q02 := htk _ _ _ hgr q02; have q03 := htk _ _ _ hgr q03; have q04 := htk _ _ _ hgr q04; have q10 := htk _ _ _ hgr q10; have q11 := htk _ _ _ hgr q11; have q12 := htk _ _ _ hgr q12; have q13 := htk _ _ _ hgr q13; have q14 := htk _ _ _ hgr q14; have q20 := htk _ _ _ hgr q20; have q21 := htk _ _ _ hgr q21; have q22 := htk _ _ _ hgr q22; have q23 := htk _ _ _ hgr q23; have q24 := htk _ _ _ hgr q24; have HRB := Lib.hid hrb2; have HT := Lib.hid (HT.out.trans ht2); have HX := Lib.hid (RJ.keep (touch_keeps (P := fun k => g0 ≤ k) ht2 (fun k hk e => by have e' : k = rb := e; omega)) _ _ HX.out); have hm2 := HM.out.touch ht2 (by omega); have HM := Lib.hid hm2)
           | (go_at_call 66; (with_reducible refine (rtxt_any _ _ _ _ _ _ _ _ _ rb _ _ HRB.out).mono ?_); rintro e w2 ⟨rfl, hrb2, ht2⟩; have htk := touch_keeps (P := fun k => ¬ k = rb) ht2 (fun k hk e => hk e); have q00 := htk _ _ _ hgr q00; have q01 := htk _ _ _ hgr q01; have q02 := htk _ _ _ hgr q02; have q03 := htk _ _ _ hgr q03; have q04 := htk _ _ _ hgr q04; have q10 := htk _ _ _ hgr q10; have q11 := htk _ _ _ hgr q11; have q12 := htk _ _ _ hgr q12; have q13 := htk _ _ _ hgr q13; have q14 := htk _ _ _ hgr q14; have q20 := htk _ _ _ hgr q20; have q21 := htk _ _ _ hgr q21; have q22 := htk _ _ _ hgr q22; have q23 := htk _ _ _ hgr q23; have q24 := htk _ _ _ hgr q24; have HRB := Lib.hid hrb2; have HT := Lib.hid (HT.out.trans ht2); have HX := Lib.hid (RJ.keep (touch_keeps (P := fun k => g0 ≤ k) ht2 (fun k hk e => by have e' : k = rb := e; omega)) _ _ HX.out); have hm2 := HM.out.touch ht2 (by omega); have HM := Lib.hid hm2)
           | (go_at_call 69; have hX9 := RJ.mono (Q := fun k => k < w2.heap.size ∧ ¬ k = rb) (fun k hk hlt => ⟨hlt, by have hk' : g0 ≤ k := hk; omega⟩) _ _ HX.out; (with_reducible refine (rmutation_any x2 _ _ rb _ _ hX9 hw2 HRB.out).mono ?_); rintro e w2 ⟨rfl, hrb2, ht2⟩; have htk := touch_keeps (P := fun k => ¬ k = rb) ht2 (fun k hk e => hk e); have q00 := htk _ _ _ hgr q00; have q01 := htk _ _ _ hgr q01; have q02 := htk _ _ _ hgr q02; have q03 := htk _ _ _ hgr q03; have q04 := htk _ _ _ hgr q04; have q10 := htk _ _ _ hgr q10; have q11 := htk _ _ _ hgr q11; have q12 := htk _ _ _ hgr q12; have q13 := htk _ _ _ hgr q13; have q14 := htk _ _ _ hgr q14; have q20 := htk _ _ _ hgr q20; have q21 := htk _ _ _ hgr q21; have q22 := htk _ _ _ hgr q22; have q23 := htk _ _ _ hgr q23; have q24 := htk _ _ _ hgr q24; have HRB := Lib.hid hrb2; have HT := Lib.hid (HT.out.trans ht2); have HX := Lib.hid (RJ.keep (touch_keeps (P := fun k => g0 ≤ k) ht2 (fun k hk e => by have e' : k = rb := e; omega)) _ _ HX.out); have hm2 := HM.out.touch ht2 (by omega); have HM := Lib.hid hm2; have h0 := hm2.c 0 rfl; have v0 := hm2.f 0; have h1 := hm2.c 1 rfl; have v1 := hm2.f 1; have h2 := hm2.c 2 rfl; have v2 := hm2.f 2; have h3 := hm2.c 3 rfl; have v3 := hm2.f 3; have h4 := hm2.c 4 rfl; have v4 := hm2.f 4; have h5 := hm2.c 5 rfl; have v5 := hm2.f 5; have htp := (((((((Touch.refl (fun k => k = w.heap.size + 1) w2).setCell (p := ⟨w.heap.size + 1, 0, none⟩) rfl (.string (ofL x0.text))).setCell (p := ⟨w.heap.size + 1, 1, none⟩) rfl (.int .i64 x1.int)).setCell (p := ⟨w.heap.size + 1, 2, none⟩) rfl (.int .i64 (mutR x2).2.kind)).setCell (p := ⟨w.heap.size + 1, 3, none⟩) rfl (.string (ofL (mutR x2).2.issue))).setCell (p := ⟨w.heap.size + 1, 4, none⟩) rfl (.string (ofL (mutR x2).2.name))).setCell (p := ⟨w.heap.size + 1, 5, none⟩) rfl (.string (ofL (mutR x2).2.text))); have htk := touch_keeps (P := fun k => ¬ k = w.heap.size + 1) htp (fun k hk e => hk e); have z00 := htk _ _ _ hgv q00; have z01 := htk _ _ _ hgv q01; have z02 := htk _ _ _ hgv q02; have z03 := htk _ _ _ hgv q03; have z04 := htk _ _ _ hgv q04; have z10 := htk _ _ _ hgv q10; have z11 := htk _ _ _ hgv q11; have z12 := htk _ _ _ hgv q12; have z13 := htk _ _ _ hgv q13; have z14 := htk _ _ _ hgv q14; have z20 := htk _ _ _ hgv q20; have z21 := htk _ _ _ hgv q21; have z22 := htk _ _ _ hgv q22; have z23 := htk _ _ _ hgv q23; have z24 := htk _ _ _ hgv q24))
  have HMf := Lib.hid ((((((hm2.set 0 (.string (ofL x0.text))).set 1 (.int .i64 x1.int)).set 2 (.int .i64 (mutR x2).2.kind)).set 3 (.string (ofL (mutR x2).2.issue))).set 4 (.string (ofL (mutR x2).2.name))).set 5 (.string (ofL (mutR x2).2.text)))
  have HRf := Lib.hid (HRB.out.touch htp (by omega))
  have HTf := Lib.hid (HT.out.under htp (fun k hk e => by have e' : k = w.heap.size + 1 := e; omega))
  clear htp htk hm2 h0 h1 h2 h3 h4 h5 v0 v1 v2 v3 v4 v5
  generalize ((((((w2.setCell ⟨w.heap.size + 1, 0, none⟩ (.string (ofL x0.text))).setCell ⟨w.heap.size + 1, 1, none⟩ (.int .i64 x1.int)).setCell ⟨w.heap.size + 1, 2, none⟩ (.int .i64 (mutR x2).2.kind)).setCell ⟨w.heap.size + 1, 3, none⟩ (.string (ofL (mutR x2).2.issue))).setCell ⟨w.heap.size + 1, 4, none⟩ (.string (ofL (mutR x2).2.name))).setCell ⟨w.heap.size + 1, 5, none⟩ (.string (ofL (mutR x2).2.text))) = wz at *
  have h0 : wz.cell? ⟨w.heap.size + 1, 0, none⟩ = some (.string (ofL x0.text)) := HMf.out.c 0 rfl
  have h1 : wz.cell? ⟨w.heap.size + 1, 1, none⟩ = some (.int .i64 x1.int) := HMf.out.c 1 rfl
  have h2 : wz.cell? ⟨w.heap.size + 1, 2, none⟩ = some (.int .i64 (mutR x2).2.kind) := HMf.out.c 2 rfl
  have h3 : wz.cell? ⟨w.heap.size + 1, 3, none⟩ = some (.string (ofL (mutR x2).2.issue)) := HMf.out.c 3 rfl
  have h4 : wz.cell? ⟨w.heap.size + 1, 4, none⟩ = some (.string (ofL (mutR x2).2.name)) := HMf.out.c 4 rfl
  have h5 : wz.cell? ⟨w.heap.size + 1, 5, none⟩ = some (.string (ofL (mutR x2).2.text)) := HMf.out.c 5 rfl
  clear ht2 hrb2 hX9
  go_wp2_with fail
  refine bodyPost_ret (v := .agg #[.string (ofL x0.text), .int .i64 x1.int, .int .i64 (mutR x2).2.kind, .string (ofL (mutR x2).2.issue), .string (ofL (mutR x2).2.name), .string (ofL (mutR x2).2.text)]) (by simp [results, Tryz.results53, go_sem, h0, h1, h2, h3, h4, h5]) rfl ?_
  refine ⟨rfl, ?_, HTf.out⟩
  have := HRf.out
  simp only [Bool.or_assoc] at this ⊢
  exact this
end Go.Proofs.YtigdjnfnkjfkmaaGreatDoor
