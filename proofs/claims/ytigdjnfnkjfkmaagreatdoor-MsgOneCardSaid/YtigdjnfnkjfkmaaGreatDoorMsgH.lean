/- A message taken out of a value: a push (msg's reader.message). Conditions: the value is small. -/
import Derived.Test.YtigdjnfnkjfkmaaGreatDoorMsgG
namespace Go.Proofs.YtigdjnfnkjfkmaaGreatDoor
open Go.RowKit
set_option linter.unusedVariables false
set_option linter.unusedSimpArgs false
set_option maxRecDepth 100000

theorem rowLo : Row Tryz.prog 22 31 (.agg #[.string ⟨#[]⟩, .int .i64 0, .int .i64 0, .string ⟨#[]⟩, .string ⟨#[]⟩, .string ⟨#[]⟩]) 6 80 :=
  ⟨Tryz.underlying22, info_parts (by kernel_rfl), rfl, by decide, by decide⟩
theorem one_log (x : Lo) : ∀ u ∈ logV x, u.oneCell' = true := by
  intro u hu
  unfold logV at hu
  simp only [List.mem_cons, List.not_mem_nil, or_false] at hu
  rcases hu with rfl | rfl | rfl | rfl | rfl | rfl <;> rfl
theorem logs_snoc (l : List Lo) (x : Lo) : logsV (l ++ [x]) = logsV l ++ logV x := by simp [logsV]
theorem rj_items {P : Nat → Prop} {w : World} {x : J} {k n t N I : Value} (h : RJ P w x [k, n, t, N, I]) : ∃ zs, RdP P w 5 I x.items.length zs ∧ RJs P w x.items zs := by
  cases x with
  | mk k' n' t' ns is =>
    rw [RJ] at h
    obtain ⟨N', I', e, -, zs, h2, h3⟩ := h
    simp only [List.cons.injEq, and_true] at e
    obtain ⟨-, -, -, -, rfl⟩ := e
    exact ⟨zs, h2, h3⟩
theorem any_snoc {α : Type} (f : J → Bool × α) (l : List J) {m : Nat} {y : J} (h : l[m]? = some y) : ((l.take (m + 1)).map f).any (·.1) = (((l.take m).map f).any (·.1) || (f y).1) := by
  rw [List.take_add_one, h]
  simp
theorem map_snoc {α : Type} (f : J → Bool × α) (l : List J) {m : Nat} {y : J} (h : l[m]? = some y) : (l.take (m + 1)).map (fun y => (f y).2) = (l.take m).map (fun y => (f y).2) ++ [(f y).2] := by
  rw [List.take_add_one, h]
  simp
theorem items_wt {x : J} {y : J} (h : y ∈ x.items) : wtJ y ≤ wtJ x := by
  cases x with
  | mk k n t ns is =>
    have h' : y ∈ is := h
    have := wts_mem h'
    rw [wtJ]; omega
set_option maxHeartbeats 16000000 in
theorem rmsg_push (x : J) (N I : Value) (rb : Nat) (b : Bool) (w : World)
    (hR : RJ (fun k => k < w.heap.size ∧ ¬ k = rb) w x [.int .i64 x.kind, .int .i64 x.int, .string (ofL x.text), N, I]) (hwt : wtJ x ≤ 1048576) (hB : RB w rb b) :
    Calls Tryz.prog 43 #[.pointer (some ⟨rb, 0, none⟩), .agg #[.int .i64 x.kind, .int .i64 x.int, .string (ofL x.text), N, I], .string (ofL pushN)] w (MsgP rb (msgR x pushN).2 (b || (msgR x pushN).1) w) := by
  obtain ⟨⟨A1, m1, c1, rfl⟩, A2, m2, c2, rfl⟩ := rj_slices hR
  have KO := fun (w' : World) (nv : Value) (hb : Below w.heap.size w w') (hN : RdP (fun k => k < w'.heap.size ∧ ¬ k = rb) w' 1 nv 3 (strs [typeN, clientN, listN])) (hB' : RB w' rb b) =>
    robject_any x _ _ nv [typeN, clientN, listN] rb b w' (RJ.mono (fun k hk _ => ⟨Nat.lt_of_lt_of_le hk.1 hb.size, hk.2⟩) _ _ (RJ.below hR hb)) hwt hN (by show 3 ≤ 1000; decide) hB'
  have hlt := hB.lt
  obtain ⟨bl, xs, hox⟩ : ∃ bl xs, objR x [typeN, clientN, listN] = (bl, xs) := ⟨_, _, rfl⟩
  have hxl : xs.length = 3 := by have := congrArg (fun p => p.2.length) hox; simpa [objR] using this.symm
  have hxw := objR_wt x [typeN, clientN, listN]
  rw [hox] at hxw
  obtain ⟨x0, x1, x2, rfl⟩ := len3 hxl
  have hmr : msgR x pushN = (bl || !decide (x1.kind = 3) || !decide (x2.kind = 4) || (x2.items.map (itemR x1.text)).any (·.1), ⟨1, x1.text, 0, 0, 0, 0, (x2.items.map (itemR x1.text)).map (·.2)⟩) := by
    unfold msgR
    rw [hox]
    rfl
  rw [hmr]
  rw [hox] at KO
  have hw2 : wtJ x2 ≤ 1048576 := Nat.le_trans (hxw x2 (by simp)) hwt
  have HKO := Lib.hid KO
  have hall : ∃ W, W = ((w.alloc (.cells #[.int .i64 x.kind, .int .i64 x.int, .string (ofL x.text), .slice A1 m1 c1, .slice A2 m2 c2] 49)).alloc (.cells #[.int .i64 0, .string ⟨#[]⟩, .int .i64 0, .int .i64 0, .int .i64 0, .int .i64 0, .slice none 0 0] 24)).alloc (.cells #[.int .i64 0, .string ⟨#[]⟩, .int .i64 0, .int .i64 0, .int .i64 0, .int .i64 0, .slice none 0 0] 24) ∧ JC W w.heap.size x.kind x.int (ofL x.text) (.slice A1 m1 c1) (.slice A2 m2 c2) ∧ CB W (w.heap.size + 1) #[.int .i64 0, .string ⟨#[]⟩, .int .i64 0, .int .i64 0, .int .i64 0, .int .i64 0, .slice none 0 0] 24 ∧ CB W (w.heap.size + 1 + 1) #[.int .i64 0, .string ⟨#[]⟩, .int .i64 0, .int .i64 0, .int .i64 0, .int .i64 0, .slice none 0 0] 24 ∧ Below w.heap.size w W := by
    have h2 := (Below.refl (w.alloc (.cells #[.int .i64 x.kind, .int .i64 x.int, .string (ofL x.text), .slice A1 m1 c1, .slice A2 m2 c2] 49)).heap.size (w.alloc (.cells #[.int .i64 x.kind, .int .i64 x.int, .string (ofL x.text), .slice A1 m1 c1, .slice A2 m2 c2] 49))).alloc (Nat.le_refl _) (.cells #[.int .i64 0, .string ⟨#[]⟩, .int .i64 0, .int .i64 0, .int .i64 0, .int .i64 0, .slice none 0 0] 24)
    have h3 := (Below.refl ((w.alloc (.cells #[.int .i64 x.kind, .int .i64 x.int, .string (ofL x.text), .slice A1 m1 c1, .slice A2 m2 c2] 49)).alloc (.cells #[.int .i64 0, .string ⟨#[]⟩, .int .i64 0, .int .i64 0, .int .i64 0, .int .i64 0, .slice none 0 0] 24)).heap.size ((w.alloc (.cells #[.int .i64 x.kind, .int .i64 x.int, .string (ofL x.text), .slice A1 m1 c1, .slice A2 m2 c2] 49)).alloc (.cells #[.int .i64 0, .string ⟨#[]⟩, .int .i64 0, .int .i64 0, .int .i64 0, .int .i64 0, .slice none 0 0] 24))).alloc (Nat.le_refl _) (.cells #[.int .i64 0, .string ⟨#[]⟩, .int .i64 0, .int .i64 0, .int .i64 0, .int .i64 0, .slice none 0 0] 24)
    refine ⟨_, rfl, (JC.below (show JC (w.alloc _) w.heap.size _ _ _ _ _ from heap_alloc_new w _) h2).below h3, ?_, ?_, (((Below.refl w.heap.size w).alloc (Nat.le_refl _) _).next h2).next h3⟩
    · have := CB.new (w.alloc (.cells #[.int .i64 x.kind, .int .i64 x.int, .string (ofL x.text), .slice A1 m1 c1, .slice A2 m2 c2] 49)) #[.int .i64 0, .string ⟨#[]⟩, .int .i64 0, .int .i64 0, .int .i64 0, .int .i64 0, .slice none 0 0] 24
      rw [World.size_alloc] at this; exact this.below h3
    · have := CB.new ((w.alloc (.cells #[.int .i64 x.kind, .int .i64 x.int, .string (ofL x.text), .slice A1 m1 c1, .slice A2 m2 c2] 49)).alloc (.cells #[.int .i64 0, .string ⟨#[]⟩, .int .i64 0, .int .i64 0, .int .i64 0, .int .i64 0, .slice none 0 0] 24)) #[.int .i64 0, .string ⟨#[]⟩, .int .i64 0, .int .i64 0, .int .i64 0, .int .i64 0, .slice none 0 0] 24
      rw [World.size_alloc, World.size_alloc] at this; exact this
  obtain ⟨w1, hw1, hj1, hm1, hn1, hb1⟩ := hall
  generalize hvb : w.heap.size + 1 = vb at *
  generalize hvc : vb + 1 = vc at *
  clear hR KO hxl hmr hox hwt hxw
  obtain ⟨s, hs⟩ : ∃ s : ByteArray, s = ofL pushN := ⟨_, rfl⟩
  rw [← hs]
  have htpush : (s.toList == [112, 117, 115, 104]) = true := by rw [hs, toL_ofL]; decide
  clear hs
  generalize x.kind = k at *
  generalize x.int = i at *
  generalize ofL x.text = t at *
  go_enter Tryz.func43, Tryz.ntmps43
  go_upto_region 2 with fail
  try simp only [hvb, hvc]
  rw [← hw1]
  clear hw1
  have d0 := hj1.c0
  have d1 := hj1.c1
  have d2 := hj1.c2
  have d3 := hj1.c3
  have d4 := hj1.c4
  have hz1 := hn1.lt
  have hb2 := (Below.refl w1.heap.size w1).alloc (Nat.le_refl _) (.cells ([Value.string ⟨#[116, 121, 112, 101]⟩, .string ⟨#[99, 108, 105, 101, 110, 116]⟩, .string ⟨#[108, 105, 115, 116]⟩]).toArray 9)
  have hN2 := RdP.mono (Q := fun k => k < (w1.alloc (.cells ([Value.string ⟨#[116, 121, 112, 101]⟩, .string ⟨#[99, 108, 105, 101, 110, 116]⟩, .string ⟨#[108, 105, 115, 116]⟩]).toArray 9)).heap.size ∧ ¬ k = rb) (rdp_new1 (w := w1) (ty := 9) [Value.string ⟨#[116, 121, 112, 101]⟩, .string ⟨#[99, 108, 105, 101, 110, 116]⟩, .string ⟨#[108, 105, 115, 116]⟩] (show 3 = 3 * 1 from rfl) (by decide)) (by omega) (fun k hk _ => ⟨hk.2, by have := hk.1; omega⟩)
  have K := Lib.hid (HKO.out _ _ (hb1.next hb2) (show RdP _ _ 1 _ 3 (strs [typeN, clientN, listN]) from hN2) ((hB.below hb1).below hb2))
  have hm2 := hm1.below hb2
  have hn2 := hn1.below hb2
  have hb12 := hb1.next hb2
  clear hN2 hb2
  go_wp2_with fail
  (with_reducible refine K.out.mono ?_); rintro e w2 ⟨A, c, ys, rfl, hRd, hRs, hB2, hT2⟩
  obtain ⟨g, o, rfl, hg, hcs⟩ := cells_of hRd (by rfl) hRs (by decide)
  have hg' : (w1.alloc (.cells ([Value.string ⟨#[116, 121, 112, 101]⟩, .string ⟨#[99, 108, 105, 101, 110, 116]⟩, .string ⟨#[108, 105, 115, 116]⟩]).toArray 9)).heap.size ≤ g := hg
  rw [World.size_alloc] at hg'
  have hgr : ¬ g = rb := by have := hb12.size; omega
  have hgv : ¬ g = vc := by omega
  obtain ⟨B1, n1, e1, C1, p1, f1, -, c10, c11, c12, c13, c14⟩ := hcs 1 x1 rfl
  obtain ⟨B2, n2, e2, C2, p2, f2, hX, c20, c21, c22, c23, c24⟩ := hcs 2 x2 rfl
  simp only [Nat.zero_mul, Nat.add_zero, Nat.one_mul, Nat.add_assoc, Nat.reduceMul, Nat.reduceAdd] at c10 c11 c12 c13 c14 c20 c21 c22 c23 c24
  obtain ⟨g0, hg0⟩ : ∃ g0, g0 = (w1.alloc (.cells ([Value.string ⟨#[116, 121, 112, 101]⟩, .string ⟨#[99, 108, 105, 101, 110, 116]⟩, .string ⟨#[108, 105, 115, 116]⟩]).toArray 9)).heap.size := ⟨_, rfl⟩
  have hX0 := RJ.mono (Q := fun k => g0 ≤ k) (fun k hk _ => by rw [hg0]; exact hk) _ _ hX
  have hz0 : w1.heap.size < g0 := by rw [hg0, World.size_alloc]; exact Nat.lt_succ_self _
  have HRB := Lib.hid hB2
  have HT := Lib.hid ((Touch.of_below (F := fun k => k = rb) hb12).trans hT2)
  have HM := Lib.hid (hm2.touch hT2 (by omega))
  have HN := Lib.hid (hn2.touch hT2 (by omega))
  have HX := Lib.hid hX0
  have hw12 : w.heap.size ≤ w1.heap.size := hb1.size
  have hwz2 : g0 ≤ w2.heap.size := by rw [hg0]; exact hT2.size
  clear hcs hRs hRd hB2 hT2 hB hm1 hm2 hn1 hn2 hj1 hb1 hb12 K d0 d1 d2 d3 d4 hg hg' hX hX0 hg0
  have q10 := c10
  have q11 := c11
  have q12 := c12
  have q13 := c13
  have q14 := c14
  have q20 := c20
  have q21 := c21
  have q22 := c22
  have q23 := c23
  have q24 := c24
  go_upto_region 5 with fail
  go_wp2_with fail
  (with_reducible refine (rtxt_any _ _ _ _ _ _ _ _ _ rb _ _ HRB.out).mono ?_)
  rintro e w3 ⟨rfl, hrb2, ht2⟩
  have htk := touch_keeps (P := fun k => ¬ k = rb) ht2 (fun k hk e => hk e)
  have hn3 := HN.out.touch ht2 (by omega)
  have q10 := htk _ _ _ hgr q10
  have q11 := htk _ _ _ hgr q11
  have q12 := htk _ _ _ hgr q12
  have q13 := htk _ _ _ hgr q13
  have q14 := htk _ _ _ hgr q14
  have q20 := htk _ _ _ hgr q20
  have q21 := htk _ _ _ hgr q21
  have q22 := htk _ _ _ hgr q22
  have q23 := htk _ _ _ hgr q23
  have q24 := htk _ _ _ hgr q24
  have h0 := hn3.c 0 rfl
  have v0 := hn3.f 0
  have h1 := hn3.c 1 rfl
  have v1 := hn3.f 1
  have h2 := hn3.c 2 rfl
  have v2 := hn3.f 2
  have h3 := hn3.c 3 rfl
  have v3 := hn3.f 3
  have h4 := hn3.c 4 rfl
  have v4 := hn3.f 4
  have h5 := hn3.c 5 rfl
  have v5 := hn3.f 5
  have h6 := hn3.c 6 rfl
  have v6 := hn3.f 6
  have htp := ((((((((Touch.refl (fun k => k = vc) w3).setCell (p := ⟨vc, 0, none⟩) rfl (.int .i64 1)).setCell (p := ⟨vc, 1, none⟩) rfl (.string (ofL x1.text))).setCell (p := ⟨vc, 2, none⟩) rfl (.int .i64 0)).setCell (p := ⟨vc, 3, none⟩) rfl (.int .i64 0)).setCell (p := ⟨vc, 4, none⟩) rfl (.int .i64 0)).setCell (p := ⟨vc, 5, none⟩) rfl (.int .i64 0)).setCell (p := ⟨vc, 6, none⟩) rfl (.slice none 0 0))
  have htk := touch_keeps (P := fun k => ¬ k = vc) htp (fun k hk e => hk e)
  have z10 := htk _ _ _ hgv q10
  have z11 := htk _ _ _ hgv q11
  have z12 := htk _ _ _ hgv q12
  have z13 := htk _ _ _ hgv q13
  have z14 := htk _ _ _ hgv q14
  have z20 := htk _ _ _ hgv q20
  have z21 := htk _ _ _ hgv q21
  have z22 := htk _ _ _ hgv q22
  have z23 := htk _ _ _ hgv q23
  have z24 := htk _ _ _ hgv q24
  have HRB := Lib.hid (hrb2.touch htp (by omega))
  have HT := Lib.hid ((HT.out.trans ht2).under htp (fun k hk e => by have e' : k = vc := e; omega))
  have HM := Lib.hid ((HM.out.touch ht2 (by omega)).touch htp (by omega))
  have HX := Lib.hid (RJ.keep (touch_keeps htp (fun k hk e => by have hk' : g0 ≤ k := hk; have e' : k = vc := e; omega)) _ _ (RJ.keep (touch_keeps ht2 (fun k hk e => by have hk' : g0 ≤ k := hk; have e' : k = rb := e; omega)) _ _ HX.out))
  have HN := Lib.hid (((((((hn3.set 0 (.int .i64 1)).set 1 (.string (ofL x1.text))).set 2 (.int .i64 0)).set 3 (.int .i64 0)).set 4 (.int .i64 0)).set 5 (.int .i64 0)).set 6 (.slice none 0 0))
  have hw3 : w2.heap.size ≤ (((((((w3.setCell ⟨vc, 0, none⟩ (.int .i64 1)).setCell ⟨vc, 1, none⟩ (.string (ofL x1.text))).setCell ⟨vc, 2, none⟩ (.int .i64 0)).setCell ⟨vc, 3, none⟩ (.int .i64 0)).setCell ⟨vc, 4, none⟩ (.int .i64 0)).setCell ⟨vc, 5, none⟩ (.int .i64 0)).setCell ⟨vc, 6, none⟩ (.slice none 0 0)).heap.size := Nat.le_trans ht2.size htp.size
  clear c10 q10 c11 q11 c12 q12 c13 q13 c14 q14 c20 q20 c21 q21 c22 q22 c23 q23 c24 q24 hn3
  go_upto_region 6 with fail
  clear htp htk hrb2 ht2 h0 v0 h1 v1 h2 v2 h3 v3 h4 v4 h5 v5 h6 v6
  generalize (((((((w3.setCell ⟨vc, 0, none⟩ (.int .i64 1)).setCell ⟨vc, 1, none⟩ (.string (ofL x1.text))).setCell ⟨vc, 2, none⟩ (.int .i64 0)).setCell ⟨vc, 3, none⟩ (.int .i64 0)).setCell ⟨vc, 4, none⟩ (.int .i64 0)).setCell ⟨vc, 5, none⟩ (.int .i64 0)).setCell ⟨vc, 6, none⟩ (.slice none 0 0)) = w4 at *
  go_wp2_with fail
  (with_reducible refine (ritems_any _ _ _ _ _ _ _ _ _ rb _ _ HRB.out).mono ?_)
  rintro e w5 ⟨rfl, hrb5, ht5⟩
  clear z10 z11 z12 z13 z14 z20 z21 z22 z23 z24
  have HX5 := RJ.keep (touch_keeps ht5 (fun k hk e => by have hk' : g0 ≤ k := hk; have e' : k = rb := e; omega)) _ _ HX.out
  obtain ⟨zs, hIt, hJt⟩ := rj_items HX5
  obtain ⟨AI, cI, eI⟩ := hIt.shape
  simp only [Value.slice.injEq] at eI
  obtain ⟨-, hp2, -⟩ := eI
  obtain ⟨bq, hbq⟩ : ∃ bq, bq = (b || bl || !decide (x1.kind = 3) || !decide (x2.kind = 4)) := ⟨_, rfl⟩
  rw [← hbq] at hrb5
  obtain ⟨base, hbase⟩ : ∃ base, base = w5.heap.size := ⟨_, rfl⟩
  obtain ⟨its, hits⟩ : ∃ its, its = x2.items := ⟨_, rfl⟩
  have hIt := hIt.mono (Q := fun k => g0 ≤ k ∧ k < base) (by decide) (fun k hk hl => ⟨hk, by rw [hbase]; exact hl⟩)
  have hJt := RJs.mono (Q := fun k => g0 ≤ k ∧ k < base) (fun k hk hl => ⟨hk, by rw [hbase]; exact hl⟩) hJt
  have hwi : ∀ y ∈ its, wtJ y ≤ 1048576 := fun y hy => by rw [hits] at hy; exact Nat.le_trans (items_wt hy) hw2
  rw [← hits] at hp2 hIt hJt
  have HIt := Lib.hid (show RdP (fun k => g0 ≤ k ∧ k < base) w5 5 (.slice C2 p2 f2) p2 zs from hp2 ▸ hIt)
  have HJt := Lib.hid hJt
  have HWi := Lib.hid hwi
  have HP2 := Lib.hid hp2
  have HBq := Lib.hid hbq
  have HIts := Lib.hid hits
  have HRB := Lib.hid hrb5
  have HTw := Lib.hid (HT.out.trans ht5)
  have HM := Lib.hid (HM.out.touch ht5 (by omega))
  have HN := Lib.hid (HN.out.touch ht5 (by omega))
  have hz5 : w4.heap.size ≤ base := by rw [hbase]; exact ht5.size
  have hzb : base ≤ w5.heap.size := by rw [hbase]; exact Nat.le_refl _
  have hil : p2 ≤ 1048576 := by have := wts_len its; rw [hp2]; rw [hits]; cases x2 with | mk k n t ns is => rw [wtJ] at hw2; have := wts_len is; show is.length ≤ _; omega
  clear hIt hJt hwi hp2 hbq hits hrb5 ht5 HX5 HX HT hw2 hbase
  go_upto_region 7 with fail
  go_loopw [37] (fun ii wr => ∃ (m : Nat) (L : Value), m ≤ p2 ∧ ii = .int .i64 m ∧ Hid (RB wr rb (bq || ((its.take m).map (itemR x1.text)).any (·.1))) ∧ Hid (CB wr vc #[.int .i64 1, .string (ofL x1.text), .int .i64 0, .int .i64 0, .int .i64 0, .int .i64 0, L] 24) ∧
    Hid (wr.ownsRow base 31 6 L m (logsV ((its.take m).map fun y => (itemR x1.text y).2))) ∧ Hid (CB wr vb #[.int .i64 0, .string ⟨#[]⟩, .int .i64 0, .int .i64 0, .int .i64 0, .int .i64 0, .slice none 0 0] 24) ∧ Hid (RdP (fun k => g0 ≤ k ∧ k < base) wr 5 (.slice C2 p2 f2) p2 zs) ∧ Hid (RJs (fun k => g0 ≤ k ∧ k < base) wr its zs) ∧ Hid (base ≤ wr.heap.size) ∧ Hid (Touch (fun k => k = rb) w wr)) (fun ii _ => p2 - (intOf ii).toNat)
  case atStart => exact ⟨0, .slice none 0 0, Nat.zero_le _, rfl, Lib.hid (by rw [List.take_zero, List.map_nil, List.any_nil, Bool.or_false]; exact HRB.out), HN, Lib.hid (World.ownsRow_nil _ _ _ _), HM, HIt, HJt, Lib.hid hzb, HTw⟩
  case round =>
    obtain ⟨m, L, hm, rfl, HRB, HN, HO, HM, HIt, HJt, HZ, HTw⟩ := hrel
    obtain ⟨AL, cL, rfl⟩ := (rd_of_own HO.out).shape
    have hzr := HZ.out
    by_cases hlt' : m < p2
    · obtain ⟨y, hy⟩ : ∃ y, its[m]? = some y := ⟨_, List.getElem?_eq_getElem (by rw [← HP2.out]; exact hlt')⟩
      obtain ⟨ba, oa, ca, Ny, Qy, eI, hba, hRy, j0, j1, j2, j3, j4⟩ := (show RdP (fun k => g0 ≤ k ∧ k < base) wr 5 (.slice C2 p2 f2) its.length zs by have := HIt.out; rw [HP2.out] at this ⊢; exact this).jsonAt HJt.out hy
      simp only [Value.slice.injEq] at eI
      obtain ⟨rfl, hjunk, rfl⟩ := eI
      obtain ⟨⟨A5, m5, c5, rfl⟩, A6, m6, c6, rfl⟩ := rj_slices hRy
      have Hy := Lib.hid hy
      have hwy := HWi.out y (List.mem_of_getElem? hy)
      clear hjunk hy
      have hall6 : ∃ W, W = wr.alloc (.cells #[.int .i64 y.kind, .int .i64 y.int, .string (ofL y.text), .slice A5 m5 c5, .slice A6 m6 c6] 49) ∧ W.heap[wr.heap.size]? = some (.cells #[.int .i64 y.kind, .int .i64 y.int, .string (ofL y.text), .slice A5 m5 c5, .slice A6 m6 c6] 49 (0, 0)) ∧ Below wr.heap.size wr W := ⟨_, rfl, heap_alloc_new wr _, (Below.refl _ _).alloc (Nat.le_refl _) _⟩
      obtain ⟨w6, hw6, hk6, hb6⟩ := hall6
      go_upto_region 9 with fail
      rw [← hw6]
      clear hw6
      obtain ⟨f0', f1', f2', f3', f4', hz6⟩ := box5b hk6
      have hb7 := (Below.refl w6.heap.size w6).alloc (Nat.le_refl _) (.cells ([Value.string ⟨#[105, 100]⟩, .string ⟨#[109]⟩]).toArray 9)
      have hz7 : (w6.alloc (.cells ([Value.string ⟨#[105, 100]⟩, .string ⟨#[109]⟩]).toArray 9)).heap.size = w6.heap.size + 1 := World.size_alloc ..
      have hN7 := RdP.mono (Q := fun k => k < (w6.alloc (.cells ([Value.string ⟨#[105, 100]⟩, .string ⟨#[109]⟩]).toArray 9)).heap.size ∧ ¬ k = rb) (rdp_new1 (w := w6) (ty := 9) [Value.string ⟨#[105, 100]⟩, .string ⟨#[109]⟩] (show 2 = 2 * 1 from rfl) (by decide)) (by omega) (fun k hk _ => ⟨hk.2, by have := hk.1; omega⟩)
      have hb67 := hb6.next hb7
      obtain ⟨bl2, ls, hol⟩ : ∃ bl2 ls, objR y [idN, mN] = (bl2, ls) := ⟨_, _, rfl⟩
      have hll : ls.length = 2 := by have := congrArg (fun p => p.2.length) hol; simpa [objR] using this.symm
      have hlw := objR_wt y [idN, mN]
      have hK := robject_any y _ _ _ [idN, mN] rb _ (w6.alloc (.cells ([Value.string ⟨#[105, 100]⟩, .string ⟨#[109]⟩]).toArray 9)) (RJ.mono (fun k hk _ => ⟨by have := hk.2; omega, by have := hk.1; omega⟩) _ _ (RJ.below hRy hb67)) hwy (show RdP _ _ 1 _ 2 (strs [idN, mN]) from hN7) (by show 2 ≤ 1000; decide) (HRB.out.below hb67)
      rw [hol] at hlw hK
      obtain ⟨y0, y1, rfl⟩ := len2 hll
      have hw1 : wtJ y1 ≤ 1048576 := Nat.le_trans (hlw y1 (by simp)) hwy
      have hit : itemR x1.text y = (bl2 || !decide (y0.kind = 2) || (mutR y1).1, ⟨x1.text, y0.int, (mutR y1).2⟩) := by
        unfold itemR; rw [hol]; rfl
      have Hit := Lib.hid hit
      have K := Lib.hid hK
      clear hK hN7 hol hll hlw hit hb7 hk6
      go_wp2_with fail
      (with_reducible refine K.out.mono ?_); rintro e w8 ⟨A8, c8, ys8, rfl, hRd8, hRs8, hB8, hT8⟩
      obtain ⟨g2, o2, rfl, hg2, hcs2⟩ := cells_of hRd8 (by rfl) hRs8 (by decide)
      have hg2' : (w6.alloc (.cells ([Value.string ⟨#[105, 100]⟩, .string ⟨#[109]⟩]).toArray 9)).heap.size ≤ g2 := hg2
      have hz8 := hT8.size
      rw [hz7] at hg2' hz8
      obtain ⟨B0, n0, e0, C0, p0, f0, -, c00, c01, c02, c03, c04⟩ := hcs2 0 y0 rfl
      obtain ⟨B3, n3, e3, C3, p3, f3, hY, c10, c11, c12, c13, c14⟩ := hcs2 1 y1 rfl
      simp only [Nat.zero_mul, Nat.add_zero, Nat.one_mul, Nat.add_assoc, Nat.reduceMul, Nat.reduceAdd] at c00 c01 c02 c03 c04 c10 c11 c12 c13 c14
      have hlr : ∀ k, (Value.slice AL m cL).ownBlock = some k → base ≤ k ∧ k < wr.heap.size := fun k hk => HO.out.lt k hk
      have Hlr := Lib.hid hlr
      have hg2r : ¬ g2 = rb := by omega
      have hg2c : ¬ g2 = vc := by omega
      have hY' := RJ.mono (Q := fun k => w6.heap.size ≤ k) (fun k hk _ => by have hk' : (w6.alloc (.cells ([Value.string ⟨#[105, 100]⟩, .string ⟨#[109]⟩]).toArray 9)).heap.size ≤ k := hk; show w6.heap.size ≤ k; omega) _ _ hY
      have hn8 := (HN.out.below hb67).touch hT8 (by omega)
      go_upto_region 10 with fail
      have hd := (Below.refl w8.heap.size w8).drew
      have q00 := Below.keeps hd c00
      have q01 := Below.keeps hd c01
      have q02 := Below.keeps hd c02
      have q03 := Below.keeps hd c03
      have q04 := Below.keeps hd c04
      have q10 := Below.keeps hd c10
      have q11 := Below.keeps hd c11
      have q12 := Below.keeps hd c12
      have q13 := Below.keeps hd c13
      have q14 := Below.keeps hd c14
      have y1c : w8.drew.cell? ⟨vc, 1, none⟩ = some (.string (ofL x1.text)) := Below.keeps hd (hn8.c 1 rfl)
      have y6c : w8.drew.cell? ⟨vc, 6, none⟩ = some (.slice AL m cL) := Below.keeps hd (hn8.c 6 rfl)
      have HRB := Lib.hid (hB8.below hd)
      have HTC := Lib.hid (Touch.of_below (F := fun k => k = rb) hd)
      have HY := Lib.hid (hY'.below hd)
      have HT8 := Lib.hid ((Touch.of_below (F := fun k => k = rb) hb67).trans hT8)
      have hmx : m ≤ 1048576 := by omega
      clear c00 c01 c02 c03 c04 c10 c11 c12 c13 c14 hcs2 hRd8 hRs8 hB8 hT8 hn8 hY hY' hRy hb6 hb67 K f0' f1' f2' f3' f4' j0 j1 j2 j3 j4 hd hlr
      refine wp_region_noPanic ?_
      refine wp_region_held_drew (S := fun w' => w'.cell? ⟨vc, 1, none⟩ = some (.string (ofL x1.text)) ∧ w'.cell? ⟨g2, o2, none⟩ = some (.int .i64 y0.kind) ∧ w'.cell? ⟨g2, o2 + 1, none⟩ = some (.int .i64 y0.int) ∧ w'.cell? ⟨g2, o2 + 2, none⟩ = some (.string (ofL y0.text)) ∧ w'.cell? ⟨g2, o2 + 3, none⟩ = some (.slice B0 n0 e0) ∧ w'.cell? ⟨g2, o2 + 4, none⟩ = some (.slice C0 p0 f0) ∧ w'.cell? ⟨g2, o2 + 5, none⟩ = some (.int .i64 y1.kind) ∧ w'.cell? ⟨g2, o2 + 6, none⟩ = some (.int .i64 y1.int) ∧ w'.cell? ⟨g2, o2 + 7, none⟩ = some (.string (ofL y1.text)) ∧ w'.cell? ⟨g2, o2 + 8, none⟩ = some (.slice B3 n3 e3) ∧ w'.cell? ⟨g2, o2 + 9, none⟩ = some (.slice C3 p3 f3)) (by kernel_rfl) (by (try dsimp only); (first | (with_reducible exact ⟨y1z, z00, z01, z02, z03, z04, z10, z11, z12, z13, z14⟩) | (with_reducible exact ⟨y1b, b00, b01, b02, b03, b04, b10, b11, b12, b13, b14⟩) | (with_reducible exact ⟨y1a, a00, a01, a02, a03, a04, a10, a11, a12, a13, a14⟩) | (with_reducible exact ⟨y1c, q00, q01, q02, q03, q04, q10, q11, q12, q13, q14⟩))) (fun hHeld => ?_)
      ((refine wpAnyH_take (i := 0) (oi := { dst := some 45, op := Op.fieldAddr _ (Operand.tmp 7) 6, type := _, pos := _, after := _, guard := none }) (v := ?_) rfl (by kernel_rfl) (by kernel_rfl) (by kernel_rfl) (fun _ _ _ h => h) (Or.inl ⟨by kernel_rfl, ?_⟩) hHeld ?_); (rotate_left 1); (next => (intro w hSw; (try dsimp only at hSw); go_simp; try with_reducible rfl)); (try simp only [Act.put, List.setIfInBounds_toArray, List.set_cons_zero, List.set_cons_succ]))
      ((refine wpAnyH_take (i := 2) (oi := { dst := some 47, op := Op.fieldAddr _ (Operand.tmp 7) 1, type := _, pos := _, after := _, guard := none }) (v := ?_) rfl (by kernel_rfl) (by kernel_rfl) (by kernel_rfl) (fun _ _ _ h => h) (Or.inl ⟨by kernel_rfl, ?_⟩) hHeld ?_); (rotate_left 1); (next => (intro w hSw; (try dsimp only at hSw); go_simp; try with_reducible rfl)); (try simp only [Act.put, List.setIfInBounds_toArray, List.set_cons_zero, List.set_cons_succ]))
      ((refine wpAnyH_take (i := 3) (oi := { dst := some 48, op := Op.load _ (Operand.tmp 47), type := _, pos := _, after := _, guard := none }) (v := ?_) rfl (by kernel_rfl) (by kernel_rfl) (by kernel_rfl) (fun _ _ _ h => h) (Or.inl ⟨by kernel_rfl, ?_⟩) hHeld ?_); (rotate_left 1); (next => (intro w hSw; (try dsimp only at hSw); go_simp; try with_reducible rfl)); (try simp only [Act.put, List.setIfInBounds_toArray, List.set_cons_zero, List.set_cons_succ]))
      ((refine wpAnyH_take (i := 4) (oi := { dst := some 49, op := Op.move (Operand.tmp 0), type := _, pos := _, after := _, guard := none }) (v := ?_) rfl (by kernel_rfl) (by kernel_rfl) (by kernel_rfl) (fun _ _ _ h => h) (Or.inl ⟨by kernel_rfl, ?_⟩) hHeld ?_); (rotate_left 1); (next => (intro w hSw; (try dsimp only at hSw); go_simp; try with_reducible rfl)); (try simp only [Act.put, List.setIfInBounds_toArray, List.set_cons_zero, List.set_cons_succ]))
      ((refine wpAnyH_take (i := 5) (oi := { dst := some 50, op := Op.move (Operand.tmp 11), type := _, pos := _, after := _, guard := none }) (v := ?_) rfl (by kernel_rfl) (by kernel_rfl) (by kernel_rfl) (fun _ _ _ h => h) (Or.inl ⟨by kernel_rfl, ?_⟩) hHeld ?_); (rotate_left 1); (next => (intro w hSw; (try dsimp only at hSw); go_simp; try with_reducible rfl)); (try simp only [Act.put, List.setIfInBounds_toArray, List.set_cons_zero, List.set_cons_succ]))
      ((refine wpAnyH_take (i := 6) (oi := { dst := some 51, op := Op.indexAddr _ (Operand.tmp 50) (Operand.const (Value.int IntKind.i64 0)), type := _, pos := _, after := _, guard := none }) (v := ?_) rfl (by kernel_rfl) (by kernel_rfl) (by kernel_rfl) (fun _ _ _ h => h) (Or.inl ⟨by kernel_rfl, ?_⟩) hHeld ?_); (rotate_left 1); (next => (intro w hSw; (try dsimp only at hSw); go_simp; try with_reducible rfl)); (try simp only [Act.put, List.setIfInBounds_toArray, List.set_cons_zero, List.set_cons_succ]))
      ((refine wpAnyH_take (i := 7) (oi := { dst := some 52, op := Op.load _ (Operand.tmp 51), type := _, pos := _, after := _, guard := none }) (v := ?_) rfl (by kernel_rfl) (by kernel_rfl) (by kernel_rfl) (fun _ _ _ h => h) (Or.inl ⟨by kernel_rfl, ?_⟩) hHeld ?_); (rotate_left 1); (next => (intro w hSw; (try dsimp only at hSw); go_simp; try with_reducible rfl)); (try simp only [Act.put, List.setIfInBounds_toArray, List.set_cons_zero, List.set_cons_succ]))
      ((refine wpAnyH_take (i := 9) (oi := { dst := some 54, op := Op.move (Operand.tmp 0), type := _, pos := _, after := _, guard := none }) (v := ?_) rfl (by kernel_rfl) (by kernel_rfl) (by kernel_rfl) (fun _ _ _ h => h) (Or.inl ⟨by kernel_rfl, ?_⟩) hHeld ?_); (rotate_left 1); (next => (intro w hSw; (try dsimp only at hSw); go_simp; try with_reducible rfl)); (try simp only [Act.put, List.setIfInBounds_toArray, List.set_cons_zero, List.set_cons_succ]))
      ((refine wpAnyH_take (i := 10) (oi := { dst := some 55, op := Op.move (Operand.tmp 11), type := _, pos := _, after := _, guard := none }) (v := ?_) rfl (by kernel_rfl) (by kernel_rfl) (by kernel_rfl) (fun _ _ _ h => h) (Or.inl ⟨by kernel_rfl, ?_⟩) hHeld ?_); (rotate_left 1); (next => (intro w hSw; (try dsimp only at hSw); go_simp; try with_reducible rfl)); (try simp only [Act.put, List.setIfInBounds_toArray, List.set_cons_zero, List.set_cons_succ]))
      ((refine wpAnyH_take (i := 11) (oi := { dst := some 56, op := Op.indexAddr _ (Operand.tmp 55) (Operand.const (Value.int IntKind.i64 1)), type := _, pos := _, after := _, guard := none }) (v := ?_) rfl (by kernel_rfl) (by kernel_rfl) (by kernel_rfl) (fun _ _ _ h => h) (Or.inl ⟨by kernel_rfl, ?_⟩) hHeld ?_); (rotate_left 1); (next => (intro w hSw; (try dsimp only at hSw); go_simp; try with_reducible rfl)); (try simp only [Act.put, List.setIfInBounds_toArray, List.set_cons_zero, List.set_cons_succ]))
      ((refine wpAnyH_take (i := 12) (oi := { dst := some 57, op := Op.load _ (Operand.tmp 56), type := _, pos := _, after := _, guard := none }) (v := ?_) rfl (by kernel_rfl) (by kernel_rfl) (by kernel_rfl) (fun _ _ _ h => h) (Or.inl ⟨by kernel_rfl, ?_⟩) hHeld ?_); (rotate_left 1); (next => (intro w hSw; (try dsimp only at hSw); go_simp; try with_reducible rfl)); (try simp only [Act.put, List.setIfInBounds_toArray, List.set_cons_zero, List.set_cons_succ]))
      refine wpAnyH_ready (rs := [1, 8]) (by kernel_rfl) (by simp) (AllReadyH.cons (o := { dst := some 46, op := Op.load _ (Operand.tmp 45), type := _, pos := _, after := _, guard := none }) rfl (fun K hK => ?_) (AllReadyH.cons (o := { dst := some 53, op := Op.call { callee := Callee.value (Operand.func 68), args := #[Operand.tmp 49, Operand.tmp 52], argTypes := _ }, type := _, pos := _, after := _, guard := none }) rfl (fun K hK => ?_) AllReadyH.nil))
      · go_simp
        clear hHeld
        refine hK.out _ _ ?_ (fun hHeld => ?_)
        (next => ((try dsimp only); (first | (with_reducible exact ⟨y1z, z00, z01, z02, z03, z04, z10, z11, z12, z13, z14⟩) | (with_reducible exact ⟨y1b, b00, b01, b02, b03, b04, b10, b11, b12, b13, b14⟩) | (with_reducible exact ⟨y1a, a00, a01, a02, a03, a04, a10, a11, a12, a13, a14⟩) | (with_reducible exact ⟨y1c, q00, q01, q02, q03, q04, q10, q11, q12, q13, q14⟩))))
        clear hK K
        (try simp only [Act.put, List.setIfInBounds_toArray, List.set_cons_zero, List.set_cons_succ])
        refine wpAnyH_ready (rs := [8]) (by kernel_rfl) (by simp) (AllReadyH.cons (o := { dst := some 53, op := Op.call { callee := Callee.value (Operand.func 68), args := #[Operand.tmp 49, Operand.tmp 52], argTypes := _ }, type := _, pos := _, after := _, guard := none }) rfl (fun K hK => ?_) AllReadyH.nil)
        go_simp
        (with_reducible refine (rnum_any _ _ _ _ _ _ _ _ _ rb _ _ HRB.out).mono ?_); rintro e w9 ⟨rfl, hrb9, ht9⟩; have htk := touch_keeps (P := fun k => ¬ k = rb) ht9 (fun k hk e => hk e); have q00 := htk _ _ _ hg2r q00; have q01 := htk _ _ _ hg2r q01; have q02 := htk _ _ _ hg2r q02; have q03 := htk _ _ _ hg2r q03; have q04 := htk _ _ _ hg2r q04; have q10 := htk _ _ _ hg2r q10; have q11 := htk _ _ _ hg2r q11; have q12 := htk _ _ _ hg2r q12; have q13 := htk _ _ _ hg2r q13; have q14 := htk _ _ _ hg2r q14; have y1c := htk _ _ _ (by omega) y1c; have y6c := htk _ _ _ (by omega) y6c; have HRB := Lib.hid hrb9; have HTC := Lib.hid (HTC.out.trans ht9); have HY := Lib.hid (RJ.keep (touch_keeps (P := fun k => w6.heap.size ≤ k) ht9 (fun k hk e => by have e' : k = rb := e; omega)) _ _ HY.out)
        (try go_wp2_with fail)
        clear hHeld
        refine hK.out _ _ ?_ (fun hHeld => ?_)
        (next => ((try dsimp only); (first | (with_reducible exact ⟨y1z, z00, z01, z02, z03, z04, z10, z11, z12, z13, z14⟩) | (with_reducible exact ⟨y1b, b00, b01, b02, b03, b04, b10, b11, b12, b13, b14⟩) | (with_reducible exact ⟨y1a, a00, a01, a02, a03, a04, a10, a11, a12, a13, a14⟩) | (with_reducible exact ⟨y1c, q00, q01, q02, q03, q04, q10, q11, q12, q13, q14⟩))))
        clear hK K
        (try simp only [Act.put, List.setIfInBounds_toArray, List.set_cons_zero, List.set_cons_succ])
        refine wpAnyH_ready (rs := [13]) (by kernel_rfl) (by simp) (AllReadyH.cons (o := { dst := some 58, op := Op.call { callee := Callee.value (Operand.func 69), args := #[Operand.tmp 54, Operand.tmp 57], argTypes := _ }, type := _, pos := _, after := _, guard := none }) rfl (fun K hK => ?_) AllReadyH.nil)
        go_simp
        have hY9 := RJ.mono (Q := fun k => k < w9.heap.size ∧ ¬ k = rb) (fun k hk hl => ⟨hl, by have hk' : w6.heap.size ≤ k := hk; omega⟩) _ _ HY.out; (with_reducible refine (rmutation_any y1 _ _ rb _ _ hY9 hw1 HRB.out).mono ?_); rintro e w9 ⟨rfl, hrb9, ht9⟩; have htk := touch_keeps (P := fun k => ¬ k = rb) ht9 (fun k hk e => hk e); have q00 := htk _ _ _ hg2r q00; have q01 := htk _ _ _ hg2r q01; have q02 := htk _ _ _ hg2r q02; have q03 := htk _ _ _ hg2r q03; have q04 := htk _ _ _ hg2r q04; have q10 := htk _ _ _ hg2r q10; have q11 := htk _ _ _ hg2r q11; have q12 := htk _ _ _ hg2r q12; have q13 := htk _ _ _ hg2r q13; have q14 := htk _ _ _ hg2r q14; have y1c := htk _ _ _ (by omega) y1c; have y6c := htk _ _ _ (by omega) y6c; have HRB := Lib.hid hrb9; have HTC := Lib.hid (HTC.out.trans ht9); have HY := Lib.hid (RJ.keep (touch_keeps (P := fun k => w6.heap.size ≤ k) ht9 (fun k hk e => by have e' : k = rb := e; omega)) _ _ HY.out); have y1a := keeps_alloc y1c (.cells ([Value.string (ofL x1.text), .int .i64 y0.int, .int .i64 (mutR y1).2.kind, .string (ofL (mutR y1).2.issue), .string (ofL (mutR y1).2.name), .string (ofL (mutR y1).2.text)]).toArray 31); have y6a := keeps_alloc y6c (.cells ([Value.string (ofL x1.text), .int .i64 y0.int, .int .i64 (mutR y1).2.kind, .string (ofL (mutR y1).2.issue), .string (ofL (mutR y1).2.name), .string (ofL (mutR y1).2.text)]).toArray 31); have a00 := keeps_alloc q00 (.cells ([Value.string (ofL x1.text), .int .i64 y0.int, .int .i64 (mutR y1).2.kind, .string (ofL (mutR y1).2.issue), .string (ofL (mutR y1).2.name), .string (ofL (mutR y1).2.text)]).toArray 31); have a01 := keeps_alloc q01 (.cells ([Value.string (ofL x1.text), .int .i64 y0.int, .int .i64 (mutR y1).2.kind, .string (ofL (mutR y1).2.issue), .string (ofL (mutR y1).2.name), .string (ofL (mutR y1).2.text)]).toArray 31); have a02 := keeps_alloc q02 (.cells ([Value.string (ofL x1.text), .int .i64 y0.int, .int .i64 (mutR y1).2.kind, .string (ofL (mutR y1).2.issue), .string (ofL (mutR y1).2.name), .string (ofL (mutR y1).2.text)]).toArray 31); have a03 := keeps_alloc q03 (.cells ([Value.string (ofL x1.text), .int .i64 y0.int, .int .i64 (mutR y1).2.kind, .string (ofL (mutR y1).2.issue), .string (ofL (mutR y1).2.name), .string (ofL (mutR y1).2.text)]).toArray 31); have a04 := keeps_alloc q04 (.cells ([Value.string (ofL x1.text), .int .i64 y0.int, .int .i64 (mutR y1).2.kind, .string (ofL (mutR y1).2.issue), .string (ofL (mutR y1).2.name), .string (ofL (mutR y1).2.text)]).toArray 31); have a10 := keeps_alloc q10 (.cells ([Value.string (ofL x1.text), .int .i64 y0.int, .int .i64 (mutR y1).2.kind, .string (ofL (mutR y1).2.issue), .string (ofL (mutR y1).2.name), .string (ofL (mutR y1).2.text)]).toArray 31); have a11 := keeps_alloc q11 (.cells ([Value.string (ofL x1.text), .int .i64 y0.int, .int .i64 (mutR y1).2.kind, .string (ofL (mutR y1).2.issue), .string (ofL (mutR y1).2.name), .string (ofL (mutR y1).2.text)]).toArray 31); have a12 := keeps_alloc q12 (.cells ([Value.string (ofL x1.text), .int .i64 y0.int, .int .i64 (mutR y1).2.kind, .string (ofL (mutR y1).2.issue), .string (ofL (mutR y1).2.name), .string (ofL (mutR y1).2.text)]).toArray 31); have a13 := keeps_alloc q13 (.cells ([Value.string (ofL x1.text), .int .i64 y0.int, .int .i64 (mutR y1).2.kind, .string (ofL (mutR y1).2.issue), .string (ofL (mutR y1).2.name), .string (ofL (mutR y1).2.text)]).toArray 31); have a14 := keeps_alloc q14 (.cells ([Value.string (ofL x1.text), .int .i64 y0.int, .int .i64 (mutR y1).2.kind, .string (ofL (mutR y1).2.issue), .string (ofL (mutR y1).2.name), .string (ofL (mutR y1).2.text)]).toArray 31); have hO9 := own_touch HO.out (HT8.out.trans HTC.out) (fun k hk e => by have := (HO.out.lt k hk).1; have e' : k = rb := e; omega); have hz9 := HTC.out.size; have hn9 := HN.out.touch (HT8.out.trans HTC.out) (by omega)
        (try go_wp2_with fail)
        clear hHeld
        refine hK.out _ _ ?_ (fun hHeld => ?_)
        (next => ((try dsimp only); (first | (with_reducible exact ⟨y1z, z00, z01, z02, z03, z04, z10, z11, z12, z13, z14⟩) | (with_reducible exact ⟨y1b, b00, b01, b02, b03, b04, b10, b11, b12, b13, b14⟩) | (with_reducible exact ⟨y1a, a00, a01, a02, a03, a04, a10, a11, a12, a13, a14⟩) | (with_reducible exact ⟨y1c, q00, q01, q02, q03, q04, q10, q11, q12, q13, q14⟩))))
        clear hK K
        (try simp only [Act.put, List.setIfInBounds_toArray, List.set_cons_zero, List.set_cons_succ])
        ((refine wpAnyH_take (i := 14) (oi := { dst := some 59, op := Op.build _ #[(0, Operand.tmp 48), (1, Operand.tmp 53), (2, Operand.tmp 58)], type := _, pos := _, after := _, guard := none }) (v := ?_) rfl (by kernel_rfl) (by kernel_rfl) (by kernel_rfl) (fun _ _ _ h => h) (Or.inl ⟨by kernel_rfl, ?_⟩) hHeld ?_); (rotate_left 1); (next => (intro w hSw; (try dsimp only at hSw); go_simp; try with_reducible rfl)); (try simp only [Act.put, List.setIfInBounds_toArray, List.set_cons_zero, List.set_cons_succ]))
        refine wpAnyH_ready (rs := [15]) (by kernel_rfl) (by simp) (AllReadyH.cons (o := { dst := some 60, op := Op.buildSlice _ 1 #[(0, Operand.tmp 59)], type := _, pos := _, after := _, guard := none }) rfl (fun K hK => ?_) AllReadyH.nil)
        go_simp
        clear hHeld
        refine hK.out _ _ ?_ (fun hHeld => ?_)
        (next => ((try dsimp only); (first | (with_reducible exact ⟨y1z, z00, z01, z02, z03, z04, z10, z11, z12, z13, z14⟩) | (with_reducible exact ⟨y1b, b00, b01, b02, b03, b04, b10, b11, b12, b13, b14⟩) | (with_reducible exact ⟨y1a, a00, a01, a02, a03, a04, a10, a11, a12, a13, a14⟩) | (with_reducible exact ⟨y1c, q00, q01, q02, q03, q04, q10, q11, q12, q13, q14⟩))))
        clear hK K
        (try simp only [Act.put, List.setIfInBounds_toArray, List.set_cons_zero, List.set_cons_succ])
        refine wpAnyH_ready (rs := [16]) (by kernel_rfl) (by simp) (AllReadyH.cons (o := { dst := some 61, op := Op.call { callee := Callee.builtin Builtin.append, args := #[Operand.tmp 46, Operand.tmp 60], argTypes := _ }, type := _, pos := _, after := _, guard := none }) rfl (fun K hK => ?_) AllReadyH.nil)
        (refine step_pushAt (by rfl) _ _ _ (by rfl) base rowLo (.slice AL m cL) m _ (by rfl) hO9 [Value.string (ofL x1.text), .int .i64 y0.int, .int .i64 (mutR y1).2.kind, .string (ofL (mutR y1).2.issue), .string (ofL (mutR y1).2.name), .string (ofL (mutR y1).2.text)] _ (by rfl) rfl rfl (one_log ⟨x1.text, y0.int, (mutR y1).2⟩) (by omega) (by omega) ?_; intro v10 w10 hO10 hT10 hL10; obtain ⟨A10, c10, rfl⟩ := (rd_of_own hO10).shape; have htk := touch_keeps (P := fun k => ¬ (Value.slice AL m cL).ownBlock = some k) hT10 (fun k hk e => hk e); have hgl : ¬ (Value.slice AL m cL).ownBlock = some g2 := fun e => (by have := (Hlr.out _ e).2; omega); have b00 := htk _ _ _ hgl q00; have b01 := htk _ _ _ hgl q01; have b02 := htk _ _ _ hgl q02; have b03 := htk _ _ _ hgl q03; have b04 := htk _ _ _ hgl q04; have b10 := htk _ _ _ hgl q10; have b11 := htk _ _ _ hgl q11; have b12 := htk _ _ _ hgl q12; have b13 := htk _ _ _ hgl q13; have b14 := htk _ _ _ hgl q14; have hn10 := hn9.touch hT10 (fun e => by have := (Hlr.out _ e).1; omega); have y1b : w10.cell? ⟨vc, 1, none⟩ = some (.string (ofL x1.text)) := hn10.c 1 rfl; have k6 : w10.cell? ⟨vc, 6, none⟩ = some (.slice AL m cL) := hn10.c 6 rfl; have v6 := hn10.f 6; have hts := (Touch.refl (fun k => k = vc) w10).setCell (p := ⟨vc, 6, none⟩) rfl (.slice A10 (m + 1) c10); have hns := hn10.set 6 (.slice A10 (m + 1) c10); have htk := touch_keeps (P := fun k => ¬ k = vc) hts (fun k hk e => hk e); have y1z : (w10.setCell ⟨vc, 6, none⟩ (.slice A10 (m + 1) c10)).cell? ⟨vc, 1, none⟩ = some (.string (ofL x1.text)) := hns.c 1 rfl; have z00 := htk _ _ _ hg2c b00; have z01 := htk _ _ _ hg2c b01; have z02 := htk _ _ _ hg2c b02; have z03 := htk _ _ _ hg2c b03; have z04 := htk _ _ _ hg2c b04; have z10 := htk _ _ _ hg2c b10; have z11 := htk _ _ _ hg2c b11; have z12 := htk _ _ _ hg2c b12; have z13 := htk _ _ _ hg2c b13; have z14 := htk _ _ _ hg2c b14)
        clear hHeld
        refine hK.out _ _ ?_ (fun hHeld => ?_)
        (next => ((try dsimp only); (first | (with_reducible exact ⟨y1z, z00, z01, z02, z03, z04, z10, z11, z12, z13, z14⟩) | (with_reducible exact ⟨y1b, b00, b01, b02, b03, b04, b10, b11, b12, b13, b14⟩) | (with_reducible exact ⟨y1a, a00, a01, a02, a03, a04, a10, a11, a12, a13, a14⟩) | (with_reducible exact ⟨y1c, q00, q01, q02, q03, q04, q10, q11, q12, q13, q14⟩))))
        clear hK K
        (try simp only [Act.put, List.setIfInBounds_toArray, List.set_cons_zero, List.set_cons_succ])
        ((refine wpAnyH_take (i := 17) (oi := { dst := some 62, op := Op.fieldAddr _ (Operand.tmp 7) 6, type := _, pos := _, after := _, guard := none }) (v := ?_) rfl (by kernel_rfl) (by kernel_rfl) (by kernel_rfl) (fun _ _ _ h => h) (Or.inl ⟨by kernel_rfl, ?_⟩) hHeld ?_); (rotate_left 1); (next => (intro w hSw; (try dsimp only at hSw); go_simp; try with_reducible rfl)); (try simp only [Act.put, List.setIfInBounds_toArray, List.set_cons_zero, List.set_cons_succ]))
        refine wpAnyH_ready (rs := [18]) (by kernel_rfl) (by simp) (AllReadyH.cons (o := { dst := none, op := Op.store _ (Operand.tmp 62) (Operand.tmp 61), type := _, pos := _, after := _, guard := none }) rfl (fun K hK => ?_) AllReadyH.nil)
        go_simp
        clear hHeld
        refine hK.out _ _ ?_ (fun hHeld => ?_)
        (next => ((try dsimp only); (first | (with_reducible exact ⟨y1z, z00, z01, z02, z03, z04, z10, z11, z12, z13, z14⟩) | (with_reducible exact ⟨y1b, b00, b01, b02, b03, b04, b10, b11, b12, b13, b14⟩) | (with_reducible exact ⟨y1a, a00, a01, a02, a03, a04, a10, a11, a12, a13, a14⟩) | (with_reducible exact ⟨y1c, q00, q01, q02, q03, q04, q10, q11, q12, q13, q14⟩))))
        clear hK K
        (try simp only [Act.put, List.setIfInBounds_toArray, List.set_cons_zero, List.set_cons_succ])
        refine wpAnyH_done (by kernel_rfl) ?_ _
        refine NoPanic.normal ?_
        have hall : Touch (fun k => k = rb ∨ (Value.slice AL m cL).ownBlock = some k ∨ k = vc) wr (w10.setCell ⟨vc, 6, none⟩ (.slice A10 (m + 1) c10)) :=
          (((HT8.out.trans HTC.out).mono fun k _ e => .inl e).trans (hT10.mono fun k _ e => .inr (.inl e))).trans (hts.mono fun k _ e => .inr (.inr e))
        have hno : ∀ k, g0 ≤ k ∧ k < base → ¬ (k = rb ∨ (Value.slice AL m cL).ownBlock = some k ∨ k = vc) := fun k hk e => by
          rcases e with e | e | e
          · omega
          · have := (Hlr.out _ e).1; omega
          · omega
        have hnl : ∀ q, q < base → ¬ (Value.slice AL m cL).ownBlock = some q := fun q hq e => by have := (Hlr.out _ e).1; omega
        have HZz := Lib.hid (Nat.le_trans hzr hall.size)
        have HRz := Lib.hid ((HRB.out.touch hT10 (hnl rb (by omega))).touch hts (by omega))
        have HOz := Lib.hid (own_touch hO10 hts (row_ne hO10 (by omega)))
        have HMz := Lib.hid (HM.out.touch hall (fun e => by
          rcases e with e | e | e
          · omega
          · exact hnl vb (by omega) e
          · omega))
        have HItz := Lib.hid (HIt.out.keep (touch_keeps hall hno))
        have HJtz := Lib.hid (RJs.keep (touch_keeps hall hno) HJt.out)
        have HTz := Lib.hid (HTw.out.under hall (fun k hk e => by
          rcases e with e | e | e
          · exact e
          · exact absurd e (hnl k (by omega))
          · omega))
        have HNz : Hid (CB (w10.setCell ⟨vc, 6, none⟩ (.slice A10 (m + 1) c10)) vc #[.int .i64 1, .string (ofL x1.text), .int .i64 0, .int .i64 0, .int .i64 0, .int .i64 0, .slice A10 (m + 1) c10] 24) := Lib.hid hns
        clear hall hno hnl hns hts htk y1z y1b k6 v6 hn10 hT10 hO10 hL10 hgl hn9 hO9 hrb9 ht9 hz9
        generalize w10.setCell ⟨vc, 6, none⟩ (.slice A10 (m + 1) c10) = wz at *
        go_wp2_with fail
        refine ⟨⟨m + 1, .slice A10 (m + 1) c10, by omega, by go_num, Lib.hid ?_, HNz, Lib.hid ?_, HMz, HItz, HJtz, HZz, HTz⟩, by simp [intOf]; omega⟩
        · have h1 := any_snoc (itemR x1.text) its Hy.out
          rw [Hit.out] at h1
          rw [h1]
          have h2 := HRz.out
          simp only [Bool.or_assoc] at h2 ⊢
          exact h2
        · have h1 := map_snoc (itemR x1.text) its Hy.out
          rw [h1, logs_snoc, Hit.out]
          exact HOz.out
      · go_simp
        (with_reducible refine (rnum_any _ _ _ _ _ _ _ _ _ rb _ _ HRB.out).mono ?_); rintro e w9 ⟨rfl, hrb9, ht9⟩; have htk := touch_keeps (P := fun k => ¬ k = rb) ht9 (fun k hk e => hk e); have q00 := htk _ _ _ hg2r q00; have q01 := htk _ _ _ hg2r q01; have q02 := htk _ _ _ hg2r q02; have q03 := htk _ _ _ hg2r q03; have q04 := htk _ _ _ hg2r q04; have q10 := htk _ _ _ hg2r q10; have q11 := htk _ _ _ hg2r q11; have q12 := htk _ _ _ hg2r q12; have q13 := htk _ _ _ hg2r q13; have q14 := htk _ _ _ hg2r q14; have y1c := htk _ _ _ (by omega) y1c; have y6c := htk _ _ _ (by omega) y6c; have HRB := Lib.hid hrb9; have HTC := Lib.hid (HTC.out.trans ht9); have HY := Lib.hid (RJ.keep (touch_keeps (P := fun k => w6.heap.size ≤ k) ht9 (fun k hk e => by have e' : k = rb := e; omega)) _ _ HY.out)
        (try go_wp2_with fail)
        clear hHeld
        refine hK.out _ _ ?_ (fun hHeld => ?_)
        (next => ((try dsimp only); (first | (with_reducible exact ⟨y1z, z00, z01, z02, z03, z04, z10, z11, z12, z13, z14⟩) | (with_reducible exact ⟨y1b, b00, b01, b02, b03, b04, b10, b11, b12, b13, b14⟩) | (with_reducible exact ⟨y1a, a00, a01, a02, a03, a04, a10, a11, a12, a13, a14⟩) | (with_reducible exact ⟨y1c, q00, q01, q02, q03, q04, q10, q11, q12, q13, q14⟩))))
        clear hK K
        (try simp only [Act.put, List.setIfInBounds_toArray, List.set_cons_zero, List.set_cons_succ])
        refine wpAnyH_ready (rs := [1, 13]) (by kernel_rfl) (by simp) (AllReadyH.cons (o := { dst := some 46, op := Op.load _ (Operand.tmp 45), type := _, pos := _, after := _, guard := none }) rfl (fun K hK => ?_) (AllReadyH.cons (o := { dst := some 58, op := Op.call { callee := Callee.value (Operand.func 69), args := #[Operand.tmp 54, Operand.tmp 57], argTypes := _ }, type := _, pos := _, after := _, guard := none }) rfl (fun K hK => ?_) AllReadyH.nil))
        · go_simp
          clear hHeld
          refine hK.out _ _ ?_ (fun hHeld => ?_)
          (next => ((try dsimp only); (first | (with_reducible exact ⟨y1z, z00, z01, z02, z03, z04, z10, z11, z12, z13, z14⟩) | (with_reducible exact ⟨y1b, b00, b01, b02, b03, b04, b10, b11, b12, b13, b14⟩) | (with_reducible exact ⟨y1a, a00, a01, a02, a03, a04, a10, a11, a12, a13, a14⟩) | (with_reducible exact ⟨y1c, q00, q01, q02, q03, q04, q10, q11, q12, q13, q14⟩))))
          clear hK K
          (try simp only [Act.put, List.setIfInBounds_toArray, List.set_cons_zero, List.set_cons_succ])
          refine wpAnyH_ready (rs := [13]) (by kernel_rfl) (by simp) (AllReadyH.cons (o := { dst := some 58, op := Op.call { callee := Callee.value (Operand.func 69), args := #[Operand.tmp 54, Operand.tmp 57], argTypes := _ }, type := _, pos := _, after := _, guard := none }) rfl (fun K hK => ?_) AllReadyH.nil)
          go_simp
          have hY9 := RJ.mono (Q := fun k => k < w9.heap.size ∧ ¬ k = rb) (fun k hk hl => ⟨hl, by have hk' : w6.heap.size ≤ k := hk; omega⟩) _ _ HY.out; (with_reducible refine (rmutation_any y1 _ _ rb _ _ hY9 hw1 HRB.out).mono ?_); rintro e w9 ⟨rfl, hrb9, ht9⟩; have htk := touch_keeps (P := fun k => ¬ k = rb) ht9 (fun k hk e => hk e); have q00 := htk _ _ _ hg2r q00; have q01 := htk _ _ _ hg2r q01; have q02 := htk _ _ _ hg2r q02; have q03 := htk _ _ _ hg2r q03; have q04 := htk _ _ _ hg2r q04; have q10 := htk _ _ _ hg2r q10; have q11 := htk _ _ _ hg2r q11; have q12 := htk _ _ _ hg2r q12; have q13 := htk _ _ _ hg2r q13; have q14 := htk _ _ _ hg2r q14; have y1c := htk _ _ _ (by omega) y1c; have y6c := htk _ _ _ (by omega) y6c; have HRB := Lib.hid hrb9; have HTC := Lib.hid (HTC.out.trans ht9); have HY := Lib.hid (RJ.keep (touch_keeps (P := fun k => w6.heap.size ≤ k) ht9 (fun k hk e => by have e' : k = rb := e; omega)) _ _ HY.out); have y1a := keeps_alloc y1c (.cells ([Value.string (ofL x1.text), .int .i64 y0.int, .int .i64 (mutR y1).2.kind, .string (ofL (mutR y1).2.issue), .string (ofL (mutR y1).2.name), .string (ofL (mutR y1).2.text)]).toArray 31); have y6a := keeps_alloc y6c (.cells ([Value.string (ofL x1.text), .int .i64 y0.int, .int .i64 (mutR y1).2.kind, .string (ofL (mutR y1).2.issue), .string (ofL (mutR y1).2.name), .string (ofL (mutR y1).2.text)]).toArray 31); have a00 := keeps_alloc q00 (.cells ([Value.string (ofL x1.text), .int .i64 y0.int, .int .i64 (mutR y1).2.kind, .string (ofL (mutR y1).2.issue), .string (ofL (mutR y1).2.name), .string (ofL (mutR y1).2.text)]).toArray 31); have a01 := keeps_alloc q01 (.cells ([Value.string (ofL x1.text), .int .i64 y0.int, .int .i64 (mutR y1).2.kind, .string (ofL (mutR y1).2.issue), .string (ofL (mutR y1).2.name), .string (ofL (mutR y1).2.text)]).toArray 31); have a02 := keeps_alloc q02 (.cells ([Value.string (ofL x1.text), .int .i64 y0.int, .int .i64 (mutR y1).2.kind, .string (ofL (mutR y1).2.issue), .string (ofL (mutR y1).2.name), .string (ofL (mutR y1).2.text)]).toArray 31); have a03 := keeps_alloc q03 (.cells ([Value.string (ofL x1.text), .int .i64 y0.int, .int .i64 (mutR y1).2.kind, .string (ofL (mutR y1).2.issue), .string (ofL (mutR y1).2.name), .string (ofL (mutR y1).2.text)]).toArray 31); have a04 := keeps_alloc q04 (.cells ([Value.string (ofL x1.text), .int .i64 y0.int, .int .i64 (mutR y1).2.kind, .string (ofL (mutR y1).2.issue), .string (ofL (mutR y1).2.name), .string (ofL (mutR y1).2.text)]).toArray 31); have a10 := keeps_alloc q10 (.cells ([Value.string (ofL x1.text), .int .i64 y0.int, .int .i64 (mutR y1).2.kind, .string (ofL (mutR y1).2.issue), .string (ofL (mutR y1).2.name), .string (ofL (mutR y1).2.text)]).toArray 31); have a11 := keeps_alloc q11 (.cells ([Value.string (ofL x1.text), .int .i64 y0.int, .int .i64 (mutR y1).2.kind, .string (ofL (mutR y1).2.issue), .string (ofL (mutR y1).2.name), .string (ofL (mutR y1).2.text)]).toArray 31); have a12 := keeps_alloc q12 (.cells ([Value.string (ofL x1.text), .int .i64 y0.int, .int .i64 (mutR y1).2.kind, .string (ofL (mutR y1).2.issue), .string (ofL (mutR y1).2.name), .string (ofL (mutR y1).2.text)]).toArray 31); have a13 := keeps_alloc q13 (.cells ([Value.string (ofL x1.text), .int .i64 y0.int, .int .i64 (mutR y1).2.kind, .string (ofL (mutR y1).2.issue), .string (ofL (mutR y1).2.name), .string (ofL (mutR y1).2.text)]).toArray 31); have a14 := keeps_alloc q14 (.cells ([Value.string (ofL x1.text), .int .i64 y0.int, .int .i64 (mutR y1).2.kind, .string (ofL (mutR y1).2.issue), .string (ofL (mutR y1).2.name), .string (ofL (mutR y1).2.text)]).toArray 31); have hO9 := own_touch HO.out (HT8.out.trans HTC.out) (fun k hk e => by have := (HO.out.lt k hk).1; have e' : k = rb := e; omega); have hz9 := HTC.out.size; have hn9 := HN.out.touch (HT8.out.trans HTC.out) (by omega)
          (try go_wp2_with fail)
          clear hHeld
          refine hK.out _ _ ?_ (fun hHeld => ?_)
          (next => ((try dsimp only); (first | (with_reducible exact ⟨y1z, z00, z01, z02, z03, z04, z10, z11, z12, z13, z14⟩) | (with_reducible exact ⟨y1b, b00, b01, b02, b03, b04, b10, b11, b12, b13, b14⟩) | (with_reducible exact ⟨y1a, a00, a01, a02, a03, a04, a10, a11, a12, a13, a14⟩) | (with_reducible exact ⟨y1c, q00, q01, q02, q03, q04, q10, q11, q12, q13, q14⟩))))
          clear hK K
          (try simp only [Act.put, List.setIfInBounds_toArray, List.set_cons_zero, List.set_cons_succ])
          ((refine wpAnyH_take (i := 14) (oi := { dst := some 59, op := Op.build _ #[(0, Operand.tmp 48), (1, Operand.tmp 53), (2, Operand.tmp 58)], type := _, pos := _, after := _, guard := none }) (v := ?_) rfl (by kernel_rfl) (by kernel_rfl) (by kernel_rfl) (fun _ _ _ h => h) (Or.inl ⟨by kernel_rfl, ?_⟩) hHeld ?_); (rotate_left 1); (next => (intro w hSw; (try dsimp only at hSw); go_simp; try with_reducible rfl)); (try simp only [Act.put, List.setIfInBounds_toArray, List.set_cons_zero, List.set_cons_succ]))
          refine wpAnyH_ready (rs := [15]) (by kernel_rfl) (by simp) (AllReadyH.cons (o := { dst := some 60, op := Op.buildSlice _ 1 #[(0, Operand.tmp 59)], type := _, pos := _, after := _, guard := none }) rfl (fun K hK => ?_) AllReadyH.nil)
          go_simp
          clear hHeld
          refine hK.out _ _ ?_ (fun hHeld => ?_)
          (next => ((try dsimp only); (first | (with_reducible exact ⟨y1z, z00, z01, z02, z03, z04, z10, z11, z12, z13, z14⟩) | (with_reducible exact ⟨y1b, b00, b01, b02, b03, b04, b10, b11, b12, b13, b14⟩) | (with_reducible exact ⟨y1a, a00, a01, a02, a03, a04, a10, a11, a12, a13, a14⟩) | (with_reducible exact ⟨y1c, q00, q01, q02, q03, q04, q10, q11, q12, q13, q14⟩))))
          clear hK K
          (try simp only [Act.put, List.setIfInBounds_toArray, List.set_cons_zero, List.set_cons_succ])
          refine wpAnyH_ready (rs := [16]) (by kernel_rfl) (by simp) (AllReadyH.cons (o := { dst := some 61, op := Op.call { callee := Callee.builtin Builtin.append, args := #[Operand.tmp 46, Operand.tmp 60], argTypes := _ }, type := _, pos := _, after := _, guard := none }) rfl (fun K hK => ?_) AllReadyH.nil)
          (refine step_pushAt (by rfl) _ _ _ (by rfl) base rowLo (.slice AL m cL) m _ (by rfl) hO9 [Value.string (ofL x1.text), .int .i64 y0.int, .int .i64 (mutR y1).2.kind, .string (ofL (mutR y1).2.issue), .string (ofL (mutR y1).2.name), .string (ofL (mutR y1).2.text)] _ (by rfl) rfl rfl (one_log ⟨x1.text, y0.int, (mutR y1).2⟩) (by omega) (by omega) ?_; intro v10 w10 hO10 hT10 hL10; obtain ⟨A10, c10, rfl⟩ := (rd_of_own hO10).shape; have htk := touch_keeps (P := fun k => ¬ (Value.slice AL m cL).ownBlock = some k) hT10 (fun k hk e => hk e); have hgl : ¬ (Value.slice AL m cL).ownBlock = some g2 := fun e => (by have := (Hlr.out _ e).2; omega); have b00 := htk _ _ _ hgl q00; have b01 := htk _ _ _ hgl q01; have b02 := htk _ _ _ hgl q02; have b03 := htk _ _ _ hgl q03; have b04 := htk _ _ _ hgl q04; have b10 := htk _ _ _ hgl q10; have b11 := htk _ _ _ hgl q11; have b12 := htk _ _ _ hgl q12; have b13 := htk _ _ _ hgl q13; have b14 := htk _ _ _ hgl q14; have hn10 := hn9.touch hT10 (fun e => by have := (Hlr.out _ e).1; omega); have y1b : w10.cell? ⟨vc, 1, none⟩ = some (.string (ofL x1.text)) := hn10.c 1 rfl; have k6 : w10.cell? ⟨vc, 6, none⟩ = some (.slice AL m cL) := hn10.c 6 rfl; have v6 := hn10.f 6; have hts := (Touch.refl (fun k => k = vc) w10).setCell (p := ⟨vc, 6, none⟩) rfl (.slice A10 (m + 1) c10); have hns := hn10.set 6 (.slice A10 (m + 1) c10); have htk := touch_keeps (P := fun k => ¬ k = vc) hts (fun k hk e => hk e); have y1z : (w10.setCell ⟨vc, 6, none⟩ (.slice A10 (m + 1) c10)).cell? ⟨vc, 1, none⟩ = some (.string (ofL x1.text)) := hns.c 1 rfl; have z00 := htk _ _ _ hg2c b00; have z01 := htk _ _ _ hg2c b01; have z02 := htk _ _ _ hg2c b02; have z03 := htk _ _ _ hg2c b03; have z04 := htk _ _ _ hg2c b04; have z10 := htk _ _ _ hg2c b10; have z11 := htk _ _ _ hg2c b11; have z12 := htk _ _ _ hg2c b12; have z13 := htk _ _ _ hg2c b13; have z14 := htk _ _ _ hg2c b14)
          clear hHeld
          refine hK.out _ _ ?_ (fun hHeld => ?_)
          (next => ((try dsimp only); (first | (with_reducible exact ⟨y1z, z00, z01, z02, z03, z04, z10, z11, z12, z13, z14⟩) | (with_reducible exact ⟨y1b, b00, b01, b02, b03, b04, b10, b11, b12, b13, b14⟩) | (with_reducible exact ⟨y1a, a00, a01, a02, a03, a04, a10, a11, a12, a13, a14⟩) | (with_reducible exact ⟨y1c, q00, q01, q02, q03, q04, q10, q11, q12, q13, q14⟩))))
          clear hK K
          (try simp only [Act.put, List.setIfInBounds_toArray, List.set_cons_zero, List.set_cons_succ])
          ((refine wpAnyH_take (i := 17) (oi := { dst := some 62, op := Op.fieldAddr _ (Operand.tmp 7) 6, type := _, pos := _, after := _, guard := none }) (v := ?_) rfl (by kernel_rfl) (by kernel_rfl) (by kernel_rfl) (fun _ _ _ h => h) (Or.inl ⟨by kernel_rfl, ?_⟩) hHeld ?_); (rotate_left 1); (next => (intro w hSw; (try dsimp only at hSw); go_simp; try with_reducible rfl)); (try simp only [Act.put, List.setIfInBounds_toArray, List.set_cons_zero, List.set_cons_succ]))
          refine wpAnyH_ready (rs := [18]) (by kernel_rfl) (by simp) (AllReadyH.cons (o := { dst := none, op := Op.store _ (Operand.tmp 62) (Operand.tmp 61), type := _, pos := _, after := _, guard := none }) rfl (fun K hK => ?_) AllReadyH.nil)
          go_simp
          clear hHeld
          refine hK.out _ _ ?_ (fun hHeld => ?_)
          (next => ((try dsimp only); (first | (with_reducible exact ⟨y1z, z00, z01, z02, z03, z04, z10, z11, z12, z13, z14⟩) | (with_reducible exact ⟨y1b, b00, b01, b02, b03, b04, b10, b11, b12, b13, b14⟩) | (with_reducible exact ⟨y1a, a00, a01, a02, a03, a04, a10, a11, a12, a13, a14⟩) | (with_reducible exact ⟨y1c, q00, q01, q02, q03, q04, q10, q11, q12, q13, q14⟩))))
          clear hK K
          (try simp only [Act.put, List.setIfInBounds_toArray, List.set_cons_zero, List.set_cons_succ])
          refine wpAnyH_done (by kernel_rfl) ?_ _
          refine NoPanic.normal ?_
          have hall : Touch (fun k => k = rb ∨ (Value.slice AL m cL).ownBlock = some k ∨ k = vc) wr (w10.setCell ⟨vc, 6, none⟩ (.slice A10 (m + 1) c10)) :=
            (((HT8.out.trans HTC.out).mono fun k _ e => .inl e).trans (hT10.mono fun k _ e => .inr (.inl e))).trans (hts.mono fun k _ e => .inr (.inr e))
          have hno : ∀ k, g0 ≤ k ∧ k < base → ¬ (k = rb ∨ (Value.slice AL m cL).ownBlock = some k ∨ k = vc) := fun k hk e => by
            rcases e with e | e | e
            · omega
            · have := (Hlr.out _ e).1; omega
            · omega
          have hnl : ∀ q, q < base → ¬ (Value.slice AL m cL).ownBlock = some q := fun q hq e => by have := (Hlr.out _ e).1; omega
          have HZz := Lib.hid (Nat.le_trans hzr hall.size)
          have HRz := Lib.hid ((HRB.out.touch hT10 (hnl rb (by omega))).touch hts (by omega))
          have HOz := Lib.hid (own_touch hO10 hts (row_ne hO10 (by omega)))
          have HMz := Lib.hid (HM.out.touch hall (fun e => by
            rcases e with e | e | e
            · omega
            · exact hnl vb (by omega) e
            · omega))
          have HItz := Lib.hid (HIt.out.keep (touch_keeps hall hno))
          have HJtz := Lib.hid (RJs.keep (touch_keeps hall hno) HJt.out)
          have HTz := Lib.hid (HTw.out.under hall (fun k hk e => by
            rcases e with e | e | e
            · exact e
            · exact absurd e (hnl k (by omega))
            · omega))
          have HNz : Hid (CB (w10.setCell ⟨vc, 6, none⟩ (.slice A10 (m + 1) c10)) vc #[.int .i64 1, .string (ofL x1.text), .int .i64 0, .int .i64 0, .int .i64 0, .int .i64 0, .slice A10 (m + 1) c10] 24) := Lib.hid hns
          clear hall hno hnl hns hts htk y1z y1b k6 v6 hn10 hT10 hO10 hL10 hgl hn9 hO9 hrb9 ht9 hz9
          generalize w10.setCell ⟨vc, 6, none⟩ (.slice A10 (m + 1) c10) = wz at *
          go_wp2_with fail
          refine ⟨⟨m + 1, .slice A10 (m + 1) c10, by omega, by go_num, Lib.hid ?_, HNz, Lib.hid ?_, HMz, HItz, HJtz, HZz, HTz⟩, by simp [intOf]; omega⟩
          · have h1 := any_snoc (itemR x1.text) its Hy.out
            rw [Hit.out] at h1
            rw [h1]
            have h2 := HRz.out
            simp only [Bool.or_assoc] at h2 ⊢
            exact h2
          · have h1 := map_snoc (itemR x1.text) its Hy.out
            rw [h1, logs_snoc, Hit.out]
            exact HOz.out
        · go_simp
          have hY9 := RJ.mono (Q := fun k => k < w9.heap.size ∧ ¬ k = rb) (fun k hk hl => ⟨hl, by have hk' : w6.heap.size ≤ k := hk; omega⟩) _ _ HY.out; (with_reducible refine (rmutation_any y1 _ _ rb _ _ hY9 hw1 HRB.out).mono ?_); rintro e w9 ⟨rfl, hrb9, ht9⟩; have htk := touch_keeps (P := fun k => ¬ k = rb) ht9 (fun k hk e => hk e); have q00 := htk _ _ _ hg2r q00; have q01 := htk _ _ _ hg2r q01; have q02 := htk _ _ _ hg2r q02; have q03 := htk _ _ _ hg2r q03; have q04 := htk _ _ _ hg2r q04; have q10 := htk _ _ _ hg2r q10; have q11 := htk _ _ _ hg2r q11; have q12 := htk _ _ _ hg2r q12; have q13 := htk _ _ _ hg2r q13; have q14 := htk _ _ _ hg2r q14; have y1c := htk _ _ _ (by omega) y1c; have y6c := htk _ _ _ (by omega) y6c; have HRB := Lib.hid hrb9; have HTC := Lib.hid (HTC.out.trans ht9); have HY := Lib.hid (RJ.keep (touch_keeps (P := fun k => w6.heap.size ≤ k) ht9 (fun k hk e => by have e' : k = rb := e; omega)) _ _ HY.out); have y1a := keeps_alloc y1c (.cells ([Value.string (ofL x1.text), .int .i64 y0.int, .int .i64 (mutR y1).2.kind, .string (ofL (mutR y1).2.issue), .string (ofL (mutR y1).2.name), .string (ofL (mutR y1).2.text)]).toArray 31); have y6a := keeps_alloc y6c (.cells ([Value.string (ofL x1.text), .int .i64 y0.int, .int .i64 (mutR y1).2.kind, .string (ofL (mutR y1).2.issue), .string (ofL (mutR y1).2.name), .string (ofL (mutR y1).2.text)]).toArray 31); have a00 := keeps_alloc q00 (.cells ([Value.string (ofL x1.text), .int .i64 y0.int, .int .i64 (mutR y1).2.kind, .string (ofL (mutR y1).2.issue), .string (ofL (mutR y1).2.name), .string (ofL (mutR y1).2.text)]).toArray 31); have a01 := keeps_alloc q01 (.cells ([Value.string (ofL x1.text), .int .i64 y0.int, .int .i64 (mutR y1).2.kind, .string (ofL (mutR y1).2.issue), .string (ofL (mutR y1).2.name), .string (ofL (mutR y1).2.text)]).toArray 31); have a02 := keeps_alloc q02 (.cells ([Value.string (ofL x1.text), .int .i64 y0.int, .int .i64 (mutR y1).2.kind, .string (ofL (mutR y1).2.issue), .string (ofL (mutR y1).2.name), .string (ofL (mutR y1).2.text)]).toArray 31); have a03 := keeps_alloc q03 (.cells ([Value.string (ofL x1.text), .int .i64 y0.int, .int .i64 (mutR y1).2.kind, .string (ofL (mutR y1).2.issue), .string (ofL (mutR y1).2.name), .string (ofL (mutR y1).2.text)]).toArray 31); have a04 := keeps_alloc q04 (.cells ([Value.string (ofL x1.text), .int .i64 y0.int, .int .i64 (mutR y1).2.kind, .string (ofL (mutR y1).2.issue), .string (ofL (mutR y1).2.name), .string (ofL (mutR y1).2.text)]).toArray 31); have a10 := keeps_alloc q10 (.cells ([Value.string (ofL x1.text), .int .i64 y0.int, .int .i64 (mutR y1).2.kind, .string (ofL (mutR y1).2.issue), .string (ofL (mutR y1).2.name), .string (ofL (mutR y1).2.text)]).toArray 31); have a11 := keeps_alloc q11 (.cells ([Value.string (ofL x1.text), .int .i64 y0.int, .int .i64 (mutR y1).2.kind, .string (ofL (mutR y1).2.issue), .string (ofL (mutR y1).2.name), .string (ofL (mutR y1).2.text)]).toArray 31); have a12 := keeps_alloc q12 (.cells ([Value.string (ofL x1.text), .int .i64 y0.int, .int .i64 (mutR y1).2.kind, .string (ofL (mutR y1).2.issue), .string (ofL (mutR y1).2.name), .string (ofL (mutR y1).2.text)]).toArray 31); have a13 := keeps_alloc q13 (.cells ([Value.string (ofL x1.text), .int .i64 y0.int, .int .i64 (mutR y1).2.kind, .string (ofL (mutR y1).2.issue), .string (ofL (mutR y1).2.name), .string (ofL (mutR y1).2.text)]).toArray 31); have a14 := keeps_alloc q14 (.cells ([Value.string (ofL x1.text), .int .i64 y0.int, .int .i64 (mutR y1).2.kind, .string (ofL (mutR y1).2.issue), .string (ofL (mutR y1).2.name), .string (ofL (mutR y1).2.text)]).toArray 31); have hO9 := own_touch HO.out (HT8.out.trans HTC.out) (fun k hk e => by have := (HO.out.lt k hk).1; have e' : k = rb := e; omega); have hz9 := HTC.out.size; have hn9 := HN.out.touch (HT8.out.trans HTC.out) (by omega)
          (try go_wp2_with fail)
          clear hHeld
          refine hK.out _ _ ?_ (fun hHeld => ?_)
          (next => ((try dsimp only); (first | (with_reducible exact ⟨y1z, z00, z01, z02, z03, z04, z10, z11, z12, z13, z14⟩) | (with_reducible exact ⟨y1b, b00, b01, b02, b03, b04, b10, b11, b12, b13, b14⟩) | (with_reducible exact ⟨y1a, a00, a01, a02, a03, a04, a10, a11, a12, a13, a14⟩) | (with_reducible exact ⟨y1c, q00, q01, q02, q03, q04, q10, q11, q12, q13, q14⟩))))
          clear hK K
          (try simp only [Act.put, List.setIfInBounds_toArray, List.set_cons_zero, List.set_cons_succ])
          ((refine wpAnyH_take (i := 14) (oi := { dst := some 59, op := Op.build _ #[(0, Operand.tmp 48), (1, Operand.tmp 53), (2, Operand.tmp 58)], type := _, pos := _, after := _, guard := none }) (v := ?_) rfl (by kernel_rfl) (by kernel_rfl) (by kernel_rfl) (fun _ _ _ h => h) (Or.inl ⟨by kernel_rfl, ?_⟩) hHeld ?_); (rotate_left 1); (next => (intro w hSw; (try dsimp only at hSw); go_simp; try with_reducible rfl)); (try simp only [Act.put, List.setIfInBounds_toArray, List.set_cons_zero, List.set_cons_succ]))
          refine wpAnyH_ready (rs := [1, 15]) (by kernel_rfl) (by simp) (AllReadyH.cons (o := { dst := some 46, op := Op.load _ (Operand.tmp 45), type := _, pos := _, after := _, guard := none }) rfl (fun K hK => ?_) (AllReadyH.cons (o := { dst := some 60, op := Op.buildSlice _ 1 #[(0, Operand.tmp 59)], type := _, pos := _, after := _, guard := none }) rfl (fun K hK => ?_) AllReadyH.nil))
          · go_simp
            clear hHeld
            refine hK.out _ _ ?_ (fun hHeld => ?_)
            (next => ((try dsimp only); (first | (with_reducible exact ⟨y1z, z00, z01, z02, z03, z04, z10, z11, z12, z13, z14⟩) | (with_reducible exact ⟨y1b, b00, b01, b02, b03, b04, b10, b11, b12, b13, b14⟩) | (with_reducible exact ⟨y1a, a00, a01, a02, a03, a04, a10, a11, a12, a13, a14⟩) | (with_reducible exact ⟨y1c, q00, q01, q02, q03, q04, q10, q11, q12, q13, q14⟩))))
            clear hK K
            (try simp only [Act.put, List.setIfInBounds_toArray, List.set_cons_zero, List.set_cons_succ])
            refine wpAnyH_ready (rs := [15]) (by kernel_rfl) (by simp) (AllReadyH.cons (o := { dst := some 60, op := Op.buildSlice _ 1 #[(0, Operand.tmp 59)], type := _, pos := _, after := _, guard := none }) rfl (fun K hK => ?_) AllReadyH.nil)
            go_simp
            clear hHeld
            refine hK.out _ _ ?_ (fun hHeld => ?_)
            (next => ((try dsimp only); (first | (with_reducible exact ⟨y1z, z00, z01, z02, z03, z04, z10, z11, z12, z13, z14⟩) | (with_reducible exact ⟨y1b, b00, b01, b02, b03, b04, b10, b11, b12, b13, b14⟩) | (with_reducible exact ⟨y1a, a00, a01, a02, a03, a04, a10, a11, a12, a13, a14⟩) | (with_reducible exact ⟨y1c, q00, q01, q02, q03, q04, q10, q11, q12, q13, q14⟩))))
            clear hK K
            (try simp only [Act.put, List.setIfInBounds_toArray, List.set_cons_zero, List.set_cons_succ])
            refine wpAnyH_ready (rs := [16]) (by kernel_rfl) (by simp) (AllReadyH.cons (o := { dst := some 61, op := Op.call { callee := Callee.builtin Builtin.append, args := #[Operand.tmp 46, Operand.tmp 60], argTypes := _ }, type := _, pos := _, after := _, guard := none }) rfl (fun K hK => ?_) AllReadyH.nil)
            (refine step_pushAt (by rfl) _ _ _ (by rfl) base rowLo (.slice AL m cL) m _ (by rfl) hO9 [Value.string (ofL x1.text), .int .i64 y0.int, .int .i64 (mutR y1).2.kind, .string (ofL (mutR y1).2.issue), .string (ofL (mutR y1).2.name), .string (ofL (mutR y1).2.text)] _ (by rfl) rfl rfl (one_log ⟨x1.text, y0.int, (mutR y1).2⟩) (by omega) (by omega) ?_; intro v10 w10 hO10 hT10 hL10; obtain ⟨A10, c10, rfl⟩ := (rd_of_own hO10).shape; have htk := touch_keeps (P := fun k => ¬ (Value.slice AL m cL).ownBlock = some k) hT10 (fun k hk e => hk e); have hgl : ¬ (Value.slice AL m cL).ownBlock = some g2 := fun e => (by have := (Hlr.out _ e).2; omega); have b00 := htk _ _ _ hgl q00; have b01 := htk _ _ _ hgl q01; have b02 := htk _ _ _ hgl q02; have b03 := htk _ _ _ hgl q03; have b04 := htk _ _ _ hgl q04; have b10 := htk _ _ _ hgl q10; have b11 := htk _ _ _ hgl q11; have b12 := htk _ _ _ hgl q12; have b13 := htk _ _ _ hgl q13; have b14 := htk _ _ _ hgl q14; have hn10 := hn9.touch hT10 (fun e => by have := (Hlr.out _ e).1; omega); have y1b : w10.cell? ⟨vc, 1, none⟩ = some (.string (ofL x1.text)) := hn10.c 1 rfl; have k6 : w10.cell? ⟨vc, 6, none⟩ = some (.slice AL m cL) := hn10.c 6 rfl; have v6 := hn10.f 6; have hts := (Touch.refl (fun k => k = vc) w10).setCell (p := ⟨vc, 6, none⟩) rfl (.slice A10 (m + 1) c10); have hns := hn10.set 6 (.slice A10 (m + 1) c10); have htk := touch_keeps (P := fun k => ¬ k = vc) hts (fun k hk e => hk e); have y1z : (w10.setCell ⟨vc, 6, none⟩ (.slice A10 (m + 1) c10)).cell? ⟨vc, 1, none⟩ = some (.string (ofL x1.text)) := hns.c 1 rfl; have z00 := htk _ _ _ hg2c b00; have z01 := htk _ _ _ hg2c b01; have z02 := htk _ _ _ hg2c b02; have z03 := htk _ _ _ hg2c b03; have z04 := htk _ _ _ hg2c b04; have z10 := htk _ _ _ hg2c b10; have z11 := htk _ _ _ hg2c b11; have z12 := htk _ _ _ hg2c b12; have z13 := htk _ _ _ hg2c b13; have z14 := htk _ _ _ hg2c b14)
            clear hHeld
            refine hK.out _ _ ?_ (fun hHeld => ?_)
            (next => ((try dsimp only); (first | (with_reducible exact ⟨y1z, z00, z01, z02, z03, z04, z10, z11, z12, z13, z14⟩) | (with_reducible exact ⟨y1b, b00, b01, b02, b03, b04, b10, b11, b12, b13, b14⟩) | (with_reducible exact ⟨y1a, a00, a01, a02, a03, a04, a10, a11, a12, a13, a14⟩) | (with_reducible exact ⟨y1c, q00, q01, q02, q03, q04, q10, q11, q12, q13, q14⟩))))
            clear hK K
            (try simp only [Act.put, List.setIfInBounds_toArray, List.set_cons_zero, List.set_cons_succ])
            ((refine wpAnyH_take (i := 17) (oi := { dst := some 62, op := Op.fieldAddr _ (Operand.tmp 7) 6, type := _, pos := _, after := _, guard := none }) (v := ?_) rfl (by kernel_rfl) (by kernel_rfl) (by kernel_rfl) (fun _ _ _ h => h) (Or.inl ⟨by kernel_rfl, ?_⟩) hHeld ?_); (rotate_left 1); (next => (intro w hSw; (try dsimp only at hSw); go_simp; try with_reducible rfl)); (try simp only [Act.put, List.setIfInBounds_toArray, List.set_cons_zero, List.set_cons_succ]))
            refine wpAnyH_ready (rs := [18]) (by kernel_rfl) (by simp) (AllReadyH.cons (o := { dst := none, op := Op.store _ (Operand.tmp 62) (Operand.tmp 61), type := _, pos := _, after := _, guard := none }) rfl (fun K hK => ?_) AllReadyH.nil)
            go_simp
            clear hHeld
            refine hK.out _ _ ?_ (fun hHeld => ?_)
            (next => ((try dsimp only); (first | (with_reducible exact ⟨y1z, z00, z01, z02, z03, z04, z10, z11, z12, z13, z14⟩) | (with_reducible exact ⟨y1b, b00, b01, b02, b03, b04, b10, b11, b12, b13, b14⟩) | (with_reducible exact ⟨y1a, a00, a01, a02, a03, a04, a10, a11, a12, a13, a14⟩) | (with_reducible exact ⟨y1c, q00, q01, q02, q03, q04, q10, q11, q12, q13, q14⟩))))
            clear hK K
            (try simp only [Act.put, List.setIfInBounds_toArray, List.set_cons_zero, List.set_cons_succ])
            refine wpAnyH_done (by kernel_rfl) ?_ _
            refine NoPanic.normal ?_
            have hall : Touch (fun k => k = rb ∨ (Value.slice AL m cL).ownBlock = some k ∨ k = vc) wr (w10.setCell ⟨vc, 6, none⟩ (.slice A10 (m + 1) c10)) :=
              (((HT8.out.trans HTC.out).mono fun k _ e => .inl e).trans (hT10.mono fun k _ e => .inr (.inl e))).trans (hts.mono fun k _ e => .inr (.inr e))
            have hno : ∀ k, g0 ≤ k ∧ k < base → ¬ (k = rb ∨ (Value.slice AL m cL).ownBlock = some k ∨ k = vc) := fun k hk e => by
              rcases e with e | e | e
              · omega
              · have := (Hlr.out _ e).1; omega
              · omega
            have hnl : ∀ q, q < base → ¬ (Value.slice AL m cL).ownBlock = some q := fun q hq e => by have := (Hlr.out _ e).1; omega
            have HZz := Lib.hid (Nat.le_trans hzr hall.size)
            have HRz := Lib.hid ((HRB.out.touch hT10 (hnl rb (by omega))).touch hts (by omega))
            have HOz := Lib.hid (own_touch hO10 hts (row_ne hO10 (by omega)))
            have HMz := Lib.hid (HM.out.touch hall (fun e => by
              rcases e with e | e | e
              · omega
              · exact hnl vb (by omega) e
              · omega))
            have HItz := Lib.hid (HIt.out.keep (touch_keeps hall hno))
            have HJtz := Lib.hid (RJs.keep (touch_keeps hall hno) HJt.out)
            have HTz := Lib.hid (HTw.out.under hall (fun k hk e => by
              rcases e with e | e | e
              · exact e
              · exact absurd e (hnl k (by omega))
              · omega))
            have HNz : Hid (CB (w10.setCell ⟨vc, 6, none⟩ (.slice A10 (m + 1) c10)) vc #[.int .i64 1, .string (ofL x1.text), .int .i64 0, .int .i64 0, .int .i64 0, .int .i64 0, .slice A10 (m + 1) c10] 24) := Lib.hid hns
            clear hall hno hnl hns hts htk y1z y1b k6 v6 hn10 hT10 hO10 hL10 hgl hn9 hO9 hrb9 ht9 hz9
            generalize w10.setCell ⟨vc, 6, none⟩ (.slice A10 (m + 1) c10) = wz at *
            go_wp2_with fail
            refine ⟨⟨m + 1, .slice A10 (m + 1) c10, by omega, by go_num, Lib.hid ?_, HNz, Lib.hid ?_, HMz, HItz, HJtz, HZz, HTz⟩, by simp [intOf]; omega⟩
            · have h1 := any_snoc (itemR x1.text) its Hy.out
              rw [Hit.out] at h1
              rw [h1]
              have h2 := HRz.out
              simp only [Bool.or_assoc] at h2 ⊢
              exact h2
            · have h1 := map_snoc (itemR x1.text) its Hy.out
              rw [h1, logs_snoc, Hit.out]
              exact HOz.out
          · go_simp
            clear hHeld
            refine hK.out _ _ ?_ (fun hHeld => ?_)
            (next => ((try dsimp only); (first | (with_reducible exact ⟨y1z, z00, z01, z02, z03, z04, z10, z11, z12, z13, z14⟩) | (with_reducible exact ⟨y1b, b00, b01, b02, b03, b04, b10, b11, b12, b13, b14⟩) | (with_reducible exact ⟨y1a, a00, a01, a02, a03, a04, a10, a11, a12, a13, a14⟩) | (with_reducible exact ⟨y1c, q00, q01, q02, q03, q04, q10, q11, q12, q13, q14⟩))))
            clear hK K
            (try simp only [Act.put, List.setIfInBounds_toArray, List.set_cons_zero, List.set_cons_succ])
            refine wpAnyH_ready (rs := [1]) (by kernel_rfl) (by simp) (AllReadyH.cons (o := { dst := some 46, op := Op.load _ (Operand.tmp 45), type := _, pos := _, after := _, guard := none }) rfl (fun K hK => ?_) AllReadyH.nil)
            go_simp
            clear hHeld
            refine hK.out _ _ ?_ (fun hHeld => ?_)
            (next => ((try dsimp only); (first | (with_reducible exact ⟨y1z, z00, z01, z02, z03, z04, z10, z11, z12, z13, z14⟩) | (with_reducible exact ⟨y1b, b00, b01, b02, b03, b04, b10, b11, b12, b13, b14⟩) | (with_reducible exact ⟨y1a, a00, a01, a02, a03, a04, a10, a11, a12, a13, a14⟩) | (with_reducible exact ⟨y1c, q00, q01, q02, q03, q04, q10, q11, q12, q13, q14⟩))))
            clear hK K
            (try simp only [Act.put, List.setIfInBounds_toArray, List.set_cons_zero, List.set_cons_succ])
            refine wpAnyH_ready (rs := [16]) (by kernel_rfl) (by simp) (AllReadyH.cons (o := { dst := some 61, op := Op.call { callee := Callee.builtin Builtin.append, args := #[Operand.tmp 46, Operand.tmp 60], argTypes := _ }, type := _, pos := _, after := _, guard := none }) rfl (fun K hK => ?_) AllReadyH.nil)
            (refine step_pushAt (by rfl) _ _ _ (by rfl) base rowLo (.slice AL m cL) m _ (by rfl) hO9 [Value.string (ofL x1.text), .int .i64 y0.int, .int .i64 (mutR y1).2.kind, .string (ofL (mutR y1).2.issue), .string (ofL (mutR y1).2.name), .string (ofL (mutR y1).2.text)] _ (by rfl) rfl rfl (one_log ⟨x1.text, y0.int, (mutR y1).2⟩) (by omega) (by omega) ?_; intro v10 w10 hO10 hT10 hL10; obtain ⟨A10, c10, rfl⟩ := (rd_of_own hO10).shape; have htk := touch_keeps (P := fun k => ¬ (Value.slice AL m cL).ownBlock = some k) hT10 (fun k hk e => hk e); have hgl : ¬ (Value.slice AL m cL).ownBlock = some g2 := fun e => (by have := (Hlr.out _ e).2; omega); have b00 := htk _ _ _ hgl q00; have b01 := htk _ _ _ hgl q01; have b02 := htk _ _ _ hgl q02; have b03 := htk _ _ _ hgl q03; have b04 := htk _ _ _ hgl q04; have b10 := htk _ _ _ hgl q10; have b11 := htk _ _ _ hgl q11; have b12 := htk _ _ _ hgl q12; have b13 := htk _ _ _ hgl q13; have b14 := htk _ _ _ hgl q14; have hn10 := hn9.touch hT10 (fun e => by have := (Hlr.out _ e).1; omega); have y1b : w10.cell? ⟨vc, 1, none⟩ = some (.string (ofL x1.text)) := hn10.c 1 rfl; have k6 : w10.cell? ⟨vc, 6, none⟩ = some (.slice AL m cL) := hn10.c 6 rfl; have v6 := hn10.f 6; have hts := (Touch.refl (fun k => k = vc) w10).setCell (p := ⟨vc, 6, none⟩) rfl (.slice A10 (m + 1) c10); have hns := hn10.set 6 (.slice A10 (m + 1) c10); have htk := touch_keeps (P := fun k => ¬ k = vc) hts (fun k hk e => hk e); have y1z : (w10.setCell ⟨vc, 6, none⟩ (.slice A10 (m + 1) c10)).cell? ⟨vc, 1, none⟩ = some (.string (ofL x1.text)) := hns.c 1 rfl; have z00 := htk _ _ _ hg2c b00; have z01 := htk _ _ _ hg2c b01; have z02 := htk _ _ _ hg2c b02; have z03 := htk _ _ _ hg2c b03; have z04 := htk _ _ _ hg2c b04; have z10 := htk _ _ _ hg2c b10; have z11 := htk _ _ _ hg2c b11; have z12 := htk _ _ _ hg2c b12; have z13 := htk _ _ _ hg2c b13; have z14 := htk _ _ _ hg2c b14)
            clear hHeld
            refine hK.out _ _ ?_ (fun hHeld => ?_)
            (next => ((try dsimp only); (first | (with_reducible exact ⟨y1z, z00, z01, z02, z03, z04, z10, z11, z12, z13, z14⟩) | (with_reducible exact ⟨y1b, b00, b01, b02, b03, b04, b10, b11, b12, b13, b14⟩) | (with_reducible exact ⟨y1a, a00, a01, a02, a03, a04, a10, a11, a12, a13, a14⟩) | (with_reducible exact ⟨y1c, q00, q01, q02, q03, q04, q10, q11, q12, q13, q14⟩))))
            clear hK K
            (try simp only [Act.put, List.setIfInBounds_toArray, List.set_cons_zero, List.set_cons_succ])
            ((refine wpAnyH_take (i := 17) (oi := { dst := some 62, op := Op.fieldAddr _ (Operand.tmp 7) 6, type := _, pos := _, after := _, guard := none }) (v := ?_) rfl (by kernel_rfl) (by kernel_rfl) (by kernel_rfl) (fun _ _ _ h => h) (Or.inl ⟨by kernel_rfl, ?_⟩) hHeld ?_); (rotate_left 1); (next => (intro w hSw; (try dsimp only at hSw); go_simp; try with_reducible rfl)); (try simp only [Act.put, List.setIfInBounds_toArray, List.set_cons_zero, List.set_cons_succ]))
            refine wpAnyH_ready (rs := [18]) (by kernel_rfl) (by simp) (AllReadyH.cons (o := { dst := none, op := Op.store _ (Operand.tmp 62) (Operand.tmp 61), type := _, pos := _, after := _, guard := none }) rfl (fun K hK => ?_) AllReadyH.nil)
            go_simp
            clear hHeld
            refine hK.out _ _ ?_ (fun hHeld => ?_)
            (next => ((try dsimp only); (first | (with_reducible exact ⟨y1z, z00, z01, z02, z03, z04, z10, z11, z12, z13, z14⟩) | (with_reducible exact ⟨y1b, b00, b01, b02, b03, b04, b10, b11, b12, b13, b14⟩) | (with_reducible exact ⟨y1a, a00, a01, a02, a03, a04, a10, a11, a12, a13, a14⟩) | (with_reducible exact ⟨y1c, q00, q01, q02, q03, q04, q10, q11, q12, q13, q14⟩))))
            clear hK K
            (try simp only [Act.put, List.setIfInBounds_toArray, List.set_cons_zero, List.set_cons_succ])
            refine wpAnyH_done (by kernel_rfl) ?_ _
            refine NoPanic.normal ?_
            have hall : Touch (fun k => k = rb ∨ (Value.slice AL m cL).ownBlock = some k ∨ k = vc) wr (w10.setCell ⟨vc, 6, none⟩ (.slice A10 (m + 1) c10)) :=
              (((HT8.out.trans HTC.out).mono fun k _ e => .inl e).trans (hT10.mono fun k _ e => .inr (.inl e))).trans (hts.mono fun k _ e => .inr (.inr e))
            have hno : ∀ k, g0 ≤ k ∧ k < base → ¬ (k = rb ∨ (Value.slice AL m cL).ownBlock = some k ∨ k = vc) := fun k hk e => by
              rcases e with e | e | e
              · omega
              · have := (Hlr.out _ e).1; omega
              · omega
            have hnl : ∀ q, q < base → ¬ (Value.slice AL m cL).ownBlock = some q := fun q hq e => by have := (Hlr.out _ e).1; omega
            have HZz := Lib.hid (Nat.le_trans hzr hall.size)
            have HRz := Lib.hid ((HRB.out.touch hT10 (hnl rb (by omega))).touch hts (by omega))
            have HOz := Lib.hid (own_touch hO10 hts (row_ne hO10 (by omega)))
            have HMz := Lib.hid (HM.out.touch hall (fun e => by
              rcases e with e | e | e
              · omega
              · exact hnl vb (by omega) e
              · omega))
            have HItz := Lib.hid (HIt.out.keep (touch_keeps hall hno))
            have HJtz := Lib.hid (RJs.keep (touch_keeps hall hno) HJt.out)
            have HTz := Lib.hid (HTw.out.under hall (fun k hk e => by
              rcases e with e | e | e
              · exact e
              · exact absurd e (hnl k (by omega))
              · omega))
            have HNz : Hid (CB (w10.setCell ⟨vc, 6, none⟩ (.slice A10 (m + 1) c10)) vc #[.int .i64 1, .string (ofL x1.text), .int .i64 0, .int .i64 0, .int .i64 0, .int .i64 0, .slice A10 (m + 1) c10] 24) := Lib.hid hns
            clear hall hno hnl hns hts htk y1z y1b k6 v6 hn10 hT10 hO10 hL10 hgl hn9 hO9 hrb9 ht9 hz9
            generalize w10.setCell ⟨vc, 6, none⟩ (.slice A10 (m + 1) c10) = wz at *
            go_wp2_with fail
            refine ⟨⟨m + 1, .slice A10 (m + 1) c10, by omega, by go_num, Lib.hid ?_, HNz, Lib.hid ?_, HMz, HItz, HJtz, HZz, HTz⟩, by simp [intOf]; omega⟩
            · have h1 := any_snoc (itemR x1.text) its Hy.out
              rw [Hit.out] at h1
              rw [h1]
              have h2 := HRz.out
              simp only [Bool.or_assoc] at h2 ⊢
              exact h2
            · have h1 := map_snoc (itemR x1.text) its Hy.out
              rw [h1, logs_snoc, Hit.out]
              exact HOz.out
    · have hmn : m = p2 := by omega
      subst hmn
      have hRB := HRB.out
      have hO := HO.out
      rw [List.take_of_length_le (by rw [HP2.out]; exact Nat.le_refl _)] at hRB hO
      have HNf := HN
      have HMf := HM
      have HRf := Lib.hid hRB
      have HTf := HTw
      have hz : base ≤ wr.heap.size := hzr
      have HOf := Lib.hid hO
      clear hRB hO HRB HO HN HM HTw
      generalize wr = wz at *
      have h0 : wz.cell? ⟨vc, 0, none⟩ = some (.int .i64 1) := HNf.out.c 0 rfl
      have h1 : wz.cell? ⟨vc, 1, none⟩ = some (.string (ofL x1.text)) := HNf.out.c 1 rfl
      have h2 : wz.cell? ⟨vc, 2, none⟩ = some (.int .i64 0) := HNf.out.c 2 rfl
      have h3 : wz.cell? ⟨vc, 3, none⟩ = some (.int .i64 0) := HNf.out.c 3 rfl
      have h4 : wz.cell? ⟨vc, 4, none⟩ = some (.int .i64 0) := HNf.out.c 4 rfl
      have h5 : wz.cell? ⟨vc, 5, none⟩ = some (.int .i64 0) := HNf.out.c 5 rfl
      have h6 : wz.cell? ⟨vc, 6, none⟩ = some (.slice AL m cL) := HNf.out.c 6 rfl
      have k0 := HMf.out.c 0 rfl
      have v0 := HMf.out.f 0
      have k1 := HMf.out.c 1 rfl
      have v1 := HMf.out.f 1
      have k2 := HMf.out.c 2 rfl
      have v2 := HMf.out.f 2
      have k3 := HMf.out.c 3 rfl
      have v3 := HMf.out.f 3
      have k4 := HMf.out.c 4 rfl
      have v4 := HMf.out.f 4
      have k5 := HMf.out.c 5 rfl
      have v5 := HMf.out.f 5
      have k6 := HMf.out.c 6 rfl
      have v6 := HMf.out.f 6
      have htp := ((((((((Touch.refl (fun k => k = vb) wz).setCell (p := ⟨vb, 0, none⟩) rfl (.int .i64 1)).setCell (p := ⟨vb, 1, none⟩) rfl (.string (ofL x1.text))).setCell (p := ⟨vb, 2, none⟩) rfl (.int .i64 0)).setCell (p := ⟨vb, 3, none⟩) rfl (.int .i64 0)).setCell (p := ⟨vb, 4, none⟩) rfl (.int .i64 0)).setCell (p := ⟨vb, 5, none⟩) rfl (.int .i64 0)).setCell (p := ⟨vb, 6, none⟩) rfl (.slice AL m cL))
      have HMg := Lib.hid (((((((HMf.out.set 0 (.int .i64 1)).set 1 (.string (ofL x1.text))).set 2 (.int .i64 0)).set 3 (.int .i64 0)).set 4 (.int .i64 0)).set 5 (.int .i64 0)).set 6 (.slice AL m cL))
      have HRg := Lib.hid (HRf.out.touch htp (by omega))
      have HOg := Lib.hid (own_touch HOf.out htp (row_ne HOf.out (by omega)))
      have HTg := Lib.hid (HTf.out.under htp (fun k hk e => by have e' : k = vb := e; omega))
      clear htp
      go_wp2_with fail
      generalize (((((((wz.setCell ⟨vb, 0, none⟩ (.int .i64 1)).setCell ⟨vb, 1, none⟩ (.string (ofL x1.text))).setCell ⟨vb, 2, none⟩ (.int .i64 0)).setCell ⟨vb, 3, none⟩ (.int .i64 0)).setCell ⟨vb, 4, none⟩ (.int .i64 0)).setCell ⟨vb, 5, none⟩ (.int .i64 0)).setCell ⟨vb, 6, none⟩ (.slice AL m cL)) = wy at *
      have g0' : wy.cell? ⟨vb, 0, none⟩ = some (.int .i64 1) := HMg.out.c 0 rfl
      have g1 : wy.cell? ⟨vb, 1, none⟩ = some (.string (ofL x1.text)) := HMg.out.c 1 rfl
      have g2 : wy.cell? ⟨vb, 2, none⟩ = some (.int .i64 0) := HMg.out.c 2 rfl
      have g3 : wy.cell? ⟨vb, 3, none⟩ = some (.int .i64 0) := HMg.out.c 3 rfl
      have g4 : wy.cell? ⟨vb, 4, none⟩ = some (.int .i64 0) := HMg.out.c 4 rfl
      have g5 : wy.cell? ⟨vb, 5, none⟩ = some (.int .i64 0) := HMg.out.c 5 rfl
      have g6 : wy.cell? ⟨vb, 6, none⟩ = some (.slice AL m cL) := HMg.out.c 6 rfl
      refine bodyPost_ret (v := .agg #[.int .i64 1, .string (ofL x1.text), .int .i64 0, .int .i64 0, .int .i64 0, .int .i64 0, .slice AL m cL]) (by simp [results, Tryz.results43, go_sem, g0', g1, g2, g3, g4, g5, g6]) rfl ?_
      have hf := HRg.out
      have hl : m = ((x2.items.map (itemR x1.text)).map (·.2)).length := by rw [List.length_map, List.length_map, ← HIts.out]; exact HP2.out
      have hO := HOg.out
      have hmm : ((its.map fun y => (itemR x1.text y).2)) = (x2.items.map (itemR x1.text)).map (·.2) := by rw [HIts.out, List.map_map]; rfl
      rw [hmm] at hO
      rw [HBq.out, HIts.out] at hf
      refine ⟨AL, cL, by first | (rw [← hl]; done) | (rw [← hl]; rfl), by rw [← hl]; exact own_rdp hO (fun k hk => by omega), ?_, HTg.out⟩
      simp only [Bool.or_assoc] at hf ⊢
      exact hf
end Go.Proofs.YtigdjnfnkjfkmaaGreatDoor
