/- The law's own functions: Equal, small, can, own. Conditions: the value is small, or its lists are no longer than memory. -/
import Derived.Test.YthkpbgpgcpkiiaaGreatDoorJLawA
import Derived.Test.YthkpbgpgcpkiiaaGreatDoorJsonO
import Derived.Test.YthkpbgpgcpkiiaaGreatDoorJPriD
namespace Go.Proofs.YthkpbgpgcpkiiaaGreatDoor
open Go.RowKit
set_option linter.unusedVariables false
set_option linter.unusedSimpArgs false
set_option maxRecDepth 100000

theorem uMod (z : Int) (n : Nat) (n1 : 0 < n) (hn : n ≤ 1099511627776) : ∃ j : Nat, wrap64 ((IntKind.u64.wrap z).tmod (n : Int)) = j ∧ j < n := by
  have h0 : 0 ≤ IntKind.u64.wrap z := by unfold IntKind.wrap; simp [IntKind.bits, IntKind.signed]; omega
  obtain ⟨t, ht⟩ : ∃ t : Nat, IntKind.u64.wrap z = t := ⟨(IntKind.u64.wrap z).toNat, by omega⟩
  have hlt := Nat.mod_lt t n1
  refine ⟨t % n, ?_, hlt⟩
  rw [ht]
  have : ((t : Int)).tmod n = ((t % n : Nat) : Int) := by rw [Int.tmod_eq_emod_of_nonneg (by omega)]; rfl
  rw [this]
  unfold wrap64; omega
theorem ofL_app (a b : B) : ofL (a ++ b) = ofL a ++ ofL b := by rw [← ofL_toL (ofL a ++ ofL b), append_toL, toL_ofL, toL_ofL]
def Eql (x : J) : Prop := wtJ x ≤ 1048576 → ∀ (N I M Q : Value) (w : World), RJ (fun b => b < w.heap.size) w x [.int .i64 x.kind, .int .i64 x.int, .string (ofL x.text), N, I] → RJ (fun b => b < w.heap.size) w x [.int .i64 x.kind, .int .i64 x.int, .string (ofL x.text), M, Q] →
  Calls Tryz.prog 17 #[.agg #[.int .i64 x.kind, .int .i64 x.int, .string (ofL x.text), N, I], .agg #[.int .i64 x.kind, .int .i64 x.int, .string (ofL x.text), M, Q]] w fun e w' => e = .returned (.bool true) ∧ Below w.heap.size w w'
set_option maxHeartbeats 16000000 in
theorem eql_step (k n : Int) (t : B) (ns : List B) (is : List J) (ih : ∀ x ∈ is, Eql x) : Eql (.mk k n t ns is) := by
  intro hwt N I M Q w hR hR'
  simp only [J.kind, J.int, J.text] at hR hR' ⊢
  rw [RJ] at hR hR'
  obtain ⟨N', I', e, hN, xs, hI, hxs⟩ := hR
  have e1 : N = N' ∧ I = I' := by simp at e; exact e
  obtain ⟨rfl, rfl⟩ := e1
  clear e
  obtain ⟨M', Q', e, hM, ys, hQ, hys⟩ := hR'
  have e1 : M = M' ∧ Q = Q' := by simp at e; exact e
  obtain ⟨rfl, rfl⟩ := e1
  clear e
  obtain ⟨A1, c1, rfl⟩ := hN.shape
  obtain ⟨A2, c2, rfl⟩ := hI.shape
  obtain ⟨A3, c3, rfl⟩ := hM.shape
  obtain ⟨A4, c4, rfl⟩ := hQ.shape
  have hws : ∀ x ∈ is, wtJ x ≤ 1048576 := fun x hx => by rw [wtJ] at hwt; have := wts_mem hx; omega
  have hil : is.length ≤ 1048576 := by rw [wtJ] at hwt; have := wts_len is; omega
  have hnl : ns.length ≤ 1048576 := by rw [wtJ] at hwt; omega
  have HWs := Lib.hid hws
  clear hws hwt
  obtain ⟨nn, hnn⟩ : ∃ nn, nn = ns.length := ⟨_, rfl⟩
  obtain ⟨nm, hnm⟩ : ∃ nm, nm = is.length := ⟨_, rfl⟩
  rw [← hnn] at hN hM hnl ⊢
  rw [← hnm] at hI hQ hil ⊢
  have HNN := Lib.hid hnn
  have HNM := Lib.hid hnm
  generalize ofL t = s
  have hb := ((Below.refl w.heap.size w).alloc (Nat.le_refl _) (.cells #[.int .i64 k, .int .i64 n, .string s, .slice A1 nn c1, .slice A2 nm c2] 25)).alloc (by simp) (.cells #[.int .i64 k, .int .i64 n, .string s, .slice A3 nn c3, .slice A4 nm c4] 25)
  have hk : ((w.alloc (.cells #[.int .i64 k, .int .i64 n, .string s, .slice A1 nn c1, .slice A2 nm c2] 25)).alloc (.cells #[.int .i64 k, .int .i64 n, .string s, .slice A3 nn c3, .slice A4 nm c4] 25)).heap[w.heap.size]? = some (.cells #[.int .i64 k, .int .i64 n, .string s, .slice A1 nn c1, .slice A2 nm c2] 25 (0, 0)) := by
    have h1 := heap_alloc_new w (.cells #[.int .i64 k, .int .i64 n, .string s, .slice A1 nn c1, .slice A2 nm c2] 25)
    have h2 := (Below.refl (w.alloc (.cells #[.int .i64 k, .int .i64 n, .string s, .slice A1 nn c1, .slice A2 nm c2] 25)).heap.size (w.alloc (.cells #[.int .i64 k, .int .i64 n, .string s, .slice A1 nn c1, .slice A2 nm c2] 25))).alloc (Nat.le_refl _) (.cells #[.int .i64 k, .int .i64 n, .string s, .slice A3 nn c3, .slice A4 nm c4] 25)
    rw [h2.block _ (by simp)]; exact h1
  have hk' : ((w.alloc (.cells #[.int .i64 k, .int .i64 n, .string s, .slice A1 nn c1, .slice A2 nm c2] 25)).alloc (.cells #[.int .i64 k, .int .i64 n, .string s, .slice A3 nn c3, .slice A4 nm c4] 25)).heap[w.heap.size + 1]? = some (.cells #[.int .i64 k, .int .i64 n, .string s, .slice A3 nn c3, .slice A4 nm c4] 25 (0, 0)) := by
    have h1 := heap_alloc_new (w.alloc (.cells #[.int .i64 k, .int .i64 n, .string s, .slice A1 nn c1, .slice A2 nm c2] 25)) (.cells #[.int .i64 k, .int .i64 n, .string s, .slice A3 nn c3, .slice A4 nm c4] 25)
    rw [World.size_alloc] at h1; exact h1
  have HN := Lib.hid hN
  have HI := Lib.hid hI
  have HX := Lib.hid hxs
  have HM := Lib.hid hM
  have HQ := Lib.hid hQ
  have HY := Lib.hid hys
  clear hN hI hxs hM hQ hys hnn hnm
  go_enter Tryz.func17, Tryz.ntmps17
  go_upto_region 1 with fail
  generalize (w.alloc (.cells #[.int .i64 k, .int .i64 n, .string s, .slice A1 nn c1, .slice A2 nm c2] 25)).alloc (.cells #[.int .i64 k, .int .i64 n, .string s, .slice A3 nn c3, .slice A4 nm c4] 25) = w1 at *
  obtain ⟨d0, d1, d2, d3, d4, hz1⟩ := box5 hk
  obtain ⟨g0, g1, g2, g3, g4, hz2⟩ := box5 hk'
  have HB := Lib.hid hb
  clear hb hk hk'
  have hfacts : ∀ (wx : World), Below w1.heap.size w1 wx → (wx.cell? ⟨w.heap.size, 3, none⟩ = some (.slice A1 nn c1) ∧ wx.cell? ⟨w.heap.size, 4, none⟩ = some (.slice A2 nm c2)) ∧ (wx.cell? ⟨w.heap.size + 1, 3, none⟩ = some (.slice A3 nn c3) ∧ wx.cell? ⟨w.heap.size + 1, 4, none⟩ = some (.slice A4 nm c4)) := fun wx h =>
    ⟨⟨Below.keeps h d3, Below.keeps h d4⟩, Below.keeps h g3, Below.keeps h g4⟩
  have Hf := Lib.hid hfacts
  clear hfacts
  go_upto_region 4 with fail
  clear d0 d1 d2 d3 d4 g0 g1 g2 g3 g4
  go_loopw [47] (fun i wr => ∃ m : Nat, m ≤ nn ∧ i = .int .i64 m ∧ Hid (Below w1.heap.size w1 wr)) (fun i _ => nn - (intOf i).toNat)
  case atStart => exact ⟨0, Nat.zero_le _, rfl, Below.refl _ _⟩
  case round =>
    obtain ⟨m, hm, rfl, hW⟩ := hrel
    obtain ⟨⟨d3, d4⟩, g3, g4⟩ := Hf.out wr hW.out
    have hBw := HB.out.next hW.out
    by_cases hlt : m < nn
    · have hlt' : m < ns.length := by rw [← HNN.out]; exact hlt
      obtain ⟨q, hq⟩ : ∃ q, ns[m]? = some q := ⟨_, List.getElem?_eq_getElem hlt'⟩
      obtain ⟨b1, o1, rfl, _, h1⟩ := (show RdP (fun b => b < w.heap.size) wr 1 (.slice A1 nn c1) ns.length (strs ns) by have := HN.out.keep (below_keeps hBw); rw [HNN.out] at this ⊢; exact this).strAt hq
      obtain ⟨b2, o2, rfl, _, h2⟩ := (show RdP (fun b => b < w.heap.size) wr 1 (.slice A3 nn c3) ns.length (strs ns) by have := HM.out.keep (below_keeps hBw); rw [HNN.out] at this ⊢; exact this).strAt hq
      have HBw := Lib.hid hBw
      clear hBw hlt' hq
      generalize ofL q = sq at *
      go_upto_region 6 with fail
      go_quiet (fail)
      have HW2 := Lib.hid (hW.out.next (below_drewN wr.heap.size wr nq))
      generalize wr.drewN nq = wq at *
      go_wp2_with fail
      exact ⟨⟨m + 1, by omega, by go_num, HW2⟩, by simp [intOf]; omega⟩
    · obtain ⟨wo, hwo⟩ : ∃ x, x = wr := ⟨_, rfl⟩
      subst hwo
      have HWo := Lib.hid hW.out
      clear hBw
      go_upto_region 10 with fail
      clear d3 d4 g3 g4 hW
      go_loopw [65] (fun i wr => ∃ m : Nat, m ≤ nm ∧ i = .int .i64 m ∧ Hid (Below w1.heap.size w1 wr)) (fun i _ => nm - (intOf i).toNat)
      case atStart => exact ⟨0, Nat.zero_le _, rfl, HWo.out⟩
      case round =>
        obtain ⟨q, hq, rfl, hW⟩ := hrel
        obtain ⟨⟨d3, d4⟩, g3, g4⟩ := Hf.out wr hW.out
        have hBw := HB.out.next hW.out
        by_cases hlt2 : q < nm
        · have hlt' : q < is.length := by rw [← HNM.out]; exact hlt2
          obtain ⟨x, hx⟩ : ∃ x, is[q]? = some x := ⟨_, List.getElem?_eq_getElem hlt'⟩
          have hxm : x ∈ is := List.mem_of_getElem? hx
          obtain ⟨ba, oa, ca, Nx, Qx, eI, _, hRx, j0, j1, j2, j3, j4⟩ := (show RdP (fun b => b < w.heap.size) wr 5 (.slice A2 nm c2) is.length xs by have := HI.out.keep (below_keeps hBw); rw [HNM.out] at this ⊢; exact this).jsonAt (RJs.keep (below_keeps hBw) HX.out) hx
          obtain ⟨bb, ob, cb, Nz, Qz, eJ, _, hRz, l0, l1, l2, l3, l4⟩ := (show RdP (fun b => b < w.heap.size) wr 5 (.slice A4 nm c4) is.length ys by have := HQ.out.keep (below_keeps hBw); rw [HNM.out] at this ⊢; exact this).jsonAt (RJs.keep (below_keeps hBw) HY.out) hx
          simp only [Value.slice.injEq] at eI eJ
          obtain ⟨rfl, hjunk, rfl⟩ := eI
          obtain ⟨rfl, hjunk2, rfl⟩ := eJ
          obtain ⟨⟨A5, m5, c5, rfl⟩, A6, m6, c6, rfl⟩ := rj_slices hRx
          obtain ⟨⟨A7, m7, c7, rfl⟩, A8, m8, c8, rfl⟩ := rj_slices hRz
          have hd := (Below.refl wr.heap.size wr).drew
          have hz : w.heap.size ≤ wr.heap.size := hBw.size
          have K := ih x hxm (HWs.out x hxm) _ _ _ _ wr.drew (RJ.mono (fun b h _ => Nat.lt_of_lt_of_le h (Nat.le_trans hz hd.size)) _ _ (hRx.below hd)) (RJ.mono (fun b h _ => Nat.lt_of_lt_of_le h (Nat.le_trans hz hd.size)) _ _ (hRz.below hd))
          have HWd := Lib.hid (hW.out.next hd)
          have K := Lib.hid K
          clear hjunk hjunk2 hRx hRz hBw hd hx hlt'
          generalize ofL x.text = sx at *
          go_upto_region 12 with fail
          go_still_tail 10, (by kernel_rfl)
          change wpList _ _ _ _ _ wr.drew
          go_wp2_with fail
          (with_reducible refine K.out.mono ?_); rintro e w6 ⟨rfl, hb6⟩
          have HW6 := Lib.hid (HWd.out.next hb6)
          clear hb6 K
          go_wp2_with fail
          exact ⟨⟨q + 1, by omega, by go_num, HW6⟩, by simp [intOf]; omega⟩
        · have HBw := Lib.hid hBw
          clear hBw
          go_wp2_with fail
          go_ret
          exact ⟨rfl, HBw.out⟩
theorem equal_any (x : J) : Eql x := J.ind (P := Eql) (fun k n t ns is ih => eql_step k n t ns is ih) x
end Go.Proofs.YthkpbgpgcpkiiaaGreatDoor
namespace Go.Proofs.YthkpbgpgcpkiiaaGreatDoor
open Go.RowKit
set_option linter.unusedVariables false
set_option linter.unusedSimpArgs false
set_option maxRecDepth 100000

theorem box5b {w : World} {b : Nat} {v0 v1 v2 v3 v4 : Value} {ty : TypeId} (h : w.heap[b]? = some (.cells #[v0, v1, v2, v3, v4] ty (0, 0))) :
    w.cell? ⟨b, 0, none⟩ = some v0 ∧ w.cell? ⟨b, 1, none⟩ = some v1 ∧ w.cell? ⟨b, 2, none⟩ = some v2 ∧ w.cell? ⟨b, 3, none⟩ = some v3 ∧ w.cell? ⟨b, 4, none⟩ = some v4 ∧ b < w.heap.size :=
  ⟨by rw [Lib.cell_of_heap h]; rfl, by rw [Lib.cell_of_heap h]; rfl, by rw [Lib.cell_of_heap h]; rfl, by rw [Lib.cell_of_heap h]; rfl, by rw [Lib.cell_of_heap h]; rfl, (Array.getElem?_eq_some_iff.1 h).1⟩
/-- The counter's cell. -/
def CC (w : World) (lb : Nat) (L : Int) : Prop := w.heap[lb]? = some (.cells #[.int .i64 L] 3 (0, 0))
theorem CC.c {w : World} {lb : Nat} {L : Int} (h : CC w lb L) : w.cell? ⟨lb, 0, none⟩ = some (.int .i64 L) := by rw [Lib.cell_of_heap h]; rfl
theorem CC.f {w : World} {lb : Nat} {L : Int} (h : CC w lb L) : w.frozen? ⟨lb, 0, none⟩ = false := Lib.frozen_of_heap h 0
theorem CC.lt {w : World} {lb : Nat} {L : Int} (h : CC w lb L) : lb < w.heap.size := (Array.getElem?_eq_some_iff.1 h).1
theorem CC.set {w : World} {lb : Nat} {L : Int} (h : CC w lb L) (M : Int) : CC (w.setCell ⟨lb, 0, none⟩ (.int .i64 M)) lb M := by unfold CC; rw [heap_set_own h]; rfl
theorem CC.touch {F : Nat → Prop} {w w' : World} {lb : Nat} {L : Int} (h : CC w lb L) (ht : Touch F w w') (hf : ¬ F lb) : CC w' lb L := by unfold CC; rw [ht.block lb h.lt hf]; exact h
theorem CC.below {w w' : World} {lb : Nat} {L : Int} (h : CC w lb L) (hb : Below w.heap.size w w') : CC w' lb L := h.touch (.of_below (F := fun _ => False) hb) id
def SmlP (w : World) (lb : Nat) (L : Int) (x : J) (e : Ending) (w' : World) : Prop := ∃ (b : Bool) (M : Int), e = .returned (.bool b) ∧ CC w' lb M ∧ M ≤ L ∧ (b = true → 0 ≤ M ∧ (wtJ x : Int) ≤ 16 * (L - M)) ∧ Touch (fun k => k = lb) w w'
theorem SmlP.no {w w' : World} {lb : Nat} {L M : Int} {x : J} {e : Ending} (h0 : e = .returned (.bool false)) (h1 : CC w' lb M) (h2 : M ≤ L) (h3 : Touch (fun k => k = lb) w w') : SmlP w lb L x e w' := ⟨false, M, h0, h1, h2, (fun h => by cases h), h3⟩
theorem SmlP.yes {w w' : World} {lb : Nat} {L M : Int} {x : J} {e : Ending} (h0 : e = .returned (.bool true)) (h1 : CC w' lb M) (h2 : M ≤ L) (h4 : 0 ≤ M) (h5 : (wtJ x : Int) ≤ 16 * (L - M)) (h3 : Touch (fun k => k = lb) w w') : SmlP w lb L x e w' := ⟨true, M, h0, h1, h2, (fun _ => ⟨h4, h5⟩), h3⟩
/-- What small does. -/
def Sml (x : J) : Prop := ∀ (hlen : lenJ x = true) (deep lb : Nat) (L : Int) (N I : Value) (w : World), deep ≤ 41 → -10000 ≤ L → L ≤ 5000 → lb < w.heap.size → CC w lb L →
  RJ (fun b => b < w.heap.size ∧ b ≠ lb) w x [.int .i64 x.kind, .int .i64 x.int, .string (ofL x.text), N, I] →
  Calls Tryz.prog 21 #[.agg #[.int .i64 x.kind, .int .i64 x.int, .string (ofL x.text), N, I], .pointer (some ⟨lb, 0, none⟩), .int .i64 deep] w (SmlP w lb L x)
theorem keep_lb {lb : Nat} {w w1 wr : World} (hb : Below w.heap.size w w1) (ht : Touch (fun k => k = lb) w1 wr) : ∀ (q o : Nat) (u : Value), (q < w.heap.size ∧ q ≠ lb) → w.cell? ⟨q, o, none⟩ = some u → wr.cell? ⟨q, o, none⟩ = some u := by
  intro q o u hq hc
  have h1 := Below.keeps hb hc
  rw [ht.cell (p := ⟨q, o, none⟩) (lt_of_cell h1) (fun e => hq.2 e)]; exact h1
set_option maxHeartbeats 16000000 in
theorem sml_step (k n : Int) (t : B) (ns : List B) (is : List J) (ih : ∀ x ∈ is, Sml x) : Sml (.mk k n t ns is) := by
  intro hlen deep lb L N I w hdp hL1 hL2 hlb hC hR
  simp only [J.kind, J.int, J.text] at hR ⊢
  rw [RJ] at hR
  obtain ⟨N', I', e, hN, xs, hI, hxs⟩ := hR
  have e1 : N = N' ∧ I = I' := by simp at e; exact e
  obtain ⟨rfl, rfl⟩ := e1
  clear e
  obtain ⟨A1, c1, rfl⟩ := hN.shape
  obtain ⟨A2, c2, rfl⟩ := hI.shape
  obtain ⟨hnl, hil, htb, hsb, hls⟩ := len_parts hlen
  have HSB := Lib.hid hsb
  have HLS := Lib.hid hls
  clear hsb hls
  obtain ⟨nn, hnn⟩ : ∃ nn, nn = ns.length := ⟨_, rfl⟩
  obtain ⟨nm, hnm⟩ : ∃ nm, nm = is.length := ⟨_, rfl⟩
  rw [← hnn] at hN hnl ⊢
  rw [← hnm] at hI hil ⊢
  have HNN := Lib.hid hnn
  have HNM := Lib.hid hnm
  obtain ⟨s, hst⟩ : ∃ s : ByteArray, s = ofL t := ⟨_, rfl⟩
  have htl : s.size = t.length := by rw [hst, size_ofL]
  rw [← hst]
  have HTL := Lib.hid htl
  have hszb : s.size ≤ 9223372036854775807 := by rw [htl]; exact htb
  clear htb
  have hb1 := (Below.refl w.heap.size w).alloc (Nat.le_refl _) (.cells #[.int .i64 k, .int .i64 n, .string s, .slice A1 nn c1, .slice A2 nm c2] 25)
  have hk1 : (w.alloc (.cells #[.int .i64 k, .int .i64 n, .string s, .slice A1 nn c1, .slice A2 nm c2] 25)).heap[w.heap.size]? = some (.cells #[.int .i64 k, .int .i64 n, .string s, .slice A1 nn c1, .slice A2 nm c2] 25 (0, 0)) := heap_alloc_new w _
  have hC1 := hC.below hb1
  have HN := Lib.hid hN
  have HI := Lib.hid hI
  have HX := Lib.hid hxs
  clear hN hI hxs hnn hnm hst hC htl
  go_enter Tryz.func21, Tryz.ntmps21
  go_upto_region 1 with fail
  generalize w.alloc (.cells #[.int .i64 k, .int .i64 n, .string s, .slice A1 nn c1, .slice A2 nm c2] 25) = w1 at *
  obtain ⟨d0, d1, d2, d3, d4, hz1⟩ := box5b hk1
  have cL := hC1.c
  have fL := hC1.f
  have HB := Lib.hid hb1
  have hne : ¬ w.heap.size = lb := by omega
  clear hb1 hk1
  go_still_tail 8, (by kernel_rfl)
  change wpList _ _ _ _ _ w1.drew
  go_upto_region 2 with fail
  have hC2 : CC (w1.setCell ⟨lb, 0, none⟩ (.int .i64 (L - (1 + (nn : Int))))).drew lb (L - (1 + (nn : Int))) := hC1.set _
  have hT2 : Touch (fun k => k = lb) w1 (w1.setCell ⟨lb, 0, none⟩ (.int .i64 (L - (1 + (nn : Int))))).drew := ((Touch.refl (fun k => k = lb) w1).setCell (p := ⟨lb, 0, none⟩) rfl _).next (Below.refl _ _).drew
  generalize (w1.setCell ⟨lb, 0, none⟩ (.int .i64 (L - (1 + (nn : Int))))).drew = w2 at *
  obtain ⟨L1, hq⟩ : ∃ L1, L1 = L - (1 + (nn : Int)) := ⟨_, rfl⟩
  rw [← hq] at hC2
  have Hq := Lib.hid hq
  have hL1a : L1 ≤ 5000 := by omega
  have hL1b : L1 ≤ L := by omega
  have hL1c : -140737488400000 ≤ L1 := by omega
  have HC2 := Lib.hid hC2
  have HT2 := Lib.hid hT2
  have hkp : ∀ (wx : World), Touch (fun k => k = lb) w1 wx → (wx.cell? ⟨w.heap.size, 2, none⟩ = some (.string s) ∧ wx.cell? ⟨w.heap.size, 3, none⟩ = some (.slice A1 nn c1) ∧ wx.cell? ⟨w.heap.size, 4, none⟩ = some (.slice A2 nm c2)) := fun wx h =>
    ⟨(h.cell (p := ⟨w.heap.size, 2, none⟩) hz1 hne).trans d2, (h.cell (p := ⟨w.heap.size, 3, none⟩) hz1 hne).trans d3, (h.cell (p := ⟨w.heap.size, 4, none⟩) hz1 hne).trans d4⟩
  have Hkp := Lib.hid hkp
  have hfin : ∀ (wx : World), Touch (fun k => k = lb) w1 wx → Touch (fun k => k = lb) w wx := fun wx h => (Touch.of_below HB.out).trans h
  have Hfin := Lib.hid hfin
  obtain ⟨e2, e3, e4⟩ := hkp w2 hT2
  have cL := hC2.c
  clear hC1 hC2 hT2 hkp hfin fL d0 d1 d2 d3 d4 hq
  by_cases hneg : L1 < 0
  · go_wp2_with fail
    go_ret
    exact SmlP.no rfl HC2.out hL1b (Hfin.out _ HT2.out)
  by_cases hd : deep > 40
  · have hdi : (deep : Int) > 40 := by omega
    go_wp2_with fail
    go_ret
    exact SmlP.no rfl HC2.out hL1b (Hfin.out _ HT2.out)
  have hdi : ¬ (deep : Int) > 40 := by omega
  by_cases hts : s.size > 65536
  · have hti : (s.size : Int) > 65536 := by omega
    go_wp2_with fail
    go_ret
    exact SmlP.no rfl HC2.out hL1b (Hfin.out _ HT2.out)
  have hti : ¬ (s.size : Int) > 65536 := by omega
  go_upto_region 5 with fail
  go_loopw [37] (fun i wr => ∃ (m : Nat) (M : Int), m ≤ nn ∧ i = .int .i64 m ∧ CC wr lb M ∧ 0 ≤ M ∧ M ≤ L1 ∧ Hid (((((ns.take m).map List.length).sum : Nat) : Int) ≤ 16 * (L1 - M) + 15 * m) ∧ Hid (Touch (fun k => k = lb) w1 wr)) (fun i _ => nn - (intOf i).toNat)
  case atStart => exact ⟨0, L1, Nat.zero_le _, rfl, HC2.out, by omega, Int.le_refl _, by show _ ≤ _; simp, HT2.out⟩
  case round =>
    obtain ⟨m, M, hm, rfl, hC, hM0, hM1, hS, hT⟩ := hrel
    have HC := Lib.hid hC
    have cM := hC.c
    have fM := hC.f
    clear hC
    by_cases hlt : m < nn
    · have hlt' : m < ns.length := by rw [← HNN.out]; exact hlt
      obtain ⟨q, hq⟩ : ∃ q, ns[m]? = some q := ⟨_, List.getElem?_eq_getElem hlt'⟩
      have hkq := keep_lb HB.out hT.out
      obtain ⟨bn, on, rfl, _, hcn⟩ := (show RdP (fun b => b < w.heap.size ∧ b ≠ lb) wr 1 (.slice A1 nn c1) ns.length (strs ns) by have := HN.out.keep hkq; rw [HNN.out] at this ⊢; exact this).strAt hq
      have hS2 : ((((ns.take (m + 1)).map List.length).sum : Nat) : Int) = (((ns.take m).map List.length).sum : Nat) + q.length := by
        rw [List.take_add_one, hq]; simp
      obtain ⟨sq, hsq⟩ : ∃ sq : ByteArray, sq = ofL q := ⟨_, rfl⟩
      have hsz : sq.size = q.length := by rw [hsq, size_ofL]
      rw [← hsq] at hcn
      rw [← hsz] at hS2
      have hqz : sq.size ≤ 9223372036854775807 := by rw [hsz]; exact HSB.out q (List.mem_of_getElem? hq)
      have HS2 := Lib.hid hS2
      clear hkq hS2 hq hsq hsz hlt'
      go_upto_region 8 with fail
      have hC8 := HC.out.set (M - (sq.size : Int) / 16)
      have hT8 := (Touch.refl (fun k => k = lb) wr).setCell (p := ⟨lb, 0, none⟩) rfl (.int .i64 (M - (sq.size : Int) / 16))
      generalize wr.setCell ⟨lb, 0, none⟩ (.int .i64 (M - (sq.size : Int) / 16)) = w8 at *
      obtain ⟨M8, hM8⟩ : ∃ M8, M8 = M - (sq.size : Int) / 16 := ⟨_, rfl⟩
      rw [← hM8] at hC8
      have c8 := hC8.c
      have HC8 := Lib.hid hC8
      have HT8 := Lib.hid (hT.out.trans hT8)
      have hb8 : M8 ≤ L1 := by omega
      have HM8 := Lib.hid hM8
      clear hC8 hT8 hM8 cM fM
      by_cases hn8 : M8 < 0
      · go_wp2_with fail
        go_ret
        exact SmlP.no rfl HC8.out (by omega) (Hfin.out _ HT8.out)
      · go_wp2_with fail
        refine ⟨⟨m + 1, M8, by omega, by go_num, HC8.out, by omega, hb8, ?_, HT8⟩, by simp [intOf]; omega⟩
        have h1 := hS.out
        have h2 := HS2.out
        have h3 := HM8.out
        show _ ≤ _
        rw [h2]
        omega
    · have hmn : m = nn := by omega
      subst hmn
      obtain ⟨e2, e3, e4⟩ := Hkp.out wr hT.out
      have HSn := Lib.hid hS.out
      have HTn := Lib.hid hT.out
      obtain ⟨wo, hwo⟩ : ∃ x, x = wr := ⟨_, rfl⟩
      subst hwo
      clear hS hT
      go_upto_region 11 with fail
      go_still_tail 8, (by kernel_rfl)
      change wpList _ _ _ _ _ wo.drew
      go_upto_region 12 with fail
      have hs16 : 0 ≤ (s.size : Int) / 16 ∧ (s.size : Int) / 16 ≤ 4096 := by omega
      have hCa : CC (wo.setCell ⟨lb, 0, none⟩ (.int .i64 (M - (s.size : Int) / 16))).drew lb (M - (s.size : Int) / 16) := HC.out.set _
      have hTa : Touch (fun k => k = lb) wo (wo.setCell ⟨lb, 0, none⟩ (.int .i64 (M - (s.size : Int) / 16))).drew := ((Touch.refl (fun k => k = lb) wo).setCell (p := ⟨lb, 0, none⟩) rfl _).next (Below.refl _ _).drew
      generalize (wo.setCell ⟨lb, 0, none⟩ (.int .i64 (M - (s.size : Int) / 16))).drew = wa at *
      obtain ⟨M2, hM2⟩ : ∃ M2, M2 = M - (s.size : Int) / 16 := ⟨_, rfl⟩
      rw [← hM2] at hCa
      have HM2 := Lib.hid hM2
      have hM2a : -5000 ≤ M2 := by omega
      have hM2b : M2 ≤ M := by omega
      have HCa := Lib.hid hCa
      have HTa := Lib.hid (HTn.out.trans hTa)
      obtain ⟨e2, e3, e4⟩ := Hkp.out wa HTa.out
      clear hCa hTa hM2 cM fM HC
      go_upto_region 13 with fail
      go_loopw [66] (fun i wr => ∃ (q : Nat) (M3 : Int), q ≤ nm ∧ i = .int .i64 q ∧ CC wr lb M3 ∧ -5000 ≤ M3 ∧ M3 ≤ M2 ∧ Hid (((wtsJ (is.take q) : Nat) : Int) ≤ 16 * (M2 - M3)) ∧ Hid (Touch (fun k => k = lb) w1 wr)) (fun i _ => nm - (intOf i).toNat)
      case atStart => exact ⟨0, M2, Nat.zero_le _, rfl, HCa.out, hM2a, Int.le_refl _, by show _ ≤ _; rw [List.take_zero, wtsJ]; simp, HTa.out⟩
      case round =>
        obtain ⟨q, M3, hq, rfl, hC, hM3a, hM3b, hS, hT⟩ := hrel
        have HC := Lib.hid hC
        have cM := hC.c
        clear hC
        by_cases hlt : q < nm
        · have hlt' : q < is.length := by rw [← HNM.out]; exact hlt
          obtain ⟨x, hx⟩ : ∃ x, is[q]? = some x := ⟨_, List.getElem?_eq_getElem hlt'⟩
          have hxm : x ∈ is := List.mem_of_getElem? hx
          have hkq := keep_lb HB.out hT.out
          obtain ⟨ba, oa, ca, Nx, Qx, eI, hPa, hRx, g0, g1, g2, g3, g4⟩ := (show RdP (fun b => b < w.heap.size ∧ b ≠ lb) wr 5 (.slice A2 nm c2) is.length xs by have := HI.out.keep hkq; rw [HNM.out] at this ⊢; exact this).jsonAt (RJs.keep hkq HX.out) hx
          simp only [Value.slice.injEq] at eI
          obtain ⟨rfl, hjunk, rfl⟩ := eI
          have hws : wtsJ (is.take (q + 1)) = wtsJ (is.take q) + wtJ x := by rw [List.take_add_one, hx, Option.toList_some, wts_snoc]
          have HWs := Lib.hid hws
          clear hjunk hkq hws hx hlt'
          obtain ⟨⟨A5, m5, c5, rfl⟩, A6, m6, c6, rfl⟩ := rj_slices hRx
          have hb3 := (Below.refl wr.heap.size wr).alloc (Nat.le_refl _) (.cells #[.int .i64 x.kind, .int .i64 x.int, .string (ofL x.text), .slice A5 m5 c5, .slice A6 m6 c6] 25)
          have hk3 : (wr.alloc (.cells #[.int .i64 x.kind, .int .i64 x.int, .string (ofL x.text), .slice A5 m5 c5, .slice A6 m6 c6] 25)).heap[wr.heap.size]? = some (.cells #[.int .i64 x.kind, .int .i64 x.int, .string (ofL x.text), .slice A5 m5 c5, .slice A6 m6 c6] 25 (0, 0)) := heap_alloc_new wr _
          have HRx := Lib.hid hRx
          clear hRx
          go_upto_region 15 with fail
          generalize wr.alloc (.cells #[.int .i64 x.kind, .int .i64 x.int, .string (ofL x.text), .slice A5 m5 c5, .slice A6 m6 c6] 25) = w5 at *
          obtain ⟨f0, f1, f2, f3, f4, hz5⟩ := box5b hk3
          have hzx : w.heap.size ≤ wr.heap.size := by have := (Hfin.out _ hT.out).size; exact this
          have hC5 := HC.out.below hb3
          have hdp2 : deep + 1 ≤ 41 := by omega
          have K := ih _ hxm (HLS.out _ hxm) (deep + 1) lb M3 _ _ w5 hdp2 (by omega) (by omega) (by omega) hC5 (RJ.mono (fun b h _ => ⟨by have h' : b < w.heap.size := h.1; omega, h.2⟩) _ _ (HRx.out.below hb3))
          rw [Int.natCast_add, Int.natCast_one] at K
          have HT5 := Lib.hid (hT.out.next hb3)
          have K := Lib.hid K
          clear hb3 hk3 g0 g1 g2 g3 g4 hC5
          go_wp2_with fail
          (with_reducible refine K.out.mono ?_); rintro e w6 ⟨bb, M4, rfl, hC6, hM4, hyes, hT6⟩
          have HC6 := Lib.hid hC6
          have HT6 := Lib.hid (HT5.out.trans hT6)
          have HY := Lib.hid hyes
          clear hC6 hT6 hyes K
          cases bb with
          | true =>
            obtain ⟨y1, y2⟩ := HY.out rfl
            go_wp2_with fail
            refine ⟨⟨q + 1, M4, by omega, by go_num, HC6.out, by omega, by omega, ?_, HT6⟩, by simp [intOf]; omega⟩
            show _ ≤ _
            rw [HWs.out, Int.natCast_add]
            have := hS.out
            omega
          | false =>
            go_wp2_with fail
            go_ret
            exact SmlP.no rfl HC6.out (by omega) (Hfin.out _ HT6.out)
        · have hqn : q = nm := by omega
          have htk : is.take q = is := List.take_of_length_le (by rw [hqn, HNM.out]; exact Nat.le_refl _)
          have h1 := hS.out
          rw [htk] at h1
          have h2 := HSn.out
          rw [List.take_of_length_le (by rw [HNN.out]; exact Nat.le_refl _)] at h2
          have h3 := HTL.out
          have h4 := HM2.out
          have h5 := Hq.out
          have hwt : 0 ≤ M3 → ((wtJ (.mk k n t ns is) : Nat) : Int) ≤ 16 * (L - M3) := fun _ => by
            rw [wtJ, ← HNN.out]
            omega
          have HWt := Lib.hid hwt
          clear hwt h1 h2 h3 h4 h5 htk
          by_cases hpos : 0 ≤ M3
          · have hge : M3 ≥ 0 := hpos
            go_wp2_with fail
            go_ret
            exact SmlP.yes (ret_bool (by simp [hpos])) HC.out (by omega) hpos (HWt.out hpos) (Hfin.out _ hT.out)
          · have hge : ¬ M3 ≥ 0 := hpos
            go_wp2_with fail
            go_ret
            exact SmlP.no (ret_bool (by simp [hpos])) HC.out (by omega) (Hfin.out _ hT.out)
theorem small_any (x : J) : Sml x := J.ind (P := Sml) (fun k n t ns is ih => sml_step k n t ns is ih) x
def CanP (x : J) (w : World) (e : Ending) (w' : World) : Prop := ∃ b : Bool, e = .returned (.bool b) ∧ (b = true → wtJ x ≤ 80000) ∧ Below w.heap.size w w'
set_option maxHeartbeats 4000000 in
theorem can_any (x : J) (N I : Value) (w : World) (hlen : lenJ x = true) (hR : RJ (fun b => b < w.heap.size) w x [.int .i64 x.kind, .int .i64 x.int, .string (ofL x.text), N, I]) :
    Calls Tryz.prog 10 #[.agg #[.int .i64 x.kind, .int .i64 x.int, .string (ofL x.text), N, I]] w (CanP x w) := by
  obtain ⟨⟨A1, m1, c1, rfl⟩, A2, m2, c2, rfl⟩ := rj_slices hR
  have hb1 := (Below.refl w.heap.size w).alloc (Nat.le_refl _) (.cells #[.int .i64 x.kind, .int .i64 x.int, .string (ofL x.text), .slice A1 m1 c1, .slice A2 m2 c2] 25)
  have hk1 : (w.alloc (.cells #[.int .i64 x.kind, .int .i64 x.int, .string (ofL x.text), .slice A1 m1 c1, .slice A2 m2 c2] 25)).heap[w.heap.size]? = some (.cells #[.int .i64 x.kind, .int .i64 x.int, .string (ofL x.text), .slice A1 m1 c1, .slice A2 m2 c2] 25 (0, 0)) := heap_alloc_new w _
  have HR := Lib.hid (hR.below hb1)
  clear hR
  go_enter Tryz.func10, Tryz.ntmps10
  go_upto_region 1 with fail
  generalize w.alloc (.cells #[.int .i64 x.kind, .int .i64 x.int, .string (ofL x.text), .slice A1 m1 c1, .slice A2 m2 c2] 25) = w1 at *
  obtain ⟨d0, d1, d2, d3, d4, hz1⟩ := box5b hk1
  have HB := Lib.hid hb1
  have hb2 := (Below.refl w1.heap.size w1).alloc (Nat.le_refl _) (.cells #[.int .i64 5000] 3)
  have hC2 : CC (w1.alloc (.cells #[.int .i64 5000] 3)) w1.heap.size 5000 := heap_alloc_new w1 _
  clear hb1 hk1
  go_upto_region 2 with fail
  generalize w1.alloc (.cells #[.int .i64 5000] 3) = w2 at *
  have d0 := Below.keeps hb2 d0
  have d1 := Below.keeps hb2 d1
  have d2 := Below.keeps hb2 d2
  have d3 := Below.keeps hb2 d3
  have d4 := Below.keeps hb2 d4
  have hz2 := hC2.lt
  have K := small_any x hlen 0 w1.heap.size 5000 _ _ w2 (by omega) (by omega) (by omega) hz2 hC2 (RJ.mono (fun b h _ => ⟨by have h' : b < w.heap.size := h; omega, by have h' : b < w.heap.size := h; omega⟩) _ _ (HR.out.below hb2))
  have e0 : ((0 : Nat) : Int) = 0 := rfl
  rw [e0] at K
  have K := Lib.hid K
  have HB2 := Lib.hid (HB.out.trans (hb2.mono (Nat.le_of_lt hz1)))
  clear hb2 hC2 e0
  go_wp2_with fail
  (with_reducible refine K.out.mono ?_); rintro e w3 ⟨bb, M, rfl, hC3, hM, hyes, hT3⟩
  have HB3 := Lib.hid (HB2.out.trans (hT3.below (B := w.heap.size) (fun k hk e => by have e' : k = w1.heap.size := e; omega) (by omega)))
  have HY := Lib.hid hyes
  clear hC3 hT3 hyes K
  go_wp2_with fail
  go_ret
  exact ⟨bb, rfl, fun h => by have := HY.out h; omega, HB3.out⟩
end Go.Proofs.YthkpbgpgcpkiiaaGreatDoor
namespace Go.Proofs.YthkpbgpgcpkiiaaGreatDoor
open Go.RowKit
set_option linter.unusedVariables false
set_option linter.unusedSimpArgs false
set_option maxRecDepth 100000

theorem cloneN_any (N : Value) (ns : List B) (w : World) (hN : RdP (fun b => b < w.heap.size) w 1 N ns.length (strs ns)) (hl : ns.length ≤ 1048576) :
    Calls Tryz.prog 22 #[N] w fun e w' => ∃ A c, e = .returned (.slice A ns.length c) ∧ w'.ownsRow w.heap.size 9 1 (.slice A ns.length c) ns.length (strs ns) ∧ Below w.heap.size w w' := by
  obtain ⟨A, c, rfl⟩ := hN.shape
  cases A with
  | none =>
    have h0 : ns.length = 0 := by
      rcases hN.2 with h | ⟨⟨_, A, c', e, _, _, h5, _⟩, _⟩
      · exact h.1
      · cases e; exact h5 rfl
    have e0 := List.length_eq_zero_iff.1 h0
    subst e0
    refine (Tryz.slices_Clone_nil _ c w).mono fun e w' ⟨h1, h2⟩ => ⟨none, 0, h1, World.ownsRow_nil _ _ _ _, ?_⟩
    rw [h2]; exact Below.refl _ _
  | some a =>
    rcases hN.2 with ⟨h0, _⟩ | ⟨hR, _⟩
    · have e0 := List.length_eq_zero_iff.1 h0
      subst e0
      have hz : Calls Tryz.prog 22 #[.slice (some a) 0 c] w fun e w' => ∃ v', e = .returned v' ∧ w'.ownsRow w.heap.size 9 1 v' 0 [] ∧ Below w.heap.size w w' := by
        have q22 : ∀ (w : World) (a : Option Addr) (n c n' c' : Nat), (binOp .eql 22 (.slice a n c) (.slice none n' c')).run Tryz.prog w = .ok (.bool a.isNone) w := fun w a n c n' c' => Lib.run_eql_slice_nil w _ _ a n c n' c' Tryz.underlying22
        obtain ⟨htu, ⟨i0, hi, hz, hsize, hby⟩, hzs, hsz, hbz⟩ := rowS
        go_enter Tryz.func22, Tryz.ntmps22
        go_wp2_with (at_builtin; refine wpList_append_own _ rfl _ _ 22 rfl w.heap.size 9 i0 _ 1 16 htu hi hz hsize hby hzs hsz _ _ _ rfl (World.ownsRow_made w #[] 0 (Nat.le_refl _) (Nat.zero_le _) (by simp)) a 0 c [] rfl (by simp) ?qc2 (fun u hu => by cases hu) ?qc4 ?qc5 ?qc6 ?_)
        case qc2 =>
          intro j u hj
          simp at hj
        case qc4 => unfold maxLen; omega
        case qc5 => omega
        case qc6 => exact ((Below.refl w.heap.size w).alloc (Nat.le_refl _) _).size
        intro v' w1 hown hgrow hnil
        go_wp2
        go_ret
        refine ⟨v', rfl, by simpa [strs] using hown, ?_⟩
        exact ((Below.refl _ w).alloc (Nat.le_refl _) _).grown hgrow (by simp) (by intro k hk; simp [Value.ownBlock] at hk; omega)
      refine hz.mono ?_
      rintro e w' ⟨v', rfl, hO, hb⟩
      obtain ⟨A', c', rfl⟩ := (rd_of_own hO).shape
      exact ⟨A', c', rfl, hO, hb⟩
    · obtain ⟨k1, A', c', e, k3, k4, k5, k6⟩ := hR
      cases e
      obtain ⟨htu, ⟨i0, hi, hz, hsize, hby⟩, hzs, hsz, hbz⟩ := rowS
      obtain ⟨hsp, hat⟩ := k6 a rfl
      obtain ⟨b, o, sp⟩ := a
      simp only at hsp
      subst hsp
      refine (Tryz.slices_Clone i0 _ 1 16 hi hz hsize hby hzs hsz (fun _ => rfl) b o ns.length c (strs ns) w (by rw [strs_len, Nat.mul_one]) (by unfold maxLen; omega) (by omega) hat (by intro u hu; unfold strs at hu; obtain ⟨s, _, rfl⟩ := List.mem_map.1 hu; rfl)).mono ?_
      rintro e w' ⟨v', rfl, hO, _, hb⟩
      obtain ⟨A', c', rfl⟩ := (rd_of_own hO).shape
      exact ⟨A', c', rfl, hO, hb⟩
theorem rj_mk {P : Nat → Prop} {w : World} {k n : Int} {t : B} {ns : List B} {is : List J} {N I : Value} {xs : List Value} {nn nm : Nat} (hn : nn = ns.length) (hm : nm = is.length) (h1 : RdP P w 1 N nn (strs ns)) (h2 : RdP P w 5 I nm xs) (h3 : RJs P w is xs) : RJ P w (.mk k n t ns is) [.int .i64 k, .int .i64 n, .string (ofL t), N, I] := by
  subst hn; subst hm; rw [RJ]; exact ⟨_, _, rfl, h1, xs, h2, h3⟩
theorem own_base {w : World} {base base' : Nat} {e : TypeId} {size n : Nat} {v : Value} {xs : List Value} (h : w.ownsRow base e size v n xs) (hb : base' ≤ base) : w.ownsRow base' e size v n xs :=
  ⟨h.1, h.2.imp id fun ⟨g, cap, cur, h1, h2, h3⟩ => ⟨g, cap, cur, h1, Nat.le_trans hb h2, h3⟩⟩
/-- The same, sharper: the two rows are the call's own, and apart. -/
def OwnS (k n : Int) (t : B) (ns : List B) (is : List J) (w : World) (e : Ending) (w' : World) : Prop := ∃ A1 c1 A2 c2 ys B, e = .returned (.agg #[.int .i64 k, .int .i64 n, .string (ofL t), .slice A1 ns.length c1, .slice A2 is.length c2]) ∧
  w'.ownsRow w.heap.size 9 1 (.slice A1 ns.length c1) ns.length (strs ns) ∧ (∀ b, (Value.slice A1 ns.length c1).ownBlock = some b → b < B) ∧ w.heap.size ≤ B ∧
  w'.ownsRow B 25 5 (.slice A2 is.length c2) is.length ys ∧ RJs (fun b => B ≤ b ∧ ¬ (Value.slice A2 is.length c2).ownBlock = some b) w' is ys ∧ Below w.heap.size w w'
def OwnP (x : J) (w : World) (e : Ending) (w' : World) : Prop := ∃ A1 m1 c1 A2 m2 c2, e = .returned (.agg #[.int .i64 x.kind, .int .i64 x.int, .string (ofL x.text), .slice A1 m1 c1, .slice A2 m2 c2]) ∧
  RJ (fun b => w.heap.size ≤ b) w' x [.int .i64 x.kind, .int .i64 x.int, .string (ofL x.text), .slice A1 m1 c1, .slice A2 m2 c2] ∧ Below w.heap.size w w'
/-- What own does. -/
def Own (x : J) : Prop := wtJ x ≤ 1048576 → ∀ (N I : Value) (w : World), RJ (fun b => b < w.heap.size) w x [.int .i64 x.kind, .int .i64 x.int, .string (ofL x.text), N, I] →
  Calls Tryz.prog 12 #[.agg #[.int .i64 x.kind, .int .i64 x.int, .string (ofL x.text), N, I]] w (OwnP x w)
set_option maxHeartbeats 16000000 in
theorem own_stepS (k n : Int) (t : B) (ns : List B) (is : List J) (ih : ∀ x ∈ is, Own x) (hwt : wtJ (.mk k n t ns is) ≤ 1048576) (N I : Value) (w : World) (hR : RJ (fun b => b < w.heap.size) w (.mk k n t ns is) [.int .i64 k, .int .i64 n, .string (ofL t), N, I]) :
    Calls Tryz.prog 12 #[.agg #[.int .i64 k, .int .i64 n, .string (ofL t), N, I]] w (OwnS k n t ns is w) := by
  rw [RJ] at hR
  obtain ⟨N', I', e, hN, xs, hI, hxs⟩ := hR
  have e1 : N = N' ∧ I = I' := by simp at e; exact e
  obtain ⟨rfl, rfl⟩ := e1
  clear e
  obtain ⟨A1, c1, rfl⟩ := hN.shape
  obtain ⟨A2, c2, rfl⟩ := hI.shape
  have hws : ∀ x ∈ is, wtJ x ≤ 1048576 := fun x hx => by rw [wtJ] at hwt; have := wts_mem hx; omega
  have hil : is.length ≤ 1048576 := by rw [wtJ] at hwt; have := wts_len is; omega
  have hnl : ns.length ≤ 1048576 := by rw [wtJ] at hwt; omega
  have KN := fun (w' : World) (hb : Below w.heap.size w w') => cloneN_any (.slice A1 ns.length c1) ns w' ((hN.keep (below_keeps hb)).mono (by omega) (fun b h _ => Nat.lt_of_lt_of_le h hb.size)) hnl
  obtain ⟨nn, hnn⟩ : ∃ nn, nn = ns.length := ⟨_, rfl⟩
  obtain ⟨nm, hnm⟩ : ∃ nm, nm = is.length := ⟨_, rfl⟩
  rw [← hnn] at KN hnl ⊢
  rw [← hnm] at hI hil ⊢
  have HKN := Lib.hid KN
  have HNN := Lib.hid hnn
  have HNM := Lib.hid hnm
  have HI := Lib.hid hI
  have HX := Lib.hid hxs
  have HWs := Lib.hid hws
  obtain ⟨s, hst⟩ : ∃ s : ByteArray, s = ofL t := ⟨_, rfl⟩
  have Hst := Lib.hid hst
  rw [← hst]
  clear hN hI hxs hnn hnm hwt hws KN hst
  have hall : ∃ W, W = (((w.alloc (.cells #[.int .i64 k, .int .i64 n, .string s, .slice A1 nn c1, .slice A2 nm c2] 25)).alloc (.cells #[.int .i64 0, .int .i64 0, .string ⟨#[]⟩, .slice none 0 0, .slice none 0 0] 25)).alloc (.cells #[.int .i64 k, .int .i64 n, .string s, .slice A1 nn c1, .slice A2 nm c2] 25)) ∧
      JC W w.heap.size k n s (.slice A1 nn c1) (.slice A2 nm c2) ∧ JC W (w.heap.size + 1) 0 0 ⟨#[]⟩ (.slice none 0 0) (.slice none 0 0) ∧ JC W (w.heap.size + 1 + 1) k n s (.slice A1 nn c1) (.slice A2 nm c2) ∧ Below w.heap.size w W := by
    refine ⟨_, rfl, ?_, ?_, ?_, ?_⟩
    · exact (JC.below (show JC (w.alloc (.cells #[.int .i64 k, .int .i64 n, .string s, .slice A1 nn c1, .slice A2 nm c2] 25)) w.heap.size k n s (.slice A1 nn c1) (.slice A2 nm c2) from heap_alloc_new w _) ((Below.refl _ _).alloc (Nat.le_refl _) _)).below ((Below.refl _ _).alloc (Nat.le_refl _) _)
    · have := JC.new (w.alloc (.cells #[.int .i64 k, .int .i64 n, .string s, .slice A1 nn c1, .slice A2 nm c2] 25))
      rw [World.size_alloc] at this
      exact this.below ((Below.refl _ _).alloc (Nat.le_refl _) _)
    · have := heap_alloc_new ((w.alloc (.cells #[.int .i64 k, .int .i64 n, .string s, .slice A1 nn c1, .slice A2 nm c2] 25)).alloc (.cells #[.int .i64 0, .int .i64 0, .string ⟨#[]⟩, .slice none 0 0, .slice none 0 0] 25)) (.cells #[.int .i64 k, .int .i64 n, .string s, .slice A1 nn c1, .slice A2 nm c2] 25)
      rw [World.size_alloc, World.size_alloc] at this; exact this
    · exact (((Below.refl w.heap.size w).alloc (Nat.le_refl _) _).alloc (by simp) _).alloc (by simp; omega) _
  obtain ⟨w1, hw1, hj1, hj2, hj3, hb1⟩ := hall
  go_enter Tryz.func12, Tryz.ntmps12
  go_upto_region 2 with fail
  rw [← hw1]
  clear hw1
  generalize hva : w.heap.size + 1 = va at *
  generalize hvb : va + 1 = vb at *
  have HB1 := Lib.hid hb1
  have K := Lib.hid (HKN.out w1 hb1)
  have k3 := hj1.c3
  have z3 := hj3.lt
  go_wp2_with fail
  (with_reducible refine K.out.mono ?_); rintro e w2 ⟨A3, c3, rfl, hO2, hb2⟩
  have hR2 : RdP (fun b => w1.heap.size ≤ b) w2 1 (.slice A3 nn c3) nn (strs ns) := own_rdp hO2 (fun _ h => h)
  have hj1 := hj1.below hb2
  have hj2 := hj2.below hb2
  have hj3 := hj3.below hb2
  have p3 := hj3.c3
  have q3 := hj3.fz 3
  have hz2 : w1.heap.size ≤ w2.heap.size := hb2.size
  go_upto_region 3 with fail
  have hjA := hj3.set3 (.slice A3 nn c3)
  have htA := (Touch.refl (fun k => k = vb) w2).setCell (p := ⟨vb, 3, none⟩) rfl (.slice A3 nn c3)
  generalize w2.setCell ⟨vb, 3, none⟩ (.slice A3 nn c3) = wA at *
  have q4 := hjA.fz 4
  have p4 := hjA.c4
  clear p3 q3 hj3
  go_upto_region 4 with fail
  have hjB := hjA.set4 (.slice none 0 0)
  have htB := (Touch.refl (fun k => k = vb) wA).setCell (p := ⟨vb, 4, none⟩) rfl (.slice none 0 0)
  generalize wA.setCell ⟨vb, 4, none⟩ (.slice none 0 0) = w5 at *
  have htw := htA.trans htB
  have hne : ¬ w.heap.size = vb ∧ ¬ va = vb := by omega
  have hj1 := hj1.touch htw hne.1
  have hj2 := hj2.touch htw hne.2
  have hz5 : w2.heap.size ≤ w5.heap.size := htw.size
  have hB5 : Below w.heap.size w w5 := (HB1.out.trans (hb2.mono (by omega))).trans (htw.below (fun k hk e => by have e' : k = vb := e; omega) (by omega))
  have hNO : w5.ownsRow w1.heap.size 9 1 (.slice A3 nn c3) nn (strs ns) := own_touch hO2 htw (fun k hk e => by
    have h1 := (hO2.lt k hk).1
    have e' : k = vb := e
    omega)
  have HNO := Lib.hid hNO
  have hN5 : RdP (fun b => w.heap.size ≤ b ∧ b < w5.heap.size ∧ ¬ b = vb ∧ ¬ b = va) w5 1 (.slice A3 nn c3) nn (strs ns) := by
    have h1 := hR2.mono (Q := fun b => w.heap.size ≤ b ∧ b < w5.heap.size ∧ ¬ b = vb ∧ ¬ b = va) (by omega) (fun b hb hlt => by have h' : w1.heap.size ≤ b := hb; exact ⟨by omega, by omega, by omega, by omega⟩)
    exact h1.keep (touch_keeps htw (fun b hb e => hb.2.2.1 e))
  have r4 := hj1.c4
  have HJ2 := Lib.hid hj2
  have HJB := Lib.hid hjB
  have HB5 := Lib.hid hB5
  have HN5 := Lib.hid hN5
  have hzv : vb < w5.heap.size := hjB.lt
  clear hj1 hj2 hjA hjB hB5 hN5 hNO hO2 htA htB htw hb2 hR2 q4 p4 K k3
  go_upto_region 5 with fail
  go_loopw [15] (fun i wr => ∃ (m : Nat) (I : Value) (ys : List Value), m ≤ nm ∧ i = .int .i64 m ∧ JC wr vb k n s (.slice A3 nn c3) I ∧ wr.ownsRow w5.heap.size 25 5 I m ys ∧ Hid (RJs (fun b => w5.heap.size ≤ b ∧ ¬ I.ownBlock = some b) wr (is.take m) ys) ∧ Hid (Touch (fun k => k = vb) w5 wr)) (fun i _ => nm - (intOf i).toNat)
  case atStart => exact ⟨0, .slice none 0 0, [], Nat.zero_le _, rfl, HJB.out, World.ownsRow_nil _ _ _ _, by show RJs _ _ _ _; rw [List.take_zero, RJs], Touch.refl _ _⟩
  case round =>
    obtain ⟨m, I, ys, hm, rfl, hJ, hO, hRJ, hT⟩ := hrel
    have hzr : w5.heap.size ≤ wr.heap.size := hT.out.size
    have hBr : Below w.heap.size w wr := HB5.out.trans (hT.out.below (fun k hk e => by have e' : k = vb := e; omega) (by omega))
    have HJ := Lib.hid hJ
    have HO := Lib.hid hO
    clear hJ hO
    by_cases hlt : m < nm
    · have hlt' : m < is.length := by rw [← HNM.out]; exact hlt
      obtain ⟨x, hx⟩ : ∃ x, is[m]? = some x := ⟨_, List.getElem?_eq_getElem hlt'⟩
      have hxm : x ∈ is := List.mem_of_getElem? hx
      obtain ⟨ba, oa, ca, Nx, Qx, eI, _, hRx, j0, j1, j2, j3, j4⟩ := (show RdP (fun b => b < w.heap.size) wr 5 (.slice A2 nm c2) is.length xs by have := HI.out.keep (below_keeps hBr); rw [HNM.out] at this ⊢; exact this).jsonAt (RJs.keep (below_keeps hBr) HX.out) hx
      simp only [Value.slice.injEq] at eI
      obtain ⟨rfl, hjunk, rfl⟩ := eI
      obtain ⟨⟨A5, m5, c5, rfl⟩, A6, m6, c6, rfl⟩ := rj_slices hRx
      have htk : is.take (m + 1) = is.take m ++ [x] := by rw [List.take_add_one, hx]; rfl
      have Htk := Lib.hid htk
      have HRx := Lib.hid hRx
      have HBr := Lib.hid hBr
      have hb6 := (Below.refl wr.heap.size wr).alloc (Nat.le_refl _) (.cells #[.int .i64 x.kind, .int .i64 x.int, .string (ofL x.text), .slice A5 m5 c5, .slice A6 m6 c6] 25)
      have hk6 : (wr.alloc (.cells #[.int .i64 x.kind, .int .i64 x.int, .string (ofL x.text), .slice A5 m5 c5, .slice A6 m6 c6] 25)).heap[wr.heap.size]? = some (.cells #[.int .i64 x.kind, .int .i64 x.int, .string (ofL x.text), .slice A5 m5 c5, .slice A6 m6 c6] 25 (0, 0)) := heap_alloc_new wr _
      clear hjunk hx htk hRx hBr hlt'
      go_upto_region 7 with fail
      generalize wr.alloc (.cells #[.int .i64 x.kind, .int .i64 x.int, .string (ofL x.text), .slice A5 m5 c5, .slice A6 m6 c6] 25) = w6 at *
      obtain ⟨f0, f1, f2, f3, f4, hz6⟩ := box5b hk6
      have hJ6 := HJ.out.below hb6
      have kd := hJ6.c4
      have hd := (Below.refl w6.heap.size w6).drew
      have hzw : w.heap.size ≤ wr.heap.size := HBr.out.size
      have K := Lib.hid (ih x hxm (HWs.out x hxm) _ _ w6.drew (RJ.mono (fun b h _ => by have h' : b < w.heap.size := h; have := hd.size; show b < w6.drew.heap.size; omega) _ _ ((HRx.out.below hb6).below hd)))
      have HJ6 := Lib.hid hJ6
      have HO6 := Lib.hid (own_below HO.out hb6)
      have HB6 := Lib.hid hb6
      have hlt5 : vb < w5.heap.size := hzv
      have hmx : m ≤ 1048576 := by omega
      clear hk6 hJ6 hb6
      go_region_law (first | (go_simp; go_at_call 12; (with_reducible refine K.out.mono ?_); rintro e w7 ⟨A7, m7, c7, A8, m8, c8, rfl, hR7, hb7⟩; have hj7 := (HJ6.out.below hd).below hb7; have k7 := hj7.c4; have k7a := keeps_alloc k7 (.cells #[.int .i64 x.kind, .int .i64 x.int, .string (ofL x.text), .slice A7 m7 c7, .slice A8 m8 c8] 25); have ho7 := own_below (own_below HO6.out hd) hb7; have hz7 : w6.heap.size ≤ w7.heap.size := Nat.le_trans hd.size hb7.size) | (refine step_pushAt (by rfl) _ _ _ (by rfl) w5.heap.size rowJ _ _ _ (by rfl) ho7 [.int .i64 x.kind, .int .i64 x.int, .string (ofL x.text), .slice A7 m7 c7, .slice A8 m8 c8] _ (by rfl) (by simp) rfl (one_json hR7) (by omega) (by omega) ?_; intro v10 w10 hO10 hT10 hL10; obtain ⟨A10, c10, rfl⟩ := (rd_of_own hO10).shape; have hj10 := hj7.touch hT10 (row_nb ho7 hlt5); have k10 := hj10.c4; have f10 := hj10.fz 4))
      all_goals
        have hTs : Touch (fun k => I.ownBlock = some k ∨ k = vb) w7 (w10.setCell ⟨vb, 4, none⟩ (.slice A10 (m + 1) c10)) :=
          (hT10.mono fun k _ h => .inl h).setCell (p := ⟨vb, 4, none⟩) (.inr rfl) _
        have hIb := fun k hk => (HO6.out.lt k hk).2
        have hIc := fun k hk => (HO.out.lt k hk)
        have hBa : Below wr.heap.size wr w7 := (HB6.out.trans (hd.mono (Nat.le_of_lt hz6))).trans (hb7.mono (Nat.le_trans (Nat.le_of_lt hz6) hd.size))
        have HJz := Lib.hid (hj10.set4 (.slice A10 (m + 1) c10))
        have HOz := Lib.hid (own_touch hO10 ((Touch.refl (fun k => k = vb) w10).setCell (p := ⟨vb, 4, none⟩) rfl (.slice A10 (m + 1) c10)) (row_ne hO10 hlt5))
        have hOld := RJs.keep (touch_keeps hTs (fun b hb e => by
          rcases e with e | e
          · exact hb.2.1 e
          · have := hb.1; omega)) (RJs.mono (Q := fun b => w5.heap.size ≤ b ∧ ¬ I.ownBlock = some b ∧ ¬ (Value.slice A10 (m + 1) c10).ownBlock = some b) (fun b hb _ => hb) (RJs.below (RJs.mono (Q := fun b => w5.heap.size ≤ b ∧ ¬ I.ownBlock = some b ∧ ¬ (Value.slice A10 (m + 1) c10).ownBlock = some b) (fun b hb hlt => ⟨hb.1, hb.2, fun e => by
            rcases hL10 b e with h | h
            · exact hb.2 h
            · omega⟩) hRJ.out) hBa))
        have hNew := RJ.keep (touch_keeps hTs (fun b hb e => by
          rcases e with e | e
          · exact hb.2.2 e
          · have := hb.1; omega)) _ _ (RJ.mono (Q := fun b => w5.heap.size ≤ b ∧ ¬ (Value.slice A10 (m + 1) c10).ownBlock = some b ∧ ¬ I.ownBlock = some b) (fun b hb hlt => by
            have h1 : w6.drew.heap.size ≤ b := hb
            have h2 := hd.size
            refine ⟨by omega, fun e => ?_, fun e => by have := hIb b e; omega⟩
            rcases hL10 b e with h | h
            · have := hIb b h; omega
            · omega) _ _ hR7)
        have HRz := Lib.hid (RJs.snoc (RJ.mono (Q := fun b => w5.heap.size ≤ b ∧ ¬ (Value.slice A10 (m + 1) c10).ownBlock = some b) (fun b hb _ => ⟨hb.1, hb.2.1⟩) _ _ hNew) (RJs.mono (Q := fun b => w5.heap.size ≤ b ∧ ¬ (Value.slice A10 (m + 1) c10).ownBlock = some b) (fun b hb _ => ⟨hb.1, hb.2.2⟩) hOld))
        have HTz := Lib.hid (hT.out.under ((Touch.of_below hBa).trans hTs) (fun k hk h => by
          rcases h with h | h
          · have := (hIc k h).1; omega
          · exact h))
        clear hTs hOld hNew hj10 k10 f10 hO10 hT10 hL10 k7 k7a hj7 ho7 hR7 hb7 hBa
        generalize w10.setCell ⟨vb, 4, none⟩ (.slice A10 (m + 1) c10) = wz at *
        go_wp2_with fail
        exact ⟨⟨m + 1, .slice A10 (m + 1) c10, _, by omega, by go_num, HJz.out, HOz.out, by rw [Htk.out]; exact HRz, HTz⟩, by simp [intOf]; omega⟩
    · have hmn : m = nm := by omega
      subst hmn
      have htk : is.take m = is := List.take_of_length_le (by rw [HNM.out]; exact Nat.le_refl _)
      obtain ⟨A9, c9, rfl⟩ := (rd_of_own HO.out).shape
      have hja := HJ2.out.touch hT.out hne.2
      have k0 := HJ.out.c0
      have k1 := HJ.out.c1
      have k2 := HJ.out.c2
      have k3 := HJ.out.c3
      have k4 := HJ.out.c4
      have p0 := hja.c0
      have p1 := hja.c1
      have p2 := hja.c2
      have p3 := hja.c3
      have p4 := hja.c4
      have g0 := hja.fz 0
      have g1 := hja.fz 1
      have g2 := hja.fz 2
      have g3 := hja.fz 3
      have g4 := hja.fz 4
      have hva5 : va < w5.heap.size := by omega
      have hjp := hja.put k n s (.slice A3 nn c3) (.slice A9 m c9)
      have htp : Touch (fun k => k = va) wr (putJ wr va k n s (.slice A3 nn c3) (.slice A9 m c9)) :=
        (((((Touch.refl (fun k => k = va) wr).setCell (p := ⟨va, 0, none⟩) rfl _).setCell (p := ⟨va, 1, none⟩) rfl _).setCell (p := ⟨va, 2, none⟩) rfl _).setCell (p := ⟨va, 3, none⟩) rfl _).setCell (p := ⟨va, 4, none⟩) rfl _
      have hwzf : ∀ wz, Touch (fun k => k = va) wr wz → wz.ownsRow w.heap.size 9 1 (.slice A3 nn c3) nn (strs ns) ∧ wz.ownsRow w5.heap.size 25 5 (.slice A9 m c9) m ys ∧ RJs (fun b => w5.heap.size ≤ b ∧ ¬ (Value.slice A9 m c9).ownBlock = some b) wz is ys := fun wz hz => by
        have g0 := own_touch (own_touch HNO.out hT.out (fun k hk e => by
          have h1 := (HNO.out.lt k hk).1
          have e' : k = vb := e
          omega)) hz (fun k hk e => by
          have h1 := (HNO.out.lt k hk).1
          have e' : k = va := e
          omega)
        refine ⟨own_base g0 (by have := HB1.out.size; omega), own_touch HO.out hz (fun k hk e => by
          have h1 := (HO.out.lt k hk).1
          have e' : k = va := e
          omega), ?_⟩
        have h4 := hRJ.out
        rw [htk] at h4
        exact RJs.keep (touch_keeps hz (fun b hb e => by have := hb.1; omega)) h4
      have hRfin := hwzf _ htp
      have hNlt : ∀ b, (Value.slice A3 nn c3).ownBlock = some b → b < w5.heap.size := fun b hb => (HNO.out.lt b hb).2
      have HNl := Lib.hid hNlt
      clear hwzf
      have hBfin : Below w.heap.size w (putJ wr va k n s (.slice A3 nn c3) (.slice A9 m c9)) := hBr.trans (htp.below (fun k hk e => by have e' : k = va := e; omega) (by have := hBr.size; exact this))
      have HRf := Lib.hid hRfin
      have HBf := Lib.hid hBfin
      have HJp := Lib.hid hjp
      have hw5 : w.heap.size ≤ w5.heap.size := HB5.out.size
      have Hw5 := Lib.hid hw5
      clear hRfin hBfin hjp htp htk hja hBr hNlt hw5
      go_wp2_with fail
      have q0 := HJp.out.c0
      have q1 := HJp.out.c1
      have q2 := HJp.out.c2
      have q3 := HJp.out.c3
      have q4 := HJp.out.c4
      refine bodyPost_ret (v := .agg #[.int .i64 k, .int .i64 n, .string s, .slice A3 nn c3, .slice A9 m c9]) (by simp [results, Tryz.results12, go_sem, q0, q1, q2, q3, q4]) rfl ?_
      obtain ⟨r1, r2, r3⟩ := HRf.out
      have hres : OwnS k n t ns is w (.returned (.agg #[.int .i64 k, .int .i64 n, .string s, .slice A3 nn c3, .slice A9 m c9])) (putJ wr va k n s (.slice A3 nn c3) (.slice A9 m c9)) := by
        unfold OwnS
        rw [← HNN.out, ← HNM.out]
        refine ⟨A3, c3, A9, c9, ys, w5.heap.size, by rw [Hst.out], r1, HNl.out, Hw5.out, r2, r3, HBf.out⟩
      exact hres
theorem OwnS.weak {k n : Int} {t : B} {ns : List B} {is : List J} {w w' : World} {e : Ending} (h : OwnS k n t ns is w e w') : OwnP (.mk k n t ns is) w e w' := by
  obtain ⟨A1, c1, A2, c2, ys, B, rfl, h1, h2, h3, h4, h5, h6⟩ := h
  refine ⟨A1, ns.length, c1, A2, is.length, c2, rfl, ?_, h6⟩
  exact rj_mk rfl rfl (own_rdp h1 (fun _ h => h)) (own_rdp h4 (fun b hb => by have hb' : B ≤ b := hb; show w.heap.size ≤ b; omega)) (RJs.mono (fun b hb _ => by have := hb.1; show w.heap.size ≤ b; omega) h5)
theorem own_step (k n : Int) (t : B) (ns : List B) (is : List J) (ih : ∀ x ∈ is, Own x) : Own (.mk k n t ns is) := fun hwt N I w hR => (own_stepS k n t ns is ih hwt N I w hR).mono fun e w' h => h.weak
theorem own_any (x : J) : Own x := J.ind (P := Own) (fun k n t ns is ih => own_step k n t ns is ih) x
/-- What own does, told sharply. -/
theorem own_anyS (k n : Int) (t : B) (ns : List B) (is : List J) (hwt : wtJ (.mk k n t ns is) ≤ 1048576) (N I : Value) (w : World) (hR : RJ (fun b => b < w.heap.size) w (.mk k n t ns is) [.int .i64 k, .int .i64 n, .string (ofL t), N, I]) :
    Calls Tryz.prog 12 #[.agg #[.int .i64 k, .int .i64 n, .string (ofL t), N, I]] w (OwnS k n t ns is w) := own_stepS k n t ns is (fun x _ => own_any x) hwt N I w hR
end Go.Proofs.YthkpbgpgcpkiiaaGreatDoor
