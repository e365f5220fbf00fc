/- The reference's Equal at two values that read alike. Conditions: none. -/
import Derived.Test.YthkpbgpgcpkiiaaGreatDoorJLawA
import Derived.Test.YthkpbgpgcpkiiaaGreatDoorJsonO
namespace Go.Proofs.YthkpbgpgcpkiiaaGreatDoor
open Go.RowKit
set_option linter.unusedVariables false
set_option linter.unusedSimpArgs false
set_option maxRecDepth 100000

theorem uMod (z : Int) (n : Nat) (n1 : 0 < n) (hn : n ≤ 1099511627776) : ∃ j : Nat, wrap64 ((IntKind.u64.wrap z).tmod (n : Int)) = j ∧ j < n := by
  have h0 : 0 ≤ IntKind.u64.wrap z := by unfold IntKind.wrap; simp [IntKind.bits, IntKind.signed]; omega
  obtain ⟨t, ht⟩ : ∃ t : Nat, IntKind.u64.wrap z = t := ⟨(IntKind.u64.wrap z).toNat, by omega⟩
  have hlt := Nat.mod_lt t n1
  refine ⟨t % n, ?_, hlt⟩
  rw [ht]
  have : ((t : Int)).tmod n = ((t % n : Nat) : Int) := by rw [Int.tmod_eq_emod_of_nonneg (by omega)]; rfl
  rw [this]
  unfold wrap64; omega
theorem ofL_app (a b : B) : ofL (a ++ b) = ofL a ++ ofL b := by rw [← ofL_toL (ofL a ++ ofL b), append_toL, toL_ofL, toL_ofL]
def Eql (x : J) : Prop := wtJ x ≤ 1048576 → ∀ (N I M Q : Value) (w : World), RJ (fun b => b < w.heap.size) w x [.int .i64 x.kind, .int .i64 x.int, .string (ofL x.text), N, I] → RJ (fun b => b < w.heap.size) w x [.int .i64 x.kind, .int .i64 x.int, .string (ofL x.text), M, Q] →
  Calls Tryz.prog 17 #[.agg #[.int .i64 x.kind, .int .i64 x.int, .string (ofL x.text), N, I], .agg #[.int .i64 x.kind, .int .i64 x.int, .string (ofL x.text), M, Q]] w fun e w' => e = .returned (.bool true) ∧ Below w.heap.size w w'
set_option maxHeartbeats 16000000 in
theorem eql_step (k n : Int) (t : B) (ns : List B) (is : List J) (ih : ∀ x ∈ is, Eql x) : Eql (.mk k n t ns is) := by
  intro hwt N I M Q w hR hR'
  simp only [J.kind, J.int, J.text] at hR hR' ⊢
  rw [RJ] at hR hR'
  obtain ⟨N', I', e, hN, xs, hI, hxs⟩ := hR
  have e1 : N = N' ∧ I = I' := by simp at e; exact e
  obtain ⟨rfl, rfl⟩ := e1
  clear e
  obtain ⟨M', Q', e, hM, ys, hQ, hys⟩ := hR'
  have e1 : M = M' ∧ Q = Q' := by simp at e; exact e
  obtain ⟨rfl, rfl⟩ := e1
  clear e
  obtain ⟨A1, c1, rfl⟩ := hN.shape
  obtain ⟨A2, c2, rfl⟩ := hI.shape
  obtain ⟨A3, c3, rfl⟩ := hM.shape
  obtain ⟨A4, c4, rfl⟩ := hQ.shape
  have hws : ∀ x ∈ is, wtJ x ≤ 1048576 := fun x hx => by rw [wtJ] at hwt; have := wts_mem hx; omega
  have hil : is.length ≤ 1048576 := by rw [wtJ] at hwt; have := wts_len is; omega
  have hnl : ns.length ≤ 1048576 := by rw [wtJ] at hwt; omega
  have HWs := Lib.hid hws
  clear hws hwt
  obtain ⟨nn, hnn⟩ : ∃ nn, nn = ns.length := ⟨_, rfl⟩
  obtain ⟨nm, hnm⟩ : ∃ nm, nm = is.length := ⟨_, rfl⟩
  rw [← hnn] at hN hM hnl ⊢
  rw [← hnm] at hI hQ hil ⊢
  have HNN := Lib.hid hnn
  have HNM := Lib.hid hnm
  generalize ofL t = s
  have hb := ((Below.refl w.heap.size w).alloc (Nat.le_refl _) (.cells #[.int .i64 k, .int .i64 n, .string s, .slice A1 nn c1, .slice A2 nm c2] 25)).alloc (by simp) (.cells #[.int .i64 k, .int .i64 n, .string s, .slice A3 nn c3, .slice A4 nm c4] 25)
  have hk : ((w.alloc (.cells #[.int .i64 k, .int .i64 n, .string s, .slice A1 nn c1, .slice A2 nm c2] 25)).alloc (.cells #[.int .i64 k, .int .i64 n, .string s, .slice A3 nn c3, .slice A4 nm c4] 25)).heap[w.heap.size]? = some (.cells #[.int .i64 k, .int .i64 n, .string s, .slice A1 nn c1, .slice A2 nm c2] 25 (0, 0)) := by
    have h1 := heap_alloc_new w (.cells #[.int .i64 k, .int .i64 n, .string s, .slice A1 nn c1, .slice A2 nm c2] 25)
    have h2 := (Below.refl (w.alloc (.cells #[.int .i64 k, .int .i64 n, .string s, .slice A1 nn c1, .slice A2 nm c2] 25)).heap.size (w.alloc (.cells #[.int .i64 k, .int .i64 n, .string s, .slice A1 nn c1, .slice A2 nm c2] 25))).alloc (Nat.le_refl _) (.cells #[.int .i64 k, .int .i64 n, .string s, .slice A3 nn c3, .slice A4 nm c4] 25)
    rw [h2.block _ (by simp)]; exact h1
  have hk' : ((w.alloc (.cells #[.int .i64 k, .int .i64 n, .string s, .slice A1 nn c1, .slice A2 nm c2] 25)).alloc (.cells #[.int .i64 k, .int .i64 n, .string s, .slice A3 nn c3, .slice A4 nm c4] 25)).heap[w.heap.size + 1]? = some (.cells #[.int .i64 k, .int .i64 n, .string s, .slice A3 nn c3, .slice A4 nm c4] 25 (0, 0)) := by
    have h1 := heap_alloc_new (w.alloc (.cells #[.int .i64 k, .int .i64 n, .string s, .slice A1 nn c1, .slice A2 nm c2] 25)) (.cells #[.int .i64 k, .int .i64 n, .string s, .slice A3 nn c3, .slice A4 nm c4] 25)
    rw [World.size_alloc] at h1; exact h1
  have HN := Lib.hid hN
  have HI := Lib.hid hI
  have HX := Lib.hid hxs
  have HM := Lib.hid hM
  have HQ := Lib.hid hQ
  have HY := Lib.hid hys
  clear hN hI hxs hM hQ hys hnn hnm
  go_enter Tryz.func17, Tryz.ntmps17
  go_upto_region 1 with fail
  generalize (w.alloc (.cells #[.int .i64 k, .int .i64 n, .string s, .slice A1 nn c1, .slice A2 nm c2] 25)).alloc (.cells #[.int .i64 k, .int .i64 n, .string s, .slice A3 nn c3, .slice A4 nm c4] 25) = w1 at *
  obtain ⟨d0, d1, d2, d3, d4, hz1⟩ := box5 hk
  obtain ⟨g0, g1, g2, g3, g4, hz2⟩ := box5 hk'
  have HB := Lib.hid hb
  clear hb hk hk'
  have hfacts : ∀ (wx : World), Below w1.heap.size w1 wx → (wx.cell? ⟨w.heap.size, 3, none⟩ = some (.slice A1 nn c1) ∧ wx.cell? ⟨w.heap.size, 4, none⟩ = some (.slice A2 nm c2)) ∧ (wx.cell? ⟨w.heap.size + 1, 3, none⟩ = some (.slice A3 nn c3) ∧ wx.cell? ⟨w.heap.size + 1, 4, none⟩ = some (.slice A4 nm c4)) := fun wx h =>
    ⟨⟨Below.keeps h d3, Below.keeps h d4⟩, Below.keeps h g3, Below.keeps h g4⟩
  have Hf := Lib.hid hfacts
  clear hfacts
  go_upto_region 4 with fail
  clear d0 d1 d2 d3 d4 g0 g1 g2 g3 g4
  go_loopw [47] (fun i wr => ∃ m : Nat, m ≤ nn ∧ i = .int .i64 m ∧ Hid (Below w1.heap.size w1 wr)) (fun i _ => nn - (intOf i).toNat)
  case atStart => exact ⟨0, Nat.zero_le _, rfl, Below.refl _ _⟩
  case round =>
    obtain ⟨m, hm, rfl, hW⟩ := hrel
    obtain ⟨⟨d3, d4⟩, g3, g4⟩ := Hf.out wr hW.out
    have hBw := HB.out.next hW.out
    by_cases hlt : m < nn
    · have hlt' : m < ns.length := by rw [← HNN.out]; exact hlt
      obtain ⟨q, hq⟩ : ∃ q, ns[m]? = some q := ⟨_, List.getElem?_eq_getElem hlt'⟩
      obtain ⟨b1, o1, rfl, _, h1⟩ := (show RdP (fun b => b < w.heap.size) wr 1 (.slice A1 nn c1) ns.length (strs ns) by have := HN.out.keep (below_keeps hBw); rw [HNN.out] at this ⊢; exact this).strAt hq
      obtain ⟨b2, o2, rfl, _, h2⟩ := (show RdP (fun b => b < w.heap.size) wr 1 (.slice A3 nn c3) ns.length (strs ns) by have := HM.out.keep (below_keeps hBw); rw [HNN.out] at this ⊢; exact this).strAt hq
      have HBw := Lib.hid hBw
      clear hBw hlt' hq
      generalize ofL q = sq at *
      go_upto_region 6 with fail
      go_quiet (fail)
      have HW2 := Lib.hid (hW.out.next (below_drewN wr.heap.size wr nq))
      generalize wr.drewN nq = wq at *
      go_wp2_with fail
      exact ⟨⟨m + 1, by omega, by go_num, HW2⟩, by simp [intOf]; omega⟩
    · obtain ⟨wo, hwo⟩ : ∃ x, x = wr := ⟨_, rfl⟩
      subst hwo
      have HWo := Lib.hid hW.out
      clear hBw
      go_upto_region 10 with fail
      clear d3 d4 g3 g4 hW
      go_loopw [65] (fun i wr => ∃ m : Nat, m ≤ nm ∧ i = .int .i64 m ∧ Hid (Below w1.heap.size w1 wr)) (fun i _ => nm - (intOf i).toNat)
      case atStart => exact ⟨0, Nat.zero_le _, rfl, HWo.out⟩
      case round =>
        obtain ⟨q, hq, rfl, hW⟩ := hrel
        obtain ⟨⟨d3, d4⟩, g3, g4⟩ := Hf.out wr hW.out
        have hBw := HB.out.next hW.out
        by_cases hlt2 : q < nm
        · have hlt' : q < is.length := by rw [← HNM.out]; exact hlt2
          obtain ⟨x, hx⟩ : ∃ x, is[q]? = some x := ⟨_, List.getElem?_eq_getElem hlt'⟩
          have hxm : x ∈ is := List.mem_of_getElem? hx
          obtain ⟨ba, oa, ca, Nx, Qx, eI, _, hRx, j0, j1, j2, j3, j4⟩ := (show RdP (fun b => b < w.heap.size) wr 5 (.slice A2 nm c2) is.length xs by have := HI.out.keep (below_keeps hBw); rw [HNM.out] at this ⊢; exact this).jsonAt (RJs.keep (below_keeps hBw) HX.out) hx
          obtain ⟨bb, ob, cb, Nz, Qz, eJ, _, hRz, l0, l1, l2, l3, l4⟩ := (show RdP (fun b => b < w.heap.size) wr 5 (.slice A4 nm c4) is.length ys by have := HQ.out.keep (below_keeps hBw); rw [HNM.out] at this ⊢; exact this).jsonAt (RJs.keep (below_keeps hBw) HY.out) hx
          simp only [Value.slice.injEq] at eI eJ
          obtain ⟨rfl, hjunk, rfl⟩ := eI
          obtain ⟨rfl, hjunk2, rfl⟩ := eJ
          obtain ⟨⟨A5, m5, c5, rfl⟩, A6, m6, c6, rfl⟩ := rj_slices hRx
          obtain ⟨⟨A7, m7, c7, rfl⟩, A8, m8, c8, rfl⟩ := rj_slices hRz
          have hd := (Below.refl wr.heap.size wr).drew
          have hz : w.heap.size ≤ wr.heap.size := hBw.size
          have K := ih x hxm (HWs.out x hxm) _ _ _ _ wr.drew (RJ.mono (fun b h _ => Nat.lt_of_lt_of_le h (Nat.le_trans hz hd.size)) _ _ (hRx.below hd)) (RJ.mono (fun b h _ => Nat.lt_of_lt_of_le h (Nat.le_trans hz hd.size)) _ _ (hRz.below hd))
          have HWd := Lib.hid (hW.out.next hd)
          have K := Lib.hid K
          clear hjunk hjunk2 hRx hRz hBw hd hx hlt'
          generalize ofL x.text = sx at *
          go_upto_region 12 with fail
          go_still_tail 10, (by kernel_rfl)
          change wpList _ _ _ _ _ wr.drew
          go_wp2_with fail
          (with_reducible refine K.out.mono ?_); rintro e w6 ⟨rfl, hb6⟩
          have HW6 := Lib.hid (HWd.out.next hb6)
          clear hb6 K
          go_wp2_with fail
          exact ⟨⟨q + 1, by omega, by go_num, HW6⟩, by simp [intOf]; omega⟩
        · have HBw := Lib.hid hBw
          clear hBw
          go_wp2_with fail
          go_ret
          exact ⟨rfl, HBw.out⟩
theorem equal_any (x : J) : Eql x := J.ind (P := Eql) (fun k n t ns is ih => eql_step k n t ns is ih) x
end Go.Proofs.YthkpbgpgcpkiiaaGreatDoor
