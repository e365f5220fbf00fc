/- An object's item of a name (jsonx.Get). Conditions: the values are small. -/
import Derived.Test.YtigdjnfnkjfkmaaGreatDoorMsgW
namespace Go.Proofs.YtigdjnfnkjfkmaaGreatDoor
open Go.RowKit
set_option linter.unusedVariables false
set_option linter.unusedSimpArgs false
set_option maxRecDepth 100000

/-- What jsonx.Get answers. -/
def GetP (y : Option J) (w : World) (e : Ending) (w' : World) : Prop := ∃ A1 m1 c1 A2 m2 c2, e = .returned (.tuple #[.agg #[.int .i64 (y.getD J0).kind, .int .i64 (y.getD J0).int, .string (ofL (y.getD J0).text), .slice A1 m1 c1, .slice A2 m2 c2], .bool y.isSome]) ∧
  RJ (fun b => w.heap.size ≤ b) w' (y.getD J0) [.int .i64 (y.getD J0).kind, .int .i64 (y.getD J0).int, .string (ofL (y.getD J0).text), .slice A1 m1 c1, .slice A2 m2 c2] ∧ Below w.heap.size w w'
theorem getp_none {w w' : World} (hb : Below w.heap.size w w') : GetP none w (.returned (.tuple #[.agg #[.int .i64 0, .int .i64 0, .string ⟨#[]⟩, .slice none 0 0, .slice none 0 0], .bool false])) w' :=
  ⟨none, 0, 0, none, 0, 0, rfl, rj_plain 0 0 [], hb⟩
theorem getp_some {x : J} {w w' : World} {A1 A2 : Option Addr} {m1 c1 m2 c2 : Nat} (hR : RJ (fun b => w.heap.size ≤ b) w' x [.int .i64 x.kind, .int .i64 x.int, .string (ofL x.text), .slice A1 m1 c1, .slice A2 m2 c2]) (hb : Below w.heap.size w w') :
    GetP (some x) w (.returned (.tuple #[.agg #[.int .i64 x.kind, .int .i64 x.int, .string (ofL x.text), .slice A1 m1 c1, .slice A2 m2 c2], .bool true])) w' :=
  ⟨A1, m1, c1, A2, m2, c2, rfl, hR, hb⟩
theorem get_case {ns : List B} {is : List J} {s : B} {y : Option J} {r : Int} (hy : y = (if ns.idxOf s < ns.length then is[ns.idxOf s]? else none)) (hr : r = (if ns.idxOf s < ns.length then (ns.idxOf s : Int) else -1)) :
    (r < 0 → y = none) ∧ ∀ i : Nat, r = i → y = is[i]? := by
  by_cases h : ns.idxOf s < ns.length
  · rw [if_pos h] at hy hr
    refine ⟨fun h0 => by omega, fun i hi => ?_⟩
    have e : i = ns.idxOf s := by omega
    rw [hy, e]
  · rw [if_neg h] at hy hr
    exact ⟨fun _ => hy, fun i hi => by omega⟩
set_option maxHeartbeats 16000000 in
theorem jget_any (x : J) (N I : Value) (s : B) (w : World) (hR : RJ (fun b => b < w.heap.size) w x [.int .i64 x.kind, .int .i64 x.int, .string (ofL x.text), N, I]) (hwt : wtJ x ≤ 1048576) :
    Calls Tryz.prog 42 #[.agg #[.int .i64 x.kind, .int .i64 x.int, .string (ofL x.text), N, I], .string (ofL s)] w (GetP (getJ x s) w) := by
  obtain ⟨k, n, T, ns, is⟩ := x
  rw [RJ] at hR
  obtain ⟨N', I', e, hN, xs, hI, hxs⟩ := hR
  have e1 : N = N' ∧ I = I' := by
    simp only [List.cons.injEq, and_true] at e
    exact ⟨e.2.2.2.1, e.2.2.2.2⟩
  obtain ⟨rfl, rfl⟩ := e1
  clear e
  obtain ⟨A1, c1, rfl⟩ := hN.shape
  obtain ⟨A2, c2, rfl⟩ := hI.shape
  have hws : ∀ x ∈ is, wtJ x ≤ 1048576 := fun x hx => by rw [wtJ] at hwt; have := wts_mem hx; omega
  have hil : is.length ≤ 1048576 := by rw [wtJ] at hwt; have := wts_len is; omega
  have hnl : ns.length ≤ 1048576 := by rw [wtJ] at hwt; omega
  have KX := fun (w' : World) (hb : Below w.heap.size w w') => sindex_any ns (.slice A1 ns.length c1) s w' ((hN.keep (below_keeps hb)).mono (by omega) (fun b h _ => Nat.lt_of_lt_of_le h hb.size)) hnl
  show Calls Tryz.prog 42 #[.agg #[.int .i64 k, .int .i64 n, .string (ofL T), .slice A1 ns.length c1, .slice A2 is.length c2], .string (ofL s)] w (GetP (getJ (.mk k n T ns is) s) w)
  have hg : getJ (.mk k n T ns is) s = if k = 5 then (if ns.idxOf s < ns.length then is[ns.idxOf s]? else none) else none := rfl
  obtain ⟨y, hy⟩ : ∃ y, y = getJ (.mk k n T ns is) s := ⟨_, rfl⟩
  rw [hg] at hy
  rw [hg, ← hy]
  obtain ⟨r, hr⟩ : ∃ r : Int, r = (if ns.idxOf s < ns.length then (ns.idxOf s : Int) else -1) := ⟨_, rfl⟩
  rw [← hr] at KX
  obtain ⟨nn, hnn⟩ : ∃ nn, nn = ns.length := ⟨_, rfl⟩
  obtain ⟨nm, hnm⟩ : ∃ nm, nm = is.length := ⟨_, rfl⟩
  obtain ⟨t, ht⟩ : ∃ t : ByteArray, t = ofL T := ⟨_, rfl⟩
  rw [← hnn] at KX hnl ⊢
  rw [← hnm] at hI hil ⊢
  rw [← ht]
  have HKX := Lib.hid KX
  have HNM := Lib.hid hnm
  have HI := Lib.hid hI
  have HX := Lib.hid hxs
  have HWs := Lib.hid hws
  have HY := Lib.hid (fun h5 : k ≠ 5 => hy.trans (if_neg h5))
  have HY5 := Lib.hid (fun h5 : k = 5 => get_case (hy.trans (if_pos h5)) hr)
  clear hN hI hxs hnn hnm hwt hws KX hy hr hg ht
  have hall : ∃ W, W = ((w.alloc (.cells #[.int .i64 k, .int .i64 n, .string t, .slice A1 nn c1, .slice A2 nm c2] 49)).alloc (.cells #[.int .i64 0, .int .i64 0, .string ⟨#[]⟩, .slice none 0 0, .slice none 0 0] 49)) ∧
      JC W w.heap.size k n t (.slice A1 nn c1) (.slice A2 nm c2) ∧ JC W (w.heap.size + 1) 0 0 ⟨#[]⟩ (.slice none 0 0) (.slice none 0 0) ∧ Below w.heap.size w W := by
    refine ⟨_, rfl, ?_, ?_, ?_⟩
    · exact (JC.below (show JC (w.alloc (.cells #[.int .i64 k, .int .i64 n, .string t, .slice A1 nn c1, .slice A2 nm c2] 49)) w.heap.size k n t (.slice A1 nn c1) (.slice A2 nm c2) from heap_alloc_new w _) ((Below.refl _ _).alloc (Nat.le_refl _) _))
    · have := JC.new (w.alloc (.cells #[.int .i64 k, .int .i64 n, .string t, .slice A1 nn c1, .slice A2 nm c2] 49))
      rw [World.size_alloc] at this
      exact this
    · exact ((Below.refl w.heap.size w).alloc (Nat.le_refl _) _).alloc (by simp) _
  obtain ⟨w1, hw1, hj1, hj2, hb1⟩ := hall
  go_enter Tryz.func42, Tryz.ntmps42
  go_upto_region 1 with fail
  rw [← hw1]
  clear hw1
  generalize hva : w.heap.size + 1 = va at *
  have HB1 := Lib.hid hb1
  have k0 := hj1.c0
  have k3 := hj1.c3
  have k4 := hj1.c4
  have z3 := hj2.lt
  have hjp := hj2.put 0 0 ⟨#[]⟩ (.slice none 0 0) (.slice none 0 0)
  have htp : Touch (fun k => k = va) w1 (putJ w1 va 0 0 ⟨#[]⟩ (.slice none 0 0) (.slice none 0 0)) :=
    (((((Touch.refl (fun k => k = va) w1).setCell (p := ⟨va, 0, none⟩) rfl _).setCell (p := ⟨va, 1, none⟩) rfl _).setCell (p := ⟨va, 2, none⟩) rfl _).setCell (p := ⟨va, 3, none⟩) rfl _).setCell (p := ⟨va, 4, none⟩) rfl _
  have HPz := Lib.hid hjp
  have HBz := Lib.hid (hb1.trans (htp.below (fun k hk e => by have e' : k = va := e; omega) (by have := hb1.size; exact this)))
  have p0 := hj2.c0
  have p1 := hj2.c1
  have p2 := hj2.c2
  have p3 := hj2.c3
  have p4 := hj2.c4
  have g0 := hj2.fz 0
  have g1 := hj2.fz 1
  have g2 := hj2.fz 2
  have g3 := hj2.fz 3
  have g4 := hj2.fz 4
  have K := Lib.hid (HKX.out w1 hb1)
  have HJ2 := Lib.hid hj2
  clear hjp htp hb1 hj1 hj2
  by_cases hk : k = 5
  · obtain ⟨hya, hyb⟩ := HY5.out hk
    have HYa := Lib.hid hya
    have HYb := Lib.hid hyb
    clear hya hyb HY HY5
    subst hk
    go_wp2_with fail
    (with_reducible refine K.out.mono ?_); rintro e w2 ⟨rfl, rfl⟩
    by_cases hr0 : r < 0
    · have hyn : y = none := HYa.out hr0
      subst hyn
      go_wp2_with fail
      have q0 := HPz.out.c0
      have q1 := HPz.out.c1
      have q2 := HPz.out.c2
      have q3 := HPz.out.c3
      have q4 := HPz.out.c4
      refine bodyPost_ret (v := .tuple #[.agg #[.int .i64 0, .int .i64 0, .string ⟨#[]⟩, .slice none 0 0, .slice none 0 0], .bool false]) (by simp [results, Tryz.results42, go_sem, q0, q1, q2, q3, q4]) rfl ?_
      exact getp_none HBz.out
    · obtain ⟨i, rfl⟩ : ∃ i : Nat, r = i := ⟨r.toNat, by omega⟩
      have hyi : y = is[i]? := HYb.out i rfl
      have hr1 : ¬ (i : Int) < 0 := by omega
      clear hr0
      by_cases hin : i < nm
      · have hri : ¬ (i : Int) ≥ nm := by omega
        obtain ⟨x, hx⟩ : ∃ x, is[i]? = some x := ⟨_, List.getElem?_eq_getElem (by rw [← HNM.out]; exact hin)⟩
        rw [hx] at hyi
        subst hyi
        have hxm : x ∈ is := List.mem_of_getElem? hx
        obtain ⟨ba, oa, ca, Nx, Qx, eI, _, hRx, j0, j1, j2, j3, j4⟩ := (show RdP (fun b => b < w.heap.size) w2 5 (.slice A2 nm c2) is.length xs by have := HI.out.keep (below_keeps HB1.out); rw [HNM.out] at this ⊢; exact this).jsonAt (RJs.keep (below_keeps HB1.out) HX.out) hx
        simp only [Value.slice.injEq] at eI
        obtain ⟨rfl, hjunk, rfl⟩ := eI
        obtain ⟨⟨A5, m5, c5, rfl⟩, A6, m6, c6, rfl⟩ := rj_slices hRx
        have KO := Lib.hid (jown_any x (HWs.out x hxm) _ _ w2 (RJ.mono (fun b h _ => by have h' : b < w.heap.size := h; show b < w2.heap.size; omega) _ _ hRx))
        clear hjunk hx hRx
        go_wp2_with fail
        (with_reducible refine KO.out.mono ?_); rintro e w3 ⟨A7, m7, c7, A8, m8, c8, rfl, hR7, hb7⟩
        have hj7 := HJ2.out.below hb7
        have p0 := hj7.c0
        have p1 := hj7.c1
        have p2 := hj7.c2
        have p3 := hj7.c3
        have p4 := hj7.c4
        have g0 := hj7.fz 0
        have g1 := hj7.fz 1
        have g2 := hj7.fz 2
        have g3 := hj7.fz 3
        have g4 := hj7.fz 4
        have hz7 : w2.heap.size ≤ w3.heap.size := hb7.size
        have hjp := hj7.put x.kind x.int (ofL x.text) (.slice A7 m7 c7) (.slice A8 m8 c8)
        have htp : Touch (fun k => k = va) w3 (putJ w3 va x.kind x.int (ofL x.text) (.slice A7 m7 c7) (.slice A8 m8 c8)) :=
          (((((Touch.refl (fun k => k = va) w3).setCell (p := ⟨va, 0, none⟩) rfl _).setCell (p := ⟨va, 1, none⟩) rfl _).setCell (p := ⟨va, 2, none⟩) rfl _).setCell (p := ⟨va, 3, none⟩) rfl _).setCell (p := ⟨va, 4, none⟩) rfl _
        have HF := Lib.hid (getp_some (w := w) (RJ.mono (Q := fun b => w.heap.size ≤ b) (fun b hb _ => by have hb' : w2.heap.size ≤ b := hb; show w.heap.size ≤ b; omega) _ _ (RJ.keep (touch_keeps htp (fun b hb e => by have hb' : w2.heap.size ≤ b := hb; omega)) _ _ hR7)) ((HB1.out.trans (hb7.mono (by omega))).trans (htp.below (fun k hk e => by have e' : k = va := e; omega) (by omega))))
        have HJp := Lib.hid hjp
        clear hjp htp hR7 hb7 hj7 HPz HBz
        go_wp2_with fail
        have q0 := HJp.out.c0
        have q1 := HJp.out.c1
        have q2 := HJp.out.c2
        have q3 := HJp.out.c3
        have q4 := HJp.out.c4
        refine bodyPost_ret (v := .tuple #[.agg #[.int .i64 x.kind, .int .i64 x.int, .string (ofL x.text), .slice A7 m7 c7, .slice A8 m8 c8], .bool true]) (by simp [results, Tryz.results42, go_sem, q0, q1, q2, q3, q4]) rfl ?_
        exact HF.out
      · have hri : (i : Int) ≥ nm := by omega
        have hyn : y = none := by rw [hyi]; exact List.getElem?_eq_none (by rw [← HNM.out]; omega)
        subst hyn
        clear hyi
        go_wp2_with fail
        have q0 := HPz.out.c0
        have q1 := HPz.out.c1
        have q2 := HPz.out.c2
        have q3 := HPz.out.c3
        have q4 := HPz.out.c4
        refine bodyPost_ret (v := .tuple #[.agg #[.int .i64 0, .int .i64 0, .string ⟨#[]⟩, .slice none 0 0, .slice none 0 0], .bool false]) (by simp [results, Tryz.results42, go_sem, q0, q1, q2, q3, q4]) rfl ?_
        exact getp_none HBz.out
  · have hyn : y = none := HY.out hk
    subst hyn
    go_wp2_with fail
    have q0 := HPz.out.c0
    have q1 := HPz.out.c1
    have q2 := HPz.out.c2
    have q3 := HPz.out.c3
    have q4 := HPz.out.c4
    refine bodyPost_ret (v := .tuple #[.agg #[.int .i64 0, .int .i64 0, .string ⟨#[]⟩, .slice none 0 0, .slice none 0 0], .bool false]) (by simp [results, Tryz.results42, go_sem, q0, q1, q2, q3, q4]) rfl ?_
    exact getp_none HBz.out
end Go.Proofs.YtigdjnfnkjfkmaaGreatDoor
