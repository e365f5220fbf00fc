/- A value's own copy (jsonx.own), an object's item of a name (jsonx.Get). Conditions: the values are small. A number, a text, a list's items taken out of a value (msg's reader). Conditions: none. -/
import Derived.Test.YtigdjnfnkjfkmaaGreatDoorMsgV
import Derived.Test.YtigdjnfnkjfkmaaGreatDoorMsgA
import Derived.Test.YtigdjnfnkjfkmaaGreatDoorJLawC
namespace Go.Proofs.YtigdjnfnkjfkmaaGreatDoor
open Go.RowKit
set_option linter.unusedVariables false
set_option linter.unusedSimpArgs false
set_option maxRecDepth 100000

/-- What jsonx.own does. -/
def JOwn (x : J) : Prop := wtJ x ≤ 1048576 → ∀ (N I : Value) (w : World), RJ (fun b => b < w.heap.size) w x [.int .i64 x.kind, .int .i64 x.int, .string (ofL x.text), N, I] →
  Calls Tryz.prog 64 #[.agg #[.int .i64 x.kind, .int .i64 x.int, .string (ofL x.text), N, I]] w (OwnP x w)
set_option maxHeartbeats 16000000 in
theorem jown_step (k n : Int) (t : B) (ns : List B) (is : List J) (ih : ∀ x ∈ is, JOwn x) : JOwn (.mk k n t ns is) := by
  intro hwt N I w hR
  rw [RJ] at hR
  obtain ⟨N', I', e, hN, xs, hI, hxs⟩ := hR
  have e1 : N = N' ∧ I = I' := by
    simp only [List.cons.injEq, and_true] at e
    exact ⟨e.2.2.2.1, e.2.2.2.2⟩
  obtain ⟨rfl, rfl⟩ := e1
  clear e
  obtain ⟨A1, c1, rfl⟩ := hN.shape
  obtain ⟨A2, c2, rfl⟩ := hI.shape
  have hws : ∀ x ∈ is, wtJ x ≤ 1048576 := fun x hx => by rw [wtJ] at hwt; have := wts_mem hx; omega
  have hil : is.length ≤ 1048576 := by rw [wtJ] at hwt; have := wts_len is; omega
  have hnl : ns.length ≤ 1048576 := by rw [wtJ] at hwt; omega
  have KN := fun (w' : World) (hb : Below w.heap.size w w') => cloneN_any (.slice A1 ns.length c1) ns w' ((hN.keep (below_keeps hb)).mono (by omega) (fun b h _ => Nat.lt_of_lt_of_le h hb.size)) hnl
  show Calls Tryz.prog 64 #[.agg #[.int .i64 k, .int .i64 n, .string (ofL t), .slice A1 ns.length c1, .slice A2 is.length c2]] w (OwnP (.mk k n t ns is) w)
  obtain ⟨nn, hnn⟩ : ∃ nn, nn = ns.length := ⟨_, rfl⟩
  obtain ⟨nm, hnm⟩ : ∃ nm, nm = is.length := ⟨_, rfl⟩
  rw [← hnn] at KN hnl ⊢
  rw [← hnm] at hI hil ⊢
  have HKN := Lib.hid KN
  have HNN := Lib.hid hnn
  have HNM := Lib.hid hnm
  have HI := Lib.hid hI
  have HX := Lib.hid hxs
  have HWs := Lib.hid hws
  obtain ⟨s, hst⟩ : ∃ s : ByteArray, s = ofL t := ⟨_, rfl⟩
  have Hst := Lib.hid hst
  rw [← hst]
  clear hN hI hxs hnn hnm hwt hws KN hst
  have hall : ∃ W, W = ((w.alloc (.cells #[.int .i64 k, .int .i64 n, .string s, .slice A1 nn c1, .slice A2 nm c2] 49)).alloc (.cells #[.int .i64 0, .int .i64 0, .string ⟨#[]⟩, .slice none 0 0, .slice none 0 0] 49)) ∧
      JC W w.heap.size k n s (.slice A1 nn c1) (.slice A2 nm c2) ∧ JC W (w.heap.size + 1) 0 0 ⟨#[]⟩ (.slice none 0 0) (.slice none 0 0) ∧ Below w.heap.size w W := by
    refine ⟨_, rfl, ?_, ?_, ?_⟩
    · exact (JC.below (show JC (w.alloc (.cells #[.int .i64 k, .int .i64 n, .string s, .slice A1 nn c1, .slice A2 nm c2] 49)) w.heap.size k n s (.slice A1 nn c1) (.slice A2 nm c2) from heap_alloc_new w _) ((Below.refl _ _).alloc (Nat.le_refl _) _))
    · have := JC.new (w.alloc (.cells #[.int .i64 k, .int .i64 n, .string s, .slice A1 nn c1, .slice A2 nm c2] 49))
      rw [World.size_alloc] at this
      exact this
    · exact ((Below.refl w.heap.size w).alloc (Nat.le_refl _) _).alloc (by simp) _
  obtain ⟨w1, hw1, hj1, hj2, hb1⟩ := hall
  go_enter Tryz.func64, Tryz.ntmps64
  go_upto_region 1 with fail
  rw [← hw1]
  clear hw1
  generalize hva : w.heap.size + 1 = va at *
  have HB1 := Lib.hid hb1
  have K := Lib.hid (HKN.out w1 hb1)
  have k3 := hj1.c3
  have z3 := hj2.lt
  go_wp2_with fail
  (with_reducible refine K.out.mono ?_); rintro e w2 ⟨A3, c3, rfl, hO2, hb2⟩
  have hR2 : RdP (fun b => w1.heap.size ≤ b) w2 1 (.slice A3 nn c3) nn (strs ns) := own_rdp hO2 (fun _ h => h)
  have hj1 := hj1.below hb2
  have hj2 := hj2.below hb2
  have p3 := hj1.c3
  have q3 := hj1.fz 3
  have hz2 : w1.heap.size ≤ w2.heap.size := hb2.size
  clear k3
  go_upto_region 2 with fail
  have hjA := hj1.set3 (.slice A3 nn c3)
  have htA := (Touch.refl (fun k => k = w.heap.size) w2).setCell (p := ⟨w.heap.size, 3, none⟩) rfl (.slice A3 nn c3)
  generalize w2.setCell ⟨w.heap.size, 3, none⟩ (.slice A3 nn c3) = w5 at *
  have hj2 := hj2.touch htA (by omega)
  have hz5 : w2.heap.size ≤ w5.heap.size := htA.size
  have hB5 : Below w.heap.size w w5 := (HB1.out.trans (hb2.mono (by omega))).trans (htA.below (fun k hk e => by have e' : k = w.heap.size := e; omega) (by omega))
  have hN5 : RdP (fun b => w.heap.size ≤ b ∧ ¬ b = w.heap.size ∧ ¬ b = va ∧ b < w5.heap.size) w5 1 (.slice A3 nn c3) nn (strs ns) := by
    have h1 := hR2.mono (Q := fun b => w.heap.size ≤ b ∧ ¬ b = w.heap.size ∧ ¬ b = va ∧ b < w5.heap.size) (by omega) (fun b hb hlt => by have h' : w1.heap.size ≤ b := hb; exact ⟨by omega, by omega, by omega, by omega⟩)
    exact h1.keep (touch_keeps htA (fun b hb e => hb.2.1 e))
  have r4 := hjA.c4
  have HJ2 := Lib.hid hj2
  have HJA := Lib.hid hjA
  have HB5 := Lib.hid hB5
  have HN5 := Lib.hid hN5
  have hzv : va < w5.heap.size := hj2.lt
  clear hj1 hj2 hjA hB5 hN5 htA hb2 hR2 K hO2 p3 q3
  go_upto_region 4 with fail
  go_loopw [13, 3] (fun i lv wr => ∃ (m : Nat) (L : Value) (ys : List Value), m ≤ nm ∧ i = .int .i64 m ∧ L = lv ∧ wr.ownsRow w5.heap.size 49 5 L m ys ∧ Hid (RJs (fun b => w5.heap.size ≤ b ∧ ¬ L.ownBlock = some b) wr (is.take m) ys) ∧ Hid (Below w5.heap.size w5 wr)) (fun i _ _ => nm - (intOf i).toNat)
  case atStart => exact ⟨0, .slice none 0 0, [], Nat.zero_le _, rfl, rfl, World.ownsRow_nil _ _ _ _, by show RJs _ _ _ _; rw [List.take_zero, RJs], Below.refl _ _⟩
  case round =>
    obtain ⟨m, L, ys, hm, rfl, rfl, hO, hRJ, hT⟩ := hrel
    have hzr : w5.heap.size ≤ wr.heap.size := hT.out.size
    have hBr : Below w.heap.size w wr := HB5.out.trans (hT.out.mono (by have := HB5.out.size; exact this))
    have HO := Lib.hid hO
    clear hO
    by_cases hlt : m < nm
    · have hlt' : m < is.length := by rw [← HNM.out]; exact hlt
      obtain ⟨x, hx⟩ : ∃ x, is[m]? = some x := ⟨_, List.getElem?_eq_getElem hlt'⟩
      have hxm : x ∈ is := List.mem_of_getElem? hx
      obtain ⟨ba, oa, ca, Nx, Qx, eI, _, hRx, j0, j1, j2, j3, j4⟩ := (show RdP (fun b => b < w.heap.size) wr 5 (.slice A2 nm c2) is.length xs by have := HI.out.keep (below_keeps hBr); rw [HNM.out] at this ⊢; exact this).jsonAt (RJs.keep (below_keeps hBr) HX.out) hx
      simp only [Value.slice.injEq] at eI
      obtain ⟨rfl, hjunk, rfl⟩ := eI
      obtain ⟨⟨A5, m5, c5, rfl⟩, A6, m6, c6, rfl⟩ := rj_slices hRx
      have htk : is.take (m + 1) = is.take m ++ [x] := by rw [List.take_add_one, hx]; rfl
      have Htk := Lib.hid htk
      have HRx := Lib.hid hRx
      have HBr := Lib.hid hBr
      have hb6 := (Below.refl wr.heap.size wr).alloc (Nat.le_refl _) (.cells #[.int .i64 x.kind, .int .i64 x.int, .string (ofL x.text), .slice A5 m5 c5, .slice A6 m6 c6] 49)
      have hk6 : (wr.alloc (.cells #[.int .i64 x.kind, .int .i64 x.int, .string (ofL x.text), .slice A5 m5 c5, .slice A6 m6 c6] 49)).heap[wr.heap.size]? = some (.cells #[.int .i64 x.kind, .int .i64 x.int, .string (ofL x.text), .slice A5 m5 c5, .slice A6 m6 c6] 49 (0, 0)) := heap_alloc_new wr _
      clear hjunk hx htk hRx hBr hlt'
      go_upto_region 6 with fail
      generalize wr.alloc (.cells #[.int .i64 x.kind, .int .i64 x.int, .string (ofL x.text), .slice A5 m5 c5, .slice A6 m6 c6] 49) = w6 at *
      obtain ⟨f0, f1, f2, f3, f4, hz6⟩ := box5b hk6
      have hzw : w.heap.size ≤ wr.heap.size := HBr.out.size
      have K := Lib.hid (ih x hxm (HWs.out x hxm) _ _ w6 (RJ.mono (fun b h _ => by have h' : b < w.heap.size := h; show b < w6.heap.size; omega) _ _ (HRx.out.below hb6)))
      have HO6 := Lib.hid (own_below HO.out hb6)
      have HB6 := Lib.hid hb6
      have hmx : m ≤ 1048576 := by omega
      clear hk6 hb6
      go_wp2_with fail
      (with_reducible refine K.out.mono ?_); rintro e w7 ⟨A7, m7, c7, A8, m8, c8, rfl, hR7, hb7⟩
      have ho7 := own_below HO6.out hb7
      have hz7 : w6.heap.size ≤ w7.heap.size := hb7.size
      go_upto_region 7 with (at_builtin; refine wpList_pushL w7 (by rfl) _ _ _ (by rfl) w5.heap.size rowJ _ _ _ (by rfl) ho7 [.int .i64 x.kind, .int .i64 x.int, .string (ofL x.text), .slice A7 m7 c7, .slice A8 m8 c8] _ (by rfl) rfl rfl (one_json hR7) (by omega) (by omega) ?_; intro v10 wz hO10 hT10 hL10; obtain ⟨A10, c10, rfl⟩ := (rd_of_own hO10).shape)
      have hIb := fun k hk => (HO6.out.lt k hk).2
      have hIc := fun k hk => (HO.out.lt k hk)
      have hBa : Below wr.heap.size wr w7 := HB6.out.trans (hb7.mono (Nat.le_of_lt hz6))
      have HOz := Lib.hid hO10
      have hOld := RJs.keep (touch_keeps hT10 (fun b hb e => hb.2.1 e)) (RJs.mono (Q := fun b => w5.heap.size ≤ b ∧ ¬ L.ownBlock = some b ∧ ¬ (Value.slice A10 (m + 1) c10).ownBlock = some b) (fun b hb _ => hb) (RJs.below (RJs.mono (Q := fun b => w5.heap.size ≤ b ∧ ¬ L.ownBlock = some b ∧ ¬ (Value.slice A10 (m + 1) c10).ownBlock = some b) (fun b hb hlt => ⟨hb.1, hb.2, fun e => by
          rcases hL10 b e with h | h
          · exact hb.2 h
          · omega⟩) hRJ.out) hBa))
      have hNew := RJ.keep (touch_keeps hT10 (fun b hb e => hb.2.2 e)) _ _ (RJ.mono (Q := fun b => w5.heap.size ≤ b ∧ ¬ (Value.slice A10 (m + 1) c10).ownBlock = some b ∧ ¬ L.ownBlock = some b) (fun b hb hlt => by
          have h1 : w6.heap.size ≤ b := hb
          refine ⟨by omega, fun e => ?_, fun e => by have := hIb b e; omega⟩
          rcases hL10 b e with h | h
          · have := hIb b h; omega
          · omega) _ _ hR7)
      have HRz := Lib.hid (RJs.snoc (RJ.mono (Q := fun b => w5.heap.size ≤ b ∧ ¬ (Value.slice A10 (m + 1) c10).ownBlock = some b) (fun b hb _ => ⟨hb.1, hb.2.1⟩) _ _ hNew) (RJs.mono (Q := fun b => w5.heap.size ≤ b ∧ ¬ (Value.slice A10 (m + 1) c10).ownBlock = some b) (fun b hb _ => ⟨hb.1, hb.2.2⟩) hOld))
      have HTz := Lib.hid (hT.out.trans ((hBa.mono hzr).trans (hT10.below (fun k hk h => by have := (hIc k h).1; omega) (by omega))))
      clear hOld hNew hO10 hT10 hL10 ho7 hR7 hb7 hBa
      go_wp2_with fail
      exact ⟨⟨m + 1, .slice A10 (m + 1) c10, _, by omega, by go_num, rfl, HOz.out, by rw [Htk.out]; exact HRz, HTz⟩, by simp [intOf]; omega⟩
    · have hmn : m = nm := by omega
      subst hmn
      have htk : is.take m = is := List.take_of_length_le (by rw [HNM.out]; exact Nat.le_refl _)
      obtain ⟨A9, c9, rfl⟩ := (rd_of_own HO.out).shape
      have hjr := HJA.out.touch (Touch.of_below (F := fun _ => False) (hT.out.mono (Nat.le_refl _))) id
      have hja := HJ2.out.touch (Touch.of_below (F := fun _ => False) (hT.out.mono (Nat.le_refl _))) id
      have hjs := hjr.set4 (.slice A9 m c9)
      have hts := (Touch.refl (fun k => k = w.heap.size) wr).setCell (p := ⟨w.heap.size, 4, none⟩) rfl (.slice A9 m c9)
      have p4 := hjr.c4
      have g4 := hjr.fz 4
      have hjas := hja.touch hts (by omega)
      go_upto_region 9 with fail
      have hOs := own_touch HO.out hts (fun k hk e => by
          have h1 := (HO.out.lt k hk).1
          have e' : k = w.heap.size := e
          omega)
      have hRs := RJs.keep (touch_keeps hts (fun b hb e => by have := hb.1; omega)) hRJ.out
      have hNs := (HN5.out.keep (touch_keeps (Touch.of_below (F := fun _ => False) (hT.out.mono (Nat.le_refl _))) (fun _ _ e => e))).keep (touch_keeps hts (fun b hb e => hb.2.1 e))
      have hBs := hBr.trans (hts.below (fun k hk e => by have e' : k = w.heap.size := e; omega) hBr.size)
      generalize wr.setCell ⟨w.heap.size, 4, none⟩ (.slice A9 m c9) = ws at *
      have k0 := hjs.c0
      have k1 := hjs.c1
      have k2 := hjs.c2
      have k3 := hjs.c3
      have k4 := hjs.c4
      have p0 := hjas.c0
      have p1 := hjas.c1
      have p2 := hjas.c2
      have p3 := hjas.c3
      have p4 := hjas.c4
      have g0 := hjas.fz 0
      have g1 := hjas.fz 1
      have g2 := hjas.fz 2
      have g3 := hjas.fz 3
      have g4 := hjas.fz 4
      have hjp := hjas.put k n s (.slice A3 nn c3) (.slice A9 m c9)
      have htp : Touch (fun k => k = va) ws (putJ ws va k n s (.slice A3 nn c3) (.slice A9 m c9)) :=
        (((((Touch.refl (fun k => k = va) ws).setCell (p := ⟨va, 0, none⟩) rfl _).setCell (p := ⟨va, 1, none⟩) rfl _).setCell (p := ⟨va, 2, none⟩) rfl _).setCell (p := ⟨va, 3, none⟩) rfl _).setCell (p := ⟨va, 4, none⟩) rfl _
      have hRfin : RJ (fun b => w.heap.size ≤ b) (putJ ws va k n s (.slice A3 nn c3) (.slice A9 m c9)) (.mk k n t ns is) [.int .i64 k, .int .i64 n, .string s, .slice A3 nn c3, .slice A9 m c9] := by
        have hRR : RJ (fun b => w.heap.size ≤ b) (putJ ws va k n s (.slice A3 nn c3) (.slice A9 m c9)) (.mk k n t ns is) [.int .i64 k, .int .i64 n, .string (ofL t), .slice A3 nn c3, .slice A9 m c9] := by
         refine rj_mk (xs := ys) HNN.out HNM.out ?_ ?_ ?_
         · exact (hNs.keep (touch_keeps htp (fun b hb e => hb.2.2.1 e))).mono (by omega) (fun b hb _ => hb.1)
         · exact own_rdp (own_touch hOs htp (fun k hk e => by
            have h1 := (hOs.lt k hk).1
            have e' : k = va := e
            omega)) (fun b hb => by have hb' : w5.heap.size ≤ b := hb; omega)
         · rw [htk] at hRs
           exact RJs.mono (fun b hb _ => by have := hb.1; show w.heap.size ≤ b; omega) (RJs.keep (touch_keeps htp (fun b hb e => by have := hb.1; omega)) hRs)
        rw [← Hst.out] at hRR
        exact hRR
      have hBfin : Below w.heap.size w (putJ ws va k n s (.slice A3 nn c3) (.slice A9 m c9)) := hBs.trans (htp.below (fun k hk e => by have e' : k = va := e; omega) (by have := hBs.size; exact this))
      have HRf := Lib.hid hRfin
      have HBf := Lib.hid hBfin
      have HJp := Lib.hid hjp
      clear hRfin hBfin hjp htp htk hja hBr hjr hjs hts hjas hOs hRs hNs hBs
      go_wp2_with fail
      have q0 := HJp.out.c0
      have q1 := HJp.out.c1
      have q2 := HJp.out.c2
      have q3 := HJp.out.c3
      have q4 := HJp.out.c4
      refine bodyPost_ret (v := .agg #[.int .i64 k, .int .i64 n, .string s, .slice A3 nn c3, .slice A9 m c9]) (by simp [results, Tryz.results64, go_sem, q0, q1, q2, q3, q4]) rfl ?_
      have hres : OwnP (.mk k n t ns is) w (.returned (.agg #[.int .i64 k, .int .i64 n, .string s, .slice A3 nn c3, .slice A9 m c9])) (putJ ws va k n s (.slice A3 nn c3) (.slice A9 m c9)) := by
        have e1 : (J.mk k n t ns is).text = t := rfl
        unfold OwnP
        rw [e1, ← Hst.out]
        exact ⟨A3, nn, c3, A9, m, c9, rfl, HRf.out, HBf.out⟩
      exact hres
theorem jown_any (x : J) : JOwn x := J.ind (P := JOwn) (fun k n t ns is ih => jown_step k n t ns is ih) x
theorem idx_le {s : B} : ∀ {l : List B} {m : Nat}, l[m]? = some s → l.idxOf s ≤ m
  | [], m, h => by simp at h
  | a :: l, 0, h => by
    simp only [List.getElem?_cons_zero, Option.some.injEq] at h
    subst h; simp
  | a :: l, m + 1, h => by
    simp only [List.getElem?_cons_succ] at h
    have := idx_le h
    rw [List.idxOf_cons]
    cases (a == s)
    · show l.idxOf s + 1 ≤ m + 1; omega
    · exact Nat.zero_le _
set_option maxHeartbeats 4000000 in
theorem sindex_any (l : List B) (v : Value) (s : B) (w : World) (hR : RdP (fun b => b < w.heap.size) w 1 v l.length (strs l)) (hl : l.length ≤ 1048576) :
    Calls Tryz.prog 63 #[v, .string (ofL s)] w fun e w' => e = .returned (.int .i64 (if l.idxOf s < l.length then (l.idxOf s : Int) else -1)) ∧ w' = w := by
  obtain ⟨A, c, rfl⟩ := hR.shape
  obtain ⟨n, hn⟩ : ∃ n, n = l.length := ⟨_, rfl⟩
  rw [← hn] at hR hl
  have HN := Lib.hid hn
  have HR := Lib.hid hR
  obtain ⟨r, hr⟩ : ∃ r : Int, r = (if l.idxOf s < l.length then (l.idxOf s : Int) else -1) := ⟨_, rfl⟩
  rw [← hr, ← hn]
  have Hr := Lib.hid hr
  clear hn hR hr
  go_enter Tryz.func63, Tryz.ntmps63
  go_upto_region 2 with fail
  go_loopw [8] (fun i wr => ∃ m : Nat, m ≤ n ∧ i = .int .i64 m ∧ Hid (∀ j, j < m → l[j]? ≠ some s) ∧ w = wr) (fun i _ => n - (intOf i).toNat)
  case atStart => exact ⟨0, Nat.zero_le _, rfl, (fun j hj => by omega), rfl⟩
  case round =>
    obtain ⟨m, hm, rfl, hno, rfl⟩ := hrel
    by_cases hlt : m < n
    · obtain ⟨p, hp⟩ : ∃ p, l[m]? = some p := ⟨_, List.getElem?_eq_getElem (by rw [← HN.out]; exact hlt)⟩
      obtain ⟨b, o, rfl, hb, hc⟩ := (show RdP (fun b => b < w.heap.size) w 1 (.slice A n c) l.length (strs l) by have := HR.out; rw [HN.out] at this ⊢; exact this).strAt hp
      have Hp := Lib.hid hp
      clear hp
      by_cases he : s = p
      · have hub : ((ofL s).toList == (ofL p).toList) = true := by rw [he]; exact beq_self_eq_true _
        have hrm : r = m := by
          rw [Hr.out]
          have hlt2 : m < l.length := by rw [← HN.out]; exact hlt
          have hi : l.idxOf s = m := by
            have h1 : l.idxOf s < l.length := List.idxOf_lt_length_iff.2 (by rw [he]; exact List.mem_of_getElem? Hp.out)
            have h2 : l[l.idxOf s]? = some s := by rw [List.getElem?_eq_getElem h1, List.getElem_idxOf]
            rcases Nat.lt_trichotomy (l.idxOf s) m with h | h | h
            · exact absurd h2 (hno.out _ h)
            · exact h
            · have := idx_le (he ▸ Hp.out : l[m]? = some s); omega
          rw [hi, if_pos hlt2]
        have Hrm := Lib.hid hrm
        clear he hrm
        go_wp2_with fail
        go_ret
        exact ⟨ret_int Hrm.out.symm, rfl⟩
      · have hub : ((ofL s).toList == (ofL p).toList) = false := by rw [beq_eq_false_iff_ne, toL_ofL, toL_ofL]; exact he
        have hno' : Hid (∀ j, j < m + 1 → l[j]? ≠ some s) := fun j hj e => by
          rcases Nat.lt_or_ge j m with h | h
          · exact hno.out j h e
          · have : j = m := by omega
            subst this
            rw [Hp.out] at e
            exact he (Option.some.inj e).symm
        clear he hno
        go_wp2_with fail
        exact ⟨⟨m + 1, by omega, by go_num, hno', trivial⟩, by simp [intOf]; omega⟩
    · have hmn : m = n := by omega
      subst hmn
      have hrm : r = -1 := by
        rw [Hr.out, if_neg]
        intro h1
        have h2 : l[l.idxOf s]? = some s := by rw [List.getElem?_eq_getElem h1, List.getElem_idxOf]
        exact hno.out _ (by rw [HN.out]; exact h1) h2
      have Hrm := Lib.hid hrm
      clear hrm hno
      go_wp2_with fail
      go_ret
      exact ⟨ret_int Hrm.out.symm, rfl⟩
end Go.Proofs.YtigdjnfnkjfkmaaGreatDoor
namespace Go.Proofs.YtigdjnfnkjfkmaaGreatDoor
open Go.RowKit
set_option linter.unusedVariables false
set_option linter.unusedSimpArgs false
set_option maxRecDepth 100000

/-- A reader's cell: was one not as it must be? -/
def RB (w : World) (rb : Nat) (b : Bool) : Prop := w.heap[rb]? = some (.cells #[.bool b] 70 (0, 0))
theorem RB.c {w : World} {rb : Nat} {b : Bool} (h : RB w rb b) : w.cell? ⟨rb, 0, none⟩ = some (.bool b) := by rw [Lib.cell_of_heap h]; rfl
theorem RB.f {w : World} {rb : Nat} {b : Bool} (h : RB w rb b) : w.frozen? ⟨rb, 0, none⟩ = false := Lib.frozen_of_heap h 0
theorem RB.lt {w : World} {rb : Nat} {b : Bool} (h : RB w rb b) : rb < w.heap.size := (Array.getElem?_eq_some_iff.1 h).1
theorem RB.set {w : World} {rb : Nat} {b : Bool} (h : RB w rb b) (c : Bool) : RB (w.setCell ⟨rb, 0, none⟩ (.bool c)) rb c := by unfold RB; rw [heap_set_own h]; rfl
theorem RB.touch {F : Nat → Prop} {w w' : World} {rb : Nat} {b : Bool} (h : RB w rb b) (ht : Touch F w w') (hf : ¬ F rb) : RB w' rb b := by unfold RB; rw [ht.block rb h.lt hf]; exact h
theorem RB.below {w w' : World} {rb : Nat} {b : Bool} (h : RB w rb b) (hb : Below w.heap.size w w') : RB w' rb b := h.touch (.of_below (F := fun _ => False) hb) id
/-- What a reader's function answers: it may find that a value is not as it must be. -/
def RdrP (rb : Nat) (v : Value) (bad : Bool) (w : World) (e : Ending) (w' : World) : Prop := e = .returned v ∧ RB w' rb bad ∧ Touch (fun k => k = rb) w w'
set_option maxHeartbeats 4000000 in
theorem rnum_any (k n : Int) (t : ByteArray) (A1 : Option Addr) (m1 c1 : Nat) (A2 : Option Addr) (m2 c2 : Nat) (rb : Nat) (b : Bool) (w : World) (hR : RB w rb b) :
    Calls Tryz.prog 68 #[.pointer (some ⟨rb, 0, none⟩), .agg #[.int .i64 k, .int .i64 n, .string t, .slice A1 m1 c1, .slice A2 m2 c2]] w (RdrP rb (.int .i64 n) (b || !decide (k = 2)) w) := by
  (have hb1 := (Below.refl w.heap.size w).alloc (Nat.le_refl _) (.cells #[.int .i64 k, .int .i64 n, .string t, .slice A1 m1 c1, .slice A2 m2 c2] 49)); (have hk1 : JC (w.alloc (.cells #[.int .i64 k, .int .i64 n, .string t, .slice A1 m1 c1, .slice A2 m2 c2] 49)) w.heap.size k n t (.slice A1 m1 c1) (.slice A2 m2 c2) := heap_alloc_new w _); (have hR1 := hR.below hb1)
  go_enter Tryz.func68, Tryz.ntmps68
  go_upto_region 1 with fail
  (generalize w.alloc (.cells #[.int .i64 k, .int .i64 n, .string t, .slice A1 m1 c1, .slice A2 m2 c2] 49) = w1 at *); (have d0 := hk1.c0); (have d1 := hk1.c1); (have d2 := hk1.c2); (have d3 := hk1.c3); (have d4 := hk1.c4); (have r0 := hR1.c); (have rf := hR1.f); (have hne : ¬ w.heap.size = rb := by have := hR.lt; omega)
  cases b with
  | true =>
    go_upto_region 2 with fail
    (have hk2 := hk1.touch ((Touch.refl (fun k => k = rb) w1).setCell (p := ⟨rb, 0, none⟩) rfl (.bool true)) hne); (have HT := Lib.hid ((Touch.of_below (F := fun k => k = rb) hb1).trans ((Touch.refl (fun k => k = rb) w1).setCell (p := ⟨rb, 0, none⟩) rfl (.bool true)))); (have HS := Lib.hid (hR1.set true)); (generalize w1.setCell ⟨rb, 0, none⟩ (.bool true) = w2 at *); (have d0 := hk2.c0); (have d1 := hk2.c1); (have d2 := hk2.c2); (have d3 := hk2.c3); (have d4 := hk2.c4)
    clear hk1 hb1 hR1 hk2 r0 rf
    go_wp2_with fail
    go_ret
    exact ⟨rfl, HS.out, HT.out⟩
  | false =>
    go_upto_region 2 with fail
    (have hk2 := hk1.touch ((Touch.refl (fun k => k = rb) w1).setCell (p := ⟨rb, 0, none⟩) rfl (.bool (k != 2))) hne); (have HT := Lib.hid ((Touch.of_below (F := fun k => k = rb) hb1).trans ((Touch.refl (fun k => k = rb) w1).setCell (p := ⟨rb, 0, none⟩) rfl (.bool (k != 2))))); (have HS := Lib.hid (hR1.set (k != 2))); (generalize w1.setCell ⟨rb, 0, none⟩ (.bool (k != 2)) = w2 at *); (have d0 := hk2.c0); (have d1 := hk2.c1); (have d2 := hk2.c2); (have d3 := hk2.c3); (have d4 := hk2.c4)
    clear hk1 hb1 hR1 hk2 r0 rf
    have hkk : (false || !decide (k = 2)) = (k != 2) := by by_cases h : k = 2 <;> simp [h]
    rw [hkk]
    go_wp2_with fail
    go_ret
    exact ⟨rfl, HS.out, HT.out⟩
set_option maxHeartbeats 4000000 in
theorem rtxt_any (k n : Int) (t : ByteArray) (A1 : Option Addr) (m1 c1 : Nat) (A2 : Option Addr) (m2 c2 : Nat) (rb : Nat) (b : Bool) (w : World) (hR : RB w rb b) :
    Calls Tryz.prog 66 #[.pointer (some ⟨rb, 0, none⟩), .agg #[.int .i64 k, .int .i64 n, .string t, .slice A1 m1 c1, .slice A2 m2 c2]] w (RdrP rb (.string t) (b || !decide (k = 3)) w) := by
  (have hb1 := (Below.refl w.heap.size w).alloc (Nat.le_refl _) (.cells #[.int .i64 k, .int .i64 n, .string t, .slice A1 m1 c1, .slice A2 m2 c2] 49)); (have hk1 : JC (w.alloc (.cells #[.int .i64 k, .int .i64 n, .string t, .slice A1 m1 c1, .slice A2 m2 c2] 49)) w.heap.size k n t (.slice A1 m1 c1) (.slice A2 m2 c2) := heap_alloc_new w _); (have hR1 := hR.below hb1)
  go_enter Tryz.func66, Tryz.ntmps66
  go_upto_region 1 with fail
  (generalize w.alloc (.cells #[.int .i64 k, .int .i64 n, .string t, .slice A1 m1 c1, .slice A2 m2 c2] 49) = w1 at *); (have d0 := hk1.c0); (have d1 := hk1.c1); (have d2 := hk1.c2); (have d3 := hk1.c3); (have d4 := hk1.c4); (have r0 := hR1.c); (have rf := hR1.f); (have hne : ¬ w.heap.size = rb := by have := hR.lt; omega)
  cases b with
  | true =>
    go_upto_region 2 with fail
    (have hk2 := hk1.touch ((Touch.refl (fun k => k = rb) w1).setCell (p := ⟨rb, 0, none⟩) rfl (.bool true)) hne); (have HT := Lib.hid ((Touch.of_below (F := fun k => k = rb) hb1).trans ((Touch.refl (fun k => k = rb) w1).setCell (p := ⟨rb, 0, none⟩) rfl (.bool true)))); (have HS := Lib.hid (hR1.set true)); (generalize w1.setCell ⟨rb, 0, none⟩ (.bool true) = w2 at *); (have d0 := hk2.c0); (have d1 := hk2.c1); (have d2 := hk2.c2); (have d3 := hk2.c3); (have d4 := hk2.c4)
    clear hk1 hb1 hR1 hk2 r0 rf
    go_wp2_with fail
    go_ret
    exact ⟨rfl, HS.out, HT.out⟩
  | false =>
    go_upto_region 2 with fail
    (have hk2 := hk1.touch ((Touch.refl (fun k => k = rb) w1).setCell (p := ⟨rb, 0, none⟩) rfl (.bool (k != 3))) hne); (have HT := Lib.hid ((Touch.of_below (F := fun k => k = rb) hb1).trans ((Touch.refl (fun k => k = rb) w1).setCell (p := ⟨rb, 0, none⟩) rfl (.bool (k != 3))))); (have HS := Lib.hid (hR1.set (k != 3))); (generalize w1.setCell ⟨rb, 0, none⟩ (.bool (k != 3)) = w2 at *); (have d0 := hk2.c0); (have d1 := hk2.c1); (have d2 := hk2.c2); (have d3 := hk2.c3); (have d4 := hk2.c4)
    clear hk1 hb1 hR1 hk2 r0 rf
    have hkk : (false || !decide (k = 3)) = (k != 3) := by by_cases h : k = 3 <;> simp [h]
    rw [hkk]
    go_wp2_with fail
    go_ret
    exact ⟨rfl, HS.out, HT.out⟩
set_option maxHeartbeats 4000000 in
theorem ritems_any (k n : Int) (t : ByteArray) (A1 : Option Addr) (m1 c1 : Nat) (A2 : Option Addr) (m2 c2 : Nat) (rb : Nat) (b : Bool) (w : World) (hR : RB w rb b) :
    Calls Tryz.prog 67 #[.pointer (some ⟨rb, 0, none⟩), .agg #[.int .i64 k, .int .i64 n, .string t, .slice A1 m1 c1, .slice A2 m2 c2]] w (RdrP rb (.slice A2 m2 c2) (b || !decide (k = 4)) w) := by
  (have hb1 := (Below.refl w.heap.size w).alloc (Nat.le_refl _) (.cells #[.int .i64 k, .int .i64 n, .string t, .slice A1 m1 c1, .slice A2 m2 c2] 49)); (have hk1 : JC (w.alloc (.cells #[.int .i64 k, .int .i64 n, .string t, .slice A1 m1 c1, .slice A2 m2 c2] 49)) w.heap.size k n t (.slice A1 m1 c1) (.slice A2 m2 c2) := heap_alloc_new w _); (have hR1 := hR.below hb1)
  go_enter Tryz.func67, Tryz.ntmps67
  go_upto_region 1 with fail
  (generalize w.alloc (.cells #[.int .i64 k, .int .i64 n, .string t, .slice A1 m1 c1, .slice A2 m2 c2] 49) = w1 at *); (have d0 := hk1.c0); (have d1 := hk1.c1); (have d2 := hk1.c2); (have d3 := hk1.c3); (have d4 := hk1.c4); (have r0 := hR1.c); (have rf := hR1.f); (have hne : ¬ w.heap.size = rb := by have := hR.lt; omega)
  cases b with
  | true =>
    go_upto_region 2 with fail
    (have hk2 := hk1.touch ((Touch.refl (fun k => k = rb) w1).setCell (p := ⟨rb, 0, none⟩) rfl (.bool true)) hne); (have HT := Lib.hid ((Touch.of_below (F := fun k => k = rb) hb1).trans ((Touch.refl (fun k => k = rb) w1).setCell (p := ⟨rb, 0, none⟩) rfl (.bool true)))); (have HS := Lib.hid (hR1.set true)); (generalize w1.setCell ⟨rb, 0, none⟩ (.bool true) = w2 at *); (have d0 := hk2.c0); (have d1 := hk2.c1); (have d2 := hk2.c2); (have d3 := hk2.c3); (have d4 := hk2.c4)
    clear hk1 hb1 hR1 hk2 r0 rf
    go_wp2_with fail
    go_ret
    exact ⟨rfl, HS.out, HT.out⟩
  | false =>
    go_upto_region 2 with fail
    (have hk2 := hk1.touch ((Touch.refl (fun k => k = rb) w1).setCell (p := ⟨rb, 0, none⟩) rfl (.bool (k != 4))) hne); (have HT := Lib.hid ((Touch.of_below (F := fun k => k = rb) hb1).trans ((Touch.refl (fun k => k = rb) w1).setCell (p := ⟨rb, 0, none⟩) rfl (.bool (k != 4))))); (have HS := Lib.hid (hR1.set (k != 4))); (generalize w1.setCell ⟨rb, 0, none⟩ (.bool (k != 4)) = w2 at *); (have d0 := hk2.c0); (have d1 := hk2.c1); (have d2 := hk2.c2); (have d3 := hk2.c3); (have d4 := hk2.c4)
    clear hk1 hb1 hR1 hk2 r0 rf
    have hkk : (false || !decide (k = 4)) = (k != 4) := by by_cases h : k = 4 <;> simp [h]
    rw [hkk]
    go_wp2_with fail
    go_ret
    exact ⟨rfl, HS.out, HT.out⟩
end Go.Proofs.YtigdjnfnkjfkmaaGreatDoor
