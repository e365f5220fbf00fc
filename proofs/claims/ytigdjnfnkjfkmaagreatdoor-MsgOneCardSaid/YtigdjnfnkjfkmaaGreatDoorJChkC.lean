/- The first error of a value (jsonx.check, Check). Conditions: the value is small. (*strings.Builder).String: what it writes. Conditions: the builder holds a byte. The text of a value (jsonx.Print), are two values the same (jsonx.Same). Conditions: the values are small; the table of powers of ten. -/
import Derived.Test.YtigdjnfnkjfkmaaGreatDoorJChkB
import Derived.Test.YtigdjnfnkjfkmaaGreatDoorJPriC
import Derived.Lib.UnsafeStr
import Derived.Test.YtigdjnfnkjfkmaaGreatDoorJsonH
namespace Go.Proofs.YtigdjnfnkjfkmaaGreatDoor
open Go.RowKit
set_option linter.unusedVariables false
set_option linter.unusedSimpArgs false
set_option maxRecDepth 100000

def Chk (x : J) : Prop := ∀ (deep : Nat) (N I : Value) (w : World), deep ≤ 1000 → RJ (fun b => b < w.heap.size) w x [.int .i64 x.kind, .int .i64 x.int, .string (ofL x.text), N, I] → wtJ x ≤ 1048576 →
  Calls Tryz.prog 83 #[.agg #[.int .i64 x.kind, .int .i64 x.int, .string (ofL x.text), N, I], .int .i64 deep] w fun e w' => e = .returned (.int .i64 (checkJ deep x : Nat)) ∧ Below w.heap.size w w'
set_option maxHeartbeats 16000000 in
theorem chk_step (k n : Int) (t : B) (ns : List B) (is : List J) (ih : ∀ x ∈ is, Chk x) : Chk (.mk k n t ns is) := by
  intro deep N I w hdp hR hwt
  simp only [J.kind, J.int, J.text] at hR ⊢
  have hbl := blank_any k n (ofL t) ns is N I
  rw [toL_ofL] at hbl
  rw [RJ] at hR
  obtain ⟨N', I', e, hN, xs, hI, hxs⟩ := hR
  have e1 : N = N' ∧ I = I' := by simp at e; exact e
  obtain ⟨rfl, rfl⟩ := e1
  clear e
  obtain ⟨A1, c1, rfl⟩ := hN.shape
  obtain ⟨A2, c2, rfl⟩ := hI.shape
  have hws : ∀ x ∈ is, wtJ x ≤ 1048576 := fun x hx => by rw [wtJ] at hwt; have := wts_mem hx; omega
  have hil : is.length ≤ 1048576 := by rw [wtJ] at hwt; have := wts_len is; omega
  have hnl : ns.length ≤ 1048576 := by rw [wtJ] at hwt; omega
  have hsl : ∀ s ∈ ns, s.length ≤ 1048576 := fun s hs => by rw [wtJ] at hwt; have := sum_mem hs; omega
  have KB := Lib.hid (fun (w' : World) (hb : Below w.heap.size w w') => hbl w' (by
    rw [RJ]
    refine ⟨_, _, rfl, (hN.keep (below_keeps hb)).mono (by omega) (fun b h _ => Nat.lt_of_lt_of_le h hb.size), xs, (hI.keep (below_keeps hb)).mono (by omega) (fun b h _ => Nat.lt_of_lt_of_le h hb.size), ?_⟩
    exact RJs.mono (fun b h _ => Nat.lt_of_lt_of_le h hb.size) (RJs.keep (below_keeps hb) hxs)) hwt)
  obtain ⟨nn, hnn⟩ : ∃ nn, nn = ns.length := ⟨_, rfl⟩
  obtain ⟨nm, hnm⟩ : ∃ nm, nm = is.length := ⟨_, rfl⟩
  rw [← hnn] at hN KB hnl ⊢
  rw [← hnm] at hI KB hil ⊢
  have HNN := Lib.hid hnn
  have HNM := Lib.hid hnm
  have hb1 := (Below.refl w.heap.size w).alloc (Nat.le_refl _) (.cells #[.int .i64 k, .int .i64 n, .string (ofL t), .slice A1 nn c1, .slice A2 nm c2] 49)
  have hk1 : (w.alloc (.cells #[.int .i64 k, .int .i64 n, .string (ofL t), .slice A1 nn c1, .slice A2 nm c2] 49)).heap[w.heap.size]? = some (.cells #[.int .i64 k, .int .i64 n, .string (ofL t), .slice A1 nn c1, .slice A2 nm c2] 49 (0, 0)) := heap_alloc_new w _
  have HN := Lib.hid hN
  have HI := Lib.hid hI
  have HX := Lib.hid hxs
  have HW := Lib.hid hws
  have HSL := Lib.hid hsl
  clear hN hI hxs hnn hnm hbl hwt hws hsl
  have hmm := @run_makeMap Tryz.prog
  go_enter Tryz.func83, Tryz.ntmps83
  go_upto_region 1 with fail
  generalize w.alloc (.cells #[.int .i64 k, .int .i64 n, .string (ofL t), .slice A1 nn c1, .slice A2 nm c2] 49) = w1 at *
  have d0 : w1.cell? ⟨w.heap.size, 0, none⟩ = some (.int .i64 k) := by rw [Lib.cell_of_heap hk1]; rfl
  have d1 : w1.cell? ⟨w.heap.size, 1, none⟩ = some (.int .i64 n) := by rw [Lib.cell_of_heap hk1]; rfl
  have d2 : w1.cell? ⟨w.heap.size, 2, none⟩ = some (.string (ofL t)) := by rw [Lib.cell_of_heap hk1]; rfl
  have d3 : w1.cell? ⟨w.heap.size, 3, none⟩ = some (.slice A1 nn c1) := by rw [Lib.cell_of_heap hk1]; rfl
  have d4 : w1.cell? ⟨w.heap.size, 4, none⟩ = some (.slice A2 nm c2) := by rw [Lib.cell_of_heap hk1]; rfl
  have hz1 : w.heap.size < w1.heap.size := (Array.getElem?_eq_some_iff.1 hk1).1
  have HB := Lib.hid hb1
  clear hb1 hk1
  obtain ⟨bt, hbt⟩ : ∃ bt, bt = decide (k = 4 ∨ k = 5) := ⟨_, rfl⟩
  have hde : deeper k deep = if bt = true then deep + 1 else deep := by rw [hbt, deeper]; simp
  have HDe := Lib.hid hde
  have HBt := Lib.hid hbt
  clear hde hbt
  go_cut [18] (fun a wx => a = .bool bt ∧ w1 = wx)
  case first =>
    by_cases h4 : k = 4
    · have e : bt = true := by rw [HBt.out, h4]; decide
      subst h4
      go_wp2_with fail
      go_meet
      exact ⟨by rw [e], rfl⟩
    · by_cases h5 : k = 5
      · have e : bt = true := by rw [HBt.out, h5]; decide
        subst h5
        go_wp2_with fail
        go_meet
        exact ⟨by rw [e], rfl⟩
      · have e : bt = false := by rw [HBt.out]; simp [h4, h5]
        go_wp2_with fail
        go_meet
        exact ⟨by rw [e]; exact congrArg Value.bool (show (k == 4 || k == 5) = false by rw [beq_eq_false_iff_ne.2 h4, beq_eq_false_iff_ne.2 h5]; rfl), rfl⟩
  case rest =>
    obtain ⟨rfl, rfl⟩ := hcut
    obtain ⟨d, hd⟩ : ∃ d, d = deeper k deep := ⟨_, rfl⟩
    have hd1 : d ≤ 1001 := by rw [hd, HDe.out]; split <;> omega
    have hd2 := HDe.out
    rw [← hd] at hd2
    have Hd := Lib.hid hd
    clear hd
    go_upto_if 18 with fail
    go_cut [1] (fun a wx => a = .int .i64 d ∧ w1 = wx)
    case first =>
      cases bt with
      | true =>
        rw [if_pos rfl] at hd2
        go_wp2_with fail
        go_meet
        exact ⟨by rw [hd2]; go_num, rfl⟩
      | false =>
        rw [if_neg (by decide)] at hd2
        go_wp2_with fail
        go_meet
        exact ⟨by rw [hd2], rfl⟩
    case rest =>
      obtain ⟨rfl, rfl⟩ := hcut
      clear hd2
      go_upto_region 3 with fail
      by_cases h16 : 16 < d
      · have hc : checkJ deep (.mk k n t ns is) = 41 := by rw [checkJ, if_pos (by rw [← Hd.out]; exact h16)]
        have hdi : (d : Int) > 16 := by omega
        go_wp2_with fail
        go_ret
        exact ⟨by rw [hc]; rfl, HB.out⟩
      have hdi : ¬ (d : Int) > 16 := by omega
      go_upto_region 5 with fail
      cases hbl : blankJ (.mk k n t ns is) with
      | false =>
        have hc : checkJ deep (.mk k n t ns is) = 1 := by rw [checkJ, if_neg (by rw [← Hd.out]; exact h16), if_pos hbl]
        rw [hbl] at KB
        go_wp2_with fail
        (with_reducible refine (KB.out _ HB.out).mono ?_); rintro e w2 ⟨rfl, hb2⟩
        have HB2 := Lib.hid (HB.out.next hb2)
        clear hb2 KB
        go_wp2_with fail
        go_ret
        exact ⟨by rw [hc]; rfl, HB2.out⟩
      | true =>
        rw [hbl] at KB
        go_wp2_with fail
        (with_reducible refine (KB.out _ HB.out).mono ?_); rintro e w2 ⟨rfl, hb2⟩
        have HB2 := Lib.hid (HB.out.next hb2)
        have e3 := Below.keeps hb2 d3
        have e4 := Below.keeps hb2 d4
        have hz2 := hb2.size
        have HBl := Lib.hid hbl
        clear hb2 KB d0 d1 d2 d3 d4 hbl
        have hb3 := (Below.refl w2.heap.size w2).alloc (Nat.le_refl _) (.map #[] 0)
        have hs3 := Seen.made w2
        go_upto_region 8 with fail
        generalize w2.alloc (.map #[] 0) = w3 at *
        have hm3 : w2.heap.size < w3.heap.size := by
          obtain ⟨_, _, h, _⟩ := hs3
          exact World.ownsMap.lt h
        have HB3 := Lib.hid hb3
        have g3 := Below.keeps hb3 e3
        have g4 := Below.keeps hb3 e4
        have hfin : ∀ wx, Touch (fun k => k = w2.heap.size) w3 wx → Below w.heap.size w wx := fun wx h =>
          (HB2.out.trans (hb3.mono HB2.out.size)).trans (h.below (fun k hk e => by have e' : k = w2.heap.size := e; omega) (by omega))
        have Hfin := Lib.hid hfin
        clear hb3 e3 e4 hfin
        go_upto_region 9 with fail
        go_loopw [30] (fun i wr => ∃ m : Nat, m ≤ nn ∧ i = .int .i64 m ∧ Seen wr w2.heap.size (ns.take m) ∧ Hid ((ns.take m).Nodup) ∧ Touch (fun k => k = w2.heap.size) w3 wr) (fun i _ => nn - (intOf i).toNat)
        case atStart => exact ⟨0, Nat.zero_le _, rfl, hs3, .nil, Touch.refl _ _⟩
        case round =>
          obtain ⟨m, hm, rfl, hS, hD, hT⟩ := hrel
          have HS := Lib.hid hS
          have HT := Lib.hid hT
          clear hS hT hs3
          have hP : ∀ (q o : Nat) (u : Value), q < w.heap.size → w.cell? ⟨q, o, none⟩ = some u → wr.cell? ⟨q, o, none⟩ = some u := fun q o u hq hc => by
            have h3 := Below.keeps HB3.out (Below.keeps HB2.out hc)
            rw [HT.out.cell (p := ⟨q, o, none⟩) (lt_of_cell h3) (fun e => by have e' : q = w2.heap.size := e; omega)]; exact h3
          by_cases hlt : m < nn
          · have hlt' : m < ns.length := by rw [← HNN.out]; exact hlt
            obtain ⟨s, hs⟩ : ∃ s, ns[m]? = some s := ⟨_, List.getElem?_eq_getElem hlt'⟩
            obtain ⟨bn, on, rfl, _, hcn⟩ := (show RdP (fun b => b < w.heap.size) wr 1 (.slice A1 nn c1) ns.length (strs ns) by have := HN.out.keep hP; rw [HNN.out] at this ⊢; exact this).strAt hs
            have hsm := HSL.out s (List.mem_of_getElem? hs)
            have htk : ns.take (m + 1) = ns.take m ++ [s] := by rw [List.take_add_one, hs]; rfl
            obtain ⟨mn, D, hMD, hmn, hTl⟩ := HS.out
            have hkey := key_of s hsm
            have HD := Lib.hid hMD
            have HTl := Lib.hid hTl
            have hmn2 : mn < maxLen := by rw [List.length_take] at hmn; unfold maxLen; omega
            have hmnl := Lib.hid hmn
            clear hMD hTl hP hmn
            by_cases hin : (ns.take m).contains s = true
            · have hc : checkJ deep (.mk k n t ns is) = 43 := by
                rw [checkJ, if_neg (by rw [← Hd.out]; exact h16), if_neg (by rw [HBl.out]; decide), if_pos]
                cases h2 : twiceL ns with
                | true => rfl
                | false =>
                  have hnd := (twice_nodup.1 h2).sublist (List.take_sublist (m + 1) ns)
                  rw [htk, List.nodup_append] at hnd
                  have := hnd.2.2 s (by simpa using hin) s (by simp)
                  exact absurd rfl this
              have hc1 : ∀ c : Int, D.atKey (.string s) (.lit (.int .i64 0)) = .lit (.int .i64 c) → c = 1 := fun c hc => by rw [tells_at HTl.out hc, if_pos hin]
              have Hc := Lib.hid hc
              clear hc hin htk hs hsm hlt'
              go_wp2_with (first
                | (at_lookup; refine wpList_lookup_own_int _ rfl _ _ 161 rfl 9 3 .i64 keyedS Tryz.underlying161 Tryz.underlying3 (zeroI _) w2.heap.size mn D rfl HD.out _ _ rfl hkey ?_; intro c hat hwc; obtain rfl := hc1 c hat)
                | (at_mapUpdate; refine wpList_mapUpdate_own _ rfl _ _ _ 161 rfl 9 3 keyedS Tryz.underlying161 _ w2.heap.size mn D rfl HD.out hmn2 _ _ _ rfl rfl hkey _ [] (plainElem_int Tryz.underlying3 (by decide)) ?_; intro w8 hown8 hgrow8; have ht8 := ((Touch.refl (fun k => k = w2.heap.size) wr).grown hgrow8 (fun k hk => by cases hk; rfl)))
                | (at_lookup; refine wpList_lookup_own_int _ rfl _ _ 161 rfl 9 3 .i64 keyedS Tryz.underlying161 Tryz.underlying3 (zeroI _) w2.heap.size (mn + 1) _ rfl hown8 _ _ rfl hkey ?_; intro c hat hwc; obtain rfl := put_at HD.out hat))
              go_ret
              exact ⟨by rw [Hc.out]; rfl, Hfin.out _ (HT.out.trans ht8)⟩
            · have hin' : (ns.take m).contains s = false := by simpa using hin
              have hc1 : ∀ c : Int, D.atKey (.string s) (.lit (.int .i64 0)) = .lit (.int .i64 c) → c = 0 := fun c hc => by rw [tells_at HTl.out hc, if_neg hin]
              have hTl2 := tells_put HD.out HTl.out hin'
              have HTl2 := Lib.hid hTl2
              have hnd : (ns.take (m + 1)).Nodup := by
                rw [htk, List.nodup_append]
                refine ⟨hD.out, by simp, fun a ha b hb e => ?_⟩
                rw [List.mem_singleton] at hb
                subst hb
                subst e
                exact hin (by simpa using ha)
              have Hnd := Lib.hid hnd
              have Htk := Lib.hid htk
              have hml : (ns.take m).length = m := by rw [List.length_take]; omega
              clear hin hin' hTl2 hnd htk hs hsm hlt' hml
              go_wp2_with (first
                | (at_lookup; refine wpList_lookup_own_int _ rfl _ _ 161 rfl 9 3 .i64 keyedS Tryz.underlying161 Tryz.underlying3 (zeroI _) w2.heap.size mn D rfl HD.out _ _ rfl hkey ?_; intro c hat hwc; obtain rfl := hc1 c hat)
                | (at_mapUpdate; refine wpList_mapUpdate_own _ rfl _ _ _ 161 rfl 9 3 keyedS Tryz.underlying161 _ w2.heap.size mn D rfl HD.out hmn2 _ _ _ rfl rfl hkey _ [] (plainElem_int Tryz.underlying3 (by decide)) ?_; intro w8 hown8 hgrow8; have ht8 := ((Touch.refl (fun k => k = w2.heap.size) wr).grown hgrow8 (fun k hk => by cases hk; rfl)))
                | (at_lookup; refine wpList_lookup_own_int _ rfl _ _ 161 rfl 9 3 .i64 keyedS Tryz.underlying161 Tryz.underlying3 (zeroI _) w2.heap.size (mn + 1) _ rfl hown8 _ _ rfl hkey ?_; intro c hat hwc; obtain rfl := put_at HD.out hat))
              refine ⟨⟨m + 1, by omega, by go_num, ⟨mn + 1, _, hown8, ?_, by rw [Htk.out]; exact HTl2.out⟩, Hnd, HT.out.trans ht8⟩, by simp [intOf]; omega⟩
              rw [Htk.out, List.length_append, List.length_singleton]
              have := hmnl.out; omega
          · have hnd : ns.Nodup := by have := hD.out; rw [List.take_of_length_le (by rw [← HNN.out]; omega)] at this; exact this
            have hcc : checkJ deep (.mk k n t ns is) = checksJ d is := by
              rw [checkJ, if_neg (by rw [← Hd.out]; exact h16), if_neg (by rw [HBl.out]; decide), if_neg (by rw [twice_nodup.2 hnd]; decide), ← Hd.out]
            have Hcc := Lib.hid hcc
            have h4 : wr.cell? ⟨w.heap.size, 4, none⟩ = some (.slice A2 nm c2) := by
              rw [HT.out.cell (p := ⟨w.heap.size, 4, none⟩) (lt_of_cell g4) (fun e => by have e' : w.heap.size = w2.heap.size := e; omega)]; exact g4
            have HBr := Lib.hid (Hfin.out _ HT.out)
            have hzr : w.heap.size ≤ wr.heap.size := HBr.out.size
            clear hnd hcc hP HT HS hD
            obtain ⟨wo, hwo⟩ : ∃ x, x = wr := ⟨_, rfl⟩
            subst hwo
            go_upto_region 16 with fail
            go_loopw [46] (fun i wx => ∃ m : Nat, m ≤ nm ∧ i = .int .i64 m ∧ Hid (checksJ d (is.drop m) = checksJ d is) ∧ Hid (Below wo.heap.size wo wx)) (fun i _ => nm - (intOf i).toNat)
            case atStart => exact ⟨0, Nat.zero_le _, rfl, rfl, Below.refl _ _⟩
            case round =>
              obtain ⟨m, hm, rfl, hC, hB⟩ := hrel
              have HBx := Lib.hid (HBr.out.trans (hB.out.mono hzr))
              by_cases hlt : m < nm
              · have hlt' : m < is.length := by rw [← HNM.out]; exact hlt
                obtain ⟨x, hx⟩ : ∃ x, is[m]? = some x := ⟨_, List.getElem?_eq_getElem hlt'⟩
                have hxm : x ∈ is := List.mem_of_getElem? hx
                have hdr : is.drop m = x :: is.drop (m + 1) := by rw [List.drop_eq_getElem_cons hlt']; rw [List.getElem?_eq_getElem hlt'] at hx; cases hx; rfl
                have hkp : ∀ (q o : Nat) (u : Value), q < w.heap.size → w.cell? ⟨q, o, none⟩ = some u → wr.cell? ⟨q, o, none⟩ = some u := below_keeps HBx.out
                obtain ⟨ba, oa, ca, Nx, Qx, eI, hPa, hRx, e0, e1, e2, e3, e4⟩ := (show RdP (fun b => b < w.heap.size) wr 5 (.slice A2 nm c2) is.length xs by have := HI.out.keep hkp; rw [HNM.out] at this ⊢; exact this).jsonAt (RJs.keep hkp HX.out) hx
                simp only [Value.slice.injEq] at eI
                obtain ⟨rfl, hjunk, rfl⟩ := eI
                clear hjunk hkp
                have hcs : checksJ d is = if checkJ d x = 0 then checksJ d (is.drop (m + 1)) else checkJ d x := by rw [← hC.out, hdr, checksJ]
                have Hcs := Lib.hid hcs
                clear hcs hdr hx hlt'
                have hJ := hRx
                obtain ⟨xk, xn, xt, xns, xis⟩ := x
                rw [RJ] at hJ
                obtain ⟨_, _, ex, r1, _, r2, _⟩ := hJ
                have ex1 := ex
                simp only [List.cons.injEq] at ex1
                obtain ⟨_, _, _, rfl, rfl, _⟩ := ex1
                obtain ⟨A5, c5, rfl⟩ := r1.shape
                obtain ⟨A6, c6, rfl⟩ := r2.shape
                clear ex r1 r2
                simp only [J.kind, J.int, J.text] at e0 e1 e2 hRx
                have hb3 := (Below.refl wr.heap.size wr).alloc (Nat.le_refl _) (.cells #[.int .i64 xk, .int .i64 xn, .string (ofL xt), .slice A5 xns.length c5, .slice A6 xis.length c6] 49)
                have hk3 : (wr.alloc (.cells #[.int .i64 xk, .int .i64 xn, .string (ofL xt), .slice A5 xns.length c5, .slice A6 xis.length c6] 49)).heap[wr.heap.size]? = some (.cells #[.int .i64 xk, .int .i64 xn, .string (ofL xt), .slice A5 xns.length c5, .slice A6 xis.length c6] 49 (0, 0)) := heap_alloc_new wr _
                have HRx := Lib.hid hRx
                clear hRx
                go_upto_region 18 with fail
                generalize wr.alloc (.cells #[.int .i64 xk, .int .i64 xn, .string (ofL xt), .slice A5 xns.length c5, .slice A6 xis.length c6] 49) = w5 at *
                have f0 : w5.cell? ⟨wr.heap.size, 0, none⟩ = some (.int .i64 xk) := by rw [Lib.cell_of_heap hk3]; rfl
                have f1 : w5.cell? ⟨wr.heap.size, 1, none⟩ = some (.int .i64 xn) := by rw [Lib.cell_of_heap hk3]; rfl
                have f2 : w5.cell? ⟨wr.heap.size, 2, none⟩ = some (.string (ofL xt)) := by rw [Lib.cell_of_heap hk3]; rfl
                have f3 : w5.cell? ⟨wr.heap.size, 3, none⟩ = some (.slice A5 xns.length c5) := by rw [Lib.cell_of_heap hk3]; rfl
                have f4 : w5.cell? ⟨wr.heap.size, 4, none⟩ = some (.slice A6 xis.length c6) := by rw [Lib.cell_of_heap hk3]; rfl
                have hzx := HBx.out.size
                have K := ih _ hxm d _ _ w5 (by omega) (RJ.mono (Q := fun b => b < w5.heap.size) (fun b h _ => by have := hb3.size; have h' : b < w.heap.size := h; show b < w5.heap.size; omega) _ _ (HRx.out.below hb3)) (HW.out _ hxm)
                simp only [J.kind, J.int, J.text] at K
                have HB5 := Lib.hid (hB.out.next hb3)
                have HB6 := Lib.hid (HBx.out.next hb3)
                clear hb3 hk3 e0 e1 e2 e3 e4
                generalize checkJ d (.mk xk xn xt xns xis) = cd at *
                have K := Lib.hid K
                by_cases hz : cd = 0
                · have hrest : checksJ d (is.drop (m + 1)) = checksJ d is := by have := Hcs.out; rw [if_pos hz] at this; exact this.symm
                  have Hrest := Lib.hid hrest
                  clear hrest Hcs
                  subst hz
                  go_wp2_with fail
                  (with_reducible refine K.out.mono ?_); rintro e w6 ⟨rfl, hb6⟩
                  have HB7 := Lib.hid (HB5.out.next hb6)
                  clear hb6 K
                  go_wp2_with fail
                  exact ⟨⟨m + 1, by omega, by go_num, Hrest, HB7⟩, by simp [intOf]; omega⟩
                · have hzi : ¬ (cd : Int) = 0 := by omega
                  go_wp2_with fail
                  (with_reducible refine K.out.mono ?_); rintro e w6 ⟨rfl, hb6⟩
                  have HB7 := Lib.hid (HB6.out.next hb6)
                  clear hb6 K
                  go_wp2_with fail
                  go_ret
                  exact ⟨by rw [Hcc.out, Hcs.out, if_neg hz]; rfl, HB7.out⟩
              · have hz : checksJ d is = 0 := by rw [← hC.out, List.drop_eq_nil_of_le (by rw [← HNM.out]; omega), checksJ]
                have Hz := Lib.hid hz
                clear hz
                go_wp2_with fail
                go_ret
                exact ⟨by rw [Hcc.out, Hz.out]; rfl, HBx.out⟩
theorem check_any (x : J) : Chk x := J.ind (P := Chk) (fun k n t ns is ih => chk_step k n t ns is ih) x
set_option maxHeartbeats 2000000 in
theorem Check_any (x : J) (N I : Value) (w : World) (hR : RJ (fun b => b < w.heap.size) w x [.int .i64 x.kind, .int .i64 x.int, .string (ofL x.text), N, I]) (hwt : wtJ x ≤ 1048576) :
    Calls Tryz.prog 56 #[.agg #[.int .i64 x.kind, .int .i64 x.int, .string (ofL x.text), N, I]] w fun e w' => e = .returned (.int .i64 (checkJ 0 x : Nat)) ∧ Below w.heap.size w w' := by
  have hsh : (∃ A m c, N = .slice A m c) ∧ ∃ A m c, I = .slice A m c := by
    cases x with
    | mk k n t ns is =>
      rw [RJ] at hR
      obtain ⟨N', I', e, hN, xs, hI, _⟩ := hR
      simp only [List.cons.injEq] at e
      obtain ⟨_, _, _, rfl, rfl, _⟩ := e
      obtain ⟨A, c, h⟩ := hN.shape
      obtain ⟨A', c', h'⟩ := hI.shape
      exact ⟨⟨A, _, c, h⟩, A', _, c', h'⟩
  obtain ⟨⟨A1, m1, c1, rfl⟩, A2, m2, c2, rfl⟩ := hsh
  have hb := (Below.refl w.heap.size w).alloc (Nat.le_refl _) (.cells #[.int .i64 x.kind, .int .i64 x.int, .string (ofL x.text), .slice A1 m1 c1, .slice A2 m2 c2] 49)
  have hk : (w.alloc (.cells #[.int .i64 x.kind, .int .i64 x.int, .string (ofL x.text), .slice A1 m1 c1, .slice A2 m2 c2] 49)).heap[w.heap.size]? = some (.cells #[.int .i64 x.kind, .int .i64 x.int, .string (ofL x.text), .slice A1 m1 c1, .slice A2 m2 c2] 49 (0, 0)) := heap_alloc_new w _
  have K := (fun (w1 : World) (hb : Below w.heap.size w w1) => check_any x 0 _ _ w1 (by omega) (RJ.mono (Q := fun b => b < w1.heap.size) (fun b h _ => Nat.lt_of_lt_of_le h hb.size) _ _ (hR.below hb)) hwt)
  have e0 : ((0 : Nat) : Int) = 0 := rfl
  rw [e0] at K
  have K := Lib.hid K
  clear hR e0
  generalize x.kind = xk at *
  generalize x.int = xn at *
  generalize x.text = xt at *
  generalize checkJ 0 x = cd at *
  go_enter Tryz.func56, Tryz.ntmps56
  go_upto_region 1 with fail
  generalize w.alloc (.cells #[.int .i64 xk, .int .i64 xn, .string (ofL xt), .slice A1 m1 c1, .slice A2 m2 c2] 49) = w1 at *
  have d0 : w1.cell? ⟨w.heap.size, 0, none⟩ = some (.int .i64 xk) := by rw [Lib.cell_of_heap hk]; rfl
  have d1 : w1.cell? ⟨w.heap.size, 1, none⟩ = some (.int .i64 xn) := by rw [Lib.cell_of_heap hk]; rfl
  have d2 : w1.cell? ⟨w.heap.size, 2, none⟩ = some (.string (ofL xt)) := by rw [Lib.cell_of_heap hk]; rfl
  have d3 : w1.cell? ⟨w.heap.size, 3, none⟩ = some (.slice A1 m1 c1) := by rw [Lib.cell_of_heap hk]; rfl
  have d4 : w1.cell? ⟨w.heap.size, 4, none⟩ = some (.slice A2 m2 c2) := by rw [Lib.cell_of_heap hk]; rfl
  have HB := Lib.hid hb
  have K := Lib.hid (K.out _ hb)
  clear hb hk
  go_wp2_with fail
  (with_reducible refine K.out.mono ?_); rintro e w2 ⟨rfl, hb2⟩
  have HB2 := Lib.hid (HB.out.next hb2)
  clear hb2 K
  go_wp2_with fail
  go_ret
  exact ⟨rfl, HB2.out⟩
end Go.Proofs.YtigdjnfnkjfkmaaGreatDoor
namespace Go.Proofs.YtigdjnfnkjfkmaaGreatDoor
open Go.RowKit
set_option linter.unusedVariables false
set_option linter.unusedSimpArgs false
set_option maxRecDepth 100000

theorem touch_freeze {F : Nat → Prop} {w w' : World} (h : Touch F w w') (p : Addr) (hp : F p.block) (n : Nat) : Touch F w (w'.freeze p n) := by
  unfold World.freeze
  split
  · exact h
  · refine h.trans ⟨rfl, rfl, rfl, by simp, fun i hi hf => ?_⟩
    show (Array.modify _ _ _)[i]? = _
    rw [Array.getElem?_modify, if_neg (fun e => hf (by rw [← e]; exact hp))]
set_option maxHeartbeats 2000000 in
theorem stringT_any (b : Nat) (v : Value) (l : B) (w : World) (h : Bv w b v l) (h0 : l ≠ []) :
    Calls Tryz.prog 58 #[.pointer (some ⟨b, 0, none⟩)] w fun e w' => e = .returned (.string (ofL l)) ∧ Touch (fun k => v.ownBlock = some k) w w' := by
  obtain ⟨p, -, hbk, hown0⟩ := h
  have hown : w.ownsRow (b + 1) 5 1 v l.length (bytesV l) := hown0
  have hl0 : l.length ≠ 0 := by simpa using h0
  obtain ⟨g, cap, cur, rfl, hg, hnc, hcm, hcs⟩ : ∃ g cap cur, v = .slice (some ⟨g, 0, none⟩) l.length cap ∧ w.heap[g]? = some (.cells cur 5 (0, 0)) ∧ l.length ≤ cap ∧ cap ≤ maxLen ∧ cur.size = cap * 1 := by
    rcases hown.2 with ⟨_, hz⟩ | ⟨g, cap, cur, hv, _, r1, r2, r3, r4, _⟩
    · exact absurd hz hl0
    · exact ⟨g, cap, cur, hv, r1, r2, r3, r4⟩
  have c1 : w.drew.cell? ⟨b, 1, none⟩ = some (.slice (some ⟨g, 0, none⟩) l.length cap) := by
    have : w.drew.heap[b]? = some (.cells #[p, .slice (some ⟨g, 0, none⟩) l.length cap] 91 (0, 0)) := hbk
    rw [Lib.cell_of_heap this]; rfl
  have hSD : (Builtin.unsafeSliceData_ #[89] 136 #[.slice (some ⟨g, 0, none⟩) l.length cap]).run Tryz.prog w.drew = .ok (.pointer (some ⟨g, 0, none⟩)) w.drew :=
    Lib.run_unsafeSliceData_row _ _ _ _ _ _ (by omega)
  have hUS : (Builtin.unsafeString_ #[136, 3] 9 #[.pointer (some ⟨g, 0, none⟩), .int .i64 l.length]).run Tryz.prog w.drew = .ok (.string ⟨l.toArray⟩) (w.drew.freeze ⟨g, 0, none⟩ l.length) := by
    refine Lib.run_unsafeString_row w.drew 136 3 9 5 Tryz.underlying136 (by kernel_rfl) g cur.size (by have hg' : w.drew.heap[g]? = some (.cells cur 5 (0, 0)) := hg; simp [World.shape?, hg']) l h0 (by omega) (by unfold maxLen at hcm; omega) ?_
    intro j x hx
    exact hown.cells (g := g) rfl j (.int .u8 x.toNat) (bytesV_at hx)
  have mixed : Tryz.prog.follows Departure.mixedOrders = true := by kernel_rfl
  have hT : Touch (fun k => (Value.slice (some ⟨g, 0, none⟩) l.length cap).ownBlock = some k) w (w.drew.freeze ⟨g, 0, none⟩ l.length) := touch_freeze (F := fun k => (Value.slice (some ⟨g, 0, none⟩) l.length cap).ownBlock = some k) (Touch.of_below (Below.refl w.heap.size w).drew) ⟨g, 0, none⟩ rfl _
  clear hbk hown0 hown hg hcs hnc hcm
  go_enter Tryz.func58, Tryz.ntmps58
  go_wp2
  go_region_o
  all_goals (go_wp2; go_ret; exact ⟨rfl, hT⟩)
end Go.Proofs.YtigdjnfnkjfkmaaGreatDoor
namespace Go.Proofs.YtigdjnfnkjfkmaaGreatDoor
open Go.RowKit
set_option linter.unusedVariables false
set_option linter.unusedSimpArgs false
set_option maxRecDepth 100000

theorem rj_slices {P : Nat → Prop} {w : World} {x : J} {k n t N I : Value} (hR : RJ P w x [k, n, t, N, I]) : (∃ A m c, N = .slice A m c) ∧ ∃ A m c, I = .slice A m c := by
  cases x with
  | mk k n t ns is =>
    rw [RJ] at hR
    obtain ⟨N', I', e, hN, xs, hI, _⟩ := hR
    simp only [List.cons.injEq] at e
    obtain ⟨_, _, _, rfl, rfl, _⟩ := e
    obtain ⟨A, c, h⟩ := hN.shape
    obtain ⟨A', c', h'⟩ := hI.shape
    exact ⟨⟨A, _, c, h⟩, A', _, c', h'⟩
theorem RJ.grow {w w' : World} {x : J} {cs : List Value} (hR : RJ (fun b => b < w.heap.size) w x cs) (hb : Below w.heap.size w w') : RJ (fun b => b < w'.heap.size) w' x cs :=
  RJ.mono (fun b h _ => Nat.lt_of_lt_of_le h hb.size) _ _ (hR.below hb)
theorem RJ.within {w w' : World} {x : J} {cs : List Value} (hR : RJ (fun b => b < w.heap.size) w x cs) (hb : Below w.heap.size w w') : RJ (fun b => b < w.heap.size) w' x cs := hR.below hb
/-- A builder that is new: what lay writes into it. -/
theorem layNew (x : J) (N I : Value) (w w1 : World) (b : Nat) (hb1 : Below w.heap.size w w1) (hbz : w.heap.size ≤ b) (hB : Bv w1 b (.slice none 0 0) []) (hR : RJ (fun b => b < w.heap.size) w x [.int .i64 x.kind, .int .i64 x.int, .string (ofL x.text), N, I])
    (hC : Can 0 x) (hwt : wtJ x ≤ 1048576) (hNG : 7 ≤ w.heap.size) (hT : Tab10 w) :
    Calls Tryz.prog 57 #[.pointer (some ⟨b, 0, none⟩), .agg #[.int .i64 x.kind, .int .i64 x.int, .string (ofL x.text), N, I]] w1 fun e w' => e = .returned (.tuple #[]) ∧ ∃ v', Bv w' b v' (textJ x) ∧ Wr b (.slice none 0 0) v' w1 w' := by
  have htx := text_wt x hC.2
  exact lay_any x 0 b (.slice none 0 0) [] N I (fun k => k < w.heap.size) w1 hC (by omega) (by simp only [List.length_nil]; omega) (by omega) (hT.below hb1) hB (hR.below hb1) (fun k hk => ⟨Nat.lt_of_lt_of_le hk hb1.size, by have hk' : k < w.heap.size := hk; omega, fun e => by cases e⟩)
set_option maxHeartbeats 4000000 in
theorem Print_any (x : J) (N I : Value) (w : World) (hR : RJ (fun b => b < w.heap.size) w x [.int .i64 x.kind, .int .i64 x.int, .string (ofL x.text), N, I]) (hwf : wfJ x = true) (hwt : wtJ x ≤ 1048576) (hNG : 7 ≤ w.heap.size) (hT : Tab10 w) :
    Calls Tryz.prog 28 #[.agg #[.int .i64 x.kind, .int .i64 x.int, .string (ofL x.text), N, I]] w fun e w' => e = .returned (.tuple #[.string (ofL (printJ x).1), .int .i64 ((printJ x).2 : Nat)]) ∧ Below w.heap.size w w' := by
  obtain ⟨⟨A1, m1, c1, rfl⟩, A2, m2, c2, rfl⟩ := rj_slices hR
  have htx := text_wt x hwf
  have hb := (Below.refl w.heap.size w).alloc (Nat.le_refl _) (.cells #[.int .i64 x.kind, .int .i64 x.int, .string (ofL x.text), .slice A1 m1 c1, .slice A2 m2 c2] 49)
  have hk : (w.alloc (.cells #[.int .i64 x.kind, .int .i64 x.int, .string (ofL x.text), .slice A1 m1 c1, .slice A2 m2 c2] 49)).heap[w.heap.size]? = some (.cells #[.int .i64 x.kind, .int .i64 x.int, .string (ofL x.text), .slice A1 m1 c1, .slice A2 m2 c2] 49 (0, 0)) := heap_alloc_new w _
  have K := Lib.hid (fun (w1 : World) (hb : Below w.heap.size w w1) => Check_any x _ _ w1 (hR.grow hb) hwt)
  have KL := Lib.hid (fun (w1 : World) (b : Nat) (hb1 : Below w.heap.size w w1) (hbz : w.heap.size ≤ b) (hB : Bv w1 b (.slice none 0 0) []) (hz : checkJ 0 x = 0) => layNew x _ _ w w1 b hb1 hbz hB hR ⟨hz, hwf⟩ hwt hNG hT)
  have hpj : printJ x = if checkJ 0 x ≠ 0 then ([], checkJ 0 x) else if 65536 < (textJ x).length then ([], 4) else (textJ x, 0) := rfl
  have htl : (textJ x).length ≤ 1099511627776 := by omega
  have HPJ := Lib.hid hpj
  clear hR hpj htx hwt hwf hT
  generalize x.kind = xk at *
  generalize x.int = xn at *
  generalize x.text = xt at *
  generalize checkJ 0 x = cd at *
  generalize textJ x = tx at *
  generalize printJ x = pj at *
  go_enter Tryz.func28, Tryz.ntmps28
  go_upto_region 1 with fail
  generalize w.alloc (.cells #[.int .i64 xk, .int .i64 xn, .string (ofL xt), .slice A1 m1 c1, .slice A2 m2 c2] 49) = w1 at *
  have d0 : w1.cell? ⟨w.heap.size, 0, none⟩ = some (.int .i64 xk) := by rw [Lib.cell_of_heap hk]; rfl
  have d1 : w1.cell? ⟨w.heap.size, 1, none⟩ = some (.int .i64 xn) := by rw [Lib.cell_of_heap hk]; rfl
  have d2 : w1.cell? ⟨w.heap.size, 2, none⟩ = some (.string (ofL xt)) := by rw [Lib.cell_of_heap hk]; rfl
  have d3 : w1.cell? ⟨w.heap.size, 3, none⟩ = some (.slice A1 m1 c1) := by rw [Lib.cell_of_heap hk]; rfl
  have d4 : w1.cell? ⟨w.heap.size, 4, none⟩ = some (.slice A2 m2 c2) := by rw [Lib.cell_of_heap hk]; rfl
  have hz1 : w.heap.size < w1.heap.size := (Array.getElem?_eq_some_iff.1 hk).1
  have HB := Lib.hid hb
  have K := Lib.hid (K.out _ hb)
  clear hb hk
  by_cases hz : cd = 0
  · have KL2 := Lib.hid (fun (w1 : World) (b : Nat) (hb1 : Below w.heap.size w w1) (hbz : w.heap.size ≤ b) (hB : Bv w1 b (.slice none 0 0) []) => KL.out w1 b hb1 hbz hB hz)
    clear KL
    have hpj := HPJ.out
    rw [if_neg (by omega)] at hpj
    have HPJ2 := Lib.hid hpj
    clear HPJ
    subst hz
    clear hpj
    go_wp2_with fail
    (with_reducible refine K.out.mono ?_); rintro e w2 ⟨rfl, hb2⟩
    have HB2 := Lib.hid (HB.out.next hb2)
    have e0 := Below.keeps hb2 d0
    have e1 := Below.keeps hb2 d1
    have e2 := Below.keeps hb2 d2
    have e3 := Below.keeps hb2 d3
    have e4 := Below.keeps hb2 d4
    have hz2 : w1.heap.size ≤ w2.heap.size := hb2.size
    clear hb2 K d0 d1 d2 d3 d4
    have hB3 := Bv.new w2
    have hb3 := (Below.refl w2.heap.size w2).alloc (Nat.le_refl _) (.cells #[.pointer none, .slice none 0 0] 91)
    go_upto_region 5 with fail
    generalize w2.alloc (.cells #[.pointer none, .slice none 0 0] 91) = w3 at *
    have f0 := Below.keeps hb3 e0
    have f1 := Below.keeps hb3 e1
    have f2 := Below.keeps hb3 e2
    have f3 := Below.keeps hb3 e3
    have f4 := Below.keeps hb3 e4
    have HB3 := Lib.hid (HB2.out.next hb3)
    have KL := Lib.hid (KL2.out w3 w2.heap.size HB3.out (by omega) hB3)
    have hz3 : w2.heap.size < w3.heap.size := hB3.lt
    clear hb3 hB3 e0 e1 e2 e3 e4
    go_wp2_with fail
    (with_reducible refine KL.out.mono ?_); rintro e w4 ⟨rfl, v4, hB4, hW4⟩
    have HB4 := Lib.hid (HB3.out.trans (hW4.1.below (B := w.heap.size) (fun k hk e => by
      rcases e with e | e
      · omega
      · cases e) HB3.out.size))
    have KN := Lib.hid (len_any _ _ _ _ hB4)
    have KS := Lib.hid (string_any _ _ _ _ hB4)
    clear hB4 hW4 KL f0 f1 f2 f3 f4
    go_wp2_with fail
    (with_reducible refine KN.out.mono ?_); rintro e w5 ⟨rfl, rfl⟩
    by_cases hl : 65536 < tx.length
    · have hl2 : (tx.length : Int) > 65536 := by omega
      have hpj := HPJ2.out
      rw [if_pos hl] at hpj
      clear HPJ2
      go_wp2_with fail
      go_ret2
      exact ⟨by rw [hpj]; rfl, HB4.out⟩
    · have hl2 : ¬ (tx.length : Int) > 65536 := by omega
      have hpj := HPJ2.out
      rw [if_neg hl] at hpj
      clear HPJ2
      go_wp2_with fail
      (with_reducible refine KS.out.mono ?_); rintro e w6 ⟨rfl, hb6⟩
      have HB6 := Lib.hid (HB4.out.trans (hb6.mono (by omega)))
      clear hb6
      go_wp2_with fail
      go_ret2
      exact ⟨by rw [hpj]; rfl, HB6.out⟩
  · have hpj := HPJ.out
    rw [if_pos hz] at hpj
    have hzi : ¬ (cd : Int) = 0 := by omega
    clear HPJ KL
    go_wp2_with fail
    (with_reducible refine K.out.mono ?_); rintro e w2 ⟨rfl, hb2⟩
    have HB2 := Lib.hid (HB.out.next hb2)
    clear hb2 K
    go_wp2_with fail
    go_ret2
    exact ⟨by rw [hpj]; rfl, HB2.out⟩
theorem text_ne : ∀ v : J, wfJ v = true → textJ v ≠ [] := by
  intro v hw
  cases v with
  | mk k n t ns is =>
    rw [textJ]
    split
    · simp
    · split
      · split <;> simp
      · split
        · unfold Lib.itoa
          split
          · simp
          · intro e
            have h1 := congrArg List.length e
            rw [Lib.decDigits_length] at h1
            unfold Lib.nDigits at h1
            split at h1 <;> simp at h1
        · split
          · unfold quoteB; simp
          · split <;> simp
set_option maxHeartbeats 8000000 in
theorem Same_any (x y : J) (N I M Q : Value) (w : World) (hR : RJ (fun b => b < w.heap.size) w x [.int .i64 x.kind, .int .i64 x.int, .string (ofL x.text), N, I]) (hR' : RJ (fun b => b < w.heap.size) w y [.int .i64 y.kind, .int .i64 y.int, .string (ofL y.text), M, Q])
    (hwf : wfJ x = true) (hwt : wtJ x ≤ 1048576) (hwf' : wfJ y = true) (hwt' : wtJ y ≤ 1048576) (hNG : 7 ≤ w.heap.size) (hT : Tab10 w) :
    Calls Tryz.prog 24 #[.agg #[.int .i64 x.kind, .int .i64 x.int, .string (ofL x.text), N, I], .agg #[.int .i64 y.kind, .int .i64 y.int, .string (ofL y.text), M, Q]] w fun e w' => e = .returned (.bool (sameJ x y)) ∧ Below w.heap.size w w' := by
  obtain ⟨⟨A1, m1, c1, rfl⟩, A2, m2, c2, rfl⟩ := rj_slices hR
  obtain ⟨⟨A3, m3, c3, rfl⟩, A4, m4, c4, rfl⟩ := rj_slices hR'
  have hb := ((Below.refl w.heap.size w).alloc (Nat.le_refl _) (.cells #[.int .i64 x.kind, .int .i64 x.int, .string (ofL x.text), .slice A1 m1 c1, .slice A2 m2 c2] 49)).alloc (by simp) (.cells #[.int .i64 y.kind, .int .i64 y.int, .string (ofL y.text), .slice A3 m3 c3, .slice A4 m4 c4] 49)
  have hk : ((w.alloc (.cells #[.int .i64 x.kind, .int .i64 x.int, .string (ofL x.text), .slice A1 m1 c1, .slice A2 m2 c2] 49)).alloc (.cells #[.int .i64 y.kind, .int .i64 y.int, .string (ofL y.text), .slice A3 m3 c3, .slice A4 m4 c4] 49)).heap[w.heap.size]? = some (.cells #[.int .i64 x.kind, .int .i64 x.int, .string (ofL x.text), .slice A1 m1 c1, .slice A2 m2 c2] 49 (0, 0)) := by
    have h1 := heap_alloc_new w (.cells #[.int .i64 x.kind, .int .i64 x.int, .string (ofL x.text), .slice A1 m1 c1, .slice A2 m2 c2] 49)
    have h2 := (Below.refl (w.alloc (.cells #[.int .i64 x.kind, .int .i64 x.int, .string (ofL x.text), .slice A1 m1 c1, .slice A2 m2 c2] 49)).heap.size (w.alloc (.cells #[.int .i64 x.kind, .int .i64 x.int, .string (ofL x.text), .slice A1 m1 c1, .slice A2 m2 c2] 49))).alloc (Nat.le_refl _) (.cells #[.int .i64 y.kind, .int .i64 y.int, .string (ofL y.text), .slice A3 m3 c3, .slice A4 m4 c4] 49)
    rw [h2.block _ (by simp)]; exact h1
  have hk' : ((w.alloc (.cells #[.int .i64 x.kind, .int .i64 x.int, .string (ofL x.text), .slice A1 m1 c1, .slice A2 m2 c2] 49)).alloc (.cells #[.int .i64 y.kind, .int .i64 y.int, .string (ofL y.text), .slice A3 m3 c3, .slice A4 m4 c4] 49)).heap[w.heap.size + 1]? = some (.cells #[.int .i64 y.kind, .int .i64 y.int, .string (ofL y.text), .slice A3 m3 c3, .slice A4 m4 c4] 49 (0, 0)) := by
    have h1 := heap_alloc_new (w.alloc (.cells #[.int .i64 x.kind, .int .i64 x.int, .string (ofL x.text), .slice A1 m1 c1, .slice A2 m2 c2] 49)) (.cells #[.int .i64 y.kind, .int .i64 y.int, .string (ofL y.text), .slice A3 m3 c3, .slice A4 m4 c4] 49)
    rw [World.size_alloc] at h1; exact h1
  have K := Lib.hid (fun (w1 : World) (hb : Below w.heap.size w w1) => Check_any x _ _ w1 (hR.grow hb) hwt)
  have K' := Lib.hid (fun (w1 : World) (hb : Below w.heap.size w w1) => Check_any y _ _ w1 (hR'.grow hb) hwt')
  have KL := Lib.hid (fun (w1 : World) (b : Nat) (hb1 : Below w.heap.size w w1) (hbz : w.heap.size ≤ b) (hB : Bv w1 b (.slice none 0 0) []) (hz : checkJ 0 x = 0) => layNew x _ _ w w1 b hb1 hbz hB hR ⟨hz, hwf⟩ hwt hNG hT)
  have KL' := Lib.hid (fun (w1 : World) (b : Nat) (hb1 : Below w.heap.size w w1) (hbz : w.heap.size ≤ b) (hB : Bv w1 b (.slice none 0 0) []) (hz : checkJ 0 y = 0) => layNew y _ _ w w1 b hb1 hbz hB hR' ⟨hz, hwf'⟩ hwt' hNG hT)
  have hne := text_ne x hwf
  have hsj : sameJ x y = (checkJ 0 x == 0 && checkJ 0 y == 0 && textJ x == textJ y) := rfl
  rw [hsj]
  clear hR hR' hwt hwf hwt' hwf' hT hsj
  generalize x.kind = xk at *
  generalize x.int = xn at *
  generalize x.text = xt at *
  generalize checkJ 0 x = cx at *
  generalize textJ x = tx at *
  generalize y.kind = yk at *
  generalize y.int = yn at *
  generalize y.text = yt at *
  generalize checkJ 0 y = cy at *
  generalize textJ y = ty at *
  go_enter Tryz.func24, Tryz.ntmps24
  go_upto_region 1 with fail
  generalize (w.alloc (.cells #[.int .i64 xk, .int .i64 xn, .string (ofL xt), .slice A1 m1 c1, .slice A2 m2 c2] 49)).alloc (.cells #[.int .i64 yk, .int .i64 yn, .string (ofL yt), .slice A3 m3 c3, .slice A4 m4 c4] 49) = w1 at *
  have d0 : w1.cell? ⟨w.heap.size, 0, none⟩ = some (.int .i64 xk) := by rw [Lib.cell_of_heap hk]; rfl
  have d1 : w1.cell? ⟨w.heap.size, 1, none⟩ = some (.int .i64 xn) := by rw [Lib.cell_of_heap hk]; rfl
  have d2 : w1.cell? ⟨w.heap.size, 2, none⟩ = some (.string (ofL xt)) := by rw [Lib.cell_of_heap hk]; rfl
  have d3 : w1.cell? ⟨w.heap.size, 3, none⟩ = some (.slice A1 m1 c1) := by rw [Lib.cell_of_heap hk]; rfl
  have d4 : w1.cell? ⟨w.heap.size, 4, none⟩ = some (.slice A2 m2 c2) := by rw [Lib.cell_of_heap hk]; rfl
  have g0 : w1.cell? ⟨w.heap.size + 1, 0, none⟩ = some (.int .i64 yk) := by rw [Lib.cell_of_heap hk']; rfl
  have g1 : w1.cell? ⟨w.heap.size + 1, 1, none⟩ = some (.int .i64 yn) := by rw [Lib.cell_of_heap hk']; rfl
  have g2 : w1.cell? ⟨w.heap.size + 1, 2, none⟩ = some (.string (ofL yt)) := by rw [Lib.cell_of_heap hk']; rfl
  have g3 : w1.cell? ⟨w.heap.size + 1, 3, none⟩ = some (.slice A3 m3 c3) := by rw [Lib.cell_of_heap hk']; rfl
  have g4 : w1.cell? ⟨w.heap.size + 1, 4, none⟩ = some (.slice A4 m4 c4) := by rw [Lib.cell_of_heap hk']; rfl
  have hz1 : w.heap.size + 1 < w1.heap.size := (Array.getElem?_eq_some_iff.1 hk').1
  have HB := Lib.hid hb
  have K := Lib.hid (K.out _ hb)
  clear hb hk hk'
  by_cases hz : cx = 0
  · have KL2 := Lib.hid (fun (w1 : World) (b : Nat) (hb1 : Below w.heap.size w w1) (hbz : w.heap.size ≤ b) (hB : Bv w1 b (.slice none 0 0) []) => KL.out w1 b hb1 hbz hB hz)
    clear KL
    subst hz
    go_wp2_with fail
    (with_reducible refine K.out.mono ?_); rintro e w2 ⟨rfl, hb2⟩
    have HB2 := Lib.hid (HB.out.next hb2)
    have d0 := Below.keeps hb2 d0
    have d1 := Below.keeps hb2 d1
    have d2 := Below.keeps hb2 d2
    have d3 := Below.keeps hb2 d3
    have d4 := Below.keeps hb2 d4
    have g0 := Below.keeps hb2 g0
    have g1 := Below.keeps hb2 g1
    have g2 := Below.keeps hb2 g2
    have g3 := Below.keeps hb2 g3
    have g4 := Below.keeps hb2 g4
    have hz2 : w1.heap.size ≤ w2.heap.size := hb2.size
    have K' := Lib.hid (K'.out _ HB2.out)
    clear hb2 K
    by_cases hy : cy = 0
    · have KL3 := Lib.hid (fun (w1 : World) (b : Nat) (hb1 : Below w.heap.size w w1) (hbz : w.heap.size ≤ b) (hB : Bv w1 b (.slice none 0 0) []) => KL'.out w1 b hb1 hbz hB hy)
      clear KL'
      subst hy
      go_wp2_with fail
      (with_reducible refine K'.out.mono ?_); rintro e w3 ⟨rfl, hb3⟩
      have HB3 := Lib.hid (HB2.out.next hb3)
      have d0 := Below.keeps hb3 d0
      have d1 := Below.keeps hb3 d1
      have d2 := Below.keeps hb3 d2
      have d3 := Below.keeps hb3 d3
      have d4 := Below.keeps hb3 d4
      have g0 := Below.keeps hb3 g0
      have g1 := Below.keeps hb3 g1
      have g2 := Below.keeps hb3 g2
      have g3 := Below.keeps hb3 g3
      have g4 := Below.keeps hb3 g4
      have hz3 : w2.heap.size ≤ w3.heap.size := hb3.size
      clear hb3 K'
      have hBa := Bv.new w3
      have hBb := Bv.new (w3.alloc (.cells #[.pointer none, .slice none 0 0] 91))
      have hba := (Below.refl w3.heap.size w3).alloc (Nat.le_refl _) (.cells #[.pointer none, .slice none 0 0] 91)
      have hbb := (Below.refl (w3.alloc (.cells #[.pointer none, .slice none 0 0] 91)).heap.size (w3.alloc (.cells #[.pointer none, .slice none 0 0] 91))).alloc (Nat.le_refl _) (.cells #[.pointer none, .slice none 0 0] 91)
      have hBa := hBa.below hbb
      have hbc := hba.next hbb
      rw [World.size_alloc] at hBb
      clear hba hbb
      go_upto_region 4 with fail
      generalize (w3.alloc (.cells #[.pointer none, .slice none 0 0] 91)).alloc (.cells #[.pointer none, .slice none 0 0] 91) = w4 at *
      have d0 := Below.keeps hbc d0
      have d1 := Below.keeps hbc d1
      have d2 := Below.keeps hbc d2
      have d3 := Below.keeps hbc d3
      have d4 := Below.keeps hbc d4
      have g0 := Below.keeps hbc g0
      have g1 := Below.keeps hbc g1
      have g2 := Below.keeps hbc g2
      have g3 := Below.keeps hbc g3
      have g4 := Below.keeps hbc g4
      have HB4 := Lib.hid (HB3.out.next hbc)
      have hz4 : w3.heap.size + 1 < w4.heap.size := hBb.lt
      have KA := Lib.hid (KL2.out w4 w3.heap.size HB4.out (by omega) hBa)
      clear hbc KL2 hBa
      go_wp2_with fail
      (with_reducible refine KA.out.mono ?_); rintro e w5 ⟨rfl, v5, hB5, hW5⟩
      have hfr : ∀ k, k < w3.heap.size → ¬ (k = w3.heap.size ∨ (Value.slice none 0 0).ownBlock = some k) := fun k hk e => by
        rcases e with e | e
        · omega
        · cases e
      have hT5 := hW5.1.below (B := w3.heap.size) hfr (by omega)
      have g0 := (hT5.cell (p := ⟨w.heap.size + 1, 0, none⟩) (by show w.heap.size + 1 < _; omega)).trans g0
      have g1 := (hT5.cell (p := ⟨w.heap.size + 1, 1, none⟩) (by show w.heap.size + 1 < _; omega)).trans g1
      have g2 := (hT5.cell (p := ⟨w.heap.size + 1, 2, none⟩) (by show w.heap.size + 1 < _; omega)).trans g2
      have g3 := (hT5.cell (p := ⟨w.heap.size + 1, 3, none⟩) (by show w.heap.size + 1 < _; omega)).trans g3
      have g4 := (hT5.cell (p := ⟨w.heap.size + 1, 4, none⟩) (by show w.heap.size + 1 < _; omega)).trans g4
      have HB5 := Lib.hid (HB4.out.trans (hT5.mono (by omega)))
      have hBb5 := hBb.touch hW5.1 (fun e => by
        rcases e with e | e
        · omega
        · cases e) (fun k hk => by cases hk)
      have hz5 : w4.heap.size ≤ w5.heap.size := hW5.1.size
      have KC := Lib.hid (KL3.out w5 (w3.heap.size + 1) HB5.out (by omega) hBb5)
      have HB5v := Lib.hid hB5
      have HL5 := Lib.hid hW5.2
      clear KA hW5 hT5 hB5 hBb hBb5 KL3
      go_wp2_with fail
      (with_reducible refine KC.out.mono ?_); rintro e w6 ⟨rfl, v6, hB6, hW6⟩
      have hown5 : ∀ k, v5.ownBlock = some k → ¬ (k = w3.heap.size + 1 ∨ (Value.slice none 0 0).ownBlock = some k) := fun k hk e => by
        rcases e with e | e
        · rcases HL5.out k hk with h | h
          · cases h
          · omega
        · cases e
      have hB5' := HB5v.out.touch hW6.1 (fun e => by
        rcases e with e | e
        · omega
        · cases e) hown5
      have hT6 := hW6.1.below (B := w.heap.size) (fun k hk e => by
        rcases e with e | e
        · omega
        · cases e) (by have := HB5.out.size; omega)
      have HB6 := Lib.hid (HB5.out.trans hT6)
      have hz6 : w5.heap.size ≤ w6.heap.size := hW6.1.size
      have KS := Lib.hid (stringT_any _ _ _ _ hB5' hne)
      have hown56 : ∀ k, v5.ownBlock = some k → k < w5.heap.size ∧ w4.heap.size ≤ k := fun k hk => by
        have h1 := (World.ownsRow.lt (show World.ownsRow _ _ _ _ _ _ _ from HB5v.out.own) k hk).2
        rcases HL5.out k hk with h | h
        · cases h
        · exact ⟨h1, h⟩
      have hown6 : ∀ k, v6.ownBlock = some k → w5.heap.size ≤ k := fun k hk => by
        rcases hW6.2 k hk with h | h
        · cases h
        · exact h
      have HB6v := Lib.hid hB6
      clear KC hW6 hT6 hB5' hB6 hown5
      go_wp2_with fail
      (with_reducible refine KS.out.mono ?_); rintro e w7 ⟨rfl, hT7⟩
      have hB7 := HB6v.out.touch hT7 (fun e => by have := hown56 _ e; omega) (fun k hk e => by have h1 := hown56 _ e; have h2 := hown6 _ hk; omega)
      have hb7 := hT7.below (B := w.heap.size) (fun k hk e => by have := hown56 _ e; omega) (by omega)
      have HB7 := Lib.hid (HB6.out.trans hb7)
      have hz7 : w6.heap.size ≤ w7.heap.size := hT7.size
      have KT := Lib.hid (string_any _ _ _ _ hB7)
      clear KS hB7 hb7 hT7 hown56 hown6
      go_wp2_with fail
      (with_reducible refine KT.out.mono ?_); rintro e w8 ⟨rfl, hb8⟩
      have HB8 := Lib.hid (HB7.out.trans (hb8.mono (by omega)))
      clear hb8
      go_wp2_with fail
      go_ret
      exact ⟨ret_bool (by simp [toL_ofL]), HB8.out⟩
    · have hyi : ¬ (cy : Int) = 0 := by omega
      go_wp2_with fail
      (with_reducible refine K'.out.mono ?_); rintro e w3 ⟨rfl, hb3⟩
      have HB3 := Lib.hid (HB2.out.next hb3)
      clear hb3 K'
      go_wp2_with fail
      go_ret
      exact ⟨ret_bool (by simp [hy]), HB3.out⟩
  · have hzi : ¬ (cx : Int) = 0 := by omega
    go_wp2_with fail
    (with_reducible refine K.out.mono ?_); rintro e w2 ⟨rfl, hb2⟩
    have HB2 := Lib.hid (HB.out.next hb2)
    clear hb2 K
    go_wp2_with fail
    go_ret
    exact ⟨ret_bool (by simp [hz]), HB2.out⟩
end Go.Proofs.YtigdjnfnkjfkmaaGreatDoor
