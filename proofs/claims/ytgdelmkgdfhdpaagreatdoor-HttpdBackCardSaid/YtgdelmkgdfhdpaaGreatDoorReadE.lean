/- The answer with which bytes begin (blotterref08.Read). Conditions: the bytes are few. -/
import Derived.Test.YtgdelmkgdfhdpaaGreatDoorReadD
namespace Go.Proofs.YtgdelmkgdfhdpaaGreatDoor
open Go.RowKit
set_option linter.unusedVariables false
set_option linter.unusedSimpArgs false
set_option maxRecDepth 100000

set_option maxHeartbeats 8000000 in
theorem refRead_any (l : B) (v : Value) (w : World) (hS : Part w (v, l)) (hl : l.length ≤ 1048576) :
    Calls Tryz.prog 15 #[v] w fun e w' => ReadIs (readA l) e w' ∧ BL w w' := by
  obtain ⟨A, cp, hv⟩ := hS.1.shape
  have hv' : v = .slice A l.length cp := hv
  subst hv'
  have HS := Lib.hid hS
  clear hS hv
  have hac2 : AC (w.alloc (.cells #[.int .i64 0, .slice none 0 0, .slice none 0 0] 25)) w.heap.size 0 (.slice none 0 0) (.slice none 0 0) := heap_alloc_new _ _
  have hk := bl_alloc (bl_refl w) (.cells #[.int .i64 0, .slice none 0 0, .slice none 0 0] 25)
  have kc := conv_rd (P := Tryz.prog) 23 9 5 Tryz.underlying23 Tryz.underlying5 Tryz.underlying9 (HS.out.bl hk).1
  have hmax : (1048576 : Nat) ≤ maxLen := by unfold maxLen; omega
  have hlz : (ofL l).size = l.length := size_ofL l
  have hwh := where_any (ofL l) ⟨#[13, 10, 13, 10]⟩ (by omega) (w.alloc (.cells #[.int .i64 0, .slice none 0 0, .slice none 0 0] 25))
  rw [toL_ofL, show (⟨#[13, 10, 13, 10]⟩ : ByteArray).toList = crL from toL_eq _] at hwh
  obtain ⟨K, hK⟩ : ∃ K, whereL crL l = K := ⟨_, rfl⟩
  rw [hK] at hwh
  have HX0 := Lib.hid (show readA l = if 8192 < K ∧ (K < l.length ∨ 8196 ≤ K) then (noAns, 0, 80) else if K = l.length then (noAns, 0, 2) else endR l K (headR (cutL (l.take K))) by
    unfold readA; rw [hK])
  have hKl : K ≤ l.length := by rw [← hK]; exact whereL_le _ _
  have hroom : K < l.length → K + 4 ≤ l.length := fun hf => by
    have := whereL_room (t := crL) (s := l) (by rw [hK]; exact hf)
    rw [hK] at this
    exact this
  have HWH := Lib.hid hwh
  clear hK hwh
  go_enter Tryz.func15, Tryz.ntmps15
  go_wp2_with fail
  generalize w.alloc (.cells #[.int .i64 0, .slice none 0 0, .slice none 0 0] 25) = w1 at *
  have HAX := Lib.hid hac2
  have HKX := Lib.hid hk
  clear kc hk
  refine HWH.out.mono ?_
  rintro e w2 ⟨rfl, rfl⟩
  ((have c0 := hac2.c0); (have c1 := hac2.c1); (have c2 := hac2.c2); (have f0 := hac2.fz 0); (have f1 := hac2.fz 1); (have f2 := hac2.fz 2))
  clear hac2
  by_cases h80 : 8192 < K ∧ (K < l.length ∨ 8196 ≤ K)
  · have HX := Lib.hid (show readA l = (noAns, 0, 80) by rw [HX0.out, if_pos h80])
    obtain ⟨h1, h2⟩ := h80
    by_cases h3 : K < l.length
    · clear h2
      ((go_wp2_with fail); (have hx := ac_back HAX.out); (have hbx := bl_back HKX.out (Nat.le_refl _) (.int .i64 0) (.slice none 0 0) (.slice none 0 0)); (have hc0 := hx.c0); (have hc1 := hx.c1); (have hc2 := hx.c2))
      (exact bodyPost_ret (v := .tuple #[.agg #[.int .i64 0, .slice none 0 0, .slice none 0 0], .int .i64 0, .int .i64 80]) (by simp [results, Tryz.results15, go_sem, hc0, hc1, hc2]) rfl ⟨by rw [HX.out]; exact readIs_none _ 80, hbx⟩)
    · have h4 : 8196 ≤ K := by omega
      clear h2
      ((go_wp2_with fail); (have hx := ac_back HAX.out); (have hbx := bl_back HKX.out (Nat.le_refl _) (.int .i64 0) (.slice none 0 0) (.slice none 0 0)); (have hc0 := hx.c0); (have hc1 := hx.c1); (have hc2 := hx.c2))
      (exact bodyPost_ret (v := .tuple #[.agg #[.int .i64 0, .slice none 0 0, .slice none 0 0], .int .i64 0, .int .i64 80]) (by simp [results, Tryz.results15, go_sem, hc0, hc1, hc2]) rfl ⟨by rw [HX.out]; exact readIs_none _ 80, hbx⟩)
  have HX1 := Lib.hid (show readA l = if K = l.length then (noAns, 0, 2) else endR l K (headR (cutL (l.take K))) by rw [HX0.out, if_neg h80])
  by_cases hKe : K = l.length
  · have HX := Lib.hid (show readA l = (noAns, 0, 2) by rw [HX1.out, if_pos hKe])
    have hKe' : l.length = K := hKe.symm
    have n2 : ¬ K < l.length := by omega
    clear hroom HX0 HX1 hKe
    by_cases h1 : 8192 < K
    · have n3 : ¬ 8196 ≤ K := fun h => h80 ⟨h1, .inr h⟩
      clear h80
      ((go_wp2_with fail); (have hx := ac_back HAX.out); (have hbx := bl_back HKX.out (Nat.le_refl _) (.int .i64 0) (.slice none 0 0) (.slice none 0 0)); (have hc0 := hx.c0); (have hc1 := hx.c1); (have hc2 := hx.c2))
      (exact bodyPost_ret (v := .tuple #[.agg #[.int .i64 0, .slice none 0 0, .slice none 0 0], .int .i64 0, .int .i64 2]) (by simp [results, Tryz.results15, go_sem, hc0, hc1, hc2]) rfl ⟨by rw [HX.out]; exact readIs_none _ 2, hbx⟩)
    · clear h80
      ((go_wp2_with fail); (have hx := ac_back HAX.out); (have hbx := bl_back HKX.out (Nat.le_refl _) (.int .i64 0) (.slice none 0 0) (.slice none 0 0)); (have hc0 := hx.c0); (have hc1 := hx.c1); (have hc2 := hx.c2))
      (exact bodyPost_ret (v := .tuple #[.agg #[.int .i64 0, .slice none 0 0, .slice none 0 0], .int .i64 0, .int .i64 2]) (by simp [results, Tryz.results15, go_sem, hc0, hc1, hc2]) rfl ⟨by rw [HX.out]; exact readIs_none _ 2, hbx⟩)
  have hf : K < l.length := by omega
  have hrm := hroom hf
  have h81 : ¬ 8192 < K := fun h => h80 ⟨h, .inl hf⟩
  have HX2 := Lib.hid (show readA l = endR l K (headR (cutL (l.take K))) by rw [HX1.out, if_neg hKe])
  have hts : ((ofL l).extract 0 K).toList = l.take K := by rw [toL_to, toL_ofL]
  have htz : ((ofL l).extract 0 K).size ≤ 1048576 := by rw [ByteArray.size_extract]; omega
  have HCU := Lib.hid (cut_any ((ofL l).extract 0 K) htz w1)
  rw [hts] at HCU
  have hcm := cutL_small _ (l.take K) rfl
  have htl : (l.take K).length ≤ 8192 := by rw [List.length_take]; omega
  have hcl := cutL_len (l.take K)
  have hcn := cutL_ne (l.take K)
  have HCM := Lib.hid (fun x hx => Nat.le_trans (hcm x hx) (Nat.le_trans htl (show 8192 ≤ 1048576 by omega)))
  have HCN := Lib.hid hcn
  have hcl2 : (cutL (l.take K)).length ≤ 1048576 := by omega
  obtain ⟨ho, hho⟩ : ∃ ho, headR (cutL (l.take K)) = ho := ⟨_, rfl⟩
  rw [hho] at HX2
  have HHO := Lib.hid hho
  generalize cutL (l.take K) = ls at *
  clear HX0 HX1 h80 hKe hroom hts hcm htl hcl hcn hho
  go_wp2_with fail
  refine HCU.out.mono ?_
  rintro e w3 ⟨v3, rfl, ho3, hb3⟩
  have HRH := Lib.hid (refHead_any ls v3 w3 (rd_of_own ho3) HCN.out hcl2 HCM.out)
  rw [HHO.out] at HRH
  have hac3 := HAX.out.below hb3
  have hk3 := bl_next HKX.out hb3
  have HAX3 := Lib.hid hac3
  have HKX3 := Lib.hid hk3
  obtain ⟨A3, c3, rfl⟩ := (rd_of_own ho3).shape
  have hws := HAX.out.lt
  have hs3 := hb3.size
  clear ho3 hb3 hac3 hk3 HAX HKX c0 c1 c2 f0 f1 f2 HCU HCN HCM
  go_wp2_with fail
  refine HRH.out.mono ?_
  rintro e w5 ⟨hh, hb5⟩
  have hac2 := HAX3.out.below hb5
  have hkx := bl_next HKX3.out hb5
  cases ho with
  | none =>
    obtain ⟨a, A', n, c, z, rfl⟩ := hh
    have HX := Lib.hid (show readA l = (noAns, 0, 80) from HX2.out)
    have hb6 := (Below.refl w5.heap.size w5).alloc (Nat.le_refl _) (.cells #[.int .i64 a, .slice A' n c, .slice none 0 0] 25)
    replace hac2 := hac2.below hb6
    replace hkx := bl_next hkx hb6
    have HAX := Lib.hid hac2
    have HKX := Lib.hid hkx
    ((have c0 := hac2.c0); (have c1 := hac2.c1); (have c2 := hac2.c2); (have f0 := hac2.fz 0); (have f1 := hac2.fz 1); (have f2 := hac2.fz 2))
    clear hac2 hkx hb6 hb5
    ((go_wp2_with fail); (have hx := ac_back HAX.out); (have hbx := bl_back HKX.out (Nat.le_refl _) (.int .i64 0) (.slice none 0 0) (.slice none 0 0)); (have hc0 := hx.c0); (have hc1 := hx.c1); (have hc2 := hx.c2))
    (exact bodyPost_ret (v := .tuple #[.agg #[.int .i64 0, .slice none 0 0, .slice none 0 0], .int .i64 0, .int .i64 80]) (by simp [results, Tryz.results15, go_sem, hc0, hc1, hc2]) rfl ⟨by rw [HX.out]; exact readIs_none _ 80, hbx⟩)
  | some x =>
    obtain ⟨st, hq, n⟩ := x
    obtain ⟨v, rfl, hown⟩ := hh
    simp only at hown ⊢
    obtain ⟨A7, c7, rfl⟩ := (rd_of_own (show w5.ownsRow _ _ _ _ _ _ from hown)).shape
    have HX3 := Lib.hid (show readA l = if 32768 < n then (noAns, 0, 81) else if l.length - K - 4 < n then (noAns, 0, 2) else (⟨st, hq, (l.drop (K + 4)).take n⟩, K + 4 + n, 0) from HX2.out)
    have hb6 := (Below.refl w5.heap.size w5).alloc (Nat.le_refl _) (.cells #[.int .i64 st, .slice A7 hq.length c7, .slice none 0 0] 25)
    have h7 : AC (w5.alloc (.cells #[.int .i64 st, .slice A7 hq.length c7, .slice none 0 0] 25)) w5.heap.size st (.slice A7 hq.length c7) (.slice none 0 0) := heap_alloc_new _ _
    have hown6 := own_below (show w5.ownsRow _ _ _ _ _ _ from hown) hb6
    have HOL := Lib.hid (fun k hk => ((show w5.ownsRow _ _ _ _ _ _ from hown).lt k hk))
    have hs5 := hb5.size
    replace hac2 := hac2.below hb6
    replace hkx := bl_next hkx hb6
    have HAX := Lib.hid hac2
    have HKX := Lib.hid hkx
    have HO6 := Lib.hid hown6
    ((have c0 := hac2.c0); (have c1 := hac2.c1); (have c2 := hac2.c2); (have f0 := hac2.fz 0); (have f1 := hac2.fz 1); (have f2 := hac2.fz 2))
    clear hac2 hkx hb6 hb5 hown hown6
    by_cases h32 : 32768 < n
    · have HX := Lib.hid (show readA l = (noAns, 0, 81) by rw [HX3.out, if_pos h32])
      clear h7
      ((go_wp2_with fail); (have hx := ac_back HAX.out); (have hbx := bl_back HKX.out (Nat.le_refl _) (.int .i64 0) (.slice none 0 0) (.slice none 0 0)); (have hc0 := hx.c0); (have hc1 := hx.c1); (have hc2 := hx.c2))
      (exact bodyPost_ret (v := .tuple #[.agg #[.int .i64 0, .slice none 0 0, .slice none 0 0], .int .i64 0, .int .i64 81]) (by simp [results, Tryz.results15, go_sem, hc0, hc1, hc2]) rfl ⟨by rw [HX.out]; exact readIs_none _ 81, hbx⟩)
    have y1 : IntKind.i64.wrap ((l.length : Int) - K) = (l.length : Int) - K := IntWalk.i64_in _ (by omega)
    have y2 : IntKind.i64.wrap ((l.length : Int) - K - 4) = (l.length : Int) - K - 4 := IntWalk.i64_in _ (by omega)
    by_cases hsh : l.length - K - 4 < n
    · have HX := Lib.hid (show readA l = (noAns, 0, 2) by rw [HX3.out, if_neg h32, if_pos hsh])
      have q1 : (l.length : Int) - K - 4 < n := by omega
      clear h7
      ((go_wp2_with fail); (have hx := ac_back HAX.out); (have hbx := bl_back HKX.out (Nat.le_refl _) (.int .i64 0) (.slice none 0 0) (.slice none 0 0)); (have hc0 := hx.c0); (have hc1 := hx.c1); (have hc2 := hx.c2))
      (exact bodyPost_ret (v := .tuple #[.agg #[.int .i64 0, .slice none 0 0, .slice none 0 0], .int .i64 0, .int .i64 2]) (by simp [results, Tryz.results15, go_sem, hc0, hc1, hc2]) rfl ⟨by rw [HX.out]; exact readIs_none _ 2, hbx⟩)
    have q1 : ¬ (l.length : Int) - K - 4 < n := by omega
    have HX := Lib.hid (show readA l = (⟨st, hq, (l.drop (K + 4)).take n⟩, K + 4 + n, 0) by rw [HX3.out, if_neg h32, if_neg hsh])
    have hnl : K + 4 + n ≤ l.length := by omega
    obtain ⟨dd, hdd⟩ : ∃ dd, (l.drop (K + 4)).take n = dd := ⟨_, rfl⟩
    have hdl : dd.length = n := by rw [← hdd, List.length_take, List.length_drop]; omega
    rw [hdd] at HX
    clear HX2 HX3
    subst hdl
    have hSz : ((ofL l).extract (K + 4) (K + 4 + dd.length)).size = dd.length := by rw [ByteArray.size_extract]; omega
    have hSl : ((ofL l).extract (K + 4) (K + 4 + dd.length)).toList = dd := by
      have h4 : K + 4 + dd.length - (K + 4) = dd.length := by omega
      rw [toL_extract, toL_ofL, List.drop_take, h4, hdd]
    obtain ⟨g8, c8, w7, kcv, hot, hb7⟩ : ∃ g8 c8 w7, (convert 9 23 (.string ((ofL l).extract (K + 4) (K + 4 + dd.length)))).run Tryz.prog (w5.alloc (.cells #[.int .i64 st, .slice A7 hq.length c7, .slice none 0 0] 25)) = .ok (.slice (some ⟨g8, 0, none⟩) dd.length c8) w7 ∧
        OwnT w7 (w5.alloc (.cells #[.int .i64 st, .slice A7 hq.length c7, .slice none 0 0] 25)).heap.size 5 (.slice (some ⟨g8, 0, none⟩) dd.length c8) dd ∧ BL (w5.alloc (.cells #[.int .i64 st, .slice A7 hq.length c7, .slice none 0 0] 25)) w7 := by
      refine ⟨_, _, _, conv_run _ _ |>.trans ?_, ownT_conv _ _ _ _ _ hSz hSl (by omega) (Nat.le_refl _), bl_conv (bl_refl _) _⟩
      rw [hSz]
    have hg2 := HAX.out.below hb7
    have hg7 := h7.below hb7
    have hk7 := bl_next HKX.out hb7
    have hne : w.heap.size ≠ w5.heap.size := by omega
    have j2 := hg7.c2
    have jf := hg7.fz 2
    have ht := Touch.setCell (F := fun k => k = w5.heap.size) (p := ⟨w5.heap.size, 2, none⟩) (Touch.refl _ w7) rfl (.slice (some ⟨g8, 0, none⟩) dd.length c8)
    have h2s := hg2.touch ht hne
    have h7s := hg7.set2 (.slice (some ⟨g8, 0, none⟩) dd.length c8)
    have hlt7 := h7.lt
    have HO8 := Lib.hid (hot.touch ht (fun k hk e => by have e' : k = w5.heap.size := e; have := (hot.lt k hk).1; omega))
    have HO7 := Lib.hid (own_touch (own_below HO6.out hb7) ht (fun k hk e => by have e' : k = w5.heap.size := e; have := (HOL.out k hk).2; omega))
    have HK8 := Lib.hid (Below.setCell (p := ⟨w5.heap.size, 2, none⟩) hk7 (show w.heap.size ≤ w5.heap.size by omega) (.slice (some ⟨g8, 0, none⟩) dd.length c8))
    have HG2 := Lib.hid h2s
    have k0 := h7s.c0
    have k1 := h7s.c1
    have k2 := h7s.c2
    clear c0 c1 c2 f0 f1 f2
    have hac2 := h2s
    ((have c0 := hac2.c0); (have c1 := hac2.c1); (have c2 := hac2.c2); (have f0 := hac2.fz 0); (have f1 := hac2.fz 1); (have f2 := hac2.fz 2))
    clear hac2 h2s h7s ht hg2 hg7 hk7 hot hb7 h7 hSz hSl hdd
    go_wp2_with fail
    have hx := ((HG2.out.set0 st).set1 (.slice A7 hq.length c7)).set2 (.slice (some ⟨g8, 0, none⟩) dd.length c8)
    have hbx := bl_back HK8.out (Nat.le_refl _) (.int .i64 st) (.slice A7 hq.length c7) (.slice (some ⟨g8, 0, none⟩) dd.length c8)
    have hc0 := hx.c0
    have hc1 := hx.c1
    have hc2 := hx.c2
    refine bodyPost_ret (v := .tuple #[.agg #[.int .i64 st, .slice A7 hq.length c7, .slice (some ⟨g8, 0, none⟩) dd.length c8], .int .i64 ((K + 4 + dd.length : Nat) : Int), .int .i64 0]) (by simp [results, Tryz.results15, go_sem, hc0, hc1, hc2]) rfl ⟨?_, hbx⟩
    rw [HX.out]
    have htb := touch_back w.heap.size (w7.setCell ⟨w5.heap.size, 2, none⟩ (.slice (some ⟨g8, 0, none⟩) dd.length c8)) (.int .i64 st) (.slice A7 hq.length c7) (.slice (some ⟨g8, 0, none⟩) dd.length c8)
    exact ⟨_, rfl, _, _, rfl, rd_of_own (own_touch HO7.out htb (fun k hk e => by have e' : k = w.heap.size := e; have := (HOL.out k hk).1; omega)), (HO8.out.touch htb (fun k hk e => by have e' : k = w.heap.size := e; have := (HO8.out.lt k hk).1; omega)).part⟩
end Go.Proofs.YtgdelmkgdfhdpaaGreatDoor
