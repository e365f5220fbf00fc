/- The answer with which bytes begin (httpd.Read). Conditions: the bytes are few; tables and errors of the library's. -/
import Derived.Test.YtgdelmkgdfhdpaaGreatDoorReadB
import Derived.Test.YtgdelmkgdfhdpaaGreatDoorLawR
namespace Go.Proofs.YtgdelmkgdfhdpaaGreatDoor
open Go.RowKit
set_option linter.unusedVariables false
set_option linter.unusedSimpArgs false
set_option maxRecDepth 100000

def ReadIs (x : Ans × Nat × Nat) (e : Ending) (w : World) : Prop := ∃ v, e = .returned (.tuple #[v, .int .i64 x.2.1, .int .i64 x.2.2]) ∧ AnsP w x.1.s x.1.h x.1.b v
theorem ansP_none (w : World) : AnsP w 0 [] [] (.agg #[.int .i64 0, .slice none 0 0, .slice none 0 0]) :=
  ⟨_, _, rfl, ⟨rfl, none, 0, rfl, Nat.le_refl _, Nat.zero_le _, fun _ => rfl, fun a ha => by cases ha⟩, part_nil w⟩
theorem readIs_none (w : World) (n : Nat) : ReadIs (noAns, 0, n) (.returned (.tuple #[.agg #[.int .i64 0, .slice none 0 0, .slice none 0 0], .int .i64 0, .int .i64 n])) w := ⟨_, rfl, ansP_none w⟩
/-- 'b[i:j]': part of bytes. -/
theorem part_mid {w : World} {b o c i n : Nat} {l : B} (h : Part w (.slice (some ⟨b, o, none⟩) l.length c, l)) (hk : i + n ≤ l.length) : Part w (.slice (some ⟨b, o + i, none⟩) n (c - i), (l.drop i).take n) := by
  have h1 := part_drop h (show i ≤ l.length by omega)
  have hl : (l.drop i).length = l.length - i := List.length_drop ..
  rw [← hl] at h1
  exact part_take h1 (by omega)
theorem rd_lit4 (W : World) (g : Nat) (fr : Nat × Nat) (hg : g = W.heap.size) : Rd (W.alloc (.cells #[.int .u8 13, .int .u8 10, .int .u8 13, .int .u8 10] 5 fr)) 1 (.slice (some ⟨g, 0, none⟩) 4 4) 4 (bytesV crL) := by
  subst hg
  refine ⟨rfl, _, _, rfl, by decide, by unfold maxLen; omega, (fun h => by cases h), fun a ha => ?_⟩
  cases ha
  refine ⟨rfl, fun j u hj => ?_⟩
  rw [Nat.zero_add, World.cell?_alloc_mark]
  have e : bytesV crL = [.int .u8 13, .int .u8 10, .int .u8 13, .int .u8 10] := rfl
  rw [e] at hj
  simpa using hj
set_option maxHeartbeats 8000000 in
theorem read_any (l : B) (v : Value) (w : World) (hS : Part w (v, l)) (hl : l.length ≤ 1048576) (hT : Tab10 w) (hE : Errs w) (hg : Glob w) :
    Calls Tryz.prog 14 #[v] w fun e w' => ReadIs (readA l) e w' ∧ BL w w' := by
  obtain ⟨A, cp, hv⟩ := hS.1.shape
  have hv' : v = .slice A l.length cp := hv
  subst hv'
  have HS := Lib.hid hS
  have HT := Lib.hid hT
  have HE := Lib.hid hE
  have HG := Lib.hid hg
  clear hS hT hE hg hv
  have kc := fun o o' => Go.Joins.run_convert_bytes_const_at (P := Tryz.prog) ((w.alloc o).alloc o') 23 5 #[.int .u8 13, .int .u8 10, .int .u8 13, .int .u8 10] 4 4 (w.heap.size + 2) (by simp) Tryz.underlying23 Tryz.underlying5
  go_enter Tryz.func14, Tryz.ntmps14
  go_wp2_with fail
  clear kc
  have hz2 : AC ((w.alloc (.cells #[.int .i64 0, .slice none 0 0, .slice none 0 0] 25)).alloc (.cells #[.int .i64 0, .slice none 0 0, .slice none 0 0] 25)) w.heap.size 0 (.slice none 0 0) (.slice none 0 0) :=
    AC.below (heap_alloc_new _ _) ((Below.refl _ _).alloc (Nat.le_refl _) _)
  have hz5 : AC ((w.alloc (.cells #[.int .i64 0, .slice none 0 0, .slice none 0 0] 25)).alloc (.cells #[.int .i64 0, .slice none 0 0, .slice none 0 0] 25)) (w.heap.size + 1) 0 (.slice none 0 0) (.slice none 0 0) := by
    have := heap_alloc_new (w.alloc (.cells #[.int .i64 0, .slice none 0 0, .slice none 0 0] 25)) (.cells #[.int .i64 0, .slice none 0 0, .slice none 0 0] 25)
    simpa [AC] using this
  have hk := bl_alloc (bl_alloc (bl_alloc (bl_refl w) (.cells #[.int .i64 0, .slice none 0 0, .slice none 0 0] 25)) (.cells #[.int .i64 0, .slice none 0 0, .slice none 0 0] 25)) (.cells #[.int .u8 13, .int .u8 10, .int .u8 13, .int .u8 10] 5 (4, 5))
  have hr4 := rd_lit4 ((w.alloc (.cells #[.int .i64 0, .slice none 0 0, .slice none 0 0] 25)).alloc (.cells #[.int .i64 0, .slice none 0 0, .slice none 0 0] 25)) (w.heap.size + 2) (4, 5) (by simp)
  have hbc := (Below.refl _ ((w.alloc (.cells #[.int .i64 0, .slice none 0 0, .slice none 0 0] 25)).alloc (.cells #[.int .i64 0, .slice none 0 0, .slice none 0 0] 25))).alloc (Nat.le_refl _) (.cells #[.int .u8 13, .int .u8 10, .int .u8 13, .int .u8 10] 5 (4, 5))
  replace hz2 := hz2.below hbc
  replace hz5 := hz5.below hbc
  clear hbc
  generalize ((w.alloc (.cells #[.int .i64 0, .slice none 0 0, .slice none 0 0] 25)).alloc (.cells #[.int .i64 0, .slice none 0 0, .slice none 0 0] 25)).alloc (.cells #[.int .u8 13, .int .u8 10, .int .u8 13, .int .u8 10] 5 (4, 5)) = w3 at *
  have hbi := bindex_any l A cp (w.heap.size + 2) w3 (HS.out.bl hk).1 hl (fun h => HS.out.2 _ _ (by rw [h])) hr4 (HG.out.next hk)
  obtain ⟨K, hK⟩ : ∃ K, whereL crL l = K := ⟨_, rfl⟩
  rw [hK] at hbi
  have HX0 := Lib.hid (show readA l = if 8192 < K ∧ (K < l.length ∨ 8196 ≤ K) then (noAns, 0, 80) else if K = l.length then (noAns, 0, 2) else endR l K (headR (cutL (l.take K))) by
    unfold readA; rw [hK])
  have hKl : K ≤ l.length := by rw [← hK]; exact whereL_le _ _
  have HKW := Lib.hid hK
  have HZ2 := Lib.hid hz2
  have HZ5 := Lib.hid hz5
  have HK3 := Lib.hid hk
  clear hK hz2 hz5 hk hr4
  by_cases hf : K < l.length
  case neg =>
    rw [if_neg hf] at hbi
    have hKe : K = l.length := by omega
    refine hbi.mono ?_
    rintro e w4 ⟨rfl, hb4⟩
    have hz2 := HZ2.out.below hb4
    have hz5 := HZ5.out.below hb4
    have HAX := Lib.hid hz2
    have HKX := Lib.hid (bl_next HK3.out hb4)
    have c0 := hz2.c0
    have c1 := hz2.c1
    have c2 := hz2.c2
    have f0 := hz2.fz 0
    have f1 := hz2.fz 1
    have f2 := hz2.fz 2
    have d0 := hz5.c0
    have d1 := hz5.c1
    have d2 := hz5.c2
    clear hz2 hz5 hb4 hf hbi
    by_cases h8 : l.length < 8196
    · have HX := Lib.hid (show readA l = (noAns, 0, 2) by rw [HX0.out, if_neg (by omega), if_pos hKe])
      clear hKe
      ((go_wp2_with fail); (have hx := ac_back HAX.out); (have hbx := bl_back HKX.out (Nat.le_refl _) (.int .i64 0) (.slice none 0 0) (.slice none 0 0)); (have hc0 := hx.c0); (have hc1 := hx.c1); (have hc2 := hx.c2))
      exact bodyPost_ret (v := .tuple #[.agg #[.int .i64 0, .slice none 0 0, .slice none 0 0], .int .i64 0, .int .i64 2]) (by simp [results, Tryz.results14, go_sem, hc0, hc1, hc2]) rfl ⟨by rw [HX.out]; exact readIs_none _ 2, hbx⟩
    · have HX := Lib.hid (show readA l = (noAns, 0, 80) by rw [HX0.out, if_pos (by omega)])
      clear hKe
      ((go_wp2_with fail); (have hx := ac_back HAX.out); (have hbx := bl_back HKX.out (Nat.le_refl _) (.int .i64 0) (.slice none 0 0) (.slice none 0 0)); (have hc0 := hx.c0); (have hc1 := hx.c1); (have hc2 := hx.c2))
      exact bodyPost_ret (v := .tuple #[.agg #[.int .i64 0, .slice none 0 0, .slice none 0 0], .int .i64 0, .int .i64 80]) (by simp [results, Tryz.results14, go_sem, hc0, hc1, hc2]) rfl ⟨by rw [HX.out]; exact readIs_none _ 80, hbx⟩
  case pos =>
    rw [if_pos hf] at hbi
    have hroom : K + 4 ≤ l.length := by
      have := whereL_room (t := crL) (s := l) (by rw [HKW.out]; exact hf)
      rw [HKW.out] at this
      exact this
    refine hbi.mono ?_
    rintro e w4 ⟨rfl, hb4⟩
    have hz2 := HZ2.out.below hb4
    have hz5 := HZ5.out.below hb4
    have hkx := bl_next HK3.out hb4
    have HAX := Lib.hid hz2
    have HA5 := Lib.hid hz5
    have HKX := Lib.hid hkx
    have c0 := hz2.c0
    have c1 := hz2.c1
    have c2 := hz2.c2
    have f0 := hz2.fz 0
    have f1 := hz2.fz 1
    have f2 := hz2.fz 2
    have d0 := hz5.c0
    have d1 := hz5.c1
    have d2 := hz5.c2
    clear hb4 hbi hz2 hz5
    by_cases h81 : 8192 < K
    · have HX := Lib.hid (show readA l = (noAns, 0, 80) by rw [HX0.out, if_pos ⟨h81, .inl hf⟩])
      clear hkx
      ((go_wp2_with fail); (have hx := ac_back HAX.out); (have hbx := bl_back HKX.out (Nat.le_refl _) (.int .i64 0) (.slice none 0 0) (.slice none 0 0)); (have hc0 := hx.c0); (have hc1 := hx.c1); (have hc2 := hx.c2))
      exact bodyPost_ret (v := .tuple #[.agg #[.int .i64 0, .slice none 0 0, .slice none 0 0], .int .i64 0, .int .i64 80]) (by simp [results, Tryz.results14, go_sem, hc0, hc1, hc2]) rfl ⟨by rw [HX.out]; exact readIs_none _ 80, hbx⟩
    have HX1 := Lib.hid (show readA l = endR l K (headR (cutL (l.take K))) by rw [HX0.out, if_neg (by omega), if_neg (by omega)])
    have hcap : l.length ≤ cp := by
      obtain ⟨_, A', c', h2, h3, _⟩ := HS.out.1
      cases h2
      exact h3
    have kcv := conv_rd (P := Tryz.prog) 23 9 5 Tryz.underlying23 Tryz.underlying5 Tryz.underlying9 (rd_take (HS.out.bl hkx).1 hKl)
    have htk : (ofL (l.take K)).size ≤ 1048576 := by rw [size_ofL, List.length_take]; omega
    have HAH := Lib.hid (answerHead_any (ofL (l.take K)) htk w4 (HT.out.next hkx) (HE.out.next hkx) (HG.out.next hkx))
    rw [toL_ofL] at HAH
    generalize hho : headR (cutL (l.take K)) = ho at *
    have hAs : ∃ b o, A = some ⟨b, o, none⟩ := by
      obtain ⟨x0, hx0⟩ : ∃ x, l[0]? = some x := ⟨l[0]'(by omega), List.getElem?_eq_getElem _⟩
      obtain ⟨b, o, hA, _⟩ := HS.out.1.byteAt hx0
      exact ⟨b, o, hA⟩
    obtain ⟨b, o, rfl⟩ := hAs
    clear hho hkx
    go_wp2_with fail
    clear kcv c0 c1 c2 f0 f1 f2 d0 d1 d2
    refine HAH.out.mono ?_
    rintro e w5 ⟨hh, hb5⟩
    have hz2 := HAX.out.below hb5
    have hz5 := HA5.out.below hb5
    have hkx := bl_next HKX.out hb5
    have hlt4 := HAX.out.lt
    have hs45 := hb5.size
    cases ho with
    | none =>
      obtain ⟨a, A', n, c, z, rfl⟩ := hh
      have HX := Lib.hid (show readA l = (noAns, 0, 80) from HX1.out)
      clear HAX HA5 HKX HAH
      have hb6 := (Below.refl w5.heap.size w5).alloc (Nat.le_refl _) (.cells #[.int .i64 a, .slice A' n c, .slice none 0 0] 25)
      replace hz2 := hz2.below hb6
      replace hz5 := hz5.below hb6
      replace hkx := bl_next hkx hb6
      have HAX := Lib.hid hz2
      have HKX := Lib.hid hkx
      have c0 := hz2.c0
      have c1 := hz2.c1
      have c2 := hz2.c2
      have f0 := hz2.fz 0
      have f1 := hz2.fz 1
      have f2 := hz2.fz 2
      have d0 := hz5.c0
      have d1 := hz5.c1
      have d2 := hz5.c2
      clear hz2 hz5 hkx hb6 hb5
      ((go_wp2_with fail); (have hx := ac_back HAX.out); (have hbx := bl_back HKX.out (Nat.le_refl _) (.int .i64 0) (.slice none 0 0) (.slice none 0 0)); (have hc0 := hx.c0); (have hc1 := hx.c1); (have hc2 := hx.c2))
      exact bodyPost_ret (v := .tuple #[.agg #[.int .i64 0, .slice none 0 0, .slice none 0 0], .int .i64 0, .int .i64 80]) (by simp [results, Tryz.results14, go_sem, hc0, hc1, hc2]) rfl ⟨by rw [HX.out]; exact readIs_none _ 80, hbx⟩
    | some x =>
      obtain ⟨st, hq, n⟩ := x
      obtain ⟨v, rfl, hown⟩ := hh
      simp only at hown ⊢
      obtain ⟨A7, c7, rfl⟩ := (rd_of_own (show w5.ownsRow _ _ _ _ _ _ from hown)).shape
      have HX2 := Lib.hid (show readA l = if 32768 < n then (noAns, 0, 81) else if l.length - K - 4 < n then (noAns, 0, 2) else (⟨st, hq, (l.drop (K + 4)).take n⟩, K + 4 + n, 0) from HX1.out)
      clear HAX HA5 HKX HAH
      have hb6 := (Below.refl w5.heap.size w5).alloc (Nat.le_refl _) (.cells #[.int .i64 st, .slice A7 hq.length c7, .slice none 0 0] 25)
      have h7 : AC (w5.alloc (.cells #[.int .i64 st, .slice A7 hq.length c7, .slice none 0 0] 25)) w5.heap.size st (.slice A7 hq.length c7) (.slice none 0 0) := heap_alloc_new _ _
      have hown6 := own_below (show w5.ownsRow _ _ _ _ _ _ from hown) hb6
      replace hz2 := hz2.below hb6
      replace hz5 := hz5.below hb6
      replace hkx := bl_next hkx hb6
      have HAX := Lib.hid hz2
      have HKX := Lib.hid hkx
      have HO6 := Lib.hid hown6
      have HOL := Lib.hid (fun k hk => ((show w5.ownsRow _ _ _ _ _ _ from hown).lt k hk))
      have c0 := hz2.c0
      have c1 := hz2.c1
      have c2 := hz2.c2
      have f0 := hz2.fz 0
      have f1 := hz2.fz 1
      have f2 := hz2.fz 2
      have d0 := hz5.c0
      have d1 := hz5.c1
      have d2 := hz5.c2
      clear hz2 hz5 hkx hb6 hb5 hown hown6
      by_cases h32 : 32768 < n
      · have HX := Lib.hid (show readA l = (noAns, 0, 81) by rw [HX2.out, if_pos h32])
        clear h7
        ((go_wp2_with fail); (have hx := ac_back HAX.out); (have hbx := bl_back HKX.out (Nat.le_refl _) (.int .i64 0) (.slice none 0 0) (.slice none 0 0)); (have hc0 := hx.c0); (have hc1 := hx.c1); (have hc2 := hx.c2))
        exact bodyPost_ret (v := .tuple #[.agg #[.int .i64 0, .slice none 0 0, .slice none 0 0], .int .i64 0, .int .i64 81]) (by simp [results, Tryz.results14, go_sem, hc0, hc1, hc2]) rfl ⟨by rw [HX.out]; exact readIs_none _ 81, hbx⟩
      have y1 : IntKind.i64.wrap ((l.length : Int) - K) = (l.length : Int) - K := IntWalk.i64_in _ (by omega)
      have y2 : IntKind.i64.wrap ((l.length : Int) - K - 4) = (l.length : Int) - K - 4 := IntWalk.i64_in _ (by omega)
      by_cases hsh : l.length - K - 4 < n
      · have HX := Lib.hid (show readA l = (noAns, 0, 2) by rw [HX2.out, if_neg h32, if_pos hsh])
        have q1 : (l.length : Int) - K - 4 < n := by omega
        clear h7
        ((go_wp2_with fail); (have hx := ac_back HAX.out); (have hbx := bl_back HKX.out (Nat.le_refl _) (.int .i64 0) (.slice none 0 0) (.slice none 0 0)); (have hc0 := hx.c0); (have hc1 := hx.c1); (have hc2 := hx.c2))
        exact bodyPost_ret (v := .tuple #[.agg #[.int .i64 0, .slice none 0 0, .slice none 0 0], .int .i64 0, .int .i64 2]) (by simp [results, Tryz.results14, go_sem, hc0, hc1, hc2]) rfl ⟨by rw [HX.out]; exact readIs_none _ 2, hbx⟩
      have q1 : ¬ (l.length : Int) - K - 4 < n := by omega
      have HX := Lib.hid (show readA l = (⟨st, hq, (l.drop (K + 4)).take n⟩, K + 4 + n, 0) by rw [HX2.out, if_neg h32, if_neg hsh])
      have hnl : K + 4 + n ≤ l.length := by omega
      clear d0 d1 d2 hsh
      obtain ⟨dd, hdd⟩ : ∃ dd, (l.drop (K + 4)).take n = dd := ⟨_, rfl⟩
      have hdl : dd.length = n := by rw [← hdd, List.length_take, List.length_drop]; omega
      rw [hdd] at HX
      clear HX1 HX2
      subst hdl
      by_cases hce : K + 4 < cp
      · have hpm := part_mid (HS.out.bl HKX.out) hnl
        rw [hdd] at hpm
        have HCL := Lib.hid (clone_any dd _ _ hpm.1 (by omega))
        clear hpm hdd
        ((go_wp2_with fail); (refine HCL.out.mono ?_); (rintro e w7 ⟨v8, rfl, ho8, hb7⟩); (obtain ⟨A8, c8, rfl⟩ := (rd_of_own ho8).shape); (have hg2 := HAX.out.below hb7); (have hg7 := h7.below hb7); (have hk7 := bl_next HKX.out hb7); (have hne : w.heap.size ≠ w5.heap.size := by omega); (have j2 := hg7.c2); (have jf := hg7.fz 2); (have ht := Touch.setCell (F := fun k => k = w5.heap.size) (p := ⟨w5.heap.size, 2, none⟩) (Touch.refl _ w7) rfl (.slice A8 dd.length c8)); (have h2s := hg2.touch ht hne); (have h7s := hg7.set2 (.slice A8 dd.length c8)); (have HO8 := Lib.hid (own_touch ho8 ht (fun k hk e => by have e' : k = w5.heap.size := e; have := (ho8.lt k hk).1; have h2 := h7.lt; omega))); (have HO7 := Lib.hid (own_touch (own_below HO6.out hb7) ht (fun k hk e => by have e' : k = w5.heap.size := e; have := (HOL.out k hk).2; omega))); (have HK8 := Lib.hid (Below.setCell (p := ⟨w5.heap.size, 2, none⟩) hk7 (show w.heap.size ≤ w5.heap.size by omega) (.slice A8 dd.length c8))); (have HG2 := Lib.hid h2s); (have k0 := h7s.c0); (have k1 := h7s.c1); (have k2 := h7s.c2); (clear c0 c1 c2 f0 f1 f2); (have c0 := h2s.c0); (have c1 := h2s.c1); (have c2 := h2s.c2); (have f0 := h2s.fz 0); (have f1 := h2s.fz 1); (have f2 := h2s.fz 2); (clear h2s h7s ht hg2 hg7 hk7 ho8 hb7 h7); (go_wp2_with fail); (have hx := ((HG2.out.set0 st).set1 (.slice A7 hq.length c7)).set2 (.slice A8 dd.length c8)); (have hbx := bl_back HK8.out (Nat.le_refl _) (.int .i64 st) (.slice A7 hq.length c7) (.slice A8 dd.length c8)); (have hc0 := hx.c0); (have hc1 := hx.c1); (have hc2 := hx.c2); (refine bodyPost_ret (v := .tuple #[.agg #[.int .i64 st, .slice A7 hq.length c7, .slice A8 dd.length c8], .int .i64 ((K + 4 + dd.length : Nat) : Int), .int .i64 0]) (by simp [results, Tryz.results14, go_sem, hc0, hc1, hc2]) rfl ⟨?_, hbx⟩); (rw [HX.out]); (have htb := touch_back w.heap.size (w7.setCell ⟨w5.heap.size, 2, none⟩ (.slice A8 dd.length c8)) (.int .i64 st) (.slice A7 hq.length c7) (.slice A8 dd.length c8)); (exact ⟨_, rfl, _, _, rfl, rd_of_own (own_touch HO7.out htb (fun k hk e => by have e' : k = w.heap.size := e; have := (HOL.out k hk).1; omega)), Part.own (own_touch HO8.out htb (fun k hk e => by have e' : k = w.heap.size := e; have := (HO8.out.lt k hk).1; simp at this; omega))⟩))
      · have hce2 : K + 4 = cp := by omega
        have hn0 : dd.length = 0 := by omega
        have hd0 : dd = [] := List.eq_nil_of_length_eq_zero hn0
        subst hd0
        have HCL := Lib.hid (clone_any [] (.slice (some ⟨b, o, none⟩) 0 0) (w5.alloc (.cells #[.int .i64 st, .slice A7 hq.length c7, .slice none 0 0] 25)) (part_empty _ b o).1 (by simp))
        have hce3 : cp - (K + 4) = 0 := by omega
        have hce4 : cp = K + 4 := hce2.symm
        subst hce4
        clear hdd hce2 hn0 hce
        ((go_wp2_with fail); (refine HCL.out.mono ?_); (rintro e w7 ⟨v8, rfl, ho8, hb7⟩); (obtain ⟨A8, c8, rfl⟩ := (rd_of_own ho8).shape); (have hg2 := HAX.out.below hb7); (have hg7 := h7.below hb7); (have hk7 := bl_next HKX.out hb7); (have hne : w.heap.size ≠ w5.heap.size := by omega); (have j2 := hg7.c2); (have jf := hg7.fz 2); (have ht := Touch.setCell (F := fun k => k = w5.heap.size) (p := ⟨w5.heap.size, 2, none⟩) (Touch.refl _ w7) rfl (.slice A8 0 c8)); (have h2s := hg2.touch ht hne); (have h7s := hg7.set2 (.slice A8 0 c8)); (have HO8 := Lib.hid (own_touch ho8 ht (fun k hk e => by have e' : k = w5.heap.size := e; have := (ho8.lt k hk).1; have h2 := h7.lt; omega))); (have HO7 := Lib.hid (own_touch (own_below HO6.out hb7) ht (fun k hk e => by have e' : k = w5.heap.size := e; have := (HOL.out k hk).2; omega))); (have HK8 := Lib.hid (Below.setCell (p := ⟨w5.heap.size, 2, none⟩) hk7 (show w.heap.size ≤ w5.heap.size by omega) (.slice A8 0 c8))); (have HG2 := Lib.hid h2s); (have k0 := h7s.c0); (have k1 := h7s.c1); (have k2 := h7s.c2); (clear c0 c1 c2 f0 f1 f2); (have c0 := h2s.c0); (have c1 := h2s.c1); (have c2 := h2s.c2); (have f0 := h2s.fz 0); (have f1 := h2s.fz 1); (have f2 := h2s.fz 2); (clear h2s h7s ht hg2 hg7 hk7 ho8 hb7 h7); (go_wp2_with fail); (have hx := ((HG2.out.set0 st).set1 (.slice A7 hq.length c7)).set2 (.slice A8 0 c8)); (have hbx := bl_back HK8.out (Nat.le_refl _) (.int .i64 st) (.slice A7 hq.length c7) (.slice A8 0 c8)); (have hc0 := hx.c0); (have hc1 := hx.c1); (have hc2 := hx.c2); (refine bodyPost_ret (v := .tuple #[.agg #[.int .i64 st, .slice A7 hq.length c7, .slice A8 0 c8], .int .i64 ((K + 4 + ([] : B).length : Nat) : Int), .int .i64 0]) (by simp [results, Tryz.results14, go_sem, hc0, hc1, hc2]) rfl ⟨?_, hbx⟩); (rw [HX.out]); (have htb := touch_back w.heap.size (w7.setCell ⟨w5.heap.size, 2, none⟩ (.slice A8 0 c8)) (.int .i64 st) (.slice A7 hq.length c7) (.slice A8 0 c8)); (exact ⟨_, rfl, _, _, rfl, rd_of_own (own_touch HO7.out htb (fun k hk e => by have e' : k = w.heap.size := e; have := (HOL.out k hk).1; omega)), Part.own (own_touch HO8.out htb (fun k hk e => by have e' : k = w.heap.size := e; have := (HO8.out.lt k hk).1; simp at this; omega))⟩))
end Go.Proofs.YtgdelmkgdfhdpaaGreatDoor
