/- The law HttpdPrinted (blotterlaw08) is true: its walk. Conditions: none. -/
import Derived.Test.YtmhgnaemafohfaaGreatDoorPrintB
import Derived.Test.YtmhgnaemafohfaaGreatDoorLawE
namespace Go.Proofs.YtmhgnaemafohfaaGreatDoor
open Go.RowKit
set_option linter.unusedVariables false
set_option linter.unusedSimpArgs false
set_option maxRecDepth 100000

/-- How much a request is, as the law counts it. -/
def mostR (r : Req) : Int := (sizeG 0 r.h : Int) + min (r.b.length : Int) 262144 + min (r.p.length : Int) 262144 + min (r.m.length : Int) 262144

theorem line3_small (m t v : B) (h : (line3 m t v).2.2 = 0) : (line3 m t v).1.length ≤ 6 ∧ (line3 m t v).2.1.length ≤ 1024 := by
  unfold line3 at h ⊢
  by_cases c1 : eatL 7 v ≠ v.length ∨ allL m 1 16 2 = false ∨ [47].isPrefixOf t = false ∨ allL t 1 8192 3 = false
  · rw [if_pos c1] at h; exact absurd h (by decide)
  rw [if_neg c1] at h ⊢
  by_cases c2 : v.length ≠ 8 ∨ [72, 84, 84, 80, 47].isPrefixOf v = false ∨ isB 1 (v.getD 5 0) = false ∨ v.getD 6 0 ≠ 46 ∨ isB 1 (v.getD 7 0) = false
  · rw [if_pos c2] at h; exact absurd h (by decide)
  rw [if_neg c2] at h ⊢
  by_cases c3 : v ≠ [72, 84, 84, 80, 47, 49, 46, 49]
  · rw [if_pos c3] at h; exact absurd h (by decide)
  rw [if_neg c3] at h ⊢
  by_cases c4 : m ≠ [71, 69, 84] ∧ m ≠ [80, 79, 83, 84] ∧ m ≠ [80, 85, 84] ∧ m ≠ [68, 69, 76, 69, 84, 69]
  · rw [if_pos c4] at h; exact absurd h (by decide)
  rw [if_neg c4] at h ⊢
  by_cases c5 : 1024 < t.length
  · rw [if_pos c5] at h; exact absurd h (by decide)
  rw [if_neg c5]
  refine ⟨?_, by simp only; omega⟩
  show m.length ≤ 6
  by_cases a1 : m = [71, 69, 84]
  · rw [a1]; decide
  by_cases a2 : m = [80, 79, 83, 84]
  · rw [a2]; decide
  by_cases a3 : m = [80, 85, 84]
  · rw [a3]; decide
  by_cases a4 : m = [68, 69, 76, 69, 84, 69]
  · rw [a4]; decide
  · exact absurd ⟨a1, a2, a3, a4⟩ c4
theorem line_small (s : B) (h : (lineL s).2.2 = 0) : (lineL s).1.length ≤ 6 ∧ (lineL s).2.1.length ≤ 1024 := by
  unfold lineL line2 at h ⊢
  by_cases c1 : eatL 7 s = 0 ∨ eatL 7 s = s.length
  · rw [if_pos c1] at h; exact absurd h (by decide)
  rw [if_neg c1] at h ⊢
  split at h
  · exact absurd h (by decide)
  · rename_i c2
    rw [if_neg c2]
    exact line3_small _ _ _ h
theorem taken_small (l : B) (h : (progParse l).2.2 = 0) : (progParse l).1.m.length ≤ 6 ∧ (progParse l).1.p.length ≤ 1024 := by
  rw [parse_law] at h ⊢
  unfold refParse at h ⊢
  by_cases k1 : 8192 < whereL crL l ∧ (whereL crL l < l.length ∨ 8196 ≤ whereL crL l)
  · rw [if_pos k1] at h; cases h
  rw [if_neg k1] at h ⊢
  by_cases k2 : whereL crL l = l.length
  · rw [if_pos k2] at h; cases h
  rw [if_neg k2] at h ⊢
  by_cases k3 : (cutL (l.take (whereL crL l))).any hasCR = true
  · rw [if_pos k3] at h; cases h
  rw [if_neg k3] at h ⊢
  unfold parse2 parse3 at h ⊢
  split at h
  · rename_i h1; exact absurd h h1
  rename_i h1
  split at h
  · rename_i h2; exact absurd h h2
  rename_i h2
  split at h
  · rename_i h3; exact absurd h h3
  rename_i h3
  rw [if_neg h1, if_neg h2, if_neg h3]
  exact line_small _ (Decidable.of_not_not h1)
theorem ReqP.below {w w' : World} {r : Req} {v : Value} (h : ReqP w r v) (hb : Below w.heap.size w w') : ReqP w' r v := by
  obtain ⟨Hv, Bv, rfl, h1, h2⟩ := h
  exact ⟨_, _, rfl, h1.below hb, h2.below hb⟩
set_option maxHeartbeats 8000000 in
theorem printed_any (r : Req) (l : B) (v u : Value) (w : World) (hq : ReqP w r v) (hS : Part w (u, l)) (hn : r.h.length ≤ 4398046511104) (hbl : r.b.length ≤ 140737488351232) (hml : r.m.length ≤ 140737488351232) (hpl : r.p.length ≤ 140737488351232) (hg : Glob w) :
    Calls Tryz.prog 4 #[v, u] w fun e w' => e = .returned (.bool true) ∧ Below w.heap.size w w' := by
  obtain ⟨A, n, C, d, rfl⟩ := reqV_agg hq.req
  obtain ⟨A2, c2, hv⟩ := hS.1.shape
  have hv' : u = .slice A2 l.length c2 := hv
  subst hv'
  have HQ := Lib.hid hq
  have HG := Lib.hid hg
  have HSl := Lib.hid hS
  have HR := Lib.hid (show Rd w 2 (.slice A r.h.length n) r.h.length (pairs r.h) by
    obtain ⟨Hv, Bv, he, h1, h2⟩ := HQ.out
    simp only [Value.agg.injEq, Array.mk.injEq, List.cons.injEq, and_true] at he
    obtain ⟨_, _, rfl, rfl⟩ := he
    exact h1)
  have CA := Lib.hid (fun w' (hb : Below w.heap.size w w') => awake_any w' (HG.out.next hb))
  clear hq hg hS hv
  have hsz := sizeG_le r.h 0 (by omega)
  have hn' : r.h.length ≤ 140737488355328 := by omega
  have hRC : RC (w.alloc (.cells #[.string (ofL r.m), .string (ofL r.p), .slice A r.h.length n, .slice C r.b.length d] 27)) w.heap.size (ofL r.m) (ofL r.p) (.slice A r.h.length n) (.slice C r.b.length d) := heap_alloc_new _ _
  have hk : BL w (w.alloc (.cells #[.string (ofL r.m), .string (ofL r.p), .slice A r.h.length n, .slice C r.b.length d] 27)) := (Below.refl _ w).alloc (Nat.le_refl _) _
  have hz1 : ((ofL r.m).size : Int) = r.m.length := by rw [size_ofL]
  have hz2 : ((ofL r.p).size : Int) = r.p.length := by rw [size_ofL]
  have hbd := Lib.hid (show ∀ nq (w1 : World), BL w w1 → Below w.heap.size w (w1.drewN nq) from fun nq w1 h => Below.trans h (below_drewN _ _ _))
  have y1 : IntKind.i64.wrap ((sizeG 0 r.h : Int) + min (r.b.length : Int) 262144) = (sizeG 0 r.h : Int) + min (r.b.length : Int) 262144 := IntWalk.i64_in _ (by omega)
  have y2 : IntKind.i64.wrap ((sizeG 0 r.h : Int) + min (r.b.length : Int) 262144 + min (r.p.length : Int) 262144) = (sizeG 0 r.h : Int) + min (r.b.length : Int) 262144 + min (r.p.length : Int) 262144 := IntWalk.i64_in _ (by omega)
  have y3 : IntKind.i64.wrap ((sizeG 0 r.h : Int) + min (r.b.length : Int) 262144 + min (r.p.length : Int) 262144 + min (r.m.length : Int) 262144) = (sizeG 0 r.h : Int) + min (r.b.length : Int) 262144 + min (r.p.length : Int) 262144 + min (r.m.length : Int) 262144 := IntWalk.i64_in _ (by omega)
  by_cases hbig : 262144 < mostR r
  · unfold mostR at hbig
    (go_enter Tryz.func4, Tryz.ntmps4); (go_wp2_with fail); (generalize w.alloc (.cells #[.string (ofL r.m), .string (ofL r.p), .slice A r.h.length n, .slice C r.b.length d] 27) = w1 at *); (have k0 := hRC.c0); (have k1 := hRC.c1); (have k2 := hRC.c2); (have k3 := hRC.c3); (go_quiet ((go_at_call 18; exact Calls.quiet_of (size_any r.h _ _ (HR.out.below (Below.trans hk (below_drewN _ _ _))) hn'))))
    (go_wp2_with fail); (refine (CA.out _ (hbd.out nq w1 hk)).mono ?_); (rintro e w4 ⟨rfl, hb4⟩); (go_wp2_with fail); go_ret; (exact ⟨rfl, (hbd.out nq w1 hk).next hb4⟩)
  unfold mostR at hbig
  by_cases hbl2 : 262144 < l.length
  · have hbl3 : (262144 : Int) < l.length := by omega
    clear hbl2
    (go_enter Tryz.func4, Tryz.ntmps4); (go_wp2_with fail); (generalize w.alloc (.cells #[.string (ofL r.m), .string (ofL r.p), .slice A r.h.length n, .slice C r.b.length d] 27) = w1 at *); (have k0 := hRC.c0); (have k1 := hRC.c1); (have k2 := hRC.c2); (have k3 := hRC.c3); (go_quiet ((go_at_call 18; exact Calls.quiet_of (size_any r.h _ _ (HR.out.below (Below.trans hk (below_drewN _ _ _))) hn'))))
    (go_wp2_with fail); (refine (CA.out _ (hbd.out nq w1 hk)).mono ?_); (rintro e w4 ⟨rfl, hb4⟩); (go_wp2_with fail); go_ret; (exact ⟨rfl, (hbd.out nq w1 hk).next hb4⟩)
  have hbl3 : ¬ (262144 : Int) < l.length := by omega
  have hsg : sizeG 0 r.h ≤ 262144 := by omega
  have hlin := linesH_size r.h
  have hsH := sizeG_small r.h 0 hsg
  have hll : l.length ≤ 262144 := by omega
  have hms : (linesH r.h).length ≤ 1048576 := by omega
  have hPl : (printR r).length = r.m.length + r.p.length + (linesH r.h).length + r.b.length + 14 := by simp [printR, firstR]; omega
  have hPl2 : (printR r).length ≤ 140737488355328 := by omega
  have HMS := Lib.hid hms
  have HPL2 := Lib.hid hPl2
  have HPLE := Lib.hid hPl
  clear hsH hlin hms hPl2 hPl hsg
  (go_enter Tryz.func4, Tryz.ntmps4); (go_wp2_with fail); (generalize w.alloc (.cells #[.string (ofL r.m), .string (ofL r.p), .slice A r.h.length n, .slice C r.b.length d] 27) = w1 at *); (have k0 := hRC.c0); (have k1 := hRC.c1); (have k2 := hRC.c2); (have k3 := hRC.c3); (go_quiet ((go_at_call 18; exact Calls.quiet_of (size_any r.h _ _ (HR.out.below (Below.trans hk (below_drewN _ _ _))) hn'))))
  go_wp2_with fail
  have hwq := hbd.out nq w1 hk
  have Hwq := Lib.hid hwq
  refine (print_any r _ _ (HQ.out.below hwq) HMS.out HPL2.out (HG.out.next hwq)).mono ?_
  rintro e w5 ⟨hpr, hb5⟩
  have hr5 := Hwq.out.next hb5
  rcases hpr with ⟨v5, rfl, ho5, hpx⟩ | rfl
  · have hsm := req_small (printR r)
    have hts := taken_small (printR r) (by rw [hpx])
    rw [hpx] at hsm hts
    simp only at hsm hts
    have hlen : (printR r).length ≤ 2000000 := by have := HPLE.out; have := HMS.out; omega
    obtain ⟨A5, c5, rfl⟩ := (rd_of_own (show w5.ownsRow _ _ _ _ _ _ from ho5)).shape
    have HOX := Lib.hid ho5
    have HPX := Lib.hid hpx
    have hr6 := hr5.alloc hr5.size (.cells #[.slice A5 (printR r).length c5, .slice A2 l.length c2] 22)
    have hb6 := (Below.refl w5.heap.size w5).alloc (Nat.le_refl _) (.cells #[.slice A5 (printR r).length c5, .slice A2 l.length c2] 22)
    have HCC := Lib.hid (concat_any w5.heap.size 2 [(.slice A5 (printR r).length c5, printR r), (.slice A2 l.length c2, l)] (w5.alloc (.cells #[.slice A5 (printR r).length c5, .slice A2 l.length c2] 22)) (by
      intro j p hj
      match j with
      | 0 => simp at hj; subst hj; exact ⟨by simp, (Part.own ho5).below hb6⟩
      | 1 => simp at hj; subst hj; exact ⟨by simp, HSl.out.below hr6⟩
      | j + 2 => simp at hj) (by simp [flatP]; omega) (by simp))
    have hfl : flatP [(.slice A5 (printR r).length c5, printR r), (.slice A2 l.length c2, l)] = printR r ++ l := by simp [flatP]
    rw [hfl] at HCC
    have hlen2 : (printR r ++ l).length ≤ 140737488355328 := by rw [List.length_append]; omega
    have hpx2 : progParse (printR r ++ l) = (r, (printR r).length, 0) := by rw [refuse_law (printR r) l (by rw [hpx]; simp), hpx]
    generalize printR r = P at *
    generalize P ++ l = PL at *
    have HPX2 := Lib.hid hpx2
    have HR6 := Lib.hid hr6
    clear ho5 hpx hpx2 hfl hr6 hb6 k0 k1 k2 k3
    go_wp2_with fail
    refine HCC.out.mono ?_
    rintro e w7 ⟨v7, rfl, ho7, hb7⟩
    have hr7 := HR6.out.next hb7
    have hx := prog_any PL _ w7 (rd_of_own ho7) hlen2 (HG.out.next hr7)
    rw [HPX2.out] at hx
    have HX := Lib.hid hx
    have HR7 := Lib.hid hr7
    have HB1 := Lib.hid (((below_drewN w1.heap.size w1 nq).next hb5).next ((((Below.refl w5.heap.size w5).alloc (Nat.le_refl _) (.cells #[.slice A5 P.length c5, .slice A2 l.length c2] 22))).next hb7))
    obtain ⟨A7, c7, rfl⟩ := (rd_of_own ho7).shape
    clear ho7 hr7 hx hb7
    go_wp2_with fail
    refine HX.out.mono ?_
    rintro e w8 ⟨⟨v8, rfl, hq8⟩, hb8⟩
    obtain ⟨A8, c8, B8, d8, rfl⟩ := req_agg hq8
    have hb9 := (Below.refl w8.heap.size w8).alloc (Nat.le_refl _) (.cells #[.string (ofL r.m), .string (ofL r.p), .slice A8 r.h.length c8, .slice B8 r.b.length d8] 27)
    have hr9 := HR7.out.next (hb8.next hb9)
    have hk9 := hr9
    have HQ8 := Lib.hid (reqV_below (req_of_own hq8) hb9)
    have HQ9 := Lib.hid ((HQ.out.below hr9).req)
    have hb59 : Below w1.heap.size w1 (w8.alloc (.cells #[.string (ofL r.m), .string (ofL r.p), .slice A8 r.h.length c8, .slice B8 r.b.length d8] 27)) := (HB1.out.next (hb8.next hb9))
    have k0 := Below.keeps hb59 hRC.c0
    have k1 := Below.keeps hb59 hRC.c1
    have k2 := Below.keeps hb59 hRC.c2
    have k3 := Below.keeps hb59 hRC.c3
    have HR9 := Lib.hid hr9
    clear hq8 hb8 hb9 hr9 hk9 hb59 hRC
    go_wp2_with fail
    refine (same_any r _ _ _ HQ8.out HQ9.out (by omega) (by omega)).mono ?_
    rintro e w10 ⟨rfl, hb10⟩
    have hr10 := HR9.out.next hb10
    go_wp2_with fail
    refine (CA.out _ hr10).mono ?_
    rintro e w11 ⟨rfl, hb11⟩
    go_wp2_with fail
    go_ret
    exact ⟨rfl, hr10.next hb11⟩
  · go_wp2_with fail
    refine (CA.out _ hr5).mono ?_
    rintro e w6 ⟨rfl, hb6⟩
    go_wp2_with fail
    go_ret
    exact ⟨rfl, hr5.next hb6⟩
end Go.Proofs.YtmhgnaemafohfaaGreatDoor
