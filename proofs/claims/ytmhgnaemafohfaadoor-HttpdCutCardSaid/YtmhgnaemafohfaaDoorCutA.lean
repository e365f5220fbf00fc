/- The law HttpdCut (blotterlaw08) is true: its walk. Conditions: none. -/
import Derived.Test.YtmhgnaemafohfaaDoorCatA
namespace Go.Proofs.YtmhgnaemafohfaaDoor
open Go.RowKit
set_option linter.unusedVariables false
set_option linter.unusedSimpArgs false
set_option maxRecDepth 100000

set_option maxHeartbeats 8000000 in
theorem cutlaw_any (l m : B) (v u : Value) (z : Int) (w : World) (hR : Rd w 1 v l.length (bytesV l)) (hS : Part w (u, m)) (hz : -9223372036854775808 ≤ z ∧ z ≤ 9223372036854775807) (hg : Glob w) :
    Calls Tryd.prog 4 #[v, .int .i64 z, u] w fun e w' => e = .returned (.bool true) ∧ Below w.heap.size w w' := by
  obtain ⟨A, cp, rfl⟩ := hR.shape
  obtain ⟨A', cp', hu⟩ := hS.1.shape
  have hu' : u = .slice A' m.length cp' := hu
  clear hu
  subst hu'
  have HR := Lib.hid hR
  have HS := Lib.hid hS
  have HG := Lib.hid hg
  clear hR hg hS
  have CA := Lib.hid (fun w' (hb : Below w.heap.size w w') => awake_any w' (HG.out.next hb))
  by_cases hbig : 262144 < l.length
  · have hb1 : (262144 : Int) < l.length := by omega
    go_enter Tryd.func4, Tryd.ntmps4
    go_wp2_with fail
    refine (CA.out _ (Below.refl _ _)).mono ?_
    rintro e w4 ⟨rfl, hb4⟩
    go_wp2_with fail
    go_ret
    exact ⟨rfl, hb4⟩
  have hb1 : ¬ (262144 : Int) < l.length := by omega
  have hl : l.length ≤ 262144 := by omega
  clear hbig
  by_cases hbig2 : 262144 < m.length
  · have hb2 : (262144 : Int) < m.length := by omega
    go_enter Tryd.func4, Tryd.ntmps4
    go_wp2_with fail
    refine (CA.out _ (Below.refl _ _)).mono ?_
    rintro e w4 ⟨rfl, hb4⟩
    go_wp2_with fail
    go_ret
    exact ⟨rfl, hb4⟩
  have hb2 : ¬ (262144 : Int) < m.length := by omega
  have hm : m.length ≤ 262144 := by omega
  clear hbig2
  go_enter Tryd.func4, Tryd.ntmps4
  go_wp2_with fail
  refine (prog_any l _ w HR.out (by omega) HG.out).mono ?_
  rintro e w2 ⟨⟨v2, rfl, hq⟩, hr⟩
  have hcut := cut_law l
  have hnot := not_law l
  obtain ⟨hsB, hsH⟩ := req_small l
  generalize hx : progParse l = x at *
  obtain ⟨r, n, st⟩ := x
  simp only at hcut hnot hsB hsH
  have HQ := Lib.hid hq
  obtain ⟨A2, c2, B2, d2, rfl⟩ := req_agg hq
  clear hq
  by_cases hst : st = 0
  case neg =>
    obtain ⟨hn0, hr0⟩ := hnot hst
    have hn0 : n = 0 := hn0
    subst hn0
    have h1 : ((st : Int) != 0) = true := by simp; omega
    clear hcut hnot hst hr0 hx
    go_wp2_with fail
    have hr3 := hr.alloc hr.size (.cells #[.string (ofL r.m), .string (ofL r.p), .slice A2 r.h.length c2, .slice B2 r.b.length d2] 26)
    refine (CA.out _ hr3).mono ?_
    rintro e w4 ⟨rfl, hb4⟩
    go_wp2_with fail
    go_ret
    exact ⟨rfl, hr3.next hb4⟩
  subst hst
  obtain ⟨⟨n1, n2⟩, hcat, hshort⟩ := hcut rfl
  have i1 : decide ((n : Int) < 1) = false := by simp; omega
  have i2 : decide (l.length < n) = false := by simp; omega
  have i3 : (0 : Int) < n := by omega
  have hcp : l.length ≤ cp := by obtain ⟨_, A', c', h2, h3, _⟩ := HR.out; cases h2; exact h3
  have Hcp := Lib.hid hcp
  obtain ⟨j, hj, hjn⟩ : ∃ j : Nat, wrap64 ((IntKind.u64.wrap z).tmod (n : Int)) = j ∧ j < n := by
    have h0 : 0 ≤ IntKind.u64.wrap z := by unfold IntKind.wrap; simp [IntKind.bits, IntKind.signed]; omega
    obtain ⟨t, ht⟩ : ∃ t : Nat, IntKind.u64.wrap z = t := ⟨(IntKind.u64.wrap z).toNat, by omega⟩
    have hlt := Nat.mod_lt t n1
    refine ⟨t % n, ?_, hlt⟩
    rw [ht]
    have : ((t : Int)).tmod n = ((t % n : Nat) : Int) := by rw [Int.tmod_eq_emod_of_nonneg (by omega)]; rfl
    rw [this]
    unfold wrap64; omega
  have hjc : (j : Int) ≤ cp := by omega
  have hjc0 : (0 : Int) ≤ j := by omega
  have hnc : (n : Int) ≤ cp := by omega
  clear hcp
  have HCat := Lib.hid hcat
  have HSh := Lib.hid hshort
  clear hcat hshort hnot hcut hx
  go_wp2_with fail
  have hR1 : RC (w2.alloc (.cells #[.string (ofL r.m), .string (ofL r.p), .slice A2 r.h.length c2, .slice B2 r.b.length d2] 26)) w2.heap.size (ofL r.m) (ofL r.p) (.slice A2 r.h.length c2) (.slice B2 r.b.length d2) := heap_alloc_new _ _
  have hb3 := (Below.refl w2.heap.size w2).alloc (Nat.le_refl _) (.cells #[.string (ofL r.m), .string (ofL r.p), .slice A2 r.h.length c2, .slice B2 r.b.length d2] 26)
  generalize w2.alloc (.cells #[.string (ofL r.m), .string (ofL r.p), .slice A2 r.h.length c2, .slice B2 r.b.length d2] 26) = w3 at *
  have hr3 := hr.next hb3
  refine (prog_any (l.take j) _ w3 (rd_take (HR.out.below hr3) (by omega)) (by rw [List.length_take]; omega) (HG.out.next hr3)).mono ?_
  rintro e w4 ⟨⟨v4, rfl, hq4⟩, hb4⟩
  rw [HSh.out j hjn] at hq4 ⊢
  obtain ⟨A4, c4, B4, d4, rfl⟩ := req_agg hq4
  clear hq4
  have hR4 := hR1.below hb4
  have hb24 := hb3.next hb4
  have hr4 := hr3.next hb4
  clear hR1 hb3 hb4 hr3 hr
  go_wp2_with fail
  have hb5 := (Below.refl w4.heap.size w4).alloc (Nat.le_refl _) (.cells #[.string (ofL noReq.m), .string (ofL noReq.p), .slice A4 noReq.h.length c4, .slice B4 noReq.b.length d4] 26)
  have hs5 : (w4.alloc (.cells #[.string (ofL noReq.m), .string (ofL noReq.p), .slice A4 noReq.h.length c4, .slice B4 noReq.b.length d4] 26)).heap.size = w4.heap.size + 1 := by simp
  generalize w4.alloc (.cells #[.string (ofL noReq.m), .string (ofL noReq.p), .slice A4 noReq.h.length c4, .slice B4 noReq.b.length d4] 26) = w5 at *
  have hR5 := hR4.below hb5
  have hb25 := hb24.next hb5
  have hr5 := hr4.next hb5
  clear hR4 hb24 hb5 hr4
  have hb6 := (Below.refl w5.heap.size w5).alloc (Nat.le_refl _) (.cells #[.slice A n cp, .slice A' m.length cp'] 22)
  have hcl : ∀ j p, [((Value.slice A n cp), l.take n), (Value.slice A' m.length cp', m)][j]? = some p → (w5.alloc (.cells #[.slice A n cp, .slice A' m.length cp'] 22)).cell? ⟨w4.heap.size + 1, j, none⟩ = some p.1 ∧ Part (w5.alloc (.cells #[.slice A n cp, .slice A' m.length cp'] 22)) p := by
    intro i p hp
    have hi := (List.getElem?_eq_some_iff.1 hp).1
    simp only [List.length_cons, List.length_nil] at hi
    rw [← hs5, World.cell?_alloc_mark]
    have : i = 0 ∨ i = 1 := by omega
    rcases this with rfl | rfl
    · simp at hp; subst hp
      refine ⟨rfl, (rd_take (HR.out.below hr5) n2).below hb6, fun n' c' e => ?_⟩
      simp only [Value.slice.injEq] at e
      obtain ⟨e1, _, _⟩ := e
      obtain ⟨_, A0, c0, h2, _, _, h5, _⟩ := HR.out
      cases h2
      have := h5 e1
      omega
    · simp at hp; subst hp
      exact ⟨rfl, (HS.out.below hr5).below hb6⟩
  have hfl : flatP [((Value.slice A n cp), l.take n), (Value.slice A' m.length cp', m)] = l.take n ++ m := by simp [flatP]
  have hC := concat_any (w4.heap.size + 1) 2 [((Value.slice A n cp), l.take n), (Value.slice A' m.length cp', m)] _ hcl (by rw [hfl, List.length_append, List.length_take]; omega) (by simp)
  rw [hfl, show [((Value.slice A n cp), l.take n), (Value.slice A' m.length cp', m)].length = 2 from rfl] at hC
  have hXl : (l.take n ++ m).length ≤ 1048576 := by rw [List.length_append, List.length_take]; omega
  have hXc := HCat.out m
  generalize l.take n ++ m = X at hC hXl hXc
  have HXc := Lib.hid hXc
  have HC := Lib.hid hC
  clear hC hcl hfl hXc
  generalize w5.alloc (.cells #[.slice A n cp, .slice A' m.length cp'] 22) = w6 at *
  have hR6 := hR5.below hb6
  have hb26 := hb25.next hb6
  have hr6 := hr5.next hb6
  clear hR5 hb25 hb6 hr5
  refine HC.out.mono ?_
  clear HC
  rintro e w7 ⟨v7, rfl, hown7, hb7⟩
  have hR7 := hR6.below hb7
  have hb27 := hb26.next hb7
  have hr7 := hr6.next hb7
  clear hR6 hb26 hr6 hb7
  have hRd7 := rd_of_own hown7
  obtain ⟨A7, c7, rfl⟩ := hRd7.shape
  go_wp2_with fail
  refine (prog_any X _ w7 hRd7 hXl (HG.out.next hr7)).mono ?_
  clear hRd7 hown7
  rintro e w8 ⟨⟨v8, rfl, hq8⟩, hb8⟩
  rw [HXc.out] at hq8 ⊢
  have HQ8 := Lib.hid hq8
  obtain ⟨A8, c8, B8, d8, rfl⟩ := req_agg hq8
  clear hq8
  have hR8 := hR7.below hb8
  have hb28 := hb27.next hb8
  have hr8 := hr7.next hb8
  clear hR7 hb27 hr7 hb8
  have hb9 := (Below.refl w8.heap.size w8).alloc (Nat.le_refl _) (.cells #[.string (ofL r.m), .string (ofL r.p), .slice A8 r.h.length c8, .slice B8 r.b.length d8] 26)
  have k0 := hR8.c0
  have k1 := hR8.c1
  have k2 := hR8.c2
  have k3 := hR8.c3
  have klt := hR8.lt
  go_wp2_with fail
  generalize w8.alloc (.cells #[.string (ofL r.m), .string (ofL r.p), .slice A8 r.h.length c8, .slice B8 r.b.length d8] 26) = w9 at *
  have hr9 := hr8.next hb9
  refine (same_any r _ _ w9 (reqV_below (req_of_own HQ8.out) hb9) (reqV_below (req_of_own HQ.out) (hb28.next hb9)) (by omega) (by omega)).mono ?_
  rintro e w10 ⟨rfl, hb10⟩
  have hr10 := hr9.next hb10
  go_wp2_with fail
  refine (CA.out _ hr10).mono ?_
  rintro e w11 ⟨rfl, hb11⟩
  go_wp2_with fail
  go_ret
  exact ⟨rfl, hr10.next hb11⟩
end Go.Proofs.YtmhgnaemafohfaaDoor
