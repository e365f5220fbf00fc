/- The law HttpdPieces (blotterlaw08) is true: its walk. Conditions: none. -/
import Derived.Test.YtmhgnaemafohfaaGreatDoorPieD
namespace Go.Proofs.YtmhgnaemafohfaaGreatDoor
open Go.RowKit
set_option linter.unusedVariables false
set_option linter.unusedSimpArgs false
set_option maxRecDepth 100000

theorem seq_small : ∀ (n : Nat) (l : B), l.length = n → ∀ r ∈ (seqL l).1, r.b.length ≤ 1099511627776 ∧ r.h.length ≤ 1000000 := by
  intro n
  induction n using Nat.strongRecOn with
  | _ n ih =>
    intro l hl r hr
    by_cases h : (progParse l).2.2 = 0
    · have hc := (cut_law l h).1
      rw [seq_take h] at hr
      rcases List.mem_cons.1 hr with rfl | hr
      · have := req_small l; omega
      · exact ih _ (by rw [List.length_drop]; omega) _ rfl r hr
    · rw [seq_stop h] at hr; cases hr
theorem flat_one (v : Value) (l : B) : flatP [(v, l)] = l := by simp [flatP]
/-- A row of slices, as read takes it. -/
theorem parts_of_own {w : World} {base : Nat} {o : Value} {vs : List (Value × B)} (h : w.ownsRow base 22 1 o vs.length (vs.map (·.1))) (hp : ∀ p ∈ vs, Part w p) (hne : vs ≠ []) :
    ∃ g c, o = .slice (some ⟨g, 0, none⟩) vs.length c ∧ ∀ j p, vs[j]? = some p → w.cell? ⟨g, j, none⟩ = some p.1 ∧ Part w p := by
  have hr := rd_of_own h
  rcases h.2 with ⟨_, h0⟩ | ⟨g, cap, cur, rfl, _⟩
  · exact absurd (List.eq_nil_of_length_eq_zero h0) hne
  · refine ⟨g, cap, rfl, fun j p hj => ⟨?_, hp p (List.mem_of_getElem? hj)⟩⟩
    obtain ⟨_, A, c, h2, _, _, _, h6⟩ := hr
    cases h2
    have := (h6 ⟨g, 0, none⟩ rfl).2 j p.1 (by rw [List.getElem?_map, hj]; rfl)
    rwa [Nat.zero_add] at this

set_option maxHeartbeats 8000000 in
theorem pieceslaw_any (l : B) (zs : List Int) (v u : Value) (w : World) (hS : Part w (v, l)) (hZ : Ints w u zs) (hzz : ∀ z ∈ zs, -9223372036854775808 ≤ z ∧ z ≤ 9223372036854775807) (hg : Glob w) :
    Calls Tryz.prog 5 #[v, u] w fun e w' => e = .returned (.bool true) ∧ Below w.heap.size w w' := by
  obtain ⟨A, cp, hv⟩ := hS.1.shape
  have hv' : v = .slice A l.length cp := hv
  subst hv'
  have HS := Lib.hid hS
  have HZ := Lib.hid hZ
  have HG := Lib.hid hg
  have HZZ := Lib.hid hzz
  clear hS hZ hg hzz hv
  have CA := Lib.hid (fun w' (hb : Below w.heap.size w w') => awake_any w' (HG.out.next hb))
  by_cases hbig : 32768 < l.length
  · have hb1 : (32768 : Int) < l.length := by omega
    go_enter Tryz.func5, Tryz.ntmps5
    go_wp2_with fail
    refine (CA.out _ (Below.refl _ _)).mono ?_
    rintro e w4 ⟨rfl, hb4⟩
    go_wp2_with fail
    go_ret
    exact ⟨rfl, hb4⟩
  have hb1 : ¬ (32768 : Int) < l.length := by omega
  have hl : l.length ≤ 32768 := by omega
  clear hbig
  have hba := (Below.refl w.heap.size w).alloc (Nat.le_refl _) (.cells #[.slice A l.length cp] 22)
  have R1 := read_any w.heap.size 1 [(.slice A l.length cp, l)] (w.alloc (.cells #[.slice A l.length cp] 22)) (by
    intro j p hj
    cases j with
    | zero => simp at hj; subst hj; exact ⟨by simp, HS.out.below hba⟩
    | succ j => simp at hj) (by rw [flat_one]; exact hl) (by simp) (HG.out.next hba)
  rw [flat_one] at R1
  have HR1 := Lib.hid R1
  clear R1
  go_enter Tryz.func5, Tryz.ntmps5
  go_wp2_with fail
  refine HR1.out.mono ?_
  rintro e w1 ⟨Lv, rfl, hrow1, hb1'⟩
  have hr1 := hba.next hb1'
  have hb2 := (Below.refl w1.heap.size w1).alloc (Nat.le_refl _) (.cells #[Lv, .int .i64 (seqL l).2.1] 42)
  have hT2 : TC (w1.alloc (.cells #[Lv, .int .i64 (seqL l).2.1] 42)) w1.heap.size Lv (seqL l).2.1 := heap_alloc_new _ _
  have hrow2 := hrow1.below hb2
  have hr2 := hr1.next hb2
  obtain ⟨AL, cL, hLv, _⟩ := hrow1
  have hsm := Lib.hid (seq_small _ l rfl)
  have hsl := seq_len _ l rfl
  have HROW2 := Lib.hid hrow2
  have HR2 := Lib.hid hr2
  have Hb2 := Lib.hid hb2
  have HLv := Lib.hid hLv
  have HTT2 := Lib.hid hT2
  subst hLv
  clear hba hb1' hb2 hrow2 hr1 hr2 HR1 hT2
  go_wp2_with fail
  refine (pieces_any l zs _ u _ (HS.out.below HR2.out) (by omega) (HZ.out.below HR2.out) HZZ.out).mono ?_
  rintro e w3 ⟨o, vs, rfl, hown3, hps3, hfl, hne, hvl, hb3⟩
  obtain ⟨g, cg, rfl, hcells⟩ := parts_of_own hown3 hps3 hne
  have hr3 := HR2.out.next hb3
  have R2 := read_any g cg vs w3 hcells (by rw [hfl]; exact hl) (by omega) (HG.out.next hr3)
  rw [hfl] at R2
  have HRE := Lib.hid R2
  have HR3 := Lib.hid hr3
  have Hb3 := Lib.hid hb3
  clear hown3 hps3 hfl hcells R2 hr3 hb3
  go_wp2_with fail
  refine HRE.out.mono ?_
  rintro e w4 ⟨Lv2, rfl, hrow4, hb4⟩
  obtain ⟨AM, cM, hLv2, _⟩ := id hrow4
  have HROW4 := Lib.hid hrow4
  subst hLv2
  have hb5 := (Below.refl w4.heap.size w4).alloc (Nat.le_refl _) (.cells #[.slice AM (seqL l).1.length cM, .int .i64 (seqL l).2.1] 42)
  have hb25 := Hb3.out.next (hb4.next hb5)
  have hT5 := HTT2.out.touch (.of_below (F := fun _ => False) hb25) id
  have k0 := hT5.c0
  have k1 := hT5.c1
  have hr5 := HR3.out.next (hb4.next hb5)
  have HROW5 := Lib.hid (HROW4.out.below hb5)
  have HROW1 := Lib.hid (HROW2.out.below hb25)
  have HR5 := Lib.hid hr5
  clear hrow4 hb4 hb5 hb25 hT5 hr5 HROW4
  go_wp2_with fail
  refine (eqfunc_any (seqL l).1 _ _ _ HROW1.out HROW5.out (by omega) hsm.out).mono ?_
  rintro e w6 ⟨rfl, hb6⟩
  have hr6 := HR5.out.next hb6
  go_wp2_with fail
  refine (CA.out _ hr6).mono ?_
  rintro e w7 ⟨rfl, hb7⟩
  go_wp2_with fail
  go_ret
  exact ⟨rfl, hr6.next hb7⟩
end Go.Proofs.YtmhgnaemafohfaaGreatDoor
