/- The law HttpdBack (blotterlaw08) is true: its walk. Conditions: tables and errors of the library's. -/
import Derived.Test.YtgdelmkgdfhdpaaGreatDoorReadF
namespace Go.Proofs.YtgdelmkgdfhdpaaGreatDoor
open Go.RowKit
set_option linter.unusedVariables false
set_option linter.unusedSimpArgs false
set_option maxRecDepth 100000

theorem writeE_err (s : Int) (hs : List (B × B)) (b : B) (h : (writeE s hs b).1 ≠ 0) : (writeE s hs b).2 = [] := by
  unfold writeE at h ⊢
  split
  · rfl
  split
  · rfl
  split
  · rfl
  split
  · rfl
  split
  · rfl
  · simp_all
theorem writeE_len (s : Int) (hs : List (B × B)) (b : B) : (writeE s hs b).2.length ≤ 50000 := by
  unfold writeE
  split
  · simp
  split
  · simp
  split
  · simp
  split
  · simp
  rename_i h4
  split
  · simp
  · simp only [List.length_append]
    simp
    omega
set_option maxHeartbeats 8000000 in
theorem backlaw_any (s : Int) (hs : List (B × B)) (b l : B) (v u : Value) (z : Int) (w : World) (hq : AnsP w s hs b v) (hP : Part w (u, l)) (hz : -9223372036854775808 ≤ z ∧ z ≤ 9223372036854775807) (hn : hs.length ≤ 4398046511104) (hbl : b.length ≤ 140737488351232) (hg : Glob w) (hT : Tab10 w) (hE : Errs w) :
    Calls Tryz.prog 5 #[v, u, .int .i64 z] w fun e w' => e = .returned (.bool true) ∧ Below w.heap.size w w' := by
  have HQ := Lib.hid hq
  obtain ⟨A, n, C, d, rfl, hR, hS⟩ := hq.agg
  obtain ⟨A2, c2, hv⟩ := hP.1.shape
  have hv' : u = .slice A2 l.length c2 := hv
  subst hv'
  have HR := Lib.hid hR
  have HP := Lib.hid hP
  have HT := Lib.hid hT
  have HE := Lib.hid hE
  have HG := Lib.hid hg
  have CA := Lib.hid (fun w' (hb : Below w.heap.size w w') => awake_any w' (HG.out.next hb))
  clear hq hR hS hT hE hg hP hv
  have hsz := sizeG_le hs 0 (by omega)
  have hn' : hs.length ≤ 140737488355328 := by omega
  have hAC : AC (w.alloc (.cells #[.int .i64 s, .slice A hs.length n, .slice C b.length d] 25)) w.heap.size s (.slice A hs.length n) (.slice C b.length d) := heap_alloc_new _ _
  have hk : BL w (w.alloc (.cells #[.int .i64 s, .slice A hs.length n, .slice C b.length d] 25)) := bl_alloc (bl_refl w) _
  have hbd := Lib.hid (show ∀ nq (w1 : World), BL w w1 → Below w.heap.size w (w1.drewN nq) from fun nq w1 h => Below.trans h (below_drewN _ _ _))
  have y1 : IntKind.i64.wrap ((sizeG 0 hs : Int) + min (b.length : Int) 262144) = (sizeG 0 hs : Int) + min (b.length : Int) 262144 := IntWalk.i64_in _ (by omega)
  by_cases hbig : 262144 < (sizeG 0 hs : Int) + min (b.length : Int) 262144
  · (go_enter Tryz.func5, Tryz.ntmps5); (go_wp2_with fail); (generalize w.alloc (.cells #[.int .i64 s, .slice A hs.length n, .slice C b.length d] 25) = w1 at *); (have k0 := hAC.c0); (have k1 := hAC.c1); (have k2 := hAC.c2); (go_quiet ((go_at_call 6; exact Calls.quiet_of (size_any hs _ _ (HR.out.below (Below.trans hk (below_drewN _ _ _))) hn'))))
    (go_wp2_with fail); (refine (CA.out _ (hbd.out nq w1 hk)).mono ?_); (rintro e w4 ⟨rfl, hb4⟩); (go_wp2_with fail); go_ret; (exact ⟨rfl, (hbd.out nq w1 hk).next hb4⟩)
  by_cases hbl2 : 262144 < l.length
  · have hbl3 : (262144 : Int) < l.length := by omega
    clear hbl2
    (go_enter Tryz.func5, Tryz.ntmps5); (go_wp2_with fail); (generalize w.alloc (.cells #[.int .i64 s, .slice A hs.length n, .slice C b.length d] 25) = w1 at *); (have k0 := hAC.c0); (have k1 := hAC.c1); (have k2 := hAC.c2); (go_quiet ((go_at_call 6; exact Calls.quiet_of (size_any hs _ _ (HR.out.below (Below.trans hk (below_drewN _ _ _))) hn'))))
    (go_wp2_with fail); (refine (CA.out _ (hbd.out nq w1 hk)).mono ?_); (rintro e w4 ⟨rfl, hb4⟩); (go_wp2_with fail); go_ret; (exact ⟨rfl, (hbd.out nq w1 hk).next hb4⟩)
  have hbl3 : ¬ (262144 : Int) < l.length := by omega
  have hll : l.length ≤ 262144 := by omega
  have hsg : sizeG 0 hs ≤ 262144 := by omega
  have hlin := linesH_size hs
  have hsH := sizeG_small hs 0 hsg
  have hms : (linesH hs).length ≤ 1048576 := by omega
  have HMS := Lib.hid hms
  clear hlin hsH hms hbl2
  (go_enter Tryz.func5, Tryz.ntmps5); (go_wp2_with fail); (generalize w.alloc (.cells #[.int .i64 s, .slice A hs.length n, .slice C b.length d] 25) = w1 at *); (have k0 := hAC.c0); (have k1 := hAC.c1); (have k2 := hAC.c2); (go_quiet ((go_at_call 6; exact Calls.quiet_of (size_any hs _ _ (HR.out.below (Below.trans hk (below_drewN _ _ _))) hn'))))
  have hk2 := hbd.out nq w1 hk
  have hac2 := hAC.below (below_drewN w1.heap.size w1 nq)
  go_wp2_with fail
  generalize w1.drewN nq = w2 at *
  clear k0 k1 k2 hAC hk
  have hwr := write_any s hs b _ w2 (HQ.out.below hk2) HMS.out hbl (HT.out.next hk2)
  have herr := writeE_err s hs b
  have hlen := writeE_len s hs b
  have hback := fun W h => back_law s hs b W h
  obtain ⟨X, hX⟩ : ∃ X, writeE s hs b = X := ⟨_, rfl⟩
  rw [hX] at hwr herr hlen hback
  obtain ⟨en, W⟩ := X
  simp only at herr hlen
  have HWR := Lib.hid hwr
  have HK2 := Lib.hid hk2
  have HAC2 := Lib.hid hac2
  have HER := Lib.hid herr
  have HBA := Lib.hid hback
  clear hX hwr herr hback hk2 hac2 y1
  refine HWR.out.mono ?_
  rintro e w3 ⟨⟨v3, rfl, hp3⟩, hb3⟩
  obtain ⟨A3, c3, hv3⟩ := hp3.1.shape
  have hv3' : v3 = .slice A3 W.length c3 := hv3
  subst hv3'
  have hr3 := Lib.hid (HK2.out.next hb3)
  have HP3 := Lib.hid hp3
  have hac3 := HAC2.out.below hb3
  have HAC3 := Lib.hid hac3
  clear hv3 hp3 hb3 hac3 HWR
  by_cases hen : en = 0
  case neg =>
    have hW := HER.out hen
    subst hW
    have q1 : ((en : Int) != 0) = true := by simp; omega
    clear hen
    go_wp2_with fail
    refine (CA.out _ hr3.out).mono ?_
    rintro e w4 ⟨rfl, hb4⟩
    go_wp2_with fail
    go_ret
    exact ⟨rfl, hr3.out.next hb4⟩
  subst hen
  obtain ⟨hfull, hpart, hpos⟩ := HBA.out W rfl
  have hcap : W.length ≤ c3 := by
    obtain ⟨_, A', c', h2, h3, _⟩ := HP3.out.1
    cases h2
    exact h3
  have hr4 := hr3.out.alloc hr3.out.size (.cells #[.slice A3 W.length c3, .slice A2 l.length c2] 23)
  have hb4 := (Below.refl w3.heap.size w3).alloc (Nat.le_refl _) (.cells #[.slice A3 W.length c3, .slice A2 l.length c2] 23)
  have HCC := Lib.hid (concat_any w3.heap.size 2 [(.slice A3 W.length c3, W), (.slice A2 l.length c2, l)] (w3.alloc (.cells #[.slice A3 W.length c3, .slice A2 l.length c2] 23)) (by
    intro j p hj
    match j with
    | 0 => simp at hj; subst hj; exact ⟨by simp, HP3.out.below hb4⟩
    | 1 => simp at hj; subst hj; exact ⟨by simp, HP.out.below hr4⟩
    | j + 2 => simp at hj) (by simp [flatP]; omega) (by simp))
  have hfl : flatP [(.slice A3 W.length c3, W), (.slice A2 l.length c2, l)] = W ++ l := by simp [flatP]
  rw [hfl] at HCC
  have hlen2 : (W ++ l).length ≤ 1048576 := by rw [List.length_append]; omega
  have HF := Lib.hid (hfull l)
  have HPA := Lib.hid hpart
  have HR4 := Lib.hid hr4
  have HB4 := Lib.hid hb4
  generalize W ++ l = PL at *
  clear hfull hpart hfl hr4 hb4
  go_wp2_with fail
  refine HCC.out.mono ?_
  rintro e w5 ⟨v5, rfl, ho5, hb5⟩
  have hr5 := HR4.out.next hb5
  have hrd := read_any PL v5 w5 (Part.own ho5) hlen2 (HT.out.next hr5) (HE.out.next hr5) (HG.out.next hr5)
  rw [HF.out] at hrd
  have HRD := Lib.hid hrd
  obtain ⟨A5, c5, rfl⟩ := (rd_of_own ho5).shape
  have HR5 := Lib.hid hr5
  have HB35 := Lib.hid (HB4.out.next hb5)
  clear ho5 hb5 hr5 hrd
  go_wp2_with fail
  refine HRD.out.mono ?_
  rintro e w6 ⟨⟨x, rfl, hx⟩, hb6⟩
  simp only at hx
  have HX6 := Lib.hid hx
  obtain ⟨Ax, nx, Cx, dx, rfl, _, _⟩ := hx.agg
  have hby := (Below.refl w6.heap.size w6).alloc (Nat.le_refl _) (.cells #[.int .i64 s, .slice Ax hs.length nx, .slice Cx b.length dx] 25)
  have hb37 := HB35.out.next (Below.next hb6 hby)
  have hac7 := HAC3.out.below hb37
  have HX7 := Lib.hid (HX6.out.below hby)
  have HR7 := Lib.hid (HR5.out.next (Below.next hb6 hby))
  have HQ7 := Lib.hid (HQ.out.below HR7.out)
  have HP7 := Lib.hid (HP3.out.below hb37)
  have k0 := hac7.c0
  have k1 := hac7.c1
  have k2 := hac7.c2
  clear hx hby hb37 hac7 hb6 HX6
  go_wp2_with fail
  refine (sameAns_any s hs b _ _ _ HX7.out HQ7.out (by have := linesH_many hs; have := HMS.out; omega)).mono ?_
  rintro e w8 ⟨rfl, hb8⟩
  have HP8 := Lib.hid (HP7.out.below hb8)
  have HR8 := Lib.hid (HR7.out.next hb8)
  clear hb8 k0 k1 k2
  have hmx : max (W.length : Int) 1 = W.length := by omega
  obtain ⟨j, hj, hjn⟩ : ∃ j : Nat, wrap64 ((IntKind.u64.wrap z).tmod (W.length : Int)) = j ∧ j < W.length := by
    have h0 : 0 ≤ IntKind.u64.wrap z := by unfold IntKind.wrap; simp [IntKind.bits, IntKind.signed]; omega
    obtain ⟨t, ht⟩ : ∃ t : Nat, IntKind.u64.wrap z = t := ⟨(IntKind.u64.wrap z).toNat, by omega⟩
    have hlt := Nat.mod_lt t hpos
    refine ⟨t % W.length, ?_, hlt⟩
    rw [ht]
    have : ((t : Int)).tmod W.length = ((t % W.length : Nat) : Int) := by rw [Int.tmod_eq_emod_of_nonneg (by omega)]; rfl
    rw [this]
    unfold wrap64; omega
  have hjc : (j : Int) ≤ c3 := by omega
  have hjc0 : (0 : Int) ≤ j := by omega
  have i3 : (0 : Int) < W.length := by omega
  have hpt := part_take HP8.out (show j ≤ W.length by omega)
  have hrs := read_any (W.take j) _ w8 hpt (by rw [List.length_take]; omega) (HT.out.next HR8.out) (HE.out.next HR8.out) (HG.out.next HR8.out)
  rw [HPA.out j hjn] at hrs
  have HRS := Lib.hid hrs
  clear hpt hrs hjn
  go_wp2_with fail
  refine HRS.out.mono ?_
  rintro e w9 ⟨⟨y, rfl, hy⟩, hb9⟩
  have HR9 := Lib.hid (HR8.out.next hb9)
  obtain ⟨Ay, ny, Cy, dy, rfl, _, _⟩ := hy.agg
  clear hy hb9 hj
  go_wp2_with fail
  refine (CA.out _ HR9.out).mono ?_
  rintro e w10 ⟨rfl, hb10⟩
  go_wp2_with fail
  go_ret
  exact ⟨rfl, HR9.out.next hb10⟩
end Go.Proofs.YtgdelmkgdfhdpaaGreatDoor
