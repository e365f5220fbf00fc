/- The law JsonxBlanks. Conditions: as awake's; the text lies in memory. -/
import Derived.Test.YthkpbgpgcpkiiaaGreatDoorJLawA
import Derived.Test.YthkpbgpgcpkiiaaGreatDoorJLawEq
namespace Go.Proofs.YthkpbgpgcpkiiaaGreatDoor
open Go.RowKit
set_option linter.unusedVariables false
set_option linter.unusedSimpArgs false
set_option maxRecDepth 100000

theorem uMod (z : Int) (n : Nat) (n1 : 0 < n) (hn : n ≤ 1099511627776) : ∃ j : Nat, wrap64 ((IntKind.u64.wrap z).tmod (n : Int)) = j ∧ j < n := by
  have h0 : 0 ≤ IntKind.u64.wrap z := by unfold IntKind.wrap; simp [IntKind.bits, IntKind.signed]; omega
  obtain ⟨t, ht⟩ : ∃ t : Nat, IntKind.u64.wrap z = t := ⟨(IntKind.u64.wrap z).toNat, by omega⟩
  have hlt := Nat.mod_lt t n1
  refine ⟨t % n, ?_, hlt⟩
  rw [ht]
  have : ((t : Int)).tmod n = ((t % n : Nat) : Int) := by rw [Int.tmod_eq_emod_of_nonneg (by omega)]; rfl
  rw [this]
  unfold wrap64; omega
def padC (i : Nat) : UInt8 := [32, 9, 10, 13].getD (i % 4) 0
def padL (n : Nat) : B := (List.range n).map padC
theorem pad_snoc (n : Nat) : padL (n + 1) = padL n ++ [padC n] := by unfold padL; rw [List.range_succ]; simp
theorem ofL_app (a b : B) : ofL (a ++ b) = ofL a ++ ofL b := by rw [← ofL_toL (ofL a ++ ofL b), append_toL, toL_ofL, toL_ofL]
theorem pad_len (n : Nat) : (padL n).length = n := by simp [padL]
theorem pad_blank (n : Nat) : Blank (padL n) := by
  intro c hc
  obtain ⟨i, _, rfl⟩ := List.mem_map.1 hc
  unfold padC
  have h : i % 4 = 0 ∨ i % 4 = 1 ∨ i % 4 = 2 ∨ i % 4 = 3 := by omega
  rcases h with h | h | h | h <;> rw [h] <;> rfl
set_option maxHeartbeats 4000000 in
theorem pad_any (z : Int) (w : World) : Calls Tryz.prog 18 #[.int .i64 z] w fun e w' => ∃ n : Nat, n < 50 ∧ e = .returned (.string (ofL (padL n))) ∧ w = w' := by
  obtain ⟨n, hn, hn50⟩ := uMod z 50 (by omega) (by omega)
  have hn' : wrap64 ((IntKind.u64.wrap z).tmod 50) = (n : Int) := hn
  clear hn
  go_enter Tryz.func18, Tryz.ntmps18
  go_upto_region 3 with fail
  rw [hn']
  clear hn'
  have he : (⟨#[]⟩ : ByteArray) = ofL (padL 0) := rfl
  go_loopw [3, 9] (fun s i wr => ∃ m : Nat, m ≤ n ∧ s = .string (ofL (padL m)) ∧ i = .int .i64 m ∧ w = wr) (fun _ i _ => n - (intOf i).toNat)
  case atStart => exact ⟨0, Nat.zero_le _, congrArg Value.string he, rfl, rfl⟩
  case round =>
    obtain ⟨m, hm, rfl, rfl, rfl⟩ := hrel
    by_cases hlt : m < n
    · have hp : ofL (padL (m + 1)) = ofL (padL m) ++ ofL [padC m] := by rw [pad_snoc, ofL_app]
      have h4 : m % 4 = 0 ∨ m % 4 = 1 ∨ m % 4 = 2 ∨ m % 4 = 3 := by omega
      obtain ⟨cc, hcc⟩ : ∃ cc, cc = m % 4 := ⟨_, rfl⟩
      have hc1 : (m : Int).tmod 4 = (cc : Int) := by rw [Int.tmod_eq_emod_of_nonneg (by omega), hcc]; rfl
      have hc2 : (m : Int) % 4 = (cc : Int) := by rw [hcc]; rfl
      have hpc : padC m = [32, 9, 10, 13].getD cc 0 := by rw [hcc]; rfl
      rw [← hcc] at h4
      have hsz : (ofL (padL m)).size = m := by rw [size_ofL, pad_len]
      have Hp := Lib.hid hp
      generalize padC m = pc at *
      clear hcc hp he
      rcases h4 with rfl | rfl | rfl | rfl
      · go_wp2_with fail
        exact ⟨⟨m + 1, by omega, by rw [Hp.out, hpc]; rfl, by go_num, trivial⟩, by simp [intOf]; omega⟩
      · go_wp2_with fail
        exact ⟨⟨m + 1, by omega, by rw [Hp.out, hpc]; rfl, by go_num, trivial⟩, by simp [intOf]; omega⟩
      · go_wp2_with fail
        exact ⟨⟨m + 1, by omega, by rw [Hp.out, hpc]; rfl, by go_num, trivial⟩, by simp [intOf]; omega⟩
      · go_wp2_with fail
        exact ⟨⟨m + 1, by omega, by rw [Hp.out, hpc]; rfl, by go_num, trivial⟩, by simp [intOf]; omega⟩
    · have hmn : m = n := by omega
      subst hmn
      go_wp2_with fail
      go_ret
      exact ⟨m, hn50, rfl, rfl⟩
theorem at_le {s : B} {v : J} {p n : Nat} (h : parseJ s = (v, p, n)) : p ≤ s.length := by
  unfold parseJ at h
  split at h
  · simp only [Prod.mk.injEq] at h; omega
  · cases h1 : wholeP s with
    | ok u r => rw [h1] at h; simp only [Prod.mk.injEq] at h; omega
    | fail r e => rw [h1] at h; simp only [Prod.mk.injEq] at h; omega
set_option maxHeartbeats 16000000 in
theorem lawBlanks_any (s : ByteArray) (z1 z2 : Int) (hs : s.size ≤ 140737488351232) (w : World) (hG : Good w) :
    Calls Tryz.prog 4 #[.string s, .int .i64 z1, .int .i64 z2] w fun e w' => e = .returned (.bool true) ∧ Below w.heap.size w w' := by
  have KA := Lib.hid (fun (w' : World) (hb : Below w.heap.size w w') => awake_any w' (hG.below hb))
  have KP1 := Lib.hid (fun w => pad_any z1 w)
  have KP2 := Lib.hid (fun w => pad_any z2 w)
  have HG := Lib.hid hG
  clear hG
  go_enter Tryz.func4, Tryz.ntmps4
  by_cases hbig : s.size > 32768
  · have hbi : (s.size : Int) > 32768 := by omega
    have K := Lib.hid (KA.out w (Below.refl _ _))
    go_wp2_with fail
    (with_reducible refine K.out.mono ?_); rintro e w1 ⟨rfl, hb1⟩
    have HB1 := Lib.hid hb1
    clear hb1 K
    go_wp2_with fail
    go_ret
    exact ⟨rfl, HB1.out⟩
  have hbi : ¬ (s.size : Int) > 32768 := by omega
  go_wp2_with fail
  (with_reducible refine (KP1.out _).mono ?_); rintro e w1 ⟨na, hna, rfl, rfl⟩
  go_wp2_with fail
  (with_reducible refine (KP2.out _).mono ?_); rintro e w1 ⟨nb, hnb, rfl, rfl⟩
  obtain ⟨v, p, n, hv⟩ : ∃ v p n, parseJ s.toList = (v, p, n) := ⟨_, _, _, rfl⟩
  obtain ⟨u, q, m, hu⟩ : ∃ v p n, parseJ (padL na ++ s.toList ++ padL nb) = (v, p, n) := ⟨_, _, _, rfl⟩
  have hlaw := blanks_law (pad_blank na) (pad_blank nb) (by simp only [List.length_append, pad_len, len_toL]; omega) hv hu
  rw [pad_len, len_toL] at hlaw
  have hcat : (ofL (padL na) ++ s ++ ofL (padL nb)).toList = padL na ++ s.toList ++ padL nb := by rw [append_toL, append_toL, toL_ofL, toL_ofL]
  have hcs : (ofL (padL na) ++ s ++ ofL (padL nb)).size ≤ 140737488351232 := by rw [← len_toL, hcat]; simp only [List.length_append, pad_len, len_toL]; omega
  have hpa : (ofL (padL na)).size = na := by rw [size_ofL, pad_len]
  have hpb : (ofL (padL nb)).size = nb := by rw [size_ofL, pad_len]
  have K1 := Lib.hid (parse_at s hs w HG.out.1 hv)
  have K2 := Lib.hid (fun (w' : World) (hb : Below w.heap.size w w') => parse_at (ofL (padL na) ++ s ++ ofL (padL nb)) hcs w' (HG.out.below hb).1 (v := u) (p := q) (n := m) (by rw [hcat]; exact hu))
  have hple := at_le hv
  rw [len_toL] at hple
  have HLaw := Lib.hid hlaw
  have HV := Lib.hid hv
  clear hv hu hlaw hcat hcs
  go_wp2_with fail
  (with_reducible refine K1.out.mono ?_); rintro e w1 ⟨A1, m1, c1, A2, m2, c2, rfl, hR, hb1⟩
  have HB1 := Lib.hid hb1
  clear hb1 K1
  have hb2 := (Below.refl w1.heap.size w1).alloc (Nat.le_refl _) (.cells #[.int .i64 v.kind, .int .i64 v.int, .string (ofL v.text), .slice A1 m1 c1, .slice A2 m2 c2] 25)
  have hk2 : (w1.alloc (.cells #[.int .i64 v.kind, .int .i64 v.int, .string (ofL v.text), .slice A1 m1 c1, .slice A2 m2 c2] 25)).heap[w1.heap.size]? = some (.cells #[.int .i64 v.kind, .int .i64 v.int, .string (ofL v.text), .slice A1 m1 c1, .slice A2 m2 c2] 25 (0, 0)) := heap_alloc_new w1 _
  have HR2 := Lib.hid (hR.grow hb2)
  clear hR
  go_upto_region 6 with fail
  generalize w1.alloc (.cells #[.int .i64 v.kind, .int .i64 v.int, .string (ofL v.text), .slice A1 m1 c1, .slice A2 m2 c2] 25) = w2 at *
  obtain ⟨d0, d1, d2, d3, d4, hz2⟩ := box5 hk2
  have HB2 := Lib.hid (HB1.out.next hb2)
  have K2 := Lib.hid (K2.out _ HB2.out)
  clear hb2 hk2
  go_wp2_with fail
  (with_reducible refine K2.out.mono ?_); rintro e w3 ⟨A3, m3, c3, A4, m4, c4, rfl, hR3, hb3⟩
  have HB3 := Lib.hid (HB2.out.next hb3)
  have d0 := Below.keeps hb3 d0
  have d1 := Below.keeps hb3 d1
  have d2 := Below.keeps hb3 d2
  have d3 := Below.keeps hb3 d3
  have d4 := Below.keeps hb3 d4
  have HR3v := Lib.hid (HR2.out.grow hb3)
  clear hb3 K2
  by_cases hn : n = 0
  · obtain ⟨rfl, rfl, rfl⟩ := HLaw.out.1 hn
    subst hn
    have hwt := parse_wt HV.out
    have hb4 := (Below.refl w3.heap.size w3).alloc (Nat.le_refl _) (.cells #[.int .i64 v.kind, .int .i64 v.int, .string (ofL v.text), .slice A3 m3 c3, .slice A4 m4 c4] 25)
    have hk4 : (w3.alloc (.cells #[.int .i64 v.kind, .int .i64 v.int, .string (ofL v.text), .slice A3 m3 c3, .slice A4 m4 c4] 25)).heap[w3.heap.size]? = some (.cells #[.int .i64 v.kind, .int .i64 v.int, .string (ofL v.text), .slice A3 m3 c3, .slice A4 m4 c4] 25 (0, 0)) := heap_alloc_new w3 _
    have HR4 := Lib.hid (hR3.grow hb4)
    have HR4v := Lib.hid (HR3v.out.grow hb4)
    clear hR3 HLaw HV
    go_upto_region 7 with fail
    generalize w3.alloc (.cells #[.int .i64 v.kind, .int .i64 v.int, .string (ofL v.text), .slice A3 m3 c3, .slice A4 m4 c4] 25) = w4 at *
    obtain ⟨g0, g1, g2, g3, g4, hz4⟩ := box5 hk4
    have d0 := Below.keeps hb4 d0
    have d1 := Below.keeps hb4 d1
    have d2 := Below.keeps hb4 d2
    have d3 := Below.keeps hb4 d3
    have d4 := Below.keeps hb4 d4
    have HB4 := Lib.hid (HB3.out.next hb4)
    have KE := Lib.hid (equal_any v (by omega) _ _ _ _ w4 HR4v.out HR4.out)
    clear hb4 hk4
    go_wp2_with fail
    (with_reducible refine KE.out.mono ?_); rintro e w5 ⟨rfl, hb5⟩
    have HB5 := Lib.hid (HB4.out.next hb5)
    have K9 := Lib.hid (KA.out _ HB5.out)
    clear hb5 KE
    go_wp2_with fail
    (with_reducible refine K9.out.mono ?_); rintro e w6 ⟨rfl, hb6⟩
    have HB6 := Lib.hid (HB5.out.next hb6)
    clear hb6 K9
    go_wp2_with fail
    go_ret
    exact ⟨ret_bool (by simp), HB6.out⟩
  · obtain ⟨rfl, rfl, hat⟩ := HLaw.out.2 hn
    have hni : ¬ (m : Int) = 0 := by omega
    have hR3' : RJ (fun b => b < w3.heap.size) w3 J0 [.int .i64 0, .int .i64 0, .string ⟨#[]⟩, .slice A3 m3 c3, .slice A4 m4 c4] := hR3
    have hb4 := (Below.refl w3.heap.size w3).alloc (Nat.le_refl _) (.cells #[.int .i64 0, .int .i64 0, .string ⟨#[]⟩, .slice A3 m3 c3, .slice A4 m4 c4] 25)
    have hk4 : (w3.alloc (.cells #[.int .i64 0, .int .i64 0, .string ⟨#[]⟩, .slice A3 m3 c3, .slice A4 m4 c4] 25)).heap[w3.heap.size]? = some (.cells #[.int .i64 0, .int .i64 0, .string ⟨#[]⟩, .slice A3 m3 c3, .slice A4 m4 c4] 25 (0, 0)) := heap_alloc_new w3 _
    have HR4 := Lib.hid (hR3'.grow hb4)
    have HAt := Lib.hid hat
    clear hR3 hR3' HLaw HV hat
    rw [show J0.kind = 0 from rfl, show J0.int = 0 from rfl, show ofL J0.text = ⟨#[]⟩ from rfl]
    go_upto_region 7 with fail
    generalize w3.alloc (.cells #[.int .i64 0, .int .i64 0, .string ⟨#[]⟩, .slice A3 m3 c3, .slice A4 m4 c4] 25) = w4 at *
    obtain ⟨g0, g1, g2, g3, g4, hz4⟩ := box5 hk4
    have HB4 := Lib.hid (HB3.out.next hb4)
    have KE : Calls Tryz.prog 17 #[.agg #[.int .i64 0, .int .i64 0, .string ⟨#[]⟩, .slice A3 m3 c3, .slice A4 m4 c4], .agg #[.int .i64 0, .int .i64 0, .string ⟨#[]⟩, .slice none 0 0, .slice none 0 0]] w4 fun e w' => e = .returned (.bool true) ∧ Below w4.heap.size w4 w' :=
      equal_any J0 (by rw [show wtJ J0 = 1 from rfl]; omega) _ _ _ _ w4 HR4.out (rj_plain 0 0 [])
    have KE := Lib.hid KE
    clear hb4 hk4 d0 d1 d2 d3 d4
    go_wp2_with fail
    (with_reducible refine KE.out.mono ?_); rintro e w5 ⟨rfl, hb5⟩
    have HB5 := Lib.hid (HB4.out.next hb5)
    have K9 := Lib.hid (KA.out _ HB5.out)
    clear hb5 KE
    by_cases hq : q = p + na
    · have hqi : (q : Int) = (p : Int) + na := by omega
      go_wp2_with fail
      (with_reducible refine K9.out.mono ?_); rintro e w6 ⟨rfl, hb6⟩
      have HB6 := Lib.hid (HB5.out.next hb6)
      clear hb6 K9
      go_wp2_with fail
      go_ret
      exact ⟨ret_bool (by simp), HB6.out⟩
    · obtain ⟨hp, hgt⟩ : p = s.size ∧ q > p + na := by rcases HAt.out with h | h; exact absurd h hq; exact h
      have hqi : ¬ (q : Int) = (p : Int) + na := by omega
      have hpi : (p : Int) = s.size := by omega
      have hqg : (q : Int) > (p : Int) + na := by omega
      have hqb : ((q : Int) == (p : Int) + na) = false := by rw [beq_eq_false_iff_ne]; exact hqi
      have hpb2 : ((p : Int) == s.size) = true := by rw [hpi]; simp
      clear hp
      go_wp2_with fail
      (with_reducible refine K9.out.mono ?_); rintro e w6 ⟨rfl, hb6⟩
      have HB6 := Lib.hid (HB5.out.next hb6)
      clear hb6 K9
      go_wp2_with fail
      go_ret
      exact ⟨ret_bool (by simp), HB6.out⟩
end Go.Proofs.YthkpbgpgcpkiiaaGreatDoor
