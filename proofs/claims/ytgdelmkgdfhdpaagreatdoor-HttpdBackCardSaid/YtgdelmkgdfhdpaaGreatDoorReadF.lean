/- The law HttpdReads (blotterlaw08) is true: its walk. Conditions: tables and errors of the library's. -/
import Derived.Test.YtgdelmkgdfhdpaaGreatDoorReadE
namespace Go.Proofs.YtgdelmkgdfhdpaaGreatDoor
open Go.RowKit
set_option linter.unusedVariables false
set_option linter.unusedSimpArgs false
set_option maxRecDepth 100000

theorem readA_small (l : B) : (readA l).2.1 ≤ l.length ∧ (readA l).1.h.length ≤ 32 ∧ (readA l).1.b.length ≤ l.length := by
  unfold readA
  split
  · exact ⟨Nat.zero_le _, Nat.zero_le _, Nat.zero_le _⟩
  split
  · exact ⟨Nat.zero_le _, Nat.zero_le _, Nat.zero_le _⟩
  rename_i h1 h2
  have hk : whereL crL l < l.length := Nat.lt_of_le_of_ne (whereL_le _ _) h2
  have hr := whereL_room (t := crL) hk
  have hr4 : whereL crL l + 4 ≤ l.length := hr
  generalize whereL crL l = K at *
  unfold endR
  split
  · exact ⟨Nat.zero_le _, Nat.zero_le _, Nat.zero_le _⟩
  rename_i s h n heq
  split
  · exact ⟨Nat.zero_le _, Nat.zero_le _, Nat.zero_le _⟩
  split
  · exact ⟨Nat.zero_le _, Nat.zero_le _, Nat.zero_le _⟩
  refine ⟨by simp only; omega, ?_, by simp only; rw [List.length_take, List.length_drop]; omega⟩
  have hlen : h.length ≤ 32 := by
    unfold headR at heq
    split at heq
    · cases heq
    · unfold bodyA at heq
      split at heq
      · cases heq
      · rename_i h32
        have fl : ∀ L, L.length ≤ 32 → ∀ q, fieldsA L = some q → q.length ≤ 32 := fun L hL q hq => by rw [fields_len _ _ hq]; exact hL
        split at heq
        · rw [Option.map_map, Option.map_eq_some_iff] at heq
          obtain ⟨q, hq, he⟩ := heq
          cases he
          exact fl _ (by omega) _ hq
        · split at heq
          · cases heq
          · split at heq
            · cases heq
            · rw [Option.map_map, Option.map_eq_some_iff] at heq
              obtain ⟨q, hq, he⟩ := heq
              cases he
              exact fl _ (by rw [List.length_dropLast]; omega) _ hq
  exact hlen
set_option maxHeartbeats 8000000 in
theorem reads_any (l : B) (v : Value) (w : World) (hS : Part w (v, l)) (hg : Glob w) (hT : Tab10 w) (hE : Errs w) :
    Calls Tryz.prog 4 #[v] w fun e w' => e = .returned (.bool true) ∧ Below w.heap.size w w' := by
  obtain ⟨A, cp, hv⟩ := hS.1.shape
  have hv' : v = .slice A l.length cp := hv
  subst hv'
  have HS := Lib.hid hS
  have HG := Lib.hid hg
  have HT := Lib.hid hT
  have HE := Lib.hid hE
  clear hS hg hv hT hE
  have CA := Lib.hid (fun w' (hb : Below w.heap.size w w') => awake_any w' (HG.out.next hb))
  by_cases hbig : 262144 < l.length
  · have hb1 : (262144 : Int) < l.length := by omega
    go_enter Tryz.func4, Tryz.ntmps4
    go_wp2_with fail
    refine (CA.out _ (Below.refl _ _)).mono ?_
    rintro e w4 ⟨rfl, hb4⟩
    go_wp2_with fail
    go_ret
    exact ⟨rfl, hb4⟩
  have hb1 : ¬ (262144 : Int) < l.length := by omega
  have hl : l.length ≤ 262144 := by omega
  clear hbig
  obtain ⟨sm1, sm2, sm3⟩ := readA_small l
  have HX : ∃ X, readA l = X := ⟨_, rfl⟩
  obtain ⟨X, hX⟩ := HX
  rw [hX] at sm1 sm2 sm3
  obtain ⟨⟨xs, xh, xb⟩, xn, xe⟩ := X
  simp only at sm1 sm2 sm3
  have HXX := Lib.hid hX
  clear hX
  go_enter Tryz.func4, Tryz.ntmps4
  go_wp2_with fail
  refine (clone_any l _ w HS.out.1 (by omega)).mono ?_
  rintro e w2 ⟨v2, rfl, ho2, hb2⟩
  have hrd := read_any l v2 w2 (Part.own ho2) (by omega) (HT.out.next hb2) (HE.out.next hb2) (HG.out.next hb2)
  rw [HXX.out] at hrd
  have HRD := Lib.hid hrd
  have HP2 := Lib.hid (Part.own ho2)
  have HB2 := Lib.hid hb2
  obtain ⟨A2, c2, rfl⟩ := (rd_of_own ho2).shape
  clear ho2 hb2 hrd
  go_wp2_with fail
  refine HRD.out.mono ?_
  rintro e w3 ⟨⟨a, rfl, ha⟩, hb3⟩
  simp only at ha
  have HA3 := Lib.hid ha
  obtain ⟨Aa, na, Ca, da, rfl, _, _⟩ := ha.agg
  clear ha
  have hbx := (Below.refl w3.heap.size w3).alloc (Nat.le_refl _) (.cells #[.int .i64 xs, .slice Aa xh.length na, .slice Ca xb.length da] 25)
  have hac4 : AC (w3.alloc (.cells #[.int .i64 xs, .slice Aa xh.length na, .slice Ca xb.length da] 25)) w3.heap.size xs (.slice Aa xh.length na) (.slice Ca xb.length da) := heap_alloc_new _ _
  have hr4 := (HB2.out.next hb3).next hbx
  have hrr := refRead_any l _ _ (HS.out.below hr4) (by omega)
  rw [HXX.out] at hrr
  have HRR := Lib.hid hrr
  have HA4 := Lib.hid (HA3.out.below hbx)
  have HP4 := Lib.hid (HP2.out.below (Below.next hb3 hbx))
  have HR4 := Lib.hid hr4
  have HAC4 := Lib.hid hac4
  clear hbx hac4 hr4 hrr hb3 HA3 HP2
  go_wp2_with fail
  refine HRR.out.mono ?_
  rintro e w5 ⟨⟨x, rfl, hx⟩, hb5⟩
  simp only at hx
  have HX5 := Lib.hid hx
  obtain ⟨Ax, nx, Cx, dx, rfl, _, _⟩ := hx.agg
  clear hx
  have hby := (Below.refl w5.heap.size w5).alloc (Nat.le_refl _) (.cells #[.int .i64 xs, .slice Ax xh.length nx, .slice Cx xb.length dx] 25)
  have hac6 := HAC4.out.below (Below.next hb5 hby)
  have HA6 := Lib.hid (HA4.out.below (Below.next hb5 hby))
  have HX6 := Lib.hid (HX5.out.below hby)
  have HP6 := Lib.hid (HP4.out.below (Below.next hb5 hby))
  have HR6 := Lib.hid (HR4.out.next (Below.next hb5 hby))
  have k0 := hac6.c0
  have k1 := hac6.c1
  have k2 := hac6.c2
  clear hac6 hby hb5 HA4 HX5 HP4
  go_wp2_with fail
  refine (sameAns_any xs xh xb _ _ _ HA6.out HX6.out (by omega)).mono ?_
  rintro e w7 ⟨rfl, hb7⟩
  have HP7 := Lib.hid (HP6.out.below hb7)
  have HS7 := Lib.hid (HS.out.below (HR6.out.next hb7))
  have HR7 := Lib.hid (HR6.out.next hb7)
  clear hb7 k0 k1 k2
  have heq := equal_any l l _ _ w7 HP7.out.1 HS7.out.1 (by omega) (by omega)
  rw [decide_eq_true rfl] at heq
  have HEQ := Lib.hid heq
  clear heq
  go_wp2_with fail
  refine HEQ.out.mono ?_
  rintro e w8 ⟨rfl, hb8⟩
  have HR8 := Lib.hid (HR7.out.next hb8)
  clear hb8
  go_wp2_with fail
  refine (CA.out _ HR8.out).mono ?_
  rintro e w9 ⟨rfl, hb9⟩
  go_wp2_with fail
  go_ret
  exact ⟨rfl, HR8.out.next hb9⟩
end Go.Proofs.YtgdelmkgdfhdpaaGreatDoor
