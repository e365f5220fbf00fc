/- A first line's status (httpd.told), the number of a head's last line (httpd.length). Conditions: the table of powers of ten; strconv's two errors. -/
import Derived.Test.YtgdelmkgdfhdpaaGreatDoorWriteJ
import Derived.Test.YtgdelmkgdfhdpaaGreatDoorLawR
import Derived.Lib.AtoiTie
import Derived.Lib.AtoiAllCases
import Derived.Shelf.Strconv.AtoiAll
namespace Go.Proofs.YtgdelmkgdfhdpaaGreatDoor
open Go.RowKit
set_option linter.unusedVariables false
set_option linter.unusedSimpArgs false
set_option maxRecDepth 100000

def NoFirst (f : B) (k : Nat) : Prop := ∀ j, j < k → firstA (wordAt j).1.toNat ≠ f
theorem NoFirst.next {f : B} {k : Nat} (h : NoFirst f k) (he : firstA (wordAt k).1.toNat ≠ f) : NoFirst f (k + 1) := fun j hj => by
  by_cases e : j = k
  · rw [e]; exact he
  · exact h j (by omega)
theorem word_split {k : Nat} (hk : k < 18) : wordsT = wordsT.take k ++ (wordAt k :: wordsT.drop (k + 1)) := by
  have : k = 0 ∨ k = 1 ∨ k = 2 ∨ k = 3 ∨ k = 4 ∨ k = 5 ∨ k = 6 ∨ k = 7 ∨ k = 8 ∨ k = 9 ∨ k = 10 ∨ k = 11 ∨ k = 12 ∨ k = 13 ∨ k = 14 ∨ k = 15 ∨ k = 16 ∨ k = 17 := by omega
  rcases this with rfl | rfl | rfl | rfl | rfl | rfl | rfl | rfl | rfl | rfl | rfl | rfl | rfl | rfl | rfl | rfl | rfl | rfl <;> rfl
theorem word_get {j : Nat} {p : Int × B} {l : List (Int × B)} (hl : l <+: wordsT) (h : l[j]? = some p) : wordAt j = p := by
  unfold wordAt
  obtain ⟨t, ht⟩ := hl
  rw [List.getD_eq_getElem?_getD, ← ht, List.getElem?_append_left (List.getElem?_eq_some_iff.1 h).1, h]
  rfl
theorem status_at {f : B} {k : Nat} (hk : k < 18) (h : NoFirst f k) (he : firstA (wordAt k).1.toNat = f) : statusL f = (wordAt k).1.toNat := by
  have hn : (wordsT.take k).find? (fun p => firstA p.1.toNat == f) = none := by
    rw [List.find?_eq_none]
    intro p hp
    obtain ⟨j, hj⟩ := List.mem_iff_getElem?.1 hp
    have hjk : j < k := by have := (List.getElem?_eq_some_iff.1 hj).1; rw [List.length_take] at this; omega
    have h1 := h j hjk
    rw [word_get (List.take_prefix _ _) hj] at h1
    simpa using h1
  unfold statusL
  rw [word_split hk, List.find?_append, hn]
  simp [he]
theorem status_none {f : B} (h : NoFirst f 18) : statusL f = 0 := by
  have hn : wordsT.find? (fun p => firstA p.1.toNat == f) = none := by
    rw [List.find?_eq_none]
    intro p hp
    obtain ⟨j, hj⟩ := List.mem_iff_getElem?.1 hp
    have hjk : j < 18 := (List.getElem?_eq_some_iff.1 hj).1
    have h1 := h j hjk
    rw [word_get (List.prefix_refl _) hj] at h1
    simpa using h1
  unfold statusL
  rw [hn]
theorem word_num {k : Nat} (hk : k < 18) : ∃ n : Nat, (wordAt k).1 = n ∧ 101 ≤ n ∧ n ≤ 507 ∧ reasonL n = (wordAt k).2 ∧ (wordAt k).2.length ≤ 40 := by
  have h : ∀ k, k < 18 → 101 ≤ (wordAt k).1 ∧ (wordAt k).1 ≤ 507 ∧ reasonL (wordAt k).1 = (wordAt k).2 ∧ (wordAt k).2.length ≤ 40 := by decide +kernel
  obtain ⟨h1, h2, h3, h4⟩ := h k hk
  refine ⟨(wordAt k).1.toNat, by omega, by omega, by omega, ?_, h4⟩
  rw [show (((wordAt k).1.toNat : Nat) : Int) = (wordAt k).1 by omega]
  exact h3
set_option maxHeartbeats 8000000 in
theorem told_any (s : ByteArray) (hs : s.size ≤ 1048576) (w : World) (hT : Tab10 w) :
    Calls Tryz.prog 53 #[.string s] w fun e w' => e = .returned (.int .i64 (statusL s.toList)) ∧ BL w w' := by
  have HT := Lib.hid hT
  clear hT
  go_enter Tryz.func53, Tryz.ntmps53
  go_wp2_with fail
  refine (words_any w).mono ?_
  rintro e w1 ⟨g, rfl, hW, hb1⟩
  have HW := Lib.hid hW
  have HB1 := Lib.hid hb1
  clear hW hb1
  go_wp2_with fail
  go_loopw [7] (fun i wr => ∃ k : Nat, k ≤ 18 ∧ i = .int .i64 k ∧ Hid (NoFirst s.toList k) ∧ Hid (Below w1.heap.size w1 wr)) (fun i _ => 18 - (intOf i).toNat)
  case atStart => exact ⟨0, by omega, rfl, (fun j h => by omega), Below.refl _ _⟩
  case round =>
    obtain ⟨k, hk, rfl, Hn, Hb⟩ := hrel
    have hr : BL w wr := bl_next HB1.out Hb.out
    have Hr := Lib.hid hr
    by_cases hlt : k < 18
    · obtain ⟨c0, c1⟩ := (HW.out.below Hb.out).at hlt
      have hlt' : (k : Int) < 18 := by omega
      obtain ⟨n, hn, hn1, hn2, hrs, hql⟩ := word_num hlt
      have HS := Lib.hid (fun h => status_at (f := s.toList) hlt Hn.out h)
      have HN := Lib.hid (fun h => Hn.out.next (f := s.toList) h)
      rw [hn] at c0 HS HN
      rw [Int.toNat_natCast] at HS HN
      generalize (wordAt k).2 = q at *
      have hq2 : (ofL q).size ≤ 40 := by rw [size_ofL]; exact hql
      have hd9 : (ofL (Lib.decDigits n)).size ≤ 9 := by rw [size_ofL]; exact dec_lenC n 8 (by omega)
      have HE := Lib.hid (show (⟨#[72, 84, 84, 80, 47, 49, 46, 49, 32]⟩ ++ ofL (Lib.decDigits n) ++ ⟨#[32]⟩ ++ ofL q : ByteArray) = ofL (firstA n) by
        unfold firstA
        rw [hrs, ofL_append, ofL_append, ofL_append]; rfl)
      have HI := Lib.hid (fun wx (hb : BL w wx) => itoa_any n (by omega) wx (HT.out.next hb))
      have hb2 := bl_alloc hr (.cells #[.int .i64 n, .string (ofL q)] 75)
      have g0 : (wr.alloc (.cells #[.int .i64 n, .string (ofL q)] 75)).cell? ⟨wr.heap.size, 0, none⟩ = some (.int .i64 n) := by rw [World.cell?_alloc_mark]; rfl
      have g1 : (wr.alloc (.cells #[.int .i64 n, .string (ofL q)] 75)).cell? ⟨wr.heap.size, 1, none⟩ = some (.string (ofL q)) := by rw [World.cell?_alloc_mark]; rfl
      have hbb := Lib.hid ((Below.refl wr.heap.size wr).alloc (Nat.le_refl _) (.cells #[.int .i64 n, .string (ofL q)] 75))
      have hA1 : ¬ 9223372036854775807 < 9 + (ofL (Lib.decDigits n)).size := by omega
      have hA2 : ¬ 9223372036854775807 < 9 + (ofL (Lib.decDigits n)).size + 1 := by omega
      have hA3 : ¬ 9223372036854775807 < 9 + (ofL (Lib.decDigits n)).size + 1 + (ofL q).size := by omega
      generalize Lib.decDigits n = dn at *
      obtain ⟨bt, hbt⟩ : ∃ bt, (s.toList == firstA n) = bt := ⟨_, rfl⟩
      have HBT := Lib.hid hbt
      clear hrs hr hn hbt
      go_upto_region 4 with fail
      generalize wr.alloc (.cells #[.int .i64 n, .string (ofL q)] 75) = w2 at *
      go_cut [20] (fun x wx => x = .bool bt ∧ wx.cell? ⟨wr.heap.size, 0, none⟩ = some (.int .i64 n) ∧ Hid (Below wr.heap.size wr wx))
      case first =>
        replace hb2 := bl_drew hb2
        replace g0 : w2.drew.cell? ⟨wr.heap.size, 0, none⟩ = some (.int .i64 n) := g0
        replace g1 : w2.drew.cell? ⟨wr.heap.size, 1, none⟩ = some (.string (ofL q)) := g1
        go_region_held3 (fun w' => w'.cell? ⟨wr.heap.size, 0, none⟩ = some (.int .i64 n) ∧ w'.cell? ⟨wr.heap.size, 1, none⟩ = some (.string (ofL q))) (first | exact ⟨g0, g1⟩ | exact ⟨g0a, g1a⟩) (first | (go_at_call 22; (with_reducible refine (HI.out _ hb2).mono ?_); rintro e w5 ⟨rfl, hb5⟩; have g0a := Below.keeps hb5 g0; have g1a := Below.keeps hb5 g1; have hra := bl_next hb2 hb5))
        go_wp2_with fail
        go_meet
        exact ⟨congrArg Value.bool (by rw [HE.out, toL_ofL]; exact HBT.out), g0a, hbb.out.drew.next hb5⟩
      case rest =>
        obtain ⟨rfl, g0, Hbx⟩ := hcut
        cases bt with
        | true =>
          have HR := Lib.hid (HS.out (by have := HBT.out; simp only [beq_iff_eq] at this; exact this.symm))
          go_wp2_with fail
          go_ret
          exact ⟨by rw [HR.out]; rfl, bl_next Hr.out Hbx.out⟩
        | false =>
          have HX := Lib.hid (HN.out (fun e => by have := HBT.out; rw [beq_eq_false_iff_ne] at this; exact this e.symm))
          go_wp2_with fail
          go_roundw
          case rel => exact ⟨k + 1, by omega, by go_num, HX.out, Hb.out.next Hbx.out⟩
          case measure => simp [intOf]; omega
    · have hk18 : k = 18 := by omega
      subst hk18
      have HR := Lib.hid (status_none Hn.out)
      go_wp2_with fail
      go_ret
      exact ⟨by rw [HR.out]; rfl, hr⟩

/-- strconv's two errors: their variables hold nil or some error. -/
def ErrCell (w : World) (g : Nat) : Prop := ∃ ev, w.cell? ⟨g, 0, none⟩ = some ev ∧ (ev = .nilIface ∨ ∃ te pe, ev = .iface te pe)
theorem ErrCell.next {w w' : World} {g : Nat} (h : ErrCell w g) (hb : Below w.heap.size w w') : ErrCell w' g := by
  obtain ⟨ev, h1, h2⟩ := h
  exact ⟨ev, Below.keeps hb h1, h2⟩
def Errs (w : World) : Prop := ErrCell w 3 ∧ ErrCell w 2
theorem Errs.next {w w' : World} (h : Errs w) (hb : Below w.heap.size w w') : Errs w' := ⟨h.1.next hb, h.2.next hb⟩
def AtoiIs (d : B) (e : Ending) : Prop := (∃ n : Int, Lib.atoiAll d = .ok n ∧ e = .returned (.tuple #[.int .i64 n, .nilIface])) ∨ ((∀ n, Lib.atoiAll d ≠ .ok n) ∧ ∃ z T N, e = .returned (.tuple #[.int .i64 z, .iface T (.pointer (some ⟨N, 0, none⟩))]))
theorem atoiR_any (s : ByteArray) (hs : s.size ≤ 1048576) (w : World) (hE : Errs w) : Calls Tryz.prog 72 #[.string s] w fun e w' => AtoiIs s.toList e ∧ BL w w' := by
  obtain ⟨⟨ev1, hv1, he1⟩, ⟨ev2, hv2, he2⟩⟩ := hE
  rw [toL_eq]
  rcases hx : Lib.atoiAll s.data.toList with v | _ | _
  · refine (Tryz.strconv_Atoi_ok s (by omega) v hx w).mono ?_
    rintro e w' ⟨rfl, hb⟩
    refine ⟨.inl ⟨v, hx, rfl⟩, ?_⟩
    rcases hb with rfl | ⟨t, rfl⟩
    · exact bl_refl _
    · exact Lib.bytesWorld_below _ _ _
  · refine (Any.strconv_Atoi_syntax Tryz.laysC172 s (by omega) hx ev2 w hv2 he2).mono ?_
    rintro e w' ⟨N, rfl, _, _, hb⟩
    exact ⟨.inr ⟨fun n => (by rw [hx]; simp), _, _, _, rfl⟩, hb⟩
  · refine (Tryz.strconv_Atoi_range s (by omega) hx ev1 w hv1 he1).mono ?_
    rintro e w' ⟨N, rfl, _, _, hb⟩
    exact ⟨.inr ⟨fun n => (by rw [hx]; simp), _, _, _, rfl⟩, hb⟩
theorem dec_from : ∀ (l : B) (acc : Nat), l.all (isB 1) = true → Lib.decFrom acc l = some (l.foldl (fun n c => 10 * n + (c.toNat - 48)) acc)
  | [], acc, _ => rfl
  | c :: r, acc, h => by
    simp only [List.all_cons, Bool.and_eq_true] at h
    have hd := digit_facts h.1
    unfold Lib.decFrom Lib.digitVal
    rw [if_pos hd]
    simp only
    rw [dec_from r _ h.2, List.foldl_cons, Nat.mul_comm]
theorem atoiR_num (d : B) (h : allL d 1 9 1 = true) : Lib.atoiAll d = .ok (numF d : Int) := by
  unfold allL at h
  simp only [Bool.and_eq_true, decide_eq_true_eq] at h
  obtain ⟨⟨h1, h2⟩, h3⟩ := h
  rw [Lib.atoiAll_short d (by omega)]
  have e : Lib.atoi d = some (numF d : Int) := atoi_num d (fun e => by rw [e] at h2; simp at h2) h1
  rw [e]; rfl
theorem dig_no {d : B} (h : ¬ allL d 1 9 1 = true) : digL d = -1 := by
  unfold digL numL
  rw [if_neg h]
  simp
/-- The number, as the program finds it. -/
theorem dig_of {d : B} {n : Int} (h : Lib.atoiAll d = .ok n) (h9 : d.length ≤ 9) (h0 : 0 ≤ n) (he : Lib.decDigits n.toNat = d) : digL d = n := by
  obtain ⟨h1, h2, h3⟩ := dec_lawR n.toNat
  have hlt := numF_lt _ _ rfl h1
  rw [h2] at hlt
  have : n.toNat < 1000000000 := Nat.lt_of_lt_of_le hlt (by
    rw [he]
    exact Nat.pow_le_pow_right (by omega) h9)
  rw [← he, dig_dec _ this]
  omega
theorem dig_bad {d : B} (h : 9 < d.length ∨ (∀ n, Lib.atoiAll d ≠ .ok n) ∨ ∃ n : Int, Lib.atoiAll d = .ok n ∧ (n < 0 ∨ Lib.decDigits n.toNat ≠ d)) : digL d = -1 := by
  by_cases ha : allL d 1 9 1 = true
  · have h1 := atoiR_num d ha
    have hl : d.length ≤ 9 := by unfold allL at ha; simp only [Bool.and_eq_true, decide_eq_true_eq] at ha; exact ha.2
    have hn : numL d = numF d := by unfold numL; rw [if_pos ha]
    rcases h with h | h | ⟨n, h2, h3⟩
    · omega
    · exact absurd h1 (h _)
    · rw [h1] at h2
      injection h2 with h2
      subst h2
      rcases h3 with h3 | h3
      · omega
      · unfold digL
        rw [hn, if_neg (fun e => h3 e.2)]
  · exact dig_no ha
theorem cutPre_any (s : ByteArray) (w : World) : Calls Tryz.prog 71 #[.string s, .string ⟨#[99, 111, 110, 116, 101, 110, 116, 45, 108, 101, 110, 103, 116, 104, 58, 32]⟩] w fun e w' =>
    e = .returned (.tuple #[.string (ofL (if clPre.isPrefixOf s.toList then s.toList.drop 16 else s.toList)), .bool (clPre.isPrefixOf s.toList)]) ∧ w = w' := by
  refine (Tryz.strings_CutPrefix s ⟨#[99, 111, 110, 116, 101, 110, 116, 45, 108, 101, 110, 103, 116, 104, 58, 32]⟩ w).mono ?_
  rintro e w' ⟨rfl, rfl⟩
  refine ⟨?_, rfl⟩
  rw [← toL_eq]
  rfl
theorem itoaR_any (n : Nat) (hn : n < 9223372036854775808) (w : World) (hT : Tab10 w) :
    Calls Tryz.prog 22 #[.int .i64 n] w fun e w' => e = .returned (.string (ofL (Lib.decDigits n))) ∧ BL w w' := by
  have CI := Tryz.strconv_Itoa (n : Int) (by omega) (by omega) w hT
  rw [Lib.itoa_nonneg] at CI
  refine CI.mono ?_
  rintro e w1 ⟨rfl, kn, os, hw1⟩
  exact ⟨rfl, by rw [hw1]; exact Lib.below_grow _ _ (Nat.le_refl _) _ _⟩
theorem len_no {s : B} (h : clPre.isPrefixOf s = false) : lenL s = -1 := by unfold lenL; rw [h]; rfl
theorem len_yes {s : B} (h : clPre.isPrefixOf s = true) : lenL s = digL (s.drop 16) := by unfold lenL; rw [if_pos h]
set_option maxHeartbeats 8000000 in
theorem length_any (s : ByteArray) (hs : s.size ≤ 1048576) (w : World) (hT : Tab10 w) (hE : Errs w) :
    Calls Tryz.prog 55 #[.string s] w fun e w' => e = .returned (.int .i64 (lenL s.toList)) ∧ BL w w' := by
  have HT := Lib.hid hT
  have HCP := Lib.hid (cutPre_any s w)
  clear hT
  have hsl : s.toList.length = s.size := len_toL s
  cases hp : clPre.isPrefixOf s.toList
  · have HL := Lib.hid (len_no hp)
    rw [hp] at HCP
    simp only [Bool.false_eq_true, if_false, ofL_toL] at HCP
    have HA := Lib.hid (atoiR_any s hs w hE)
    clear hp hE
    go_enter Tryz.func55, Tryz.ntmps55
    go_wp2_with fail
    refine HCP.out.mono ?_
    rintro e w1 ⟨rfl, rfl⟩
    go_wp2_with fail
    refine HA.out.mono ?_
    rintro e w2 ⟨ha, hb⟩
    rcases ha with ⟨n, hn, rfl⟩ | ⟨hn, z, T, N, rfl⟩
    · clear hn
      go_wp2_with fail
      go_ret
      exact ⟨by rw [HL.out]; rfl, hb⟩
    · clear hn
      go_wp2_with fail
      go_ret
      exact ⟨by rw [HL.out]; rfl, hb⟩
  · have HL := Lib.hid (len_yes hp)
    rw [hp] at HCP
    simp only [if_true] at HCP
    generalize hd : s.toList.drop 16 = d at *
    have hdl : d.length ≤ 1048576 := by rw [← hd, List.length_drop]; omega
    have HA := Lib.hid (atoiR_any (ofL d) (by rw [size_ofL]; exact hdl) w hE)
    rw [toL_ofL] at HA
    have hz : (ofL d).size = d.length := size_ofL d
    clear hp hE hd
    go_enter Tryz.func55, Tryz.ntmps55
    go_wp2_with fail
    refine HCP.out.mono ?_
    rintro e w1 ⟨rfl, rfl⟩
    go_wp2_with fail
    refine HA.out.mono ?_
    rintro e w2 ⟨ha, hb⟩
    have Hb := Lib.hid hb
    clear hb
    rcases ha with ⟨n, hn, rfl⟩ | ⟨hn, z, T, N, rfl⟩
    · obtain ⟨nb1, nb2⟩ := Lib.atoiAll_bounds hn
      by_cases h9 : 9 < d.length
      · have HX := Lib.hid (dig_bad (.inl h9))
        clear hn
        go_wp2_with fail
        go_ret
        exact ⟨by rw [HL.out, HX.out]; rfl, Hb.out⟩
      by_cases h0 : n < 0
      · have HX := Lib.hid (dig_bad (.inr (.inr ⟨n, hn, .inl h0⟩)))
        clear hn
        go_wp2_with fail
        go_ret
        exact ⟨by rw [HL.out, HX.out]; rfl, Hb.out⟩
      obtain ⟨m, rfl⟩ : ∃ m : Nat, n = m := ⟨n.toNat, by omega⟩
      have HI := Lib.hid (itoaR_any m (by omega) w2 (HT.out.next Hb.out))
      by_cases he : Lib.decDigits m = d
      · have HX := Lib.hid (show digL d = m from dig_of hn (by omega) (by omega) (by rw [Int.toNat_natCast]; exact he))
        rw [he] at HI
        clear hn he
        go_wp2_with fail
        refine HI.out.mono ?_
        rintro e w3 ⟨rfl, hb3⟩
        go_wp2_with fail
        go_ret
        exact ⟨by rw [HL.out, HX.out]; rfl, bl_next Hb.out hb3⟩
      · have HX := Lib.hid (dig_bad (d := d) (.inr (.inr ⟨m, hn, .inr (by rw [Int.toNat_natCast]; exact he)⟩)))
        have q1 : ¬ (ofL (Lib.decDigits m)).toList = (ofL d).toList := by rw [toL_ofL, toL_ofL]; exact he
        have q2 : ((ofL (Lib.decDigits m)).toList == (ofL d).toList) = false := by simpa using q1
        clear hn he q1
        go_wp2_with fail
        refine HI.out.mono ?_
        rintro e w3 ⟨rfl, hb3⟩
        go_wp2_with fail
        go_ret
        exact ⟨by rw [HL.out, HX.out]; rfl, bl_next Hb.out hb3⟩
    · have HX := Lib.hid (dig_bad (.inr (.inl hn)))
      clear hn
      go_wp2_with fail
      go_ret
      exact ⟨by rw [HL.out, HX.out]; rfl, Hb.out⟩
end Go.Proofs.YtgdelmkgdfhdpaaGreatDoor
