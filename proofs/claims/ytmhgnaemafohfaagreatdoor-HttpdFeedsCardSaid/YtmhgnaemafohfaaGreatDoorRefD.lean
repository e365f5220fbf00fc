/- The reference's ends, line, fields (blotterref08). Conditions: the texts are short. -/
import Derived.Test.YtmhgnaemafohfaaGreatDoorRefC
namespace Go.Proofs.YtmhgnaemafohfaaGreatDoor
open Go.RowKit
set_option linter.unusedVariables false
set_option linter.unusedSimpArgs false
set_option maxRecDepth 100000

/-- Do CR LF stand ahead? 0; 400; 1: more is to come. -/
def ends1 : B → Nat
  | [] => 1
  | d :: _ => if d.toNat = 10 then 0 else 400
def endsL : B → Nat
  | [] => 1
  | c :: l => if c.toNat = 13 then ends1 l else 400
def EndsRel (l : B) (a k : Nat) : Prop := (k = 1 → endsL (l.drop a) = ends1 (l.drop (a + 1))) ∧ (k = 2 → endsL (l.drop a) = 0)
theorem ends_any (at_ : Nat) (s : ByteArray) (hs : s.size ≤ 1048576) (ha : at_ ≤ 2097152) (w : World) :
    Calls Tryz.prog 96 #[.string s, .int .i64 at_] w fun e w' => e = .returned (.tuple #[.int .i64 0, .int .i64 (endsL (s.toList.drop at_))]) ∧ Below w.heap.size w w' := by
  go_enter Tryz.func96, Tryz.ntmps96
  go_wp2
  go_loopw [7] (fun i wr => ∃ k : Nat, k ≤ 2 ∧ i = .int .i64 k ∧ EndsRel s.toList at_ k ∧ Below w.heap.size w wr) (fun i _ => 2 - (intOf i).toNat)
  case atStart => exact ⟨0, Nat.zero_le _, rfl, ⟨fun h => (by cases h), fun h => (by cases h)⟩, Below.refl _ _⟩
  case round =>
    obtain ⟨k, hk, rfl, he, hb⟩ := hrel
    have hkk : k = 0 ∨ k = 1 ∨ k = 2 := by omega
    rcases hkk with rfl | rfl | rfl
    · by_cases hlt : at_ < s.size
      · have Hd := Lib.hid (drop_eq s at_ hlt)
        by_cases hc : s[at_].toNat = 13
        · have Hc := Lib.hid hc
          have hq : ((s[at_].toNat : Int) != ((⟨#[13, 10]⟩ : ByteArray)[0].toNat : Int)) = false := by rw [show (⟨#[13, 10]⟩ : ByteArray)[0] = 13 from rfl]; simp; omega
          clear hc
          go_wp2
          go_quiet (fail)
          go_wp2
          go_roundw
          case rel => exact ⟨1, by omega, rfl, ⟨fun _ => by rw [Hd.out]; simp [endsL, Hc.out], fun h => by omega⟩, hb.trans (below_drewN _ _ _)⟩
          case measure => simp [intOf]
        · have Hc := Lib.hid hc
          have hq : ((s[at_].toNat : Int) != ((⟨#[13, 10]⟩ : ByteArray)[0].toNat : Int)) = true := by rw [show (⟨#[13, 10]⟩ : ByteArray)[0] = 13 from rfl]; simp; omega
          clear hc
          go_wp2
          go_quiet (fail)
          go_wp2
          go_ret2
          exact ⟨by rw [Hd.out]; simp [endsL, Hc.out], hb.trans (below_drewN _ _ _)⟩
      · have Hd := Lib.hid (show s.toList.drop at_ = [] from List.drop_of_length_le (by rw [len_toL]; omega))
        go_wp2
        go_ret2
        exact ⟨by rw [Hd.out]; rfl, hb⟩
    · by_cases hlt : at_ + 1 < s.size
      · have Hd := Lib.hid (drop_eq s (at_ + 1) hlt)
        have hw1 : IntKind.i64.wrap ((at_ : Int) + 1) = (at_ : Int) + 1 := IntWalk.i64_in _ (by omega)
        have hw2 : 0 ≤ (at_ : Int) + 1 := by omega
        have hw3 : ((at_ : Int) + 1).toNat = at_ + 1 := by omega
        have hw4 : (at_ : Int) + 1 < s.size := by omega
        by_cases hc : s[at_ + 1].toNat = 10
        · have Hc := Lib.hid hc
          have hq : ((s[at_ + 1].toNat : Int) != ((⟨#[13, 10]⟩ : ByteArray)[1].toNat : Int)) = false := by rw [show (⟨#[13, 10]⟩ : ByteArray)[1] = 10 from rfl]; simp; omega
          clear hc
          go_wp2
          go_quiet (fail)
          go_wp2
          go_roundw
          case rel => exact ⟨2, by omega, rfl, ⟨fun h => by omega, fun _ => by rw [he.1 rfl, Hd.out]; simp [ends1, Hc.out]⟩, hb.trans (below_drewN _ _ _)⟩
          case measure => simp [intOf]
        · have Hc := Lib.hid hc
          have hq : ((s[at_ + 1].toNat : Int) != ((⟨#[13, 10]⟩ : ByteArray)[1].toNat : Int)) = true := by rw [show (⟨#[13, 10]⟩ : ByteArray)[1] = 10 from rfl]; simp; omega
          clear hc
          go_wp2
          go_quiet (fail)
          go_wp2
          go_ret2
          exact ⟨ret_ii rfl (by rw [he.1 rfl, Hd.out]; simp [ends1, Hc.out]), hb.trans (below_drewN _ _ _)⟩
      · have Hd := Lib.hid (show s.toList.drop (at_ + 1) = [] from List.drop_of_length_le (by rw [len_toL]; omega))
        go_wp2
        go_ret2
        exact ⟨by rw [he.1 rfl, Hd.out]; rfl, hb⟩
    · go_wp2
      go_ret2
      exact ⟨ret_ii rfl (by rw [he.2 rfl]; rfl), hb⟩

theorem getD_eq (s : ByteArray) (k : Nat) (h : k < s.size) : s.toList.getD k 0 = s[k] := by
  rw [List.getD_eq_getElem?_getD, get_eq s k h]; rfl
/-- A first line's method and target, and why there are none. -/
def bad (n : Nat) : B × B × Nat := ([], [], n)
def line3 (m t v : B) : B × B × Nat :=
  if eatL 7 v ≠ v.length ∨ allL m 1 16 2 = false ∨ [47].isPrefixOf t = false ∨ allL t 1 8192 3 = false then bad 400
  else if v.length ≠ 8 ∨ [72, 84, 84, 80, 47].isPrefixOf v = false ∨ isB 1 (v.getD 5 0) = false ∨ v.getD 6 0 ≠ 46 ∨ isB 1 (v.getD 7 0) = false then bad 400
  else if v ≠ [72, 84, 84, 80, 47, 49, 46, 49] then bad 505
  else if m ≠ [71, 69, 84] ∧ m ≠ [80, 79, 83, 84] ∧ m ≠ [80, 85, 84] ∧ m ≠ [68, 69, 76, 69, 84, 69] then bad 501
  else if 1024 < t.length then bad 414
  else (m, t, 0)
def line2 (m s : B) : B × B × Nat := if eatL 7 s = 0 ∨ eatL 7 s = s.length then bad 400 else line3 m (s.take (eatL 7 s)) (s.drop (eatL 7 s + 1))
def lineL (s : B) : B × B × Nat := if eatL 7 s = 0 ∨ eatL 7 s = s.length then bad 400 else line2 (s.take (eatL 7 s)) (s.drop (eatL 7 s + 1))
def LineIs (s : B) (e : Ending) : Prop := e = .returned (.tuple #[.string (ofL (lineL s).1), .string (ofL (lineL s).2.1), .int .i64 (lineL s).2.2])
theorem lineIs_bad {s : B} {n : Nat} (h : lineL s = bad n) : LineIs s (.returned (.tuple #[.string ⟨#[]⟩, .string ⟨#[]⟩, .int .i64 n])) := by unfold LineIs; rw [h]; rfl
theorem allM_any (s : ByteArray) (hs : s.size ≤ maxLen) (w : World) :
    Calls Tryz.prog 71 #[.string s, .int .i64 1, .int .i64 16, .int .i64 2] w fun e w' => e = .returned (.bool (allL s.toList 1 16 2)) ∧ Below w.heap.size w w' := all_any 2 (by decide) (by decide) 1 16 s hs w
theorem allT_any (s : ByteArray) (hs : s.size ≤ maxLen) (w : World) :
    Calls Tryz.prog 71 #[.string s, .int .i64 1, .int .i64 8192, .int .i64 3] w fun e w' => e = .returned (.bool (allL s.toList 1 8192 3)) ∧ Below w.heap.size w w' := all_any 3 (by decide) (by decide) 1 8192 s hs w
theorem is1_any (c : UInt8) (w : World) :
    Calls Tryz.prog 72 #[.int .u8 c.toNat, .int .i64 1] w fun e w' => e = .returned (.bool (isB 1 c)) ∧ Below w.heap.size w w' := is_any 1 (by decide) (by decide) c w
theorem beginsS_any (s : ByteArray) (hs : s.size ≤ maxLen) (w : World) :
    Calls Tryz.prog 69 #[.string s, .string ⟨#[47]⟩] w fun e w' => e = .returned (.bool ([47].isPrefixOf s.toList)) ∧ w = w' := by
  have h := begins_any s ⟨#[47]⟩ hs w
  rwa [show (⟨#[47]⟩ : ByteArray).toList = [47] from ByteArray.toList_mk [47]] at h
theorem beginsV_any (s : ByteArray) (hs : s.size ≤ maxLen) (w : World) :
    Calls Tryz.prog 69 #[.string s, .string ⟨#[72, 84, 84, 80, 47]⟩] w fun e w' => e = .returned (.bool ([72, 84, 84, 80, 47].isPrefixOf s.toList)) ∧ w = w' := by
  have h := begins_any s ⟨#[72, 84, 84, 80, 47]⟩ hs w
  rwa [show (⟨#[72, 84, 84, 80, 47]⟩ : ByteArray).toList = [72, 84, 84, 80, 47] from ByteArray.toList_mk [72, 84, 84, 80, 47]] at h
theorem byte_ne {c d : UInt8} (h : c ≠ d) : ((c.toNat : Int) != (d.toNat : Int)) = true := bne_iff_ne.2 fun e => h (UInt8.toNat.inj (by omega))
set_option maxHeartbeats 4000000 in
theorem line_any (s : ByteArray) (hs : s.size ≤ 1048576) (w : World) :
    Calls Tryz.prog 45 #[.string s] w fun e w' => LineIs s.toList e ∧ Below w.heap.size w w' := by
  have he := eatL_le 7 s.toList
  have Hl := Lib.hid (len_toL s)
  rw [len_toL] at he
  by_cases h0 : eatL 7 s.toList = 0
  · have H0 := Lib.hid h0
    clear h0
    go_enter Tryz.func45, Tryz.ntmps45
    go_wp2_with (go_at_call 70; refine (eat_any 7 (by decide) (by decide) _ (by unfold maxLen; omega) _).mono ?_; rintro e w' ⟨rfl, hb⟩; rw [H0.out])
    go_ret3
    exact ⟨lineIs_bad (by unfold lineL; rw [if_pos (.inl H0.out)]), hb⟩
  by_cases h1 : eatL 7 s.toList = s.size
  · have H1 := Lib.hid h1
    have hne : ((eatL 7 s.toList : Int) == 0) = false := by simp; omega
    have heq : ((eatL 7 s.toList : Int) == s.size) = true := by simp; omega
    clear h1
    go_enter Tryz.func45, Tryz.ntmps45
    go_wp2_with (go_at_call 70; refine (eat_any 7 (by decide) (by decide) _ (by unfold maxLen; omega) _).mono ?_; rintro e w' ⟨rfl, hb⟩)
    go_ret3
    exact ⟨lineIs_bad (by unfold lineL; rw [if_pos (.inr (by rw [H1.out, Hl.out]))]), hb⟩
  have HL : Hid (lineL s.toList = line2 (s.extract 0 (eatL 7 s.toList)).toList (s.extract (eatL 7 s.toList + 1) s.size).toList) := by
    show _ = _; unfold lineL; rw [if_neg (by rw [Hl.out]; omega), toL_to, toL_from]
  have hn1 : ((eatL 7 s.toList : Int) == 0) = false := by simp; omega
  have hn2 : ((eatL 7 s.toList : Int) == s.size) = false := by simp; omega
  have hlt : eatL 7 s.toList + 1 ≤ s.size := by omega
  have hz1 : (s.extract 0 (eatL 7 s.toList)).size ≤ 1048576 := by rw [ByteArray.size_extract]; omega
  have hz2 : (s.extract (eatL 7 s.toList + 1) s.size).size ≤ 1048576 := by rw [ByteArray.size_extract]; omega
  have hw1 : IntKind.i64.wrap ((eatL 7 s.toList : Int) + 1) = (eatL 7 s.toList : Int) + 1 := IntWalk.i64_in _ (by omega)
  have hw2 : 0 ≤ (eatL 7 s.toList : Int) + 1 := by omega
  have hw3 : ((eatL 7 s.toList : Int) + 1).toNat = eatL 7 s.toList + 1 := by omega
  have hw4 : (eatL 7 s.toList : Int) + 1 ≤ s.size := by omega
  go_enter Tryz.func45, Tryz.ntmps45
  go_wp2_with (go_at_call 70; refine (eat_any 7 (by decide) (by decide) _ (by unfold maxLen; omega) _).mono ?_; rintro e w1 ⟨rfl, hb⟩)
  go_quiet (fail)
  clear hn1 hn2 hw1 hw2 hw3 hw4 hlt h0 h1
  have hb2 := hb.trans (below_drewN w.heap.size w1 nq)
  clear hb
  generalize w1.drewN nq = w2 at hb2 ⊢
  generalize s.extract 0 (eatL 7 s.toList) = m at HL hz1 ⊢
  generalize s.extract (eatL 7 s.toList + 1) s.size = r at HL hz2 ⊢
  have hr := eatL_le 7 r.toList
  have Hr := Lib.hid (len_toL r)
  rw [len_toL] at hr
  by_cases h0 : eatL 7 r.toList = 0
  · have H0 := Lib.hid h0
    clear h0
    go_wp2_with (go_at_call 70; refine (eat_any 7 (by decide) (by decide) _ (by unfold maxLen; omega) _).mono ?_; rintro e w' ⟨rfl, hb⟩; rw [H0.out])
    go_ret3
    exact ⟨lineIs_bad (by rw [HL.out]; unfold line2; rw [if_pos (.inl H0.out)]), hb2.trans (hb.mono hb2.size)⟩
  by_cases h1 : eatL 7 r.toList = r.size
  · have H1 := Lib.hid h1
    have hne : ((eatL 7 r.toList : Int) == 0) = false := by simp; omega
    have heq : ((eatL 7 r.toList : Int) == r.size) = true := by simp; omega
    clear h1
    go_wp2_with (go_at_call 70; refine (eat_any 7 (by decide) (by decide) _ (by unfold maxLen; omega) _).mono ?_; rintro e w' ⟨rfl, hb⟩)
    go_ret3
    exact ⟨lineIs_bad (by rw [HL.out]; unfold line2; rw [if_pos (.inr (by rw [H1.out, Hr.out]))]), hb2.trans (hb.mono hb2.size)⟩
  have HM : Hid (lineL s.toList = line3 m.toList (r.extract 0 (eatL 7 r.toList)).toList (r.extract (eatL 7 r.toList + 1) r.size).toList) := by
    show _ = _; rw [HL.out]; unfold line2; rw [if_neg (by rw [Hr.out]; omega), toL_to, toL_from]
  have hn1 : ((eatL 7 r.toList : Int) == 0) = false := by simp; omega
  have hn2 : ((eatL 7 r.toList : Int) == r.size) = false := by simp; omega
  have hlt : eatL 7 r.toList + 1 ≤ r.size := by omega
  have hz3 : (r.extract 0 (eatL 7 r.toList)).size ≤ 1048576 := by rw [ByteArray.size_extract]; omega
  have hz4 : (r.extract (eatL 7 r.toList + 1) r.size).size ≤ 1048576 := by rw [ByteArray.size_extract]; omega
  have hw1 : IntKind.i64.wrap ((eatL 7 r.toList : Int) + 1) = (eatL 7 r.toList : Int) + 1 := IntWalk.i64_in _ (by omega)
  have hw2 : 0 ≤ (eatL 7 r.toList : Int) + 1 := by omega
  have hw3 : ((eatL 7 r.toList : Int) + 1).toNat = eatL 7 r.toList + 1 := by omega
  have hw4 : (eatL 7 r.toList : Int) + 1 ≤ r.size := by omega
  clear HL
  go_wp2_with (go_at_call 70; refine (eat_any 7 (by decide) (by decide) _ (by unfold maxLen; omega) _).mono ?_; rintro e w1 ⟨rfl, hb⟩)
  go_quiet (fail)
  clear hn1 hn2 hw1 hw2 hw3 hw4 hlt h0 h1 hr Hr
  have hb3 := (hb2.trans (hb.mono hb2.size)).trans (below_drewN w.heap.size w1 nq)
  clear hb hb2 hz2 hs Hl he
  generalize w1.drewN nq = w3 at hb3 ⊢
  generalize r.extract 0 (eatL 7 r.toList) = t at HM hz3 ⊢
  generalize r.extract (eatL 7 r.toList + 1) r.size = v at HM hz4 ⊢
  have Hv := Lib.hid (len_toL v)
  have Htl := Lib.hid (len_toL t)
  by_cases hE : eatL 7 v.toList = v.size
  case neg =>
    have hE' : ((eatL 7 v.toList : Int) != v.size) = true := by simp; omega
    go_wp2_with (first | (go_at_call 70; refine (eat_any 7 (by decide) (by decide) _ (by unfold maxLen; omega) _).mono ?_; rintro e w4 ⟨rfl, hb4⟩; replace hb3 := hb3.trans (hb4.mono hb3.size); clear hb4))
    go_ret3
    exact ⟨lineIs_bad (by rw [HM.out]; unfold line3; rw [if_pos (.inl (by rw [Hv.out]; exact hE))]), hb3⟩
  have hE' : ((eatL 7 v.toList : Int) != v.size) = false := by simp; omega
  have HE := Lib.hid hE
  clear hE
  cases hm : allL m.toList 1 16 2
  case false =>
    have Hm := Lib.hid hm
    clear hm
    go_wp2_with (first | (go_at_call 70; refine (eat_any 7 (by decide) (by decide) _ (by unfold maxLen; omega) _).mono ?_; rintro e w4 ⟨rfl, hb4⟩; replace hb3 := hb3.trans (hb4.mono hb3.size); clear hb4) | (go_at_call 71; (with_reducible refine (allM_any m (by unfold maxLen; omega) _).mono ?_); rintro e w4 ⟨rfl, hb4⟩; replace hb3 := hb3.trans (hb4.mono hb3.size); clear hb4; rw [Hm.out]))
    go_ret3
    exact ⟨lineIs_bad (by rw [HM.out]; unfold line3; rw [if_pos (.inr (.inl Hm.out))]), hb3⟩
  have Hm := Lib.hid hm
  clear hm
  cases hs : [47].isPrefixOf t.toList
  case false =>
    have Hs := Lib.hid hs
    clear hs
    go_wp2_with (first | (go_at_call 70; refine (eat_any 7 (by decide) (by decide) _ (by unfold maxLen; omega) _).mono ?_; rintro e w4 ⟨rfl, hb4⟩; replace hb3 := hb3.trans (hb4.mono hb3.size); clear hb4) | (go_at_call 71; (with_reducible refine (allM_any m (by unfold maxLen; omega) _).mono ?_); rintro e w4 ⟨rfl, hb4⟩; replace hb3 := hb3.trans (hb4.mono hb3.size); clear hb4; rw [Hm.out]) | (go_at_call 69; (with_reducible refine (beginsS_any t (by unfold maxLen; omega) _).mono ?_); rintro e w4 ⟨rfl, rfl⟩; rw [Hs.out]))
    go_ret3
    exact ⟨lineIs_bad (by rw [HM.out]; unfold line3; rw [if_pos (.inr (.inr (.inl Hs.out)))]), hb3⟩
  have Hs := Lib.hid hs
  clear hs
  cases ht : allL t.toList 1 8192 3
  case false =>
    have Ht := Lib.hid ht
    clear ht
    go_wp2_with (first | (go_at_call 70; refine (eat_any 7 (by decide) (by decide) _ (by unfold maxLen; omega) _).mono ?_; rintro e w4 ⟨rfl, hb4⟩; replace hb3 := hb3.trans (hb4.mono hb3.size); clear hb4) | (go_at_call 71; (with_reducible refine (allM_any m (by unfold maxLen; omega) _).mono ?_); rintro e w4 ⟨rfl, hb4⟩; replace hb3 := hb3.trans (hb4.mono hb3.size); clear hb4; rw [Hm.out]) | (go_at_call 69; (with_reducible refine (beginsS_any t (by unfold maxLen; omega) _).mono ?_); rintro e w4 ⟨rfl, rfl⟩; rw [Hs.out]) | (go_at_call 71; (with_reducible refine (allT_any t (by unfold maxLen; omega) _).mono ?_); rintro e w4 ⟨rfl, hb4⟩; replace hb3 := hb3.trans (hb4.mono hb3.size); clear hb4; rw [Ht.out]))
    go_ret3
    exact ⟨lineIs_bad (by rw [HM.out]; unfold line3; rw [if_pos (.inr (.inr (.inr Ht.out)))]), hb3⟩
  have Ht := Lib.hid ht
  clear ht
  have HN : Hid (lineL s.toList = if v.toList.length ≠ 8 ∨ [72, 84, 84, 80, 47].isPrefixOf v.toList = false ∨ isB 1 (v.toList.getD 5 0) = false ∨ v.toList.getD 6 0 ≠ 46 ∨ isB 1 (v.toList.getD 7 0) = false then bad 400
      else if v.toList ≠ [72, 84, 84, 80, 47, 49, 46, 49] then bad 505
      else if m.toList ≠ [71, 69, 84] ∧ m.toList ≠ [80, 79, 83, 84] ∧ m.toList ≠ [80, 85, 84] ∧ m.toList ≠ [68, 69, 76, 69, 84, 69] then bad 501
      else if 1024 < t.toList.length then bad 414
      else (m.toList, t.toList, 0)) := by
    show _ = _; rw [HM.out]; unfold line3; rw [if_neg (by rw [Hv.out, HE.out, Hm.out, Hs.out, Ht.out]; simp)]
  clear HM
  by_cases h8 : v.size = 8
  case neg =>
    have h8' : ((v.size : Int) != 8) = true := by simp; omega
    go_wp2_with (first | (go_at_call 70; refine (eat_any 7 (by decide) (by decide) _ (by unfold maxLen; omega) _).mono ?_; rintro e w4 ⟨rfl, hb4⟩; replace hb3 := hb3.trans (hb4.mono hb3.size); clear hb4) | (go_at_call 71; (with_reducible refine (allM_any m (by unfold maxLen; omega) _).mono ?_); rintro e w4 ⟨rfl, hb4⟩; replace hb3 := hb3.trans (hb4.mono hb3.size); clear hb4; rw [Hm.out]) | (go_at_call 69; (with_reducible refine (beginsS_any t (by unfold maxLen; omega) _).mono ?_); rintro e w4 ⟨rfl, rfl⟩; rw [Hs.out]) | (go_at_call 71; (with_reducible refine (allT_any t (by unfold maxLen; omega) _).mono ?_); rintro e w4 ⟨rfl, hb4⟩; replace hb3 := hb3.trans (hb4.mono hb3.size); clear hb4; rw [Ht.out]))
    go_ret3
    exact ⟨lineIs_bad (by rw [HN.out]; rw [if_pos (.inl (by rw [Hv.out]; exact h8))]), hb3⟩
  have h8' : ((v.size : Int) != 8) = false := by simp; omega
  have h8n : 8 ≤ v.size := by omega
  have H8 := Lib.hid h8
  clear h8
  have G5 := Lib.hid (getD_eq v 5 (by omega))
  have G6 := Lib.hid (getD_eq v 6 (by omega))
  have G7 := Lib.hid (getD_eq v 7 (by omega))
  cases hh : [72, 84, 84, 80, 47].isPrefixOf v.toList
  case false =>
    have Hh := Lib.hid hh
    clear hh
    go_wp2_with (first | (go_at_call 70; refine (eat_any 7 (by decide) (by decide) _ (by unfold maxLen; omega) _).mono ?_; rintro e w4 ⟨rfl, hb4⟩; replace hb3 := hb3.trans (hb4.mono hb3.size); clear hb4) | (go_at_call 71; (with_reducible refine (allM_any m (by unfold maxLen; omega) _).mono ?_); rintro e w4 ⟨rfl, hb4⟩; replace hb3 := hb3.trans (hb4.mono hb3.size); clear hb4; rw [Hm.out]) | (go_at_call 69; (with_reducible refine (beginsS_any t (by unfold maxLen; omega) _).mono ?_); rintro e w4 ⟨rfl, rfl⟩; rw [Hs.out]) | (go_at_call 71; (with_reducible refine (allT_any t (by unfold maxLen; omega) _).mono ?_); rintro e w4 ⟨rfl, hb4⟩; replace hb3 := hb3.trans (hb4.mono hb3.size); clear hb4; rw [Ht.out]) | (go_at_call 69; (with_reducible refine (beginsV_any v (by unfold maxLen; omega) _).mono ?_); rintro e w4 ⟨rfl, rfl⟩; rw [Hh.out]))
    go_ret3
    exact ⟨lineIs_bad (by rw [HN.out]; rw [if_pos (.inr (.inl Hh.out))]), hb3⟩
  have Hh := Lib.hid hh
  clear hh
  cases h5 : isB 1 v[5]
  case false =>
    have H5 := Lib.hid h5
    clear h5
    go_wp2_with (first | (go_at_call 70; refine (eat_any 7 (by decide) (by decide) _ (by unfold maxLen; omega) _).mono ?_; rintro e w4 ⟨rfl, hb4⟩; replace hb3 := hb3.trans (hb4.mono hb3.size); clear hb4) | (go_at_call 71; (with_reducible refine (allM_any m (by unfold maxLen; omega) _).mono ?_); rintro e w4 ⟨rfl, hb4⟩; replace hb3 := hb3.trans (hb4.mono hb3.size); clear hb4; rw [Hm.out]) | (go_at_call 69; (with_reducible refine (beginsS_any t (by unfold maxLen; omega) _).mono ?_); rintro e w4 ⟨rfl, rfl⟩; rw [Hs.out]) | (go_at_call 71; (with_reducible refine (allT_any t (by unfold maxLen; omega) _).mono ?_); rintro e w4 ⟨rfl, hb4⟩; replace hb3 := hb3.trans (hb4.mono hb3.size); clear hb4; rw [Ht.out]) | (go_at_call 69; (with_reducible refine (beginsV_any v (by unfold maxLen; omega) _).mono ?_); rintro e w4 ⟨rfl, rfl⟩; rw [Hh.out]) | (go_at_call 72; (with_reducible refine (is1_any v[5] _).mono ?_); rintro e w4 ⟨rfl, hb4⟩; replace hb3 := hb3.trans (hb4.mono hb3.size); clear hb4; rw [H5.out]))
    go_ret3
    exact ⟨lineIs_bad (by rw [HN.out]; rw [if_pos (.inr (.inr (.inl (by rw [G5.out, H5.out]))))]), hb3⟩
  have H5 := Lib.hid h5
  clear h5
  by_cases h6 : v[6] = 46
  case neg =>
    have h6' : ((v[6].toNat : Int) != 46) = true := byte_ne (d := 46) h6
    have H6 := Lib.hid h6
    clear h6
    go_wp2_with (first | (go_at_call 70; refine (eat_any 7 (by decide) (by decide) _ (by unfold maxLen; omega) _).mono ?_; rintro e w4 ⟨rfl, hb4⟩; replace hb3 := hb3.trans (hb4.mono hb3.size); clear hb4) | (go_at_call 71; (with_reducible refine (allM_any m (by unfold maxLen; omega) _).mono ?_); rintro e w4 ⟨rfl, hb4⟩; replace hb3 := hb3.trans (hb4.mono hb3.size); clear hb4; rw [Hm.out]) | (go_at_call 69; (with_reducible refine (beginsS_any t (by unfold maxLen; omega) _).mono ?_); rintro e w4 ⟨rfl, rfl⟩; rw [Hs.out]) | (go_at_call 71; (with_reducible refine (allT_any t (by unfold maxLen; omega) _).mono ?_); rintro e w4 ⟨rfl, hb4⟩; replace hb3 := hb3.trans (hb4.mono hb3.size); clear hb4; rw [Ht.out]) | (go_at_call 69; (with_reducible refine (beginsV_any v (by unfold maxLen; omega) _).mono ?_); rintro e w4 ⟨rfl, rfl⟩; rw [Hh.out]) | (go_at_call 72; (with_reducible refine (is1_any v[5] _).mono ?_); rintro e w4 ⟨rfl, hb4⟩; replace hb3 := hb3.trans (hb4.mono hb3.size); clear hb4; rw [H5.out]))
    go_ret3
    exact ⟨lineIs_bad (by rw [HN.out]; rw [if_pos (.inr (.inr (.inr (.inl (by rw [G6.out]; exact H6.out)))))]), hb3⟩
  have h6' : ((v[6].toNat : Int) != 46) = false := by rw [h6]; rfl
  have H6 := Lib.hid h6
  clear h6
  cases h7 : isB 1 v[7]
  case false =>
    have H7 := Lib.hid h7
    clear h7
    go_wp2_with (first | (go_at_call 70; refine (eat_any 7 (by decide) (by decide) _ (by unfold maxLen; omega) _).mono ?_; rintro e w4 ⟨rfl, hb4⟩; replace hb3 := hb3.trans (hb4.mono hb3.size); clear hb4) | (go_at_call 71; (with_reducible refine (allM_any m (by unfold maxLen; omega) _).mono ?_); rintro e w4 ⟨rfl, hb4⟩; replace hb3 := hb3.trans (hb4.mono hb3.size); clear hb4; rw [Hm.out]) | (go_at_call 69; (with_reducible refine (beginsS_any t (by unfold maxLen; omega) _).mono ?_); rintro e w4 ⟨rfl, rfl⟩; rw [Hs.out]) | (go_at_call 71; (with_reducible refine (allT_any t (by unfold maxLen; omega) _).mono ?_); rintro e w4 ⟨rfl, hb4⟩; replace hb3 := hb3.trans (hb4.mono hb3.size); clear hb4; rw [Ht.out]) | (go_at_call 69; (with_reducible refine (beginsV_any v (by unfold maxLen; omega) _).mono ?_); rintro e w4 ⟨rfl, rfl⟩; rw [Hh.out]) | (go_at_call 72; (with_reducible refine (is1_any v[5] _).mono ?_); rintro e w4 ⟨rfl, hb4⟩; replace hb3 := hb3.trans (hb4.mono hb3.size); clear hb4; rw [H5.out]) | (go_at_call 72; (with_reducible refine (is1_any v[7] _).mono ?_); rintro e w4 ⟨rfl, hb4⟩; replace hb3 := hb3.trans (hb4.mono hb3.size); clear hb4; rw [H7.out]))
    go_ret3
    exact ⟨lineIs_bad (by rw [HN.out]; rw [if_pos (.inr (.inr (.inr (.inr (by rw [G7.out, H7.out])))))]), hb3⟩
  have H7 := Lib.hid h7
  clear h7
  have HP : Hid (lineL s.toList = if v.toList ≠ [72, 84, 84, 80, 47, 49, 46, 49] then bad 505
      else if m.toList ≠ [71, 69, 84] ∧ m.toList ≠ [80, 79, 83, 84] ∧ m.toList ≠ [80, 85, 84] ∧ m.toList ≠ [68, 69, 76, 69, 84, 69] then bad 501
      else if 1024 < t.toList.length then bad 414
      else (m.toList, t.toList, 0)) := by
    show _ = _; rw [HN.out, if_neg (by rw [Hv.out, H8.out, Hh.out, G5.out, H5.out, G6.out, H6.out, G7.out, H7.out]; simp)]
  clear HN
  cases hj : (v.toList == [72, 84, 84, 80, 47, 49, 46, 49])
  case false =>
    have HJ := Lib.hid hj
    go_wp2_with (first | (go_at_call 70; refine (eat_any 7 (by decide) (by decide) _ (by unfold maxLen; omega) _).mono ?_; rintro e w4 ⟨rfl, hb4⟩; replace hb3 := hb3.trans (hb4.mono hb3.size); clear hb4) | (go_at_call 71; (with_reducible refine (allM_any m (by unfold maxLen; omega) _).mono ?_); rintro e w4 ⟨rfl, hb4⟩; replace hb3 := hb3.trans (hb4.mono hb3.size); clear hb4; rw [Hm.out]) | (go_at_call 69; (with_reducible refine (beginsS_any t (by unfold maxLen; omega) _).mono ?_); rintro e w4 ⟨rfl, rfl⟩; rw [Hs.out]) | (go_at_call 71; (with_reducible refine (allT_any t (by unfold maxLen; omega) _).mono ?_); rintro e w4 ⟨rfl, hb4⟩; replace hb3 := hb3.trans (hb4.mono hb3.size); clear hb4; rw [Ht.out]) | (go_at_call 69; (with_reducible refine (beginsV_any v (by unfold maxLen; omega) _).mono ?_); rintro e w4 ⟨rfl, rfl⟩; rw [Hh.out]) | (go_at_call 72; (with_reducible refine (is1_any v[5] _).mono ?_); rintro e w4 ⟨rfl, hb4⟩; replace hb3 := hb3.trans (hb4.mono hb3.size); clear hb4; rw [H5.out]) | (go_at_call 72; (with_reducible refine (is1_any v[7] _).mono ?_); rintro e w4 ⟨rfl, hb4⟩; replace hb3 := hb3.trans (hb4.mono hb3.size); clear hb4; rw [H7.out]))
    go_ret3
    exact ⟨lineIs_bad (by rw [HP.out, if_pos (by simpa using HJ.out)]), hb3⟩
  have HJ := Lib.hid (show v.toList = [72, 84, 84, 80, 47, 49, 46, 49] by simpa using hj)
  cases m1 : (m.toList == [71, 69, 84])
  case true =>
   have HMM : Hid (¬ (m.toList ≠ [71, 69, 84] ∧ m.toList ≠ [80, 79, 83, 84] ∧ m.toList ≠ [80, 85, 84] ∧ m.toList ≠ [68, 69, 76, 69, 84, 69])) := fun h => h.1 (by simpa using m1)
   by_cases hk : 1024 < t.size
   all_goals
    have Hk := Lib.hid hk
    go_wp2_with (first | (go_at_call 70; refine (eat_any 7 (by decide) (by decide) _ (by unfold maxLen; omega) _).mono ?_; rintro e w4 ⟨rfl, hb4⟩; replace hb3 := hb3.trans (hb4.mono hb3.size); clear hb4) | (go_at_call 71; (with_reducible refine (allM_any m (by unfold maxLen; omega) _).mono ?_); rintro e w4 ⟨rfl, hb4⟩; replace hb3 := hb3.trans (hb4.mono hb3.size); clear hb4; rw [Hm.out]) | (go_at_call 69; (with_reducible refine (beginsS_any t (by unfold maxLen; omega) _).mono ?_); rintro e w4 ⟨rfl, rfl⟩; rw [Hs.out]) | (go_at_call 71; (with_reducible refine (allT_any t (by unfold maxLen; omega) _).mono ?_); rintro e w4 ⟨rfl, hb4⟩; replace hb3 := hb3.trans (hb4.mono hb3.size); clear hb4; rw [Ht.out]) | (go_at_call 69; (with_reducible refine (beginsV_any v (by unfold maxLen; omega) _).mono ?_); rintro e w4 ⟨rfl, rfl⟩; rw [Hh.out]) | (go_at_call 72; (with_reducible refine (is1_any v[5] _).mono ?_); rintro e w4 ⟨rfl, hb4⟩; replace hb3 := hb3.trans (hb4.mono hb3.size); clear hb4; rw [H5.out]) | (go_at_call 72; (with_reducible refine (is1_any v[7] _).mono ?_); rintro e w4 ⟨rfl, hb4⟩; replace hb3 := hb3.trans (hb4.mono hb3.size); clear hb4; rw [H7.out]))
    go_ret3
    refine ⟨?_, hb3⟩
    first
    | exact lineIs_bad (by rw [HP.out, if_neg (by rw [HJ.out]; simp), if_neg HMM.out, if_pos (by rw [Htl.out]; exact Hk.out)])
    | (unfold LineIs
       rw [HP.out, if_neg (by rw [HJ.out]; simp), if_neg HMM.out, if_neg (by rw [Htl.out]; exact Hk.out)]
       exact ret_ssi (ofL_toL _).symm (ofL_toL _).symm rfl)
  cases m2 : (m.toList == [80, 79, 83, 84])
  case true =>
   have HMM : Hid (¬ (m.toList ≠ [71, 69, 84] ∧ m.toList ≠ [80, 79, 83, 84] ∧ m.toList ≠ [80, 85, 84] ∧ m.toList ≠ [68, 69, 76, 69, 84, 69])) := fun h => h.2.1 (by simpa using m2)
   by_cases hk : 1024 < t.size
   all_goals
    have Hk := Lib.hid hk
    go_wp2_with (first | (go_at_call 70; refine (eat_any 7 (by decide) (by decide) _ (by unfold maxLen; omega) _).mono ?_; rintro e w4 ⟨rfl, hb4⟩; replace hb3 := hb3.trans (hb4.mono hb3.size); clear hb4) | (go_at_call 71; (with_reducible refine (allM_any m (by unfold maxLen; omega) _).mono ?_); rintro e w4 ⟨rfl, hb4⟩; replace hb3 := hb3.trans (hb4.mono hb3.size); clear hb4; rw [Hm.out]) | (go_at_call 69; (with_reducible refine (beginsS_any t (by unfold maxLen; omega) _).mono ?_); rintro e w4 ⟨rfl, rfl⟩; rw [Hs.out]) | (go_at_call 71; (with_reducible refine (allT_any t (by unfold maxLen; omega) _).mono ?_); rintro e w4 ⟨rfl, hb4⟩; replace hb3 := hb3.trans (hb4.mono hb3.size); clear hb4; rw [Ht.out]) | (go_at_call 69; (with_reducible refine (beginsV_any v (by unfold maxLen; omega) _).mono ?_); rintro e w4 ⟨rfl, rfl⟩; rw [Hh.out]) | (go_at_call 72; (with_reducible refine (is1_any v[5] _).mono ?_); rintro e w4 ⟨rfl, hb4⟩; replace hb3 := hb3.trans (hb4.mono hb3.size); clear hb4; rw [H5.out]) | (go_at_call 72; (with_reducible refine (is1_any v[7] _).mono ?_); rintro e w4 ⟨rfl, hb4⟩; replace hb3 := hb3.trans (hb4.mono hb3.size); clear hb4; rw [H7.out]))
    go_ret3
    refine ⟨?_, hb3⟩
    first
    | exact lineIs_bad (by rw [HP.out, if_neg (by rw [HJ.out]; simp), if_neg HMM.out, if_pos (by rw [Htl.out]; exact Hk.out)])
    | (unfold LineIs
       rw [HP.out, if_neg (by rw [HJ.out]; simp), if_neg HMM.out, if_neg (by rw [Htl.out]; exact Hk.out)]
       exact ret_ssi (ofL_toL _).symm (ofL_toL _).symm rfl)
  cases m3 : (m.toList == [80, 85, 84])
  case true =>
   have HMM : Hid (¬ (m.toList ≠ [71, 69, 84] ∧ m.toList ≠ [80, 79, 83, 84] ∧ m.toList ≠ [80, 85, 84] ∧ m.toList ≠ [68, 69, 76, 69, 84, 69])) := fun h => h.2.2.1 (by simpa using m3)
   by_cases hk : 1024 < t.size
   all_goals
    have Hk := Lib.hid hk
    go_wp2_with (first | (go_at_call 70; refine (eat_any 7 (by decide) (by decide) _ (by unfold maxLen; omega) _).mono ?_; rintro e w4 ⟨rfl, hb4⟩; replace hb3 := hb3.trans (hb4.mono hb3.size); clear hb4) | (go_at_call 71; (with_reducible refine (allM_any m (by unfold maxLen; omega) _).mono ?_); rintro e w4 ⟨rfl, hb4⟩; replace hb3 := hb3.trans (hb4.mono hb3.size); clear hb4; rw [Hm.out]) | (go_at_call 69; (with_reducible refine (beginsS_any t (by unfold maxLen; omega) _).mono ?_); rintro e w4 ⟨rfl, rfl⟩; rw [Hs.out]) | (go_at_call 71; (with_reducible refine (allT_any t (by unfold maxLen; omega) _).mono ?_); rintro e w4 ⟨rfl, hb4⟩; replace hb3 := hb3.trans (hb4.mono hb3.size); clear hb4; rw [Ht.out]) | (go_at_call 69; (with_reducible refine (beginsV_any v (by unfold maxLen; omega) _).mono ?_); rintro e w4 ⟨rfl, rfl⟩; rw [Hh.out]) | (go_at_call 72; (with_reducible refine (is1_any v[5] _).mono ?_); rintro e w4 ⟨rfl, hb4⟩; replace hb3 := hb3.trans (hb4.mono hb3.size); clear hb4; rw [H5.out]) | (go_at_call 72; (with_reducible refine (is1_any v[7] _).mono ?_); rintro e w4 ⟨rfl, hb4⟩; replace hb3 := hb3.trans (hb4.mono hb3.size); clear hb4; rw [H7.out]))
    go_ret3
    refine ⟨?_, hb3⟩
    first
    | exact lineIs_bad (by rw [HP.out, if_neg (by rw [HJ.out]; simp), if_neg HMM.out, if_pos (by rw [Htl.out]; exact Hk.out)])
    | (unfold LineIs
       rw [HP.out, if_neg (by rw [HJ.out]; simp), if_neg HMM.out, if_neg (by rw [Htl.out]; exact Hk.out)]
       exact ret_ssi (ofL_toL _).symm (ofL_toL _).symm rfl)
  cases m4 : (m.toList == [68, 69, 76, 69, 84, 69])
  case true =>
   have HMM : Hid (¬ (m.toList ≠ [71, 69, 84] ∧ m.toList ≠ [80, 79, 83, 84] ∧ m.toList ≠ [80, 85, 84] ∧ m.toList ≠ [68, 69, 76, 69, 84, 69])) := fun h => h.2.2.2 (by simpa using m4)
   by_cases hk : 1024 < t.size
   all_goals
    have Hk := Lib.hid hk
    go_wp2_with (first | (go_at_call 70; refine (eat_any 7 (by decide) (by decide) _ (by unfold maxLen; omega) _).mono ?_; rintro e w4 ⟨rfl, hb4⟩; replace hb3 := hb3.trans (hb4.mono hb3.size); clear hb4) | (go_at_call 71; (with_reducible refine (allM_any m (by unfold maxLen; omega) _).mono ?_); rintro e w4 ⟨rfl, hb4⟩; replace hb3 := hb3.trans (hb4.mono hb3.size); clear hb4; rw [Hm.out]) | (go_at_call 69; (with_reducible refine (beginsS_any t (by unfold maxLen; omega) _).mono ?_); rintro e w4 ⟨rfl, rfl⟩; rw [Hs.out]) | (go_at_call 71; (with_reducible refine (allT_any t (by unfold maxLen; omega) _).mono ?_); rintro e w4 ⟨rfl, hb4⟩; replace hb3 := hb3.trans (hb4.mono hb3.size); clear hb4; rw [Ht.out]) | (go_at_call 69; (with_reducible refine (beginsV_any v (by unfold maxLen; omega) _).mono ?_); rintro e w4 ⟨rfl, rfl⟩; rw [Hh.out]) | (go_at_call 72; (with_reducible refine (is1_any v[5] _).mono ?_); rintro e w4 ⟨rfl, hb4⟩; replace hb3 := hb3.trans (hb4.mono hb3.size); clear hb4; rw [H5.out]) | (go_at_call 72; (with_reducible refine (is1_any v[7] _).mono ?_); rintro e w4 ⟨rfl, hb4⟩; replace hb3 := hb3.trans (hb4.mono hb3.size); clear hb4; rw [H7.out]))
    go_ret3
    refine ⟨?_, hb3⟩
    first
    | exact lineIs_bad (by rw [HP.out, if_neg (by rw [HJ.out]; simp), if_neg HMM.out, if_pos (by rw [Htl.out]; exact Hk.out)])
    | (unfold LineIs
       rw [HP.out, if_neg (by rw [HJ.out]; simp), if_neg HMM.out, if_neg (by rw [Htl.out]; exact Hk.out)]
       exact ret_ssi (ofL_toL _).symm (ofL_toL _).symm rfl)
  have M1 := Lib.hid m1
  have M2 := Lib.hid m2
  have M3 := Lib.hid m3
  have M4 := Lib.hid m4
  go_wp2_with (first | (go_at_call 70; refine (eat_any 7 (by decide) (by decide) _ (by unfold maxLen; omega) _).mono ?_; rintro e w4 ⟨rfl, hb4⟩; replace hb3 := hb3.trans (hb4.mono hb3.size); clear hb4) | (go_at_call 71; (with_reducible refine (allM_any m (by unfold maxLen; omega) _).mono ?_); rintro e w4 ⟨rfl, hb4⟩; replace hb3 := hb3.trans (hb4.mono hb3.size); clear hb4; rw [Hm.out]) | (go_at_call 69; (with_reducible refine (beginsS_any t (by unfold maxLen; omega) _).mono ?_); rintro e w4 ⟨rfl, rfl⟩; rw [Hs.out]) | (go_at_call 71; (with_reducible refine (allT_any t (by unfold maxLen; omega) _).mono ?_); rintro e w4 ⟨rfl, hb4⟩; replace hb3 := hb3.trans (hb4.mono hb3.size); clear hb4; rw [Ht.out]) | (go_at_call 69; (with_reducible refine (beginsV_any v (by unfold maxLen; omega) _).mono ?_); rintro e w4 ⟨rfl, rfl⟩; rw [Hh.out]) | (go_at_call 72; (with_reducible refine (is1_any v[5] _).mono ?_); rintro e w4 ⟨rfl, hb4⟩; replace hb3 := hb3.trans (hb4.mono hb3.size); clear hb4; rw [H5.out]) | (go_at_call 72; (with_reducible refine (is1_any v[7] _).mono ?_); rintro e w4 ⟨rfl, hb4⟩; replace hb3 := hb3.trans (hb4.mono hb3.size); clear hb4; rw [H7.out]))
  go_ret3
  exact ⟨lineIs_bad (by rw [HP.out, if_neg (by rw [HJ.out]; simp), if_pos ⟨by simpa using M1.out, by simpa using M2.out, by simpa using M3.out, by simpa using M4.out⟩]), hb3⟩
end Go.Proofs.YtmhgnaemafohfaaGreatDoor
