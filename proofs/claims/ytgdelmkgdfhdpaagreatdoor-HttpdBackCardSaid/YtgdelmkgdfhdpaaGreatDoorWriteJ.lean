/- An answer as bytes (httpd.Write): the walk. Conditions: the answer is small; the table of powers of ten. An answer as bytes (blotterref08.Write): the walk. Conditions: the answer is small. The law HttpdWrites (blotterlaw08) is true: its walk. Conditions: the table of powers of ten. -/
import Derived.Test.YtgdelmkgdfhdpaaGreatDoorWriteH
namespace Go.Proofs.YtgdelmkgdfhdpaaGreatDoor
open Go.RowKit
set_option linter.unusedVariables false
set_option linter.unusedSimpArgs false
set_option maxRecDepth 100000

/-- What stands behind the headers' tests: the head is laid, all is put together. -/
def TailIs (s : Int) (hs : List (B × B)) (b : B) (n : Nat) (e : Ending) (w : World) : Prop := WroteIs (if 32768 < b.length then (81, []) else if 8194 < (headA s hs n).length then (4, []) else (0, headA s hs n ++ [13, 10] ++ b)) e w
theorem ownT_conv (W : World) (s : ByteArray) (l : B) (n base : Nat) (hn : s.size = n) (hl : s.toList = l) (hm : n ≤ 1099511627776) (hb : base ≤ W.heap.size) : OwnT (convW W s) base 5 (.slice (some ⟨convG W, 0, none⟩) n (convC W s)) l := by
  subst hn hl
  exact ownT_bytes (w := W.drew) (wc := W) rfl hm hb
def headS (z : Nat) (r : B) : ByteArray := ⟨#[72, 84, 84, 80, 47, 49, 46, 49, 32]⟩ ++ ofL (Lib.decDigits z) ++ ⟨#[32]⟩ ++ ofL r ++ ⟨#[13, 10]⟩
set_option maxHeartbeats 8000000 in
theorem write_any (s : Int) (hs : List (B × B)) (b : B) (v : Value) (w : World) (hq : AnsP w s hs b v) (hlin : (linesH hs).length ≤ 1048576) (hbl : b.length ≤ 140737488351232) (hT : Tab10 w) :
    Calls Tryz.prog 10 #[v] w fun e w' => WroteIs (writeE s hs b) e w' ∧ BL w w' := by
  obtain ⟨A, n, C, d, rfl, hR, hS⟩ := hq.agg
  have HR := Lib.hid hR
  have HS := Lib.hid hS
  have HT := Lib.hid hT
  clear hq hR hS hT
  have hAC : AC (w.alloc (.cells #[.int .i64 s, .slice A hs.length n, .slice C b.length d] 25)) w.heap.size s (.slice A hs.length n) (.slice C b.length d) := heap_alloc_new _ _
  have hk : BL w (w.alloc (.cells #[.int .i64 s, .slice A hs.length n, .slice C b.length d] 25)) := bl_alloc (bl_refl w) _
  have HRS := Lib.hid (fun wx => reason_any s wx)
  have hm := linesH_many hs
  go_enter Tryz.func10, Tryz.ntmps10
  go_wp2_with fail
  generalize w.alloc (.cells #[.int .i64 s, .slice A hs.length n, .slice C b.length d] 25) = w1 at *
  have k0 := hAC.c0
  have HAC := Lib.hid hAC
  have Hk := Lib.hid hk
  clear hAC hk
  refine (HRS.out _).mono ?_
  rintro e w2 ⟨rfl, hb2⟩
  have hk2 := Lib.hid (bl_next Hk.out hb2)
  have hac2 := HAC.out.below hb2
  have HAC2 := Lib.hid hac2
  clear k0 HAC Hk hb2
  by_cases hr : reasonL s = []
  · have HE := Lib.hid (show writeE s hs b = (1, []) by unfold writeE; rw [if_pos hr])
    have h1 : (ofL (reasonL s)).toList.isEmpty = true := by rw [hr, toL_ofL]; rfl
    clear hr
    go_wp2_with fail
    go_ret2
    exact ⟨by rw [HE.out]; exact wrote_nil _ 1, hk2.out⟩
  obtain ⟨z, rfl, hz1, hz2⟩ := reason_some hr
  have HE0 := Lib.hid (show writeE z hs b = if okH hs = false then (80, []) else if 32 ≤ hs.length then (80, []) else if 32768 < b.length ∨ ((z : Int) = 101 ∧ 0 < b.length) then (81, []) else if 8194 < (headA z hs b.length).length then (4, []) else (0, headA z hs b.length ++ [13, 10] ++ b) by
    conv => lhs; unfold writeE
    rw [if_neg hr])
  have h1 : (ofL (reasonL z)).toList.isEmpty = false := by
    rw [toL_ofL]
    cases h : reasonL z with
    | nil => exact absurd h hr
    | cons a l => rfl
  have hrl : (ofL (reasonL z)).size ≤ 40 := by rw [size_ofL]; exact reason_len z
  obtain ⟨r, hre⟩ : ∃ r, reasonL (z : Int) = r := ⟨_, rfl⟩
  rw [hre] at h1 hrl ⊢
  have HRL := Lib.hid hre
  clear hre
  clear hr HRS
  have k1 := hac2.c1
  clear hac2
  go_wp2_with fail
  go_loopw [17] (fun i wr => ∃ k : Nat, k ≤ hs.length ∧ i = .int .i64 k ∧ Hid (okH (hs.take k) = true) ∧ Hid (BL w2 wr)) (fun i _ => hs.length - (intOf i).toNat)
  case atStart => exact ⟨0, Nat.zero_le _, rfl, (rfl : okH [] = true), bl_refl _⟩
  case round =>
    obtain ⟨k, hkl, rfl, Ho, Hb⟩ := hrel
    have hkr := Lib.hid (bl_next hk2.out Hb.out)
    have hacr := HAC2.out.below Hb.out
    have HACR := Lib.hid hacr
    by_cases hlt : k < hs.length
    · obtain ⟨h, hh⟩ : ∃ h, hs[k]? = some h := ⟨hs[k], List.getElem?_eq_getElem hlt⟩
      obtain ⟨bb, o, rfl, hc1, hc2⟩ := (HR.out.below hkr.out).pairAt hh
      have hlen := linesH_len hh
      have HW := Lib.hid (fun wx => written_any h.1 h.2 (by omega) (by omega) wx)
      have Hot := Lib.hid (ok_take hh Ho.out)
      have Hno := Lib.hid (fun hf => ok_not hh hf)
      clear hh hacr
      cases hwr : writtenL h.1 h.2
      · rw [hwr] at HW
        have HE := Lib.hid (show writeE z hs b = (80, []) by rw [HE0.out, if_pos (Hno.out hwr)])
        clear hwr Hot Hno HE0
        go_wp2_with fail
        refine (HW.out _).mono ?_
        rintro e w3 ⟨rfl, hb3⟩
        go_wp2_with fail
        go_ret2
        exact ⟨by rw [HE.out]; exact wrote_nil _ 80, bl_next (bl_alloc hkr.out _) hb3⟩
      · rw [hwr] at HW Hot
        have hb3' := Lib.hid (bl_alloc (bl_refl wr) (.cells #[.string (ofL h.1), .string (ofL h.2)] 30))
        clear hwr Hno
        go_wp2_with fail
        refine (HW.out _).mono ?_
        rintro e w3 ⟨rfl, hb3⟩
        go_wp2_with fail
        go_roundw
        case rel => exact ⟨k + 1, by omega, by go_num, Hot.out, bl_next (bl_next Hb.out hb3'.out) hb3⟩
        case measure => simp [intOf]; omega
    · have hok : okH hs = true := by have := Ho.out; rwa [List.take_of_length_le (by omega)] at this
      have hke : k = hs.length := by omega
      subst hke
      have HE1 := Lib.hid (show writeE z hs b = if 32 ≤ hs.length then (80, []) else if 32768 < b.length ∨ ((z : Int) = 101 ∧ 0 < b.length) then (81, []) else if 8194 < (headA z hs b.length).length then (4, []) else (0, headA z hs b.length ++ [13, 10] ++ b) by rw [HE0.out, hok]; simp)
      clear hok HE0 k1
      have k1 := hacr.c1
      have k0 := hacr.c0
      clear hacr
      by_cases h32 : 32 ≤ hs.length
      · have HE := Lib.hid (show writeE z hs b = (80, []) by rw [HE1.out, if_pos h32])
        go_wp2_with fail
        go_ret2
        exact ⟨by rw [HE.out]; exact wrote_nil _ 80, hkr.out⟩
      · have HE2 := Lib.hid (show writeE z hs b = if 32768 < b.length ∨ ((z : Int) = 101 ∧ 0 < b.length) then (81, []) else if 8194 < (headA z hs b.length).length then (4, []) else (0, headA z hs b.length ++ [13, 10] ++ b) by rw [HE1.out, if_neg h32])
        clear HE1
        have hcl := cloneH_any hs _ wr (HR.out.below hkr.out) (by omega)
        have HCL := Lib.hid hcl
        clear hcl
        have h32' : hs.length < 32 := by omega
        go_wp2_with fail
        refine HCL.out.mono ?_
        rintro e w3 ⟨v3, rfl, ho3, hb3⟩
        have hk3 := Lib.hid (bl_next hkr.out hb3)
        have hac3 := HACR.out.below hb3
        have HAC3 := Lib.hid hac3
        have k2 := hac3.c2
        have k3 := hac3.c0
        obtain ⟨A3, c3, rfl⟩ := (rd_of_own ho3).shape
        have HO3 := Lib.hid ho3
        have HWS := Lib.hid hb3.size
        clear ho3 hb3 hac3 k0 k1 HCL
        go_wp2_with fail
        refine (bodiless_any z w3).mono ?_
        rintro e w4 ⟨rfl, rfl⟩
        by_cases h101 : (z : Int) = 101
        · have q1 : ((z : Int) == 101) = true := by simpa using h101
          by_cases hb0 : 0 < b.length
          · have HE := Lib.hid (show writeE z hs b = (81, []) by rw [HE2.out, if_pos (.inr ⟨h101, hb0⟩)])
            clear h101
            go_wp2_with fail
            go_ret2
            exact ⟨by rw [HE.out]; exact wrote_nil _ 81, hk3.out⟩
          · have HEt := Lib.hid (show writeE z hs b = if 32768 < b.length then (81, []) else if 8194 < (headA z hs b.length).length then (4, []) else (0, headA z hs b.length ++ [13, 10] ++ b) by
              rw [HE2.out]
              have : ¬ ((z : Int) = 101 ∧ 0 < b.length) := fun h => hb0 h.2
              simp only [this, or_false])
            have HLM := Lib.hid (show moreH z hs b.length = hs by unfold moreH; rw [if_pos h101])
            have HLL := Lib.hid (show (linesH hs).length ≤ 2000000 by omega)
            have HK := hk3
            have HA := HAC3
            have HO := HO3
            clear h101 HE2 hk3 HAC3 HO3
            go_wp2_with fail
            (refine (itoa_any z (by omega) _ (HT.out.next HK.out)).mono ?_); (rintro e w5 ⟨rfl, hb5⟩); (have hk5 := bl_next HK.out hb5); (have hac5 := HA.out.below hb5); (have HO5 := Lib.hid (own_below HO.out hb5)); (have HX := Lib.hid (head_text z r HRL.out)); (have hd9 : (ofL (Lib.decDigits z)).size ≤ 9 := by rw [size_ofL]; exact dec_lenC z 8 (by omega)); (have hxs : headS z r = ⟨#[72, 84, 84, 80, 47, 49, 46, 49, 32]⟩ ++ ofL (Lib.decDigits z) ++ ⟨#[32]⟩ ++ ofL r ++ ⟨#[13, 10]⟩ := rfl); (have HXS := Lib.hid hxs); (have HK5 := Lib.hid hk5); (have HA5 := Lib.hid hac5); (clear hxs hk5 hac5 hb5 k2 k3 HK HA HO); (generalize Lib.decDigits z = dz at *); (have kb := conv_run); (go_wp2_with fail)
            (have hcv := bl_conv (bl_refl w5) (⟨#[72, 84, 84, 80, 47, 49, 46, 49, 32]⟩ ++ ofL dz ++ ⟨#[32]⟩ ++ ofL r ++ ⟨#[13, 10]⟩)); (have HCV := Lib.hid hcv); (refine (lines_any _ _ _ (rd_of_own (own_below HO5.out hcv)) (by have := HLL.out; omega)).mono ?_); (rintro e w6 ⟨v6, rfl, ho6, hb6⟩); (have hlh := HLL.out); (have hfl := first_len z (by omega)); (obtain ⟨A6, c6, rfl⟩ := (rd_of_own (show w6.ownsRow _ _ _ _ _ _ from ho6)).shape); (have HO6 := Lib.hid ho6); (have hb56 := bl_next hcv hb6); (have HB56 := Lib.hid hb56); (have HB6 := Lib.hid hb6); (clear hcv hb6 hb56 ho6 kb)
            (go_wp2_with (at_builtin; refine wpList_appendTB _ rfl _ _ 23 rfl w5.heap.size rowB _ (firstA z ++ [13, 10]) rfl ?_ _ _ rfl (Part.own HO6.out) (by simp; omega) (show Below _ _ _ from HB56.out).size ?_))
            (next => exact OwnT.below (ownT_conv _ _ _ _ _ (by simp; rfl) HX.out (by omega) (Nat.le_refl _)) HB6.out); (intro v7 w7 ho7 hb7); (have hb57 := (show Below _ _ _ from HB56.out).trans hb7); (have hk7 := bl_next HK5.out hb57); (have hac7 := HA5.out.below hb57); clear hb57; (have k2 := hac7.c2); (have HE4 := Lib.hid (show firstA z ++ 13 :: 10 :: linesH (moreH z hs b.length) = headA z hs b.length by unfold headA; rw [Int.toNat_natCast]; simp)); (rw [← HLM.out, HE4.out] at ho7); (obtain ⟨A7, c7, rfl⟩ := ho7.rd.shape); (have HO7 := Lib.hid ho7); (have HK7 := Lib.hid hk7); (clear ho7 hk7 hac7 hb7)
            (obtain ⟨H, hH⟩ : ∃ H, headA z hs b.length = H := ⟨_, rfl⟩); (rw [hH] at HO7 HEt ⊢); (have HHH := Lib.hid hH); (clear hH); (by_cases hlong : 8194 < H.length)
            · (have HE := Lib.hid (show writeE z hs b = (4, []) by rw [HEt.out, if_neg (by omega), if_pos hlong])); (go_wp2_with fail); go_ret2; (exact ⟨by rw [HE.out]; exact wrote_nil _ 4, HK7.out⟩)
            · (have HE := Lib.hid (show writeE z hs b = (0, H ++ [13, 10] ++ b) by rw [HEt.out, if_neg (by omega), if_neg hlong])); (have HPL := Lib.hid (show (H ++ [13, 10] ++ b).length ≤ 140737488355328 by simp; omega)); (have k2' := keeps_alloc k2 (.cells #[.int .u8 13, .int .u8 10] 5)); (go_wp2_with fail); (refine (concat3 _ _ _ _ H [13, 10] b _ ?_ ?_ ?_ ?_ HPL.out).mono ?_)
              (next => simp); (next => exact HO7.out.part.bl (bl_alloc (bl_alloc (bl_refl _) _) _)); (next => exact (part_two _).bl (bl_alloc (bl_refl _) _)); (next => exact HS.out.bl (bl_alloc (bl_alloc HK7.out _) _)); (rintro e w8 ⟨v8, rfl, ho8, hb8⟩); (have hk8 := Lib.hid (bl_next (bl_alloc (bl_alloc HK7.out _) _) hb8)); (have HO8 := Lib.hid (Part.own ho8)); (clear ho8 hb8 k2 k2'); (go_wp2_with fail); go_ret2; (exact ⟨by rw [HE.out]; exact ⟨_, rfl, HO8.out⟩, hk8.out⟩)
        · have q1 : ((z : Int) == 101) = false := by simpa using h101
          have HEt := Lib.hid (show writeE z hs b = if 32768 < b.length then (81, []) else if 8194 < (headA z hs b.length).length then (4, []) else (0, headA z hs b.length ++ [13, 10] ++ b) by
            rw [HE2.out]
            have : ¬ ((z : Int) = 101 ∧ 0 < b.length) := fun h => h101 h.1
            simp only [this, or_false])
          have HLM := Lib.hid (show moreH z hs b.length = hs ++ [(clN, Lib.decDigits b.length)] by unfold moreH; rw [if_neg h101])
          have hmore := Lib.hid (fun h => moreH_len z hs b.length h)
          rw [HLM.out] at hmore
          have HI := Lib.hid (itoa_any b.length (by omega) w3 (HT.out.next hk3.out))
          clear h101
          generalize Lib.decDigits b.length = db at HLM HI hmore
          go_wp2_with fail
          refine HI.out.mono ?_
          rintro e w4 ⟨rfl, hb4⟩
          have HK4 := Lib.hid (bl_next hk3.out hb4)
          have HA4 := Lib.hid (HAC3.out.below hb4)
          have HO4 := Lib.hid (own_below HO3.out hb4)
          have hws : wr.heap.size ≤ w4.heap.size := Nat.le_trans HWS.out hb4.size
          clear hb4 k2 k3 HI HE2 hk3 HAC3 HO3
          go_wp2_with (at_builtin; refine wpList_push _ rfl _ _ 22 rfl wr.heap.size rowH _ hs.length (pairs hs) rfl HO4.out [.string (ofL clN), .string (ofL db)] _ rfl (by rfl) rfl (oneCell_pair _ _) (by omega) hws ?_)
          intro v6 w6 ho6 hg6 hb6 hne6
          have HK := Lib.hid (show BL w w6 from (show Below _ _ _ from HK4.out).trans (hb6.mono (show Below _ _ _ from hkr.out).size))
          have hac6 := HA4.out.under hb6 HACR.out.lt
          have e1 : hs.length + 1 = (hs ++ [(clN, db)]).length := by simp
          have e2 : pairs hs ++ [.string (ofL clN), .string (ofL db)] = pairs (hs ++ [(clN, db)]) := (pairs_snoc hs (clN, db)).symm
          rw [e1, e2] at ho6
          have HLL0 := Lib.hid (show b.length < 1000000000 → (linesH (hs ++ [(clN, db)])).length ≤ 2000000 from fun h => by have := hmore.out h; omega)
          clear e1 e2 hmore
          generalize hs ++ [(clN, db)] = L at *
          obtain ⟨A6', c6', rfl⟩ := (rd_of_own ho6).shape
          have HO := Lib.hid ho6
          have HA := Lib.hid hac6
          have k2 := hac6.c2
          have k3 := hac6.c0
          clear ho6 hg6 hb6 hne6 hac6 HK4 HA4 HO4 hws
          by_cases hbig : 32768 < b.length
          · have HE := Lib.hid (show writeE z hs b = (81, []) by rw [HEt.out, if_pos hbig])
            go_wp2_with fail
            go_ret2
            exact ⟨by rw [HE.out]; exact wrote_nil _ 81, HK.out⟩
          · have HLL := Lib.hid (HLL0.out (by omega))
            clear HLL0
            go_wp2_with fail
            (refine (itoa_any z (by omega) _ (HT.out.next HK.out)).mono ?_); (rintro e w5 ⟨rfl, hb5⟩); (have hk5 := bl_next HK.out hb5); (have hac5 := HA.out.below hb5); (have HO5 := Lib.hid (own_below HO.out hb5)); (have HX := Lib.hid (head_text z r HRL.out)); (have hd9 : (ofL (Lib.decDigits z)).size ≤ 9 := by rw [size_ofL]; exact dec_lenC z 8 (by omega)); (have hxs : headS z r = ⟨#[72, 84, 84, 80, 47, 49, 46, 49, 32]⟩ ++ ofL (Lib.decDigits z) ++ ⟨#[32]⟩ ++ ofL r ++ ⟨#[13, 10]⟩ := rfl); (have HXS := Lib.hid hxs); (have HK5 := Lib.hid hk5); (have HA5 := Lib.hid hac5); (clear hxs hk5 hac5 hb5 k2 k3 HK HA HO); (generalize Lib.decDigits z = dz at *); (have kb := conv_run); (go_wp2_with fail)
            (have hcv := bl_conv (bl_refl w5) (⟨#[72, 84, 84, 80, 47, 49, 46, 49, 32]⟩ ++ ofL dz ++ ⟨#[32]⟩ ++ ofL r ++ ⟨#[13, 10]⟩)); (have HCV := Lib.hid hcv); (refine (lines_any _ _ _ (rd_of_own (own_below HO5.out hcv)) (by have := HLL.out; omega)).mono ?_); (rintro e w6 ⟨v6, rfl, ho6, hb6⟩); (have hlh := HLL.out); (have hfl := first_len z (by omega)); (obtain ⟨A6, c6, rfl⟩ := (rd_of_own (show w6.ownsRow _ _ _ _ _ _ from ho6)).shape); (have HO6 := Lib.hid ho6); (have hb56 := bl_next hcv hb6); (have HB56 := Lib.hid hb56); (have HB6 := Lib.hid hb6); (clear hcv hb6 hb56 ho6 kb)
            (go_wp2_with (at_builtin; refine wpList_appendTB _ rfl _ _ 23 rfl w5.heap.size rowB _ (firstA z ++ [13, 10]) rfl ?_ _ _ rfl (Part.own HO6.out) (by simp; omega) (show Below _ _ _ from HB56.out).size ?_))
            (next => exact OwnT.below (ownT_conv _ _ _ _ _ (by simp; rfl) HX.out (by omega) (Nat.le_refl _)) HB6.out); (intro v7 w7 ho7 hb7); (have hb57 := (show Below _ _ _ from HB56.out).trans hb7); (have hk7 := bl_next HK5.out hb57); (have hac7 := HA5.out.below hb57); clear hb57; (have k2 := hac7.c2); (have HE4 := Lib.hid (show firstA z ++ 13 :: 10 :: linesH (moreH z hs b.length) = headA z hs b.length by unfold headA; rw [Int.toNat_natCast]; simp)); (rw [← HLM.out, HE4.out] at ho7); (obtain ⟨A7, c7, rfl⟩ := ho7.rd.shape); (have HO7 := Lib.hid ho7); (have HK7 := Lib.hid hk7); (clear ho7 hk7 hac7 hb7)
            (obtain ⟨H, hH⟩ : ∃ H, headA z hs b.length = H := ⟨_, rfl⟩); (rw [hH] at HO7 HEt ⊢); (have HHH := Lib.hid hH); (clear hH); (by_cases hlong : 8194 < H.length)
            · (have HE := Lib.hid (show writeE z hs b = (4, []) by rw [HEt.out, if_neg (by omega), if_pos hlong])); (go_wp2_with fail); go_ret2; (exact ⟨by rw [HE.out]; exact wrote_nil _ 4, HK7.out⟩)
            · (have HE := Lib.hid (show writeE z hs b = (0, H ++ [13, 10] ++ b) by rw [HEt.out, if_neg (by omega), if_neg hlong])); (have HPL := Lib.hid (show (H ++ [13, 10] ++ b).length ≤ 140737488355328 by simp; omega)); (have k2' := keeps_alloc k2 (.cells #[.int .u8 13, .int .u8 10] 5)); (go_wp2_with fail); (refine (concat3 _ _ _ _ H [13, 10] b _ ?_ ?_ ?_ ?_ HPL.out).mono ?_)
              (next => simp); (next => exact HO7.out.part.bl (bl_alloc (bl_alloc (bl_refl _) _) _)); (next => exact (part_two _).bl (bl_alloc (bl_refl _) _)); (next => exact HS.out.bl (bl_alloc (bl_alloc HK7.out _) _)); (rintro e w8 ⟨v8, rfl, ho8, hb8⟩); (have hk8 := Lib.hid (bl_next (bl_alloc (bl_alloc HK7.out _) _) hb8)); (have HO8 := Lib.hid (Part.own ho8)); (clear ho8 hb8 k2 k2'); (go_wp2_with fail); go_ret2; (exact ⟨by rw [HE.out]; exact ⟨_, rfl, HO8.out⟩, hk8.out⟩)
end Go.Proofs.YtgdelmkgdfhdpaaGreatDoor
namespace Go.Proofs.YtgdelmkgdfhdpaaGreatDoor
open Go.RowKit
set_option linter.unusedVariables false
set_option linter.unusedSimpArgs false
set_option maxRecDepth 100000

theorem part_convS (W : World) (s : ByteArray) (l : B) (n : Nat) (hl : s.toList = l) (hn : s.size = n) (hm : s.size ≤ 140737488355328) : Part (convW W s) (.slice (some ⟨convG W, 0, none⟩) n (convC W s), l) := part_conv W s l n hl hn hm
theorem sz2 : (⟨#[13, 10]⟩ : ByteArray).size = 2 := rfl
theorem sz16 : (⟨#[99, 111, 110, 116, 101, 110, 116, 45, 108, 101, 110, 103, 116, 104, 58, 32]⟩ : ByteArray).size = 16 := rfl
theorem headA_len (z : Nat) (hs : List (B × B)) (n : Nat) (hz : z < 1000000000) (hn : n < 1000000000) : (headA z hs n).length ≤ (linesH hs).length + 102 := by
  unfold headA
  have h1 := first_len z hz
  have h2 := moreH_len z hs n hn
  rw [Int.toNat_natCast, List.length_append, List.length_append]
  simp; omega
def clPreN : B := [99, 111, 110, 116, 101, 110, 116, 45, 108, 101, 110, 103, 116, 104, 58, 32]
set_option maxHeartbeats 8000000 in
theorem refWrite_any (s : Int) (hs : List (B × B)) (b : B) (v : Value) (w : World) (hq : AnsP w s hs b v) (hlin : (linesH hs).length ≤ 1048576) (hbl : b.length ≤ 140737488351232) :
    Calls Tryz.prog 11 #[v] w fun e w' => WroteIs (writeE s hs b) e w' ∧ BL w w' := by
  obtain ⟨A, n, C, d, rfl, hR, hS⟩ := hq.agg
  have HR := Lib.hid hR
  have HS := Lib.hid hS
  clear hq hR hS
  have hAC : AC (w.alloc (.cells #[.int .i64 s, .slice A hs.length n, .slice C b.length d] 25)) w.heap.size s (.slice A hs.length n) (.slice C b.length d) := heap_alloc_new _ _
  have hk : BL w (w.alloc (.cells #[.int .i64 s, .slice A hs.length n, .slice C b.length d] 25)) := bl_alloc (bl_refl w) _
  have HRS := Lib.hid (fun wx => refReason_any s wx)
  have HSE := Lib.hid (fun wx (hb : BL w wx) => sent_any hs _ wx (HR.out.below hb) (by omega))
  have hm := linesH_many hs
  have k0 := hAC.c0
  go_enter Tryz.func11, Tryz.ntmps11
  go_wp2_with fail
  generalize w.alloc (.cells #[.int .i64 s, .slice A hs.length n, .slice C b.length d] 25) = w1 at *
  have HAC := Lib.hid hAC
  have Hk := Lib.hid hk
  clear hAC hk
  refine (HRS.out _).mono ?_
  rintro e w2 ⟨rfl, hb2⟩
  have hk2 := Lib.hid (bl_next Hk.out hb2)
  have hac2 := HAC.out.below hb2
  have HAC2 := Lib.hid hac2
  clear k0 HAC Hk hb2
  by_cases hr : reasonL s = []
  · have HE := Lib.hid (show writeE s hs b = (1, []) by unfold writeE; rw [if_pos hr])
    have h1 : (ofL (reasonL s)).toList = [] := by rw [hr, toL_ofL]
    clear hr
    go_wp2_with fail
    go_ret2
    exact ⟨by rw [HE.out]; exact wrote_nil _ 1, hk2.out⟩
  obtain ⟨z, rfl, hz1, hz2⟩ := reason_some hr
  have HE0 := Lib.hid (show writeE z hs b = if okH hs = false then (80, []) else if 32 ≤ hs.length then (80, []) else if 32768 < b.length ∨ ((z : Int) = 101 ∧ 0 < b.length) then (81, []) else if 8194 < (headA z hs b.length).length then (4, []) else (0, headA z hs b.length ++ [13, 10] ++ b) by
    conv => lhs; unfold writeE
    rw [if_neg hr])
  have h1 : (ofL (reasonL z)).toList.isEmpty = false := by
    rw [toL_ofL]
    cases h : reasonL z with
    | nil => exact absurd h hr
    | cons a l => rfl
  clear hr HRS
  have k1 := hac2.c1
  clear hac2
  go_wp2_with fail
  go_loopw [14] (fun i wr => ∃ k : Nat, k ≤ hs.length ∧ i = .int .i64 k ∧ Hid (okH (hs.take k) = true) ∧ Hid (BL w2 wr)) (fun i _ => hs.length - (intOf i).toNat)
  case atStart => exact ⟨0, Nat.zero_le _, rfl, (rfl : okH [] = true), bl_refl _⟩
  case round =>
    obtain ⟨k, hkl, rfl, Ho, Hb⟩ := hrel
    have hkr := Lib.hid (bl_next hk2.out Hb.out)
    have hacr := HAC2.out.below Hb.out
    have HACR := Lib.hid hacr
    by_cases hlt : k < hs.length
    · obtain ⟨h, hh⟩ : ∃ h, hs[k]? = some h := ⟨hs[k], List.getElem?_eq_getElem hlt⟩
      obtain ⟨bb, o, rfl, hc1, hc2⟩ := (HR.out.below hkr.out).pairAt hh
      have hlen := linesH_len hh
      have HW := Lib.hid (fun wx => plainR_any h.1 h.2 (by omega) (by omega) wx)
      have Hot := Lib.hid (ok_take hh Ho.out)
      have Hno := Lib.hid (fun hf => ok_not hh hf)
      clear hh hacr
      cases hwr : writtenL h.1 h.2
      · rw [hwr] at HW
        have HE := Lib.hid (show writeE z hs b = (80, []) by rw [HE0.out, if_pos (Hno.out hwr)])
        clear hwr Hot Hno HE0
        go_wp2_with fail
        refine (HW.out _).mono ?_
        rintro e w3 ⟨rfl, hb3⟩
        go_wp2_with fail
        go_ret2
        exact ⟨by rw [HE.out]; exact wrote_nil _ 80, bl_next (bl_alloc hkr.out _) hb3⟩
      · rw [hwr] at HW Hot
        have hb3' := Lib.hid (bl_alloc (bl_refl wr) (.cells #[.string (ofL h.1), .string (ofL h.2)] 30))
        clear hwr Hno
        go_wp2_with fail
        refine (HW.out _).mono ?_
        rintro e w3 ⟨rfl, hb3⟩
        go_wp2_with fail
        go_roundw
        case rel => exact ⟨k + 1, by omega, by go_num, Hot.out, bl_next (bl_next Hb.out hb3'.out) hb3⟩
        case measure => simp [intOf]; omega
    · have hok : okH hs = true := by have := Ho.out; rwa [List.take_of_length_le (by omega)] at this
      have hke : k = hs.length := by omega
      subst hke
      have HE1 := Lib.hid (show writeE z hs b = if 32 ≤ hs.length then (80, []) else if 32768 < b.length ∨ ((z : Int) = 101 ∧ 0 < b.length) then (81, []) else if 8194 < (headA z hs b.length).length then (4, []) else (0, headA z hs b.length ++ [13, 10] ++ b) by rw [HE0.out, hok]; simp)
      clear hok HE0 k1
      have k1 := hacr.c1
      have k0 := hacr.c0
      have k2 := hacr.c2
      clear hacr
      by_cases h32 : 32 ≤ hs.length
      · have HE := Lib.hid (show writeE z hs b = (80, []) by rw [HE1.out, if_pos h32])
        go_wp2_with fail
        go_ret2
        exact ⟨by rw [HE.out]; exact wrote_nil _ 80, hkr.out⟩
      have HE2 := Lib.hid (show writeE z hs b = if 32768 < b.length ∨ ((z : Int) = 101 ∧ 0 < b.length) then (81, []) else if 8194 < (headA z hs b.length).length then (4, []) else (0, headA z hs b.length ++ [13, 10] ++ b) by rw [HE1.out, if_neg h32])
      clear HE1
      have h32' : hs.length < 32 := by omega
      by_cases hbig : 32768 < b.length
      · have HE := Lib.hid (show writeE z hs b = (81, []) by rw [HE2.out, if_pos (.inl hbig)])
        go_wp2_with fail
        go_ret2
        exact ⟨by rw [HE.out]; exact wrote_nil _ 81, hkr.out⟩
      have hfl := first_len z (by omega)
      have hz3 : (ofL (firstA z)).size ≤ 60 := by rw [size_ofL]; exact hfl
      have hz4 : (ofL (linesH hs)).size ≤ 1048576 := by rw [size_ofL]; exact hlin
      have hA1 : ¬ 9223372036854775807 < (ofL (firstA z)).size + 2 := by omega
      have hA2 : ¬ 9223372036854775807 < (ofL (firstA z)).size + 2 + (ofL (linesH hs)).size := by omega
      have HF := Lib.hid (fun wx => first_any z (by omega) wx)
      have hr := bl_drew hkr.out
      have HE5 := Lib.hid (show ofL (firstA z) ++ ⟨#[13, 10]⟩ ++ ofL (linesH hs) = ofL (firstA z ++ [13, 10] ++ linesH hs) by
        rw [show (⟨#[13, 10]⟩ : ByteArray) = ofL [13, 10] from rfl, ← ofL_append, ← ofL_append])
      by_cases h101 : (z : Int) = 101
      · have q1 : ((z : Int) == 101) = true := by simpa using h101
        by_cases hb0 : 0 < b.length
        · have HE := Lib.hid (show writeE z hs b = (81, []) by rw [HE2.out, if_pos (.inr ⟨h101, hb0⟩)])
          clear h101
          go_wp2_with fail
          go_ret2
          exact ⟨by rw [HE.out]; exact wrote_nil _ 81, hkr.out⟩
        · have q2 : ((z : Int) != 101) = false := by simpa using h101
          have HEt := Lib.hid (show writeE z hs b = if 8194 < (headA z hs b.length).length then (4, []) else (0, headA z hs b.length ++ [13, 10] ++ b) by
            rw [HE2.out, if_neg (fun h => h.elim hbig (fun h => hb0 h.2))])
          have HLM := Lib.hid (show firstA z ++ [13, 10] ++ linesH hs = headA z hs b.length by unfold headA moreH; rw [Int.toNat_natCast, if_pos h101])
          clear h101
          (go_upto_region 13 with fail); (go_cut [6] (fun s6 wx => s6 = .string (ofL (firstA z ++ [13, 10] ++ linesH hs)) ∧ wx.cell? ⟨w.heap.size, 0, none⟩ = some (.int .i64 z) ∧ wx.cell? ⟨w.heap.size, 1, none⟩ = some (.slice A hs.length n) ∧ wx.cell? ⟨w.heap.size, 2, none⟩ = some (.slice C b.length d) ∧ BL w wx))
          case first => ((go_region_held3 (fun w' => w'.cell? ⟨w.heap.size, 0, none⟩ = some (.int .i64 z) ∧ w'.cell? ⟨w.heap.size, 1, none⟩ = some (.slice A hs.length n)) (first | exact ⟨k0, k1⟩ | exact ⟨k0a, k1a⟩ | exact ⟨k0b, k1b⟩) ((first | (go_at_call 26; (with_reducible refine (HF.out _).mono ?_); rintro e w5 ⟨rfl, hb5⟩; have k0a := Below.keeps hb5 k0; have k1a := Below.keeps hb5 k1; have k2a := Below.keeps hb5 k2; have hra := bl_next hr hb5) | (go_at_call 27; (with_reducible refine (HSE.out _ hra).mono ?_); rintro e w6 ⟨rfl, hb6⟩; have k0b := Below.keeps hb6 k0a; have k1b := Below.keeps hb6 k1a; have k2b := Below.keeps hb6 k2a; have hrb := bl_next hra hb6)))); (go_wp2_with fail); go_meet; (exact ⟨congrArg Value.string HE5.out, k0b, k1b, k2b, hrb⟩))
          case rest =>
            (obtain ⟨hs6, k0, k1, k2, hkc⟩ := hcut); (rw [HLM.out] at hs6); (subst hs6); (have HKC := Lib.hid hkc); (have hHu := headA_len z hs b.length (by omega) (by omega)); (clear hkc); (generalize headA z hs b.length = H at *)
            (have hHs : (ofL H).size = H.length := size_ofL H); (have kc := conv_rd (P := Tryz.prog) 23 9 5 Tryz.underlying23 Tryz.underlying5 Tryz.underlying9 (HS.out.bl HKC.out).1); (have hbz : (ofL b).size ≤ 262144 := by rw [size_ofL]; omega); (by_cases hlong : 8194 < H.length); (next => ((have q5 : (8192 : Int) < (H.length : Int) - 2 := by omega); (have HE := Lib.hid (show writeE z hs b = (4, []) by rw [HEt.out, if_pos hlong])); (go_wp2_with fail); go_ret2; (exact ⟨by rw [HE.out]; exact wrote_nil _ 4, HKC.out⟩))); ((have q5 : ¬ (8192 : Int) < (H.length : Int) - 2 := by omega); (have HE := Lib.hid (show writeE z hs b = (0, H ++ [13, 10] ++ b) by rw [HEt.out, if_neg hlong])); (have hHu : H.length ≤ 8194 := by omega); (have kb := conv_run); (go_wp2_with fail); go_ret2; (exact ⟨by rw [HE.out]; exact ⟨_, rfl, part_convS _ _ _ _ (by rw [append_toL, append_toL, toL_ofL, toL_ofL, toL_eq]) (by simp [size_ofL, sz2]) (by simp [size_ofL, sz2]; omega)⟩, bl_conv HKC.out _⟩))
      · have q1 : ((z : Int) == 101) = false := by simpa using h101
        have q2 : ((z : Int) != 101) = true := by simpa using h101
        have HEt := Lib.hid (show writeE z hs b = if 8194 < (headA z hs b.length).length then (4, []) else (0, headA z hs b.length ++ [13, 10] ++ b) by
          rw [HE2.out, if_neg (fun h => h.elim hbig (fun h => h101 h.1))])
        have HLM := Lib.hid (show firstA z ++ [13, 10] ++ linesH hs ++ (clPreN ++ Lib.decDigits b.length ++ [13, 10]) = headA z hs b.length by
          unfold headA moreH
          rw [Int.toNat_natCast, if_neg h101, linesH_app, linesH_one]
          simp [lineH, clPreN, clN])
        clear h101
        (go_upto_region 13 with fail); (go_cut [6] (fun s6 wx => s6 = .string (ofL (firstA z ++ [13, 10] ++ linesH hs)) ∧ wx.cell? ⟨w.heap.size, 0, none⟩ = some (.int .i64 z) ∧ wx.cell? ⟨w.heap.size, 1, none⟩ = some (.slice A hs.length n) ∧ wx.cell? ⟨w.heap.size, 2, none⟩ = some (.slice C b.length d) ∧ BL w wx))
        case first => ((go_region_held3 (fun w' => w'.cell? ⟨w.heap.size, 0, none⟩ = some (.int .i64 z) ∧ w'.cell? ⟨w.heap.size, 1, none⟩ = some (.slice A hs.length n)) (first | exact ⟨k0, k1⟩ | exact ⟨k0a, k1a⟩ | exact ⟨k0b, k1b⟩) ((first | (go_at_call 26; (with_reducible refine (HF.out _).mono ?_); rintro e w5 ⟨rfl, hb5⟩; have k0a := Below.keeps hb5 k0; have k1a := Below.keeps hb5 k1; have k2a := Below.keeps hb5 k2; have hra := bl_next hr hb5) | (go_at_call 27; (with_reducible refine (HSE.out _ hra).mono ?_); rintro e w6 ⟨rfl, hb6⟩; have k0b := Below.keeps hb6 k0a; have k1b := Below.keeps hb6 k1a; have k2b := Below.keeps hb6 k2a; have hrb := bl_next hra hb6)))); (go_wp2_with fail); go_meet; (exact ⟨congrArg Value.string HE5.out, k0b, k1b, k2b, hrb⟩))
        case rest =>
          obtain ⟨rfl, k0, k1, k2, hkc⟩ := hcut
          have HKC := Lib.hid hkc
          have HDI := Lib.hid (digits_any b.length (by omega) wc)
          have hdl := dec_lenC b.length 8 (by omega)
          have hpl : clPreN.length = 16 := rfl
          have hz6 : (ofL (firstA z ++ [13, 10] ++ linesH hs)).size ≤ 1048700 := by rw [size_ofL, List.length_append, List.length_append]; simp; omega
          have hz7 : (ofL (Lib.decDigits b.length)).size ≤ 9 := by rw [size_ofL]; exact hdl
          have HE6 := Lib.hid (show ofL (firstA z ++ [13, 10] ++ linesH hs) ++ ⟨#[99, 111, 110, 116, 101, 110, 116, 45, 108, 101, 110, 103, 116, 104, 58, 32]⟩ ++ ofL (Lib.decDigits b.length) ++ ⟨#[13, 10]⟩ = ofL (headA z hs b.length) by
            rw [← HLM.out, show (⟨#[13, 10]⟩ : ByteArray) = ofL [13, 10] from rfl, show (⟨#[99, 111, 110, 116, 101, 110, 116, 45, 108, 101, 110, 103, 116, 104, 58, 32]⟩ : ByteArray) = ofL clPreN from rfl, ← ofL_append, ← ofL_append, ← ofL_append]
            simp)
          have hH := congrArg List.length HLM.out
          simp only [List.length_append] at hH
          rw [hpl, ← List.length_append, ← List.length_append] at hH
          have hHu := headA_len z hs b.length (by omega) (by omega)
          have h62 : ([13, 10] : B).length = 2 := rfl
          generalize firstA z ++ [13, 10] ++ linesH hs = H0 at *
          generalize Lib.decDigits b.length = db at *
          generalize headA z hs b.length = H at *
          have hz8 : (ofL H0).size = H0.length := size_ofL H0
          have hz9 : (ofL db).size = db.length := size_ofL db
          rw [h62] at hH
          clear hdl hkc h62 k1
          go_wp2_with fail
          refine HDI.out.mono ?_
          rintro e w7 ⟨rfl, hb7⟩
          have HK7 := Lib.hid (bl_next HKC.out hb7)
          have k2a := Below.keeps hb7 k2
          clear hb7 k2
          (have hHs : (ofL H).size = H.length := size_ofL H); (have kc := conv_rd (P := Tryz.prog) 23 9 5 Tryz.underlying23 Tryz.underlying5 Tryz.underlying9 (HS.out.bl HK7.out).1); (have hbz : (ofL b).size ≤ 262144 := by rw [size_ofL]; omega); (by_cases hlong : 8194 < H.length); (next => ((have q5 : (8192 : Int) < (ofL H0).size + 16 + (ofL db).size := by omega); (have HE := Lib.hid (show writeE z hs b = (4, []) by rw [HEt.out, if_pos hlong])); (go_wp2_with fail); go_ret2; (exact ⟨by rw [HE.out]; exact wrote_nil _ 4, HK7.out⟩))); ((have q5 : ¬ (8192 : Int) < (ofL H0).size + 16 + (ofL db).size := by omega); (have HE := Lib.hid (show writeE z hs b = (0, H ++ [13, 10] ++ b) by rw [HEt.out, if_neg hlong])); (have hHu : H.length ≤ 8194 := by omega); (have kb := conv_run); (go_wp2_with fail); go_ret2; (exact ⟨by rw [HE.out]; exact ⟨_, rfl, part_convS _ _ _ _ (by rw [HE6.out, append_toL, append_toL, toL_ofL, toL_ofL, toL_eq]) (by simp [size_ofL, sz2, sz16]) (by rw [HE6.out]; simp [size_ofL, sz2]; omega)⟩, bl_conv HK7.out _⟩))
end Go.Proofs.YtgdelmkgdfhdpaaGreatDoor
namespace Go.Proofs.YtgdelmkgdfhdpaaGreatDoor
open Go.RowKit
set_option linter.unusedVariables false
set_option linter.unusedSimpArgs false
set_option maxRecDepth 100000

theorem part_conv_eq {w : World} {v1 v2 : Value} {l : B} (h1 : Part w (v1, l)) (h2 : Part w (v2, l)) :
    Calls Tryz.prog 12 #[v1, v2] w fun e w' => e = .returned (.bool true) ∧ w = w' := by
  refine (Tryz.bytes_Equal_strs v1 v2 (ofL l) (ofL l) w (conv_rd _ _ _ Tryz.underlying23 Tryz.underlying5 Tryz.underlying9 h1.1) (conv_rd _ _ _ Tryz.underlying23 Tryz.underlying5 Tryz.underlying9 h2.1)).mono ?_
  rintro e w' ⟨rfl, rfl⟩
  exact ⟨by simp, rfl⟩
theorem touch_two (g i j : Nat) (w : World) (u v : Value) : Touch (fun k => k = g) w ((w.setCell ⟨g, i, none⟩ u).setCell ⟨g, j, none⟩ v) := Touch.setCell (F := fun k => k = g) (p := ⟨g, j, none⟩) (Touch.setCell (F := fun k => k = g) (p := ⟨g, i, none⟩) (Touch.refl _ _) rfl _) rfl _
theorem ac_keep1 {w : World} {g1 g3 i : Nat} {s : Int} {H B u : Value} (h : AC w g1 s H B) (hne : g1 ≠ g3) : (w.setCell ⟨g3, i, none⟩ u).cell? ⟨g1, 1, none⟩ = some H ∧ (w.setCell ⟨g3, i, none⟩ u).cell? ⟨g1, 2, none⟩ = some B :=
  have t := h.touch ((Touch.refl (fun k => k = g3) _).setCell (p := ⟨g3, i, none⟩) rfl u) hne
  ⟨t.c1, t.c2⟩
theorem ac_keep2 {w : World} {g1 g3 i j : Nat} {s : Int} {H B u v : Value} (h : AC w g1 s H B) (hne : g1 ≠ g3) : ((w.setCell ⟨g3, i, none⟩ u).setCell ⟨g3, j, none⟩ v).cell? ⟨g1, 1, none⟩ = some H ∧ ((w.setCell ⟨g3, i, none⟩ u).setCell ⟨g3, j, none⟩ v).cell? ⟨g1, 2, none⟩ = some B :=
  have t := h.touch (touch_two g3 i j w u v) hne
  ⟨t.c1, t.c2⟩
/-- The copy of an answer. -/
def Copied (w : World) (s : Int) (hs : List (B × B)) (b : B) (g1 g3 : Nat) (Hv Bv : Value) (wx : World) : Prop :=
  ∃ v1 v2, AC wx g3 s v1 v2 ∧ Rd wx 2 v1 hs.length (pairs hs) ∧ Part wx (v2, b) ∧ AC wx g1 s Hv Bv ∧ BL w wx
set_option maxHeartbeats 8000000 in
theorem writes_any (s : Int) (hs : List (B × B)) (b : B) (v : Value) (w : World) (hq : AnsP w s hs b v) (hn : hs.length ≤ 4398046511104) (hbl : b.length ≤ 140737488351232) (hg : Glob w) (hT : Tab10 w) :
    Calls Tryz.prog 3 #[v] w fun e w' => e = .returned (.bool true) ∧ Below w.heap.size w w' := by
  have HQ := Lib.hid hq
  obtain ⟨A, n, C, d, rfl, hR, hS⟩ := hq.agg
  have HR := Lib.hid hR
  have HS := Lib.hid hS
  have HT := Lib.hid hT
  have HG := Lib.hid hg
  have CA := Lib.hid (fun w' (hb : Below w.heap.size w w') => awake_any w' (HG.out.next hb))
  clear hq hR hS hT hg
  have hsz := sizeG_le hs 0 (by omega)
  have hn' : hs.length ≤ 140737488355328 := by omega
  have hAC : AC (w.alloc (.cells #[.int .i64 s, .slice A hs.length n, .slice C b.length d] 25)) w.heap.size s (.slice A hs.length n) (.slice C b.length d) := heap_alloc_new _ _
  have hk : BL w (w.alloc (.cells #[.int .i64 s, .slice A hs.length n, .slice C b.length d] 25)) := bl_alloc (bl_refl w) _
  have hbd := Lib.hid (show ∀ nq (w1 : World), BL w w1 → Below w.heap.size w (w1.drewN nq) from fun nq w1 h => Below.trans h (below_drewN _ _ _))
  have y1 : IntKind.i64.wrap ((sizeG 0 hs : Int) + min (b.length : Int) 262144) = (sizeG 0 hs : Int) + min (b.length : Int) 262144 := IntWalk.i64_in _ (by omega)
  by_cases hbig : 262144 < (sizeG 0 hs : Int) + min (b.length : Int) 262144
  · (go_enter Tryz.func3, Tryz.ntmps3); (go_wp2_with fail); (generalize w.alloc (.cells #[.int .i64 s, .slice A hs.length n, .slice C b.length d] 25) = w1 at *); (have k0 := hAC.c0); (have k1 := hAC.c1); (have k2 := hAC.c2); (go_quiet ((go_at_call 6; exact Calls.quiet_of (size_any hs _ _ (HR.out.below (Below.trans hk (below_drewN _ _ _))) hn'))))
    go_wp2_with fail
    refine (CA.out _ (hbd.out nq w1 hk)).mono ?_
    rintro e w4 ⟨rfl, hb4⟩
    go_wp2_with fail
    go_ret
    exact ⟨rfl, (hbd.out nq w1 hk).next hb4⟩
  have hsg : sizeG 0 hs ≤ 262144 := by omega
  have hlin := linesH_size hs
  have hsH := sizeG_small hs 0 hsg
  have hms : (linesH hs).length ≤ 1048576 := by omega
  have HMS := Lib.hid hms
  clear hlin hsH hms
  (go_enter Tryz.func3, Tryz.ntmps3); (go_wp2_with fail); (generalize w.alloc (.cells #[.int .i64 s, .slice A hs.length n, .slice C b.length d] 25) = w1 at *); (have k0 := hAC.c0); (have k1 := hAC.c1); (have k2 := hAC.c2); (go_quiet ((go_at_call 6; exact Calls.quiet_of (size_any hs _ _ (HR.out.below (Below.trans hk (below_drewN _ _ _))) hn'))))
  have hk2 := hbd.out nq w1 hk
  have hac2 := hAC.below (below_drewN w1.heap.size w1 nq)
  generalize w1.drewN nq = w2 at *
  clear k0 k1 k2 hAC hk
  have k0 := hac2.c0
  have k1 := hac2.c1
  have k2 := hac2.c2
  have HAC2 := Lib.hid hac2
  have HK2 := Lib.hid hk2
  clear hac2 hk2
  have hms := HMS.out
  have hmany := linesH_many hs
  have CH := Lib.hid (fun wx (hb : BL w wx) => cloneH_any hs _ wx (HR.out.below hb) hn)
  have CB := Lib.hid (fun wx (hb : BL w wx) => clone_any b _ wx (HS.out.bl hb).1 hbl)
  go_upto_region 4 with fail
  have hg3 : AC (w2.alloc (.cells #[.int .i64 s, .slice A hs.length n, .slice C b.length d] 25)) w2.heap.size s (.slice A hs.length n) (.slice C b.length d) := heap_alloc_new _ _
  have hg1 := HAC2.out.below ((Below.refl w2.heap.size w2).alloc (Nat.le_refl _) (.cells #[.int .i64 s, .slice A hs.length n, .slice C b.length d] 25))
  have hr := bl_alloc HK2.out (.cells #[.int .i64 s, .slice A hs.length n, .slice C b.length d] 25)
  have hne : w.heap.size ≠ w2.heap.size := Nat.ne_of_lt HAC2.out.lt
  generalize w2.alloc (.cells #[.int .i64 s, .slice A hs.length n, .slice C b.length d] 25) = w3 at *
  clear k0 k1 k2
  go_cut [] (fun wx => Copied w s hs b w.heap.size w2.heap.size (.slice A hs.length n) (.slice C b.length d) wx)
  case first =>
    replace hr := bl_drew hr
    replace hg3 : AC w3.drew w2.heap.size s (.slice A hs.length n) (.slice C b.length d) := hg3
    replace hg1 : AC w3.drew w.heap.size s (.slice A hs.length n) (.slice C b.length d) := hg1
    have k1 : w3.drew.cell? ⟨w.heap.size, 1, none⟩ = _ := hg1.c1
    have k2 : w3.drew.cell? ⟨w.heap.size, 2, none⟩ = _ := hg1.c2
    go_region_held3 (fun w' => w'.cell? ⟨w.heap.size, 1, none⟩ = some (.slice A hs.length n) ∧ w'.cell? ⟨w.heap.size, 2, none⟩ = some (.slice C b.length d)) (first | exact ⟨k1, k2⟩ | exact ⟨k1a, k2a⟩ | exact ⟨k1b, k2b⟩ | exact ac_keep1 hg1b hne | exact ac_keep2 hg1b hne) ((first | (go_at_call 8; (with_reducible refine (CH.out _ hr).mono ?_); rintro e w5 ⟨v5, rfl, ho5, hb5⟩; obtain ⟨A5, c5, rfl⟩ := (rd_of_own ho5).shape; have k1a := Below.keeps hb5 k1; have k2a := Below.keeps hb5 k2; have hra := bl_next hr hb5; have hg3a := AC.below hg3 hb5; have hg1a := AC.below hg1 hb5) | (go_at_call 9; (with_reducible refine (CB.out _ hra).mono ?_); rintro e w6 ⟨v6, rfl, ho6, hb6⟩; obtain ⟨A6, c6, rfl⟩ := (rd_of_own ho6).shape; have k1b := Below.keeps hb6 k1a; have k2b := Below.keeps hb6 k2a; have hrb := bl_next hra hb6; have hg3b := AC.below hg3a hb6; have hg1b := AC.below hg1a hb6; have f1 := hg3b.fz 1; have f2 := hg3b.fz 2; have q1 := hg3b.c1; have q2 := hg3b.c2)))
    go_wp2_with fail
    go_meet
    have ht := touch_two w2.heap.size 1 2 w6 (.slice A5 hs.length c5) (.slice A6 b.length c6)
    have hlt3 := hg3.lt
    have hb5s := hb5.size
    refine ⟨_, _, (hg3b.set1 _).set2 _, rd_of_own (own_touch (own_below ho5 hb6) ht (fun k hk e => ?_)), Part.own (own_touch ho6 ht (fun k hk e => ?_)), hg1b.touch ht hne, ?_⟩
    · have h1 := (ho5.lt k hk).1
      omega
    · have h1 := (ho6.lt k hk).1
      omega
    · exact (Below.setCell (Below.setCell hrb (Nat.le_of_lt HAC2.out.lt) _) (Nat.le_of_lt HAC2.out.lt) _)
  case rest =>
    obtain ⟨v1, v2, hc3, hR1, hS1, hc1, hkc⟩ := hcut
    have hq3 : AnsP wc s hs b (.agg #[.int .i64 s, v1, v2]) := ⟨_, _, rfl, hR1, hS1⟩
    obtain ⟨A1, c1, rfl⟩ := hR1.shape
    obtain ⟨C1, d1, hv2⟩ := hS1.1.shape
    have hv2' : v2 = .slice C1 b.length d1 := hv2
    subst hv2'
    have HQ3 := Lib.hid hq3
    have HC3 := Lib.hid hc3
    have HC1 := Lib.hid hc1
    have HKC := Lib.hid hkc
    have k0 := hc3.c0
    have k1 := hc3.c1
    have k2 := hc3.c2
    have HW := Lib.hid (write_any s hs b _ wc hq3 HMS.out hbl (HT.out.next hkc))
    clear hv2 hq3 hR1 hS1 hc3 hc1 hkc hg3 hg1 hr hne
    obtain ⟨X, hX⟩ : ∃ X, writeE s hs b = X := ⟨_, rfl⟩
    rw [hX] at HW
    have HXX := Lib.hid hX
    clear hX hms hmany
    obtain ⟨n8, l8⟩ := X
    go_wp2_with fail
    refine HW.out.mono ?_
    rintro e w7 ⟨⟨v7, rfl, hp7⟩, hb7⟩
    have hk7 := bl_next HKC.out hb7
    have hc17 := HC1.out.below hb7
    have hc37 := HC3.out.below hb7
    have HP7 := Lib.hid hp7
    have HK7 := Lib.hid hk7
    have HC17 := Lib.hid hc17
    have HC37 := Lib.hid hc37
    have HQ37 := Lib.hid (HQ3.out.below hb7)
    have HQ17 := Lib.hid (HQ.out.below hk7)
    clear k0 k1 k2 HW HC1 HC3 hp7 hb7 hk7 hc37
    have k0 := hc17.c0
    have k1 := hc17.c1
    have k2 := hc17.c2
    clear hc17
    have HV := Lib.hid (refWrite_any s hs b _ w7 HQ17.out HMS.out hbl)
    rw [HXX.out] at HV
    go_wp2_with fail
    refine HV.out.mono ?_
    rintro e w8 ⟨⟨v8, rfl, hp8⟩, hb8⟩
    have hk8 := bl_next HK7.out hb8
    have hc18 := HC17.out.below hb8
    have hc38 := HC37.out.below hb8
    have HP8 := Lib.hid hp8
    have HP78 := Lib.hid (HP7.out.below hb8)
    have HK8 := Lib.hid hk8
    have HQ38 := Lib.hid (HQ37.out.below hb8)
    have HQ18 := Lib.hid (HQ17.out.below hb8)
    clear k0 k1 k2 HV hp8 hb8 hk8 HC17 HC37 HP7
    have k0 := hc18.c0
    have k1 := hc18.c1
    have k2 := hc18.c2
    have j0 := hc38.c0
    have j1 := hc38.c1
    have j2 := hc38.c2
    clear hc18 hc38
    go_wp2_with fail
    refine (part_conv_eq HP78.out HP8.out).mono ?_
    rintro e w9 ⟨rfl, rfl⟩
    go_wp2_with fail
    refine (sameAns_any s hs b _ _ w8 HQ38.out HQ18.out (by have := linesH_many hs; have := HMS.out; omega)).mono ?_
    rintro e w10 ⟨rfl, hb10⟩
    have HK10 := Lib.hid (bl_next HK8.out hb10)
    go_wp2_with fail
    refine (CA.out _ HK10.out).mono ?_
    rintro e w11 ⟨rfl, hb11⟩
    go_wp2_with fail
    go_ret
    exact ⟨rfl, bl_next HK10.out hb11⟩
end Go.Proofs.YtgdelmkgdfhdpaaGreatDoor
