/- The machine's field (httpd). Conditions: the texts are short. -/
import Derived.Test.YtmhgnaemafohfaaGreatDoorMemB
import Derived.Deep.RegionLaw
namespace Go.Proofs.YtmhgnaemafohfaaGreatDoor
open Go.RowKit
set_option linter.unusedVariables false
set_option linter.unusedSimpArgs false
set_option maxRecDepth 100000

def fName (s : B) : B := s.take (whereL [58] s)
def fRest (s : B) : B := s.drop (whereL [58] s + 1)
def fOk (s : B) : Bool := decide (whereL [58] s < s.length) && tokenL (fName s) && valueL (bareL (fRest s))
def fOf (s : B) : B × B := (lowL (fName s), bareL (fRest s))
def fSt (n : Nat) (s : B) : Nat := if n = 32 then 431 else if fOk s then 0 else 400
theorem bareL_le (l : B) : (bareL l).length ≤ l.length := by
  unfold bareL
  have h1 := (List.dropWhile_sublist (isB 5) (l := l)).length_le
  have h2 := (List.dropWhile_sublist (isB 5) (l := (l.dropWhile (isB 5)).reverse)).length_le
  simp at h2 ⊢; omega

theorem _root_.Go.RowKit.Below.undrew {w w' : World} (h : Below w.drew.heap.size w.drew w') : Below w.heap.size w w' := ⟨h.os, h.tape, h.output, h.size, h.block⟩
set_option maxHeartbeats 8000000 in
theorem field_any (bm : Nat) (nx hv Hv Bv : Value) (m p : ByteArray) (l k : Int) (hs : List (B × B)) (s : ByteArray) (w : World) (hM : MC w bm nx hv m p Hv Bv l k)
    (hown : w.ownsRow 0 72 2 Hv hs.length (pairs hs)) (hn : hs.length ≤ 32) (hz : s.size ≤ 1048576) (hne : ∀ j, Hv.ownBlock = some j → j ≠ bm) :
    Calls Tryz.prog 92 #[.pointer (some ⟨bm, 0, none⟩), .string s] w fun e w' => e = .returned (.int .i64 (fSt hs.length s.toList)) ∧ Touch (fun j => j = bm ∨ Hv.ownBlock = some j) w w' ∧
      (fSt hs.length s.toList = 0 → ∃ Hv', MC w' bm nx hv m p Hv' Bv l k ∧ w'.ownsRow 0 72 2 Hv' (hs ++ [fOf s.toList]).length (pairs (hs ++ [fOf s.toList])) ∧ Lies w Hv Hv') := by
  have hr := Below.refl w.heap.size w
  have hM2 := hM
  have k4 := hM2.c4
  have f4 := hM2.fz 4
  obtain ⟨A, c, hHv⟩ := (rd_of_own hown).shape
  have C1 := Lib.hid (fun w => ibyte_any 58 s w)
  rw [show (((58 : UInt8).toNat : Nat) : Int) = 58 from rfl] at C1
  have Ho : Hid (fSt hs.length s.toList = if hs.length = 32 then 431 else if fOk s.toList then 0 else 400) := rfl
  have Hf : Hid (fOf s.toList = (lowL (s.extract 0 (whereL [58] s.toList)).toList, bareL (s.extract (whereL [58] s.toList + 1) s.size).toList)) := by
    show _ = _; rw [toL_to, toL_from]; rfl
  have Hok : Hid (fOk s.toList = (decide (whereL [58] s.toList < s.size) && tokenL (s.extract 0 (whereL [58] s.toList)).toList && valueL (bareL (s.extract (whereL [58] s.toList + 1) s.size).toList))) := by
    show _ = _; rw [toL_to, toL_from, ← len_toL]; rfl
  generalize fSt hs.length s.toList = st at Ho ⊢
  generalize fOf s.toList = fo at Hf ⊢
  generalize fOk s.toList = ok at Hok Ho
  subst hHv
  by_cases e1 : hs.length = 32
  · have Hb := Lib.hid (show st = 431 by rw [Ho.out, if_pos e1])
    have e1' : ((hs.length : Int) == 32) = true := by simp; omega
    go_enter Tryz.func92, Tryz.ntmps92; go_wp2_with first | (go_at_call 90; with_reducible refine (C1.out _).mono ?_; rintro e w4 ⟨rfl, rfl⟩) | (go_at_call 79; with_reducible refine (C2.out _).mono ?_; rintro e w4 ⟨rfl, hb4⟩; replace hr := hr.next hb4; replace hM2 := hM2.below hb4; replace k4 := hM2.c4; replace f4 := hM2.fz 4; clear hb4) | (go_at_call 102; with_reducible refine (C3.out _).mono ?_; rintro e w4 ⟨rfl, rfl⟩) | (go_at_call 81; with_reducible refine (C4.out _).mono ?_; rintro e w4 ⟨rfl, hb4⟩; replace hr := hr.next hb4; replace hM2 := hM2.below hb4; replace k4 := hM2.c4; replace f4 := hM2.fz 4; clear hb4)
    (go_ret; exact ⟨ret_int (by rw [Hb.out]; rfl), .of_below hr, fun h => by rw [Hb.out] at h; cases h⟩)
  have e1' : ((hs.length : Int) == 32) = false := by simp; omega
  rw [if_neg e1] at Ho
  by_cases e2 : whereL [58] s.toList < s.size
  case neg =>
    have Hb := Lib.hid (show st = 400 by rw [Ho.out, Hok.out, decide_eq_false e2]; rfl)
    rw [if_neg e2] at C1
    go_enter Tryz.func92, Tryz.ntmps92; go_wp2_with first | (go_at_call 90; with_reducible refine (C1.out _).mono ?_; rintro e w4 ⟨rfl, rfl⟩) | (go_at_call 79; with_reducible refine (C2.out _).mono ?_; rintro e w4 ⟨rfl, hb4⟩; replace hr := hr.next hb4; replace hM2 := hM2.below hb4; replace k4 := hM2.c4; replace f4 := hM2.fz 4; clear hb4) | (go_at_call 102; with_reducible refine (C3.out _).mono ?_; rintro e w4 ⟨rfl, rfl⟩) | (go_at_call 81; with_reducible refine (C4.out _).mono ?_; rintro e w4 ⟨rfl, hb4⟩; replace hr := hr.next hb4; replace hM2 := hM2.below hb4; replace k4 := hM2.c4; replace f4 := hM2.fz 4; clear hb4)
    (go_ret; exact ⟨ret_int (by rw [Hb.out]; rfl), .of_below hr, fun h => by rw [Hb.out] at h; cases h⟩)
  rw [if_pos e2] at C1
  rw [decide_eq_true e2, Bool.true_and] at Hok
  generalize whereL [58] s.toList = a at *
  have x1 : (0 : Int) ≤ (a : Int) := by omega
  have x2 : ((a : Int)).toNat = a := by omega
  have x3 : (a : Int) ≤ s.size := by omega
  have x4 : IntKind.i64.wrap ((a : Int) + 1) = (a : Int) + 1 := IntWalk.i64_in _ (by omega)
  have x5 : (0 : Int) ≤ (a : Int) + 1 := by omega
  have x6 : ((a : Int) + 1).toNat = a + 1 := by omega
  have x7 : (a : Int) + 1 ≤ s.size := by omega
  have hz1 : (s.extract 0 a).size ≤ 1048576 := size_to hz
  have hz2 : (s.extract (a + 1) s.size).size ≤ 1048576 := size_from hz
  have hz3 : (ofL (bareL (s.extract (a + 1) s.size).toList)).size ≤ 1048576 := by rw [size_ofL]; have := bareL_le (s.extract (a + 1) s.size).toList; rw [len_toL] at this; omega
  have C2 := Lib.hid (fun w => token_any (s.extract 0 a) hz1 w)
  have C3 := Lib.hid (fun w => bare_any (s.extract (a + 1) s.size) hz2 w)
  have C4 := Lib.hid (fun w => value_any (ofL (bareL (s.extract (a + 1) s.size).toList)) hz3 w)
  rw [toL_ofL] at C4
  have C5 := Lib.hid (fun w => lower_any (s.extract 0 a) hz1 w)
  cases e3 : tokenL (s.extract 0 a).toList
  · have Hb := Lib.hid (show st = 400 by rw [Ho.out, Hok.out, e3]; rfl)
    rw [e3] at C2
    go_enter Tryz.func92, Tryz.ntmps92; go_wp2_with first | (go_at_call 90; with_reducible refine (C1.out _).mono ?_; rintro e w4 ⟨rfl, rfl⟩) | (go_at_call 79; with_reducible refine (C2.out _).mono ?_; rintro e w4 ⟨rfl, hb4⟩; replace hr := hr.next hb4; replace hM2 := hM2.below hb4; replace k4 := hM2.c4; replace f4 := hM2.fz 4; clear hb4) | (go_at_call 102; with_reducible refine (C3.out _).mono ?_; rintro e w4 ⟨rfl, rfl⟩) | (go_at_call 81; with_reducible refine (C4.out _).mono ?_; rintro e w4 ⟨rfl, hb4⟩; replace hr := hr.next hb4; replace hM2 := hM2.below hb4; replace k4 := hM2.c4; replace f4 := hM2.fz 4; clear hb4)
    (go_ret; exact ⟨ret_int (by rw [Hb.out]; rfl), .of_below hr, fun h => by rw [Hb.out] at h; cases h⟩)
  rw [e3] at C2
  cases e4 : valueL (bareL (s.extract (a + 1) s.size).toList)
  · have Hb := Lib.hid (show st = 400 by rw [Ho.out, Hok.out, e3, e4]; rfl)
    rw [e4] at C4
    go_enter Tryz.func92, Tryz.ntmps92; go_wp2_with first | (go_at_call 90; with_reducible refine (C1.out _).mono ?_; rintro e w4 ⟨rfl, rfl⟩) | (go_at_call 79; with_reducible refine (C2.out _).mono ?_; rintro e w4 ⟨rfl, hb4⟩; replace hr := hr.next hb4; replace hM2 := hM2.below hb4; replace k4 := hM2.c4; replace f4 := hM2.fz 4; clear hb4) | (go_at_call 102; with_reducible refine (C3.out _).mono ?_; rintro e w4 ⟨rfl, rfl⟩) | (go_at_call 81; with_reducible refine (C4.out _).mono ?_; rintro e w4 ⟨rfl, hb4⟩; replace hr := hr.next hb4; replace hM2 := hM2.below hb4; replace k4 := hM2.c4; replace f4 := hM2.fz 4; clear hb4)
    (go_ret; exact ⟨ret_int (by rw [Hb.out]; rfl), .of_below hr, fun h => by rw [Hb.out] at h; cases h⟩)
  rw [e4] at C4
  have Hb := Lib.hid (show st = 0 by rw [Ho.out, Hok.out, e3, e4]; rfl)
  clear hz3 e3 e4 e1
  go_enter Tryz.func92, Tryz.ntmps92; go_wp2_with first | (go_at_call 90; with_reducible refine (C1.out _).mono ?_; rintro e w4 ⟨rfl, rfl⟩) | (go_at_call 79; with_reducible refine (C2.out _).mono ?_; rintro e w4 ⟨rfl, hb4⟩; replace hr := hr.next hb4; replace hM2 := hM2.below hb4; replace k4 := hM2.c4; replace f4 := hM2.fz 4; clear hb4) | (go_at_call 102; with_reducible refine (C3.out _).mono ?_; rintro e w4 ⟨rfl, rfl⟩) | (go_at_call 81; with_reducible refine (C4.out _).mono ?_; rintro e w4 ⟨rfl, hb4⟩; replace hr := hr.next hb4; replace hM2 := hM2.below hb4; replace k4 := hM2.c4; replace f4 := hM2.fz 4; clear hb4)
  clear hz hz1 hz2
  have Hown := Lib.hid hown
  have Hne := Lib.hid hne
  have Hn := Lib.hid (show (hs.length + 1) * 32 ≤ 140737488355328 by omega)
  have Hr := Lib.hid hr
  clear hown hne
  go_region_law (first | (go_simp; go_at_call 80; with_reducible refine (C5.out _).mono ?_; rintro e w6 ⟨rfl, hb6⟩; have hM6 := hM2.below hb6.undrew; have k6 := hM6.c4; have ka6 := keeps_alloc k6; have hown6 := own_below Hown.out (Hr.out.next hb6.undrew); try dsimp only) | (go_simp; go_at_call 102; with_reducible refine (C3.out _).mono ?_; rintro e w8 ⟨rfl, rfl⟩; try dsimp only) | (refine step_pushAt (by rfl) _ _ _ (by rfl) rowH _ _ _ (by rfl) hown6 [.string (ofL (lowL (s.extract 0 a).toList)), .string (ofL (bareL (s.extract (a + 1) s.size).toList))] _ (by rfl) (by simp) rfl (oneCell_pair _ _) Hn.out ?_; intro v' w7 hown7 ht7 hl7; obtain ⟨A7, c7, rfl⟩ := (rd_of_own hown7).shape; have hM7 := hM6.touch ht7 (fun e => Hne.out bm e rfl); have k7 := hM7.c4; have f7 := hM7.fz 4))
  all_goals
    go_wp2
    go_ret
    refine ⟨ret_int (by rw [Hb.out]; rfl), ?_, fun _ => ⟨_, hM7.set4 _, ?_, fun j hj => ?_⟩⟩
    · exact ((((Touch.of_below (F := fun j => j = bm ∨ (Value.slice A hs.length c).ownBlock = some j) Hr.out).next hb6.undrew).trans (ht7.mono (fun j _ h => .inr h))).setCell (p := ⟨bm, 4, none⟩) (.inl rfl) _)
    · rw [pairs_snoc, Hf.out, List.length_append]
      refine own_touch hown7 ((Touch.refl (fun j => j = bm) w7).setCell (p := ⟨bm, 4, none⟩) rfl _) fun j hj e => ?_
      subst e
      rcases hl7 j hj with h | h
      · exact Hne.out _ h rfl
      · have := hM6.lt; omega
    · rcases hl7 j hj with h | h
      · exact .inl h
      · exact .inr (Nat.le_trans (Hr.out.next hb6.undrew).size h)
end Go.Proofs.YtmhgnaemafohfaaGreatDoor
