/- The machine's measure (httpd). Conditions: the texts are short. -/
import Derived.Test.YtmhgnaemafohfaaGreatDoorMachB
import Derived.Laws.EntriesVeiled
namespace Go.Proofs.YtmhgnaemafohfaaGreatDoor
open Go.RowKit
set_option linter.unusedVariables false
set_option linter.unusedSimpArgs false
set_option maxRecDepth 100000

theorem digit_val {c : UInt8} (h : isB 1 c = true) : Lib.digitVal c = some (c.toNat - 48) := by
  have hc : (48:Int) ≤ c.toNat ∧ (c.toNat:Int) ≤ 57 := by simpa [isB, inB] using h
  unfold Lib.digitVal
  rw [if_pos (by omega)]
theorem dec_num : ∀ (l : B) (acc : Nat), l.all (isB 1) = true → Lib.decFrom acc l = some (l.foldl (fun n c => 10 * n + (c.toNat - 48)) acc)
  | [], acc, _ => rfl
  | c :: l, acc, h => by
    simp only [List.all_cons, Bool.and_eq_true] at h
    unfold Lib.decFrom
    rw [digit_val h.1]
    simp only [List.foldl_cons]
    rw [Nat.mul_comm 10 acc]
    exact dec_num l _ h.2
theorem atoi_num (l : B) (h0 : l ≠ []) (h : l.all (isB 1) = true) : Lib.atoi l = some (numF l : Int) := by
  cases l with
  | nil => exact absurd rfl h0
  | cons c r =>
    have hc := (by simpa [List.all_cons] using h : isB 1 c = true ∧ ∀ x ∈ r, isB 1 x = true).1
    have hc' : (48:Int) ≤ c.toNat ∧ (c.toNat:Int) ≤ 57 := by simpa [isB, inB] using hc
    have h1 : (c == 45) = false := by rw [beq_eq_false_iff_ne]; rintro rfl; simp at hc'
    have h2 : (c == 43) = false := by rw [beq_eq_false_iff_ne]; rintro rfl; simp at hc'
    unfold Lib.atoi
    simp only [h1, h2, Bool.false_eq_true, if_false]
    unfold Lib.decNat
    rw [dec_num (c :: r) 0 h]
    rfl
theorem tally_te (hs : List (B × B)) (v : Value) (w : World) (hR : Rd w 2 v hs.length (pairs hs)) (hn : hs.length ≤ 4096) :
    Calls Tryz.prog 112 #[v, .string ⟨#[116, 114, 97, 110, 115, 102, 101, 114, 45, 101, 110, 99, 111, 100, 105, 110, 103]⟩] w fun e w' => e = .returned (.tuple #[.int .i64 (valuesL hs teL).length, .string (ofL (firstL (valuesL hs teL)))]) ∧ Below w.heap.size w w' := by
  have h := tally_any hs v ⟨#[116, 114, 97, 110, 115, 102, 101, 114, 45, 101, 110, 99, 111, 100, 105, 110, 103]⟩ w hR hn
  rwa [show (⟨#[116, 114, 97, 110, 115, 102, 101, 114, 45, 101, 110, 99, 111, 100, 105, 110, 103]⟩ : ByteArray).toList = teL from ByteArray.toList_mk [116, 114, 97, 110, 115, 102, 101, 114, 45, 101, 110, 99, 111, 100, 105, 110, 103]] at h
theorem tally_ho (hs : List (B × B)) (v : Value) (w : World) (hR : Rd w 2 v hs.length (pairs hs)) (hn : hs.length ≤ 4096) :
    Calls Tryz.prog 112 #[v, .string ⟨#[104, 111, 115, 116]⟩] w fun e w' => e = .returned (.tuple #[.int .i64 (valuesL hs hoL).length, .string (ofL (firstL (valuesL hs hoL)))]) ∧ Below w.heap.size w w' := by
  have h := tally_any hs v ⟨#[104, 111, 115, 116]⟩ w hR hn
  rwa [show (⟨#[104, 111, 115, 116]⟩ : ByteArray).toList = hoL from ByteArray.toList_mk [104, 111, 115, 116]] at h
theorem tally_cl (hs : List (B × B)) (v : Value) (w : World) (hR : Rd w 2 v hs.length (pairs hs)) (hn : hs.length ≤ 4096) :
    Calls Tryz.prog 112 #[v, .string ⟨#[99, 111, 110, 116, 101, 110, 116, 45, 108, 101, 110, 103, 116, 104]⟩] w fun e w' => e = .returned (.tuple #[.int .i64 (valuesL hs clL).length, .string (ofL (firstL (valuesL hs clL)))]) ∧ Below w.heap.size w w' := by
  have h := tally_any hs v ⟨#[99, 111, 110, 116, 101, 110, 116, 45, 108, 101, 110, 103, 116, 104]⟩ w hR hn
  rwa [show (⟨#[99, 111, 110, 116, 101, 110, 116, 45, 108, 101, 110, 103, 116, 104]⟩ : ByteArray).toList = clL from ByteArray.toList_mk [99, 111, 110, 116, 101, 110, 116, 45, 108, 101, 110, 103, 116, 104]] at h
theorem firstL_len {h : List (B × B)} (hh : ∀ x ∈ h, x.2.length ≤ 1048576) (nm : B) : (firstL (valuesL h nm)).length ≤ 1048576 := by
  have := getD0_len hh nm
  unfold firstL; cases hv : valuesL h nm with
  | nil => simp
  | cons a l => rw [hv] at this; simpa using this

/-- How the body goes on behind the head. -/
def measF (C H S : Nat) (x y z : B) : Nat :=
  if 1 < C ∨ (C = 1 ∧ lowL x ≠ ckL) then 501
  else if H ≠ 1 ∨ y = [] then 400
  else if 1 < C + S then 400
  else if C = 1 then 1
  else if S = 0 then 0
  else if z = [] ∨ 9 < z.length ∨ z.all (isB 1) = false then 400
  else if 32768 < numF z then 413
  else if numF z = 0 then 0 else 1
def measL (h : List (B × B)) : Nat := measF (valuesL h teL).length (valuesL h hoL).length (valuesL h clL).length (firstL (valuesL h teL)) (firstL (valuesL h hoL)) (firstL (valuesL h clL))
def MeasOut (bm : Nat) (nx hv Hv Bv : Value) (m p : ByteArray) (l k : Int) (C : Nat) (z : B) (st : Nat) (w' : World) : Prop :=
  (st = 0 → ∃ l' : Int, (l' = l ∨ l' = numF z) ∧ MC w' bm nx hv m p Hv Bv l' k) ∧
  (st = 1 → C = 1 → MC w' bm (.func (.func 113) #[] #[]) hv m p Hv Bv l k) ∧
  (st = 1 → ¬ C = 1 → MC w' bm (.func (.func 114) #[] #[]) hv m p Hv Bv (numF z) k)
theorem atoi_any (z : B) (h0 : z ≠ []) (h9 : z.length ≤ 9) (h : z.all (isB 1) = true) (w : World) :
    Calls Tryz.prog 108 #[.string (ofL z)] w fun e w' => e = .returned (.tuple #[.int .i64 (numF z), .nilIface]) ∧ Below w.heap.size w w' := by
  refine (Tryz.strconv_Atoi (ofL z) (numF z) (by rw [size_ofL]; omega) (by rw [← toL_eq, toL_ofL]; exact atoi_num z h0 h) w).mono ?_
  rintro e w' ⟨rfl, t, rfl⟩
  exact ⟨rfl, Lib.bytesWorld_below _ _ _⟩
set_option maxHeartbeats 8000000 in
theorem measure_any (bm : Nat) (nx hv Hv Bv : Value) (m p : ByteArray) (l k : Int) (hs : List (B × B)) (w : World) (hM : MC w bm nx hv m p Hv Bv l k)
    (hR : Rd w 2 Hv hs.length (pairs hs)) (hn : hs.length ≤ 4096) (hl : ∀ x ∈ hs, x.2.length ≤ 1048576) :
    Calls Tryz.prog 93 #[.pointer (some ⟨bm, 0, none⟩)] w fun e w' => e = .returned (.int .i64 (measL hs)) ∧ Touch (fun j => j = bm) w w' ∧
      MeasOut bm nx hv Hv Bv m p l k (valuesL hs teL).length (firstL (valuesL hs clL)) (measL hs) w' := by
  have hr := Below.refl w.heap.size w
  have hM2 := hM
  have k0 := hM2.c0
  have f0 := hM2.fz 0
  have k4 := hM2.c4
  have k6 := hM2.c6
  have f6 := hM2.fz 6
  obtain ⟨A, c, hHv⟩ := hR.shape
  subst hHv
  have HR := Lib.hid hR
  have C1 := Lib.hid (fun w hR => tally_te hs (.slice A hs.length c) w hR hn)
  have C2 := Lib.hid (fun w hR => tally_ho hs (.slice A hs.length c) w hR hn)
  have C3 := Lib.hid (fun w hR => tally_cl hs (.slice A hs.length c) w hR hn)
  have hxl : (ofL (firstL (valuesL hs teL))).size ≤ 1048576 := by rw [size_ofL]; exact firstL_len hl _
  have hzl : (ofL (firstL (valuesL hs clL))).size ≤ 1048576 := by rw [size_ofL]; exact firstL_len hl _
  have hte : (valuesL hs teL).length ≤ 4096 := Nat.le_trans (valuesL_le _ _) hn
  have hho : (valuesL hs hoL).length ≤ 4096 := Nat.le_trans (valuesL_le _ _) hn
  have hcl : (valuesL hs clL).length ≤ 4096 := Nat.le_trans (valuesL_le _ _) hn
  have C4 := Lib.hid (fun w => lower_any (ofL (firstL (valuesL hs teL))) hxl w)
  have C5 := Lib.hid (fun w => only_any tells1 (ofL (firstL (valuesL hs clL))) hzl w)
  rw [toL_ofL] at C4 C5
  have Ho : Hid (measL hs = measF (valuesL hs teL).length (valuesL hs hoL).length (valuesL hs clL).length (firstL (valuesL hs teL)) (firstL (valuesL hs hoL)) (firstL (valuesL hs clL))) := rfl
  generalize measL hs = st at *
  generalize firstL (valuesL hs teL) = x at *
  generalize firstL (valuesL hs hoL) = y at *
  generalize firstL (valuesL hs clL) = z at *
  generalize (valuesL hs teL).length = C at *
  generalize (valuesL hs hoL).length = H at *
  generalize (valuesL hs clL).length = S at *
  clear hR hl
  unfold measF at Ho
  by_cases e1 : 1 < C
  · have Hb := Lib.hid (show st = 501 by rw [Ho.out, if_pos (.inl e1)])
    go_enter Tryz.func93, Tryz.ntmps93; go_wp2_with first | (go_at_call 112; (first | with_reducible refine (C1.out _ (HR.out.below hr)).mono ?_ | with_reducible refine (C2.out _ (HR.out.below hr)).mono ?_ | with_reducible refine (C3.out _ (HR.out.below hr)).mono ?_); rintro e w4 ⟨rfl, hb4⟩; replace hr := hr.next hb4; replace hM2 := hM2.below hb4; replace k0 := hM2.c0; replace f0 := hM2.fz 0; replace k4 := hM2.c4; replace k6 := hM2.c6; replace f6 := hM2.fz 6; clear hb4) | (go_at_call 80; with_reducible refine (C4.out _).mono ?_; rintro e w4 ⟨rfl, hb4⟩; replace hr := hr.next hb4; replace hM2 := hM2.below hb4; replace k0 := hM2.c0; replace f0 := hM2.fz 0; replace k4 := hM2.c4; replace k6 := hM2.c6; replace f6 := hM2.fz 6; clear hb4) | (go_at_call 98; with_reducible refine (C5.out _).mono ?_; rintro e w4 ⟨rfl, hb4⟩; replace hr := hr.next hb4; replace hM2 := hM2.below hb4; replace k0 := hM2.c0; replace f0 := hM2.fz 0; replace k4 := hM2.c4; replace k6 := hM2.c6; replace f6 := hM2.fz 6; clear hb4) | (go_at_call 108; with_reducible refine (C6.out _).mono ?_; rintro e w4 ⟨rfl, hb4⟩; replace hr := hr.next hb4; replace hM2 := hM2.below hb4; replace k0 := hM2.c0; replace f0 := hM2.fz 0; replace k4 := hM2.c4; replace k6 := hM2.c6; replace f6 := hM2.fz 6; clear hb4)
    (go_ret; exact ⟨ret_int (by rw [Hb.out]; rfl), .of_below hr, ⟨(fun h => by rw [Hb.out] at h; cases h), (fun h => by rw [Hb.out] at h; cases h), (fun h => by rw [Hb.out] at h; cases h)⟩⟩)
  by_cases e2 : C = 1 ∧ lowL x ≠ ckL
  · have Hb := Lib.hid (show st = 501 by rw [Ho.out, if_pos (.inr e2)])
    obtain ⟨rfl, e3⟩ := e2
    have y1 : ((ofL (lowL x)).toList == [99, 104, 117, 110, 107, 101, 100]) = false := by rw [toL_ofL]; simpa [ckL] using e3
    clear e3
    go_enter Tryz.func93, Tryz.ntmps93; go_wp2_with first | (go_at_call 112; (first | with_reducible refine (C1.out _ (HR.out.below hr)).mono ?_ | with_reducible refine (C2.out _ (HR.out.below hr)).mono ?_ | with_reducible refine (C3.out _ (HR.out.below hr)).mono ?_); rintro e w4 ⟨rfl, hb4⟩; replace hr := hr.next hb4; replace hM2 := hM2.below hb4; replace k0 := hM2.c0; replace f0 := hM2.fz 0; replace k4 := hM2.c4; replace k6 := hM2.c6; replace f6 := hM2.fz 6; clear hb4) | (go_at_call 80; with_reducible refine (C4.out _).mono ?_; rintro e w4 ⟨rfl, hb4⟩; replace hr := hr.next hb4; replace hM2 := hM2.below hb4; replace k0 := hM2.c0; replace f0 := hM2.fz 0; replace k4 := hM2.c4; replace k6 := hM2.c6; replace f6 := hM2.fz 6; clear hb4) | (go_at_call 98; with_reducible refine (C5.out _).mono ?_; rintro e w4 ⟨rfl, hb4⟩; replace hr := hr.next hb4; replace hM2 := hM2.below hb4; replace k0 := hM2.c0; replace f0 := hM2.fz 0; replace k4 := hM2.c4; replace k6 := hM2.c6; replace f6 := hM2.fz 6; clear hb4) | (go_at_call 108; with_reducible refine (C6.out _).mono ?_; rintro e w4 ⟨rfl, hb4⟩; replace hr := hr.next hb4; replace hM2 := hM2.below hb4; replace k0 := hM2.c0; replace f0 := hM2.fz 0; replace k4 := hM2.c4; replace k6 := hM2.c6; replace f6 := hM2.fz 6; clear hb4)
    (go_ret; exact ⟨ret_int (by rw [Hb.out]; rfl), .of_below hr, ⟨(fun h => by rw [Hb.out] at h; cases h), (fun h => by rw [Hb.out] at h; cases h), (fun h => by rw [Hb.out] at h; cases h)⟩⟩)
  rw [if_neg (fun h => h.elim e1 e2)] at Ho
  have y0 : ((C : Int) == 1) = false ∨ (((C : Int) == 1) = true ∧ ((ofL (lowL x)).toList == [99, 104, 117, 110, 107, 101, 100]) = true) := by
    by_cases h1 : C = 1
    · right
      refine ⟨by simp; omega, ?_⟩
      rw [toL_ofL]
      by_cases h2 : lowL x = ckL
      · rw [h2]; rfl
      · exact absurd ⟨h1, h2⟩ e2
    · left; simp; omega
  clear e2
  by_cases e4 : H ≠ 1 ∨ y = []
  · have Hb := Lib.hid (show st = 400 by rw [Ho.out, if_pos e4])
    by_cases e5 : H = 1
    · have hy : y = [] := e4.resolve_left (fun h => h e5)
      subst hy e5
      have h1 : (ofL []).toList.isEmpty = true := by rw [toL_ofL]; rfl
      have h2 : (ofL []).toList = [] := by rw [toL_ofL]
      rcases y0 with y0 | ⟨y0, y1⟩
      all_goals
        go_enter Tryz.func93, Tryz.ntmps93; go_wp2_with first | (go_at_call 112; (first | with_reducible refine (C1.out _ (HR.out.below hr)).mono ?_ | with_reducible refine (C2.out _ (HR.out.below hr)).mono ?_ | with_reducible refine (C3.out _ (HR.out.below hr)).mono ?_); rintro e w4 ⟨rfl, hb4⟩; replace hr := hr.next hb4; replace hM2 := hM2.below hb4; replace k0 := hM2.c0; replace f0 := hM2.fz 0; replace k4 := hM2.c4; replace k6 := hM2.c6; replace f6 := hM2.fz 6; clear hb4) | (go_at_call 80; with_reducible refine (C4.out _).mono ?_; rintro e w4 ⟨rfl, hb4⟩; replace hr := hr.next hb4; replace hM2 := hM2.below hb4; replace k0 := hM2.c0; replace f0 := hM2.fz 0; replace k4 := hM2.c4; replace k6 := hM2.c6; replace f6 := hM2.fz 6; clear hb4) | (go_at_call 98; with_reducible refine (C5.out _).mono ?_; rintro e w4 ⟨rfl, hb4⟩; replace hr := hr.next hb4; replace hM2 := hM2.below hb4; replace k0 := hM2.c0; replace f0 := hM2.fz 0; replace k4 := hM2.c4; replace k6 := hM2.c6; replace f6 := hM2.fz 6; clear hb4) | (go_at_call 108; with_reducible refine (C6.out _).mono ?_; rintro e w4 ⟨rfl, hb4⟩; replace hr := hr.next hb4; replace hM2 := hM2.below hb4; replace k0 := hM2.c0; replace f0 := hM2.fz 0; replace k4 := hM2.c4; replace k6 := hM2.c6; replace f6 := hM2.fz 6; clear hb4)
        (go_ret; exact ⟨ret_int (by rw [Hb.out]; rfl), .of_below hr, ⟨(fun h => by rw [Hb.out] at h; cases h), (fun h => by rw [Hb.out] at h; cases h), (fun h => by rw [Hb.out] at h; cases h)⟩⟩)
    · have h1 : ((H : Int) != 1) = true := by simp; omega
      clear e4
      rcases y0 with y0 | ⟨y0, y1⟩
      all_goals
        go_enter Tryz.func93, Tryz.ntmps93; go_wp2_with first | (go_at_call 112; (first | with_reducible refine (C1.out _ (HR.out.below hr)).mono ?_ | with_reducible refine (C2.out _ (HR.out.below hr)).mono ?_ | with_reducible refine (C3.out _ (HR.out.below hr)).mono ?_); rintro e w4 ⟨rfl, hb4⟩; replace hr := hr.next hb4; replace hM2 := hM2.below hb4; replace k0 := hM2.c0; replace f0 := hM2.fz 0; replace k4 := hM2.c4; replace k6 := hM2.c6; replace f6 := hM2.fz 6; clear hb4) | (go_at_call 80; with_reducible refine (C4.out _).mono ?_; rintro e w4 ⟨rfl, hb4⟩; replace hr := hr.next hb4; replace hM2 := hM2.below hb4; replace k0 := hM2.c0; replace f0 := hM2.fz 0; replace k4 := hM2.c4; replace k6 := hM2.c6; replace f6 := hM2.fz 6; clear hb4) | (go_at_call 98; with_reducible refine (C5.out _).mono ?_; rintro e w4 ⟨rfl, hb4⟩; replace hr := hr.next hb4; replace hM2 := hM2.below hb4; replace k0 := hM2.c0; replace f0 := hM2.fz 0; replace k4 := hM2.c4; replace k6 := hM2.c6; replace f6 := hM2.fz 6; clear hb4) | (go_at_call 108; with_reducible refine (C6.out _).mono ?_; rintro e w4 ⟨rfl, hb4⟩; replace hr := hr.next hb4; replace hM2 := hM2.below hb4; replace k0 := hM2.c0; replace f0 := hM2.fz 0; replace k4 := hM2.c4; replace k6 := hM2.c6; replace f6 := hM2.fz 6; clear hb4)
        (go_ret; exact ⟨ret_int (by rw [Hb.out]; rfl), .of_below hr, ⟨(fun h => by rw [Hb.out] at h; cases h), (fun h => by rw [Hb.out] at h; cases h), (fun h => by rw [Hb.out] at h; cases h)⟩⟩)
  rw [if_neg e4] at Ho
  have hH : H = 1 := by omega
  have hy : y ≠ [] := fun h => e4 (.inr h)
  subst hH
  obtain ⟨z1, z2, z3⟩ := empty_no hy
  clear e4
  by_cases e6 : 1 < C + S
  · have Hb := Lib.hid (show st = 400 by rw [Ho.out, if_pos e6])
    rcases y0 with y0 | ⟨y0, y1⟩
    all_goals
      go_enter Tryz.func93, Tryz.ntmps93; go_wp2_with first | (go_at_call 112; (first | with_reducible refine (C1.out _ (HR.out.below hr)).mono ?_ | with_reducible refine (C2.out _ (HR.out.below hr)).mono ?_ | with_reducible refine (C3.out _ (HR.out.below hr)).mono ?_); rintro e w4 ⟨rfl, hb4⟩; replace hr := hr.next hb4; replace hM2 := hM2.below hb4; replace k0 := hM2.c0; replace f0 := hM2.fz 0; replace k4 := hM2.c4; replace k6 := hM2.c6; replace f6 := hM2.fz 6; clear hb4) | (go_at_call 80; with_reducible refine (C4.out _).mono ?_; rintro e w4 ⟨rfl, hb4⟩; replace hr := hr.next hb4; replace hM2 := hM2.below hb4; replace k0 := hM2.c0; replace f0 := hM2.fz 0; replace k4 := hM2.c4; replace k6 := hM2.c6; replace f6 := hM2.fz 6; clear hb4) | (go_at_call 98; with_reducible refine (C5.out _).mono ?_; rintro e w4 ⟨rfl, hb4⟩; replace hr := hr.next hb4; replace hM2 := hM2.below hb4; replace k0 := hM2.c0; replace f0 := hM2.fz 0; replace k4 := hM2.c4; replace k6 := hM2.c6; replace f6 := hM2.fz 6; clear hb4) | (go_at_call 108; with_reducible refine (C6.out _).mono ?_; rintro e w4 ⟨rfl, hb4⟩; replace hr := hr.next hb4; replace hM2 := hM2.below hb4; replace k0 := hM2.c0; replace f0 := hM2.fz 0; replace k4 := hM2.c4; replace k6 := hM2.c6; replace f6 := hM2.fz 6; clear hb4)
      (go_ret; exact ⟨ret_int (by rw [Hb.out]; rfl), .of_below hr, ⟨(fun h => by rw [Hb.out] at h; cases h), (fun h => by rw [Hb.out] at h; cases h), (fun h => by rw [Hb.out] at h; cases h)⟩⟩)
  rw [if_neg e6] at Ho
  by_cases e7 : C = 1
  · have Hb := Lib.hid (show st = 1 by rw [Ho.out, if_pos e7])
    have hS : S = 0 := by omega
    subst e7 hS
    have y1 : ((ofL (lowL x)).toList == [99, 104, 117, 110, 107, 101, 100]) = true := by rcases y0 with h | ⟨_, h⟩; simp at h; exact h
    clear y0
    go_enter Tryz.func93, Tryz.ntmps93; go_wp2_with first | (go_at_call 112; (first | with_reducible refine (C1.out _ (HR.out.below hr)).mono ?_ | with_reducible refine (C2.out _ (HR.out.below hr)).mono ?_ | with_reducible refine (C3.out _ (HR.out.below hr)).mono ?_); rintro e w4 ⟨rfl, hb4⟩; replace hr := hr.next hb4; replace hM2 := hM2.below hb4; replace k0 := hM2.c0; replace f0 := hM2.fz 0; replace k4 := hM2.c4; replace k6 := hM2.c6; replace f6 := hM2.fz 6; clear hb4) | (go_at_call 80; with_reducible refine (C4.out _).mono ?_; rintro e w4 ⟨rfl, hb4⟩; replace hr := hr.next hb4; replace hM2 := hM2.below hb4; replace k0 := hM2.c0; replace f0 := hM2.fz 0; replace k4 := hM2.c4; replace k6 := hM2.c6; replace f6 := hM2.fz 6; clear hb4) | (go_at_call 98; with_reducible refine (C5.out _).mono ?_; rintro e w4 ⟨rfl, hb4⟩; replace hr := hr.next hb4; replace hM2 := hM2.below hb4; replace k0 := hM2.c0; replace f0 := hM2.fz 0; replace k4 := hM2.c4; replace k6 := hM2.c6; replace f6 := hM2.fz 6; clear hb4) | (go_at_call 108; with_reducible refine (C6.out _).mono ?_; rintro e w4 ⟨rfl, hb4⟩; replace hr := hr.next hb4; replace hM2 := hM2.below hb4; replace k0 := hM2.c0; replace f0 := hM2.fz 0; replace k4 := hM2.c4; replace k6 := hM2.c6; replace f6 := hM2.fz 6; clear hb4)
    (go_ret; exact ⟨ret_int (by rw [Hb.out]; rfl), (Touch.of_below (F := fun j => j = bm) hr).setCell (p := ⟨bm, 0, none⟩) rfl _, ⟨(fun h => by rw [Hb.out] at h; cases h), fun _ _ => hM2.set0 _, fun _ h => absurd rfl h⟩⟩)
  rw [if_neg e7] at Ho
  have y3 : ((C : Int) == 1) = false := by simp; omega
  have hC : C = 0 := by omega
  clear y0
  subst hC
  by_cases e8 : S = 0
  · have Hb := Lib.hid (show st = 0 by rw [Ho.out, if_pos e8])
    subst e8
    go_enter Tryz.func93, Tryz.ntmps93; go_wp2_with first | (go_at_call 112; (first | with_reducible refine (C1.out _ (HR.out.below hr)).mono ?_ | with_reducible refine (C2.out _ (HR.out.below hr)).mono ?_ | with_reducible refine (C3.out _ (HR.out.below hr)).mono ?_); rintro e w4 ⟨rfl, hb4⟩; replace hr := hr.next hb4; replace hM2 := hM2.below hb4; replace k0 := hM2.c0; replace f0 := hM2.fz 0; replace k4 := hM2.c4; replace k6 := hM2.c6; replace f6 := hM2.fz 6; clear hb4) | (go_at_call 80; with_reducible refine (C4.out _).mono ?_; rintro e w4 ⟨rfl, hb4⟩; replace hr := hr.next hb4; replace hM2 := hM2.below hb4; replace k0 := hM2.c0; replace f0 := hM2.fz 0; replace k4 := hM2.c4; replace k6 := hM2.c6; replace f6 := hM2.fz 6; clear hb4) | (go_at_call 98; with_reducible refine (C5.out _).mono ?_; rintro e w4 ⟨rfl, hb4⟩; replace hr := hr.next hb4; replace hM2 := hM2.below hb4; replace k0 := hM2.c0; replace f0 := hM2.fz 0; replace k4 := hM2.c4; replace k6 := hM2.c6; replace f6 := hM2.fz 6; clear hb4) | (go_at_call 108; with_reducible refine (C6.out _).mono ?_; rintro e w4 ⟨rfl, hb4⟩; replace hr := hr.next hb4; replace hM2 := hM2.below hb4; replace k0 := hM2.c0; replace f0 := hM2.fz 0; replace k4 := hM2.c4; replace k6 := hM2.c6; replace f6 := hM2.fz 6; clear hb4)
    (go_ret; exact ⟨ret_int (by rw [Hb.out]; rfl), .of_below hr, ⟨fun _ => ⟨_, .inl rfl, hM2⟩, (fun h => by rw [Hb.out] at h; cases h), (fun h => by rw [Hb.out] at h; cases h)⟩⟩)
  rw [if_neg e8] at Ho
  have hS : S = 1 := by omega
  subst hS
  by_cases e9 : z = []
  · have Hb := Lib.hid (show st = 400 by rw [Ho.out, if_pos (.inl e9)])
    subst e9
    have h1 : (ofL []).toList.isEmpty = true := by rw [toL_ofL]; rfl
    have h2 : (ofL []).toList = [] := by rw [toL_ofL]
    go_enter Tryz.func93, Tryz.ntmps93; go_wp2_with first | (go_at_call 112; (first | with_reducible refine (C1.out _ (HR.out.below hr)).mono ?_ | with_reducible refine (C2.out _ (HR.out.below hr)).mono ?_ | with_reducible refine (C3.out _ (HR.out.below hr)).mono ?_); rintro e w4 ⟨rfl, hb4⟩; replace hr := hr.next hb4; replace hM2 := hM2.below hb4; replace k0 := hM2.c0; replace f0 := hM2.fz 0; replace k4 := hM2.c4; replace k6 := hM2.c6; replace f6 := hM2.fz 6; clear hb4) | (go_at_call 80; with_reducible refine (C4.out _).mono ?_; rintro e w4 ⟨rfl, hb4⟩; replace hr := hr.next hb4; replace hM2 := hM2.below hb4; replace k0 := hM2.c0; replace f0 := hM2.fz 0; replace k4 := hM2.c4; replace k6 := hM2.c6; replace f6 := hM2.fz 6; clear hb4) | (go_at_call 98; with_reducible refine (C5.out _).mono ?_; rintro e w4 ⟨rfl, hb4⟩; replace hr := hr.next hb4; replace hM2 := hM2.below hb4; replace k0 := hM2.c0; replace f0 := hM2.fz 0; replace k4 := hM2.c4; replace k6 := hM2.c6; replace f6 := hM2.fz 6; clear hb4) | (go_at_call 108; with_reducible refine (C6.out _).mono ?_; rintro e w4 ⟨rfl, hb4⟩; replace hr := hr.next hb4; replace hM2 := hM2.below hb4; replace k0 := hM2.c0; replace f0 := hM2.fz 0; replace k4 := hM2.c4; replace k6 := hM2.c6; replace f6 := hM2.fz 6; clear hb4)
    (go_ret; exact ⟨ret_int (by rw [Hb.out]; rfl), .of_below hr, ⟨(fun h => by rw [Hb.out] at h; cases h), (fun h => by rw [Hb.out] at h; cases h), (fun h => by rw [Hb.out] at h; cases h)⟩⟩)
  obtain ⟨v1, v2, v3⟩ := empty_no e9
  by_cases e10 : 9 < z.length
  · have Hb := Lib.hid (show st = 400 by rw [Ho.out, if_pos (.inr (.inl e10))])
    have h1 : 9 < (ofL z).size := by rw [size_ofL]; exact e10
    go_enter Tryz.func93, Tryz.ntmps93; go_wp2_with first | (go_at_call 112; (first | with_reducible refine (C1.out _ (HR.out.below hr)).mono ?_ | with_reducible refine (C2.out _ (HR.out.below hr)).mono ?_ | with_reducible refine (C3.out _ (HR.out.below hr)).mono ?_); rintro e w4 ⟨rfl, hb4⟩; replace hr := hr.next hb4; replace hM2 := hM2.below hb4; replace k0 := hM2.c0; replace f0 := hM2.fz 0; replace k4 := hM2.c4; replace k6 := hM2.c6; replace f6 := hM2.fz 6; clear hb4) | (go_at_call 80; with_reducible refine (C4.out _).mono ?_; rintro e w4 ⟨rfl, hb4⟩; replace hr := hr.next hb4; replace hM2 := hM2.below hb4; replace k0 := hM2.c0; replace f0 := hM2.fz 0; replace k4 := hM2.c4; replace k6 := hM2.c6; replace f6 := hM2.fz 6; clear hb4) | (go_at_call 98; with_reducible refine (C5.out _).mono ?_; rintro e w4 ⟨rfl, hb4⟩; replace hr := hr.next hb4; replace hM2 := hM2.below hb4; replace k0 := hM2.c0; replace f0 := hM2.fz 0; replace k4 := hM2.c4; replace k6 := hM2.c6; replace f6 := hM2.fz 6; clear hb4) | (go_at_call 108; with_reducible refine (C6.out _).mono ?_; rintro e w4 ⟨rfl, hb4⟩; replace hr := hr.next hb4; replace hM2 := hM2.below hb4; replace k0 := hM2.c0; replace f0 := hM2.fz 0; replace k4 := hM2.c4; replace k6 := hM2.c6; replace f6 := hM2.fz 6; clear hb4)
    (go_ret; exact ⟨ret_int (by rw [Hb.out]; rfl), .of_below hr, ⟨(fun h => by rw [Hb.out] at h; cases h), (fun h => by rw [Hb.out] at h; cases h), (fun h => by rw [Hb.out] at h; cases h)⟩⟩)
  have h9 : (ofL z).size ≤ 9 := by rw [size_ofL]; omega
  cases e11 : z.all (isB 1)
  · have Hb := Lib.hid (show st = 400 by rw [Ho.out, if_pos (.inr (.inr e11))])
    rw [e11] at C5
    go_enter Tryz.func93, Tryz.ntmps93; go_wp2_with first | (go_at_call 112; (first | with_reducible refine (C1.out _ (HR.out.below hr)).mono ?_ | with_reducible refine (C2.out _ (HR.out.below hr)).mono ?_ | with_reducible refine (C3.out _ (HR.out.below hr)).mono ?_); rintro e w4 ⟨rfl, hb4⟩; replace hr := hr.next hb4; replace hM2 := hM2.below hb4; replace k0 := hM2.c0; replace f0 := hM2.fz 0; replace k4 := hM2.c4; replace k6 := hM2.c6; replace f6 := hM2.fz 6; clear hb4) | (go_at_call 80; with_reducible refine (C4.out _).mono ?_; rintro e w4 ⟨rfl, hb4⟩; replace hr := hr.next hb4; replace hM2 := hM2.below hb4; replace k0 := hM2.c0; replace f0 := hM2.fz 0; replace k4 := hM2.c4; replace k6 := hM2.c6; replace f6 := hM2.fz 6; clear hb4) | (go_at_call 98; with_reducible refine (C5.out _).mono ?_; rintro e w4 ⟨rfl, hb4⟩; replace hr := hr.next hb4; replace hM2 := hM2.below hb4; replace k0 := hM2.c0; replace f0 := hM2.fz 0; replace k4 := hM2.c4; replace k6 := hM2.c6; replace f6 := hM2.fz 6; clear hb4) | (go_at_call 108; with_reducible refine (C6.out _).mono ?_; rintro e w4 ⟨rfl, hb4⟩; replace hr := hr.next hb4; replace hM2 := hM2.below hb4; replace k0 := hM2.c0; replace f0 := hM2.fz 0; replace k4 := hM2.c4; replace k6 := hM2.c6; replace f6 := hM2.fz 6; clear hb4)
    (go_ret; exact ⟨ret_int (by rw [Hb.out]; rfl), .of_below hr, ⟨(fun h => by rw [Hb.out] at h; cases h), (fun h => by rw [Hb.out] at h; cases h), (fun h => by rw [Hb.out] at h; cases h)⟩⟩)
  have C6 := Lib.hid (fun w => atoi_any z e9 (by omega) e11 w)
  have hnl : numF z < 1000000000 := Nat.lt_of_lt_of_le (numF_lt _ z rfl e11) (Nat.pow_le_pow_right (show 10 > 0 by decide) (show z.length ≤ 9 by omega))
  rw [e11] at C5
  rw [if_neg (fun h => by rcases h with h | h | h; exact e9 h; exact e10 h; rw [e11] at h; cases h)] at Ho
  clear e9 e10 e11
  by_cases e12 : 32768 < numF z
  · have Hb := Lib.hid (show st = 413 by rw [Ho.out, if_pos e12])
    go_enter Tryz.func93, Tryz.ntmps93; go_wp2_with first | (go_at_call 112; (first | with_reducible refine (C1.out _ (HR.out.below hr)).mono ?_ | with_reducible refine (C2.out _ (HR.out.below hr)).mono ?_ | with_reducible refine (C3.out _ (HR.out.below hr)).mono ?_); rintro e w4 ⟨rfl, hb4⟩; replace hr := hr.next hb4; replace hM2 := hM2.below hb4; replace k0 := hM2.c0; replace f0 := hM2.fz 0; replace k4 := hM2.c4; replace k6 := hM2.c6; replace f6 := hM2.fz 6; clear hb4) | (go_at_call 80; with_reducible refine (C4.out _).mono ?_; rintro e w4 ⟨rfl, hb4⟩; replace hr := hr.next hb4; replace hM2 := hM2.below hb4; replace k0 := hM2.c0; replace f0 := hM2.fz 0; replace k4 := hM2.c4; replace k6 := hM2.c6; replace f6 := hM2.fz 6; clear hb4) | (go_at_call 98; with_reducible refine (C5.out _).mono ?_; rintro e w4 ⟨rfl, hb4⟩; replace hr := hr.next hb4; replace hM2 := hM2.below hb4; replace k0 := hM2.c0; replace f0 := hM2.fz 0; replace k4 := hM2.c4; replace k6 := hM2.c6; replace f6 := hM2.fz 6; clear hb4) | (go_at_call 108; with_reducible refine (C6.out _).mono ?_; rintro e w4 ⟨rfl, hb4⟩; replace hr := hr.next hb4; replace hM2 := hM2.below hb4; replace k0 := hM2.c0; replace f0 := hM2.fz 0; replace k4 := hM2.c4; replace k6 := hM2.c6; replace f6 := hM2.fz 6; clear hb4)
    (go_ret; exact ⟨ret_int (by rw [Hb.out]; rfl), (Touch.of_below (F := fun j => j = bm) hr).setCell (p := ⟨bm, 6, none⟩) rfl _, ⟨(fun h => by rw [Hb.out] at h; cases h), (fun h => by rw [Hb.out] at h; cases h), (fun h => by rw [Hb.out] at h; cases h)⟩⟩)
  rw [if_neg e12] at Ho
  by_cases e13 : numF z = 0
  · have Hb := Lib.hid (show st = 0 by rw [Ho.out, if_pos e13])
    have h1 : ((numF z : Int) == 0) = true := by simp [e13]
    clear e13
    go_enter Tryz.func93, Tryz.ntmps93; go_wp2_with first | (go_at_call 112; (first | with_reducible refine (C1.out _ (HR.out.below hr)).mono ?_ | with_reducible refine (C2.out _ (HR.out.below hr)).mono ?_ | with_reducible refine (C3.out _ (HR.out.below hr)).mono ?_); rintro e w4 ⟨rfl, hb4⟩; replace hr := hr.next hb4; replace hM2 := hM2.below hb4; replace k0 := hM2.c0; replace f0 := hM2.fz 0; replace k4 := hM2.c4; replace k6 := hM2.c6; replace f6 := hM2.fz 6; clear hb4) | (go_at_call 80; with_reducible refine (C4.out _).mono ?_; rintro e w4 ⟨rfl, hb4⟩; replace hr := hr.next hb4; replace hM2 := hM2.below hb4; replace k0 := hM2.c0; replace f0 := hM2.fz 0; replace k4 := hM2.c4; replace k6 := hM2.c6; replace f6 := hM2.fz 6; clear hb4) | (go_at_call 98; with_reducible refine (C5.out _).mono ?_; rintro e w4 ⟨rfl, hb4⟩; replace hr := hr.next hb4; replace hM2 := hM2.below hb4; replace k0 := hM2.c0; replace f0 := hM2.fz 0; replace k4 := hM2.c4; replace k6 := hM2.c6; replace f6 := hM2.fz 6; clear hb4) | (go_at_call 108; with_reducible refine (C6.out _).mono ?_; rintro e w4 ⟨rfl, hb4⟩; replace hr := hr.next hb4; replace hM2 := hM2.below hb4; replace k0 := hM2.c0; replace f0 := hM2.fz 0; replace k4 := hM2.c4; replace k6 := hM2.c6; replace f6 := hM2.fz 6; clear hb4)
    (go_ret; exact ⟨ret_int (by rw [Hb.out]; rfl), (Touch.of_below (F := fun j => j = bm) hr).setCell (p := ⟨bm, 6, none⟩) rfl _, ⟨fun _ => ⟨_, .inr rfl, hM2.set6 _⟩, (fun h => by rw [Hb.out] at h; cases h), (fun h => by rw [Hb.out] at h; cases h)⟩⟩)
  have Hb := Lib.hid (show st = 1 by rw [Ho.out, if_neg e13])
  have h1 : ((numF z : Int) == 0) = false := by simp [e13]
  clear e13
  go_enter Tryz.func93, Tryz.ntmps93; go_wp2_with first | (go_at_call 112; (first | with_reducible refine (C1.out _ (HR.out.below hr)).mono ?_ | with_reducible refine (C2.out _ (HR.out.below hr)).mono ?_ | with_reducible refine (C3.out _ (HR.out.below hr)).mono ?_); rintro e w4 ⟨rfl, hb4⟩; replace hr := hr.next hb4; replace hM2 := hM2.below hb4; replace k0 := hM2.c0; replace f0 := hM2.fz 0; replace k4 := hM2.c4; replace k6 := hM2.c6; replace f6 := hM2.fz 6; clear hb4) | (go_at_call 80; with_reducible refine (C4.out _).mono ?_; rintro e w4 ⟨rfl, hb4⟩; replace hr := hr.next hb4; replace hM2 := hM2.below hb4; replace k0 := hM2.c0; replace f0 := hM2.fz 0; replace k4 := hM2.c4; replace k6 := hM2.c6; replace f6 := hM2.fz 6; clear hb4) | (go_at_call 98; with_reducible refine (C5.out _).mono ?_; rintro e w4 ⟨rfl, hb4⟩; replace hr := hr.next hb4; replace hM2 := hM2.below hb4; replace k0 := hM2.c0; replace f0 := hM2.fz 0; replace k4 := hM2.c4; replace k6 := hM2.c6; replace f6 := hM2.fz 6; clear hb4) | (go_at_call 108; with_reducible refine (C6.out _).mono ?_; rintro e w4 ⟨rfl, hb4⟩; replace hr := hr.next hb4; replace hM2 := hM2.below hb4; replace k0 := hM2.c0; replace f0 := hM2.fz 0; replace k4 := hM2.c4; replace k6 := hM2.c6; replace f6 := hM2.fz 6; clear hb4)
  (go_ret; exact ⟨ret_int (by rw [Hb.out]; rfl), ((Touch.of_below (F := fun j => j = bm) hr).setCell (p := ⟨bm, 6, none⟩) rfl _).setCell (p := ⟨bm, 0, none⟩) rfl _, ⟨(fun h => by rw [Hb.out] at h; cases h), fun _ h => (by cases h), fun _ _ => (hM2.set6 _).set0 _⟩⟩)
end Go.Proofs.YtmhgnaemafohfaaGreatDoor
