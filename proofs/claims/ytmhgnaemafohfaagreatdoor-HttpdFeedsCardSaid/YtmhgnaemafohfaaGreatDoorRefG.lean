/- The reference's body (blotterref08): what stands behind a head. Conditions: the texts are short. -/
import Derived.Test.YtmhgnaemafohfaaGreatDoorRefF
namespace Go.Proofs.YtmhgnaemafohfaaGreatDoor
open Go.RowKit
set_option linter.unusedVariables false
set_option linter.unusedSimpArgs false
set_option maxRecDepth 100000

def teL : B := [116, 114, 97, 110, 115, 102, 101, 114, 45, 101, 110, 99, 111, 100, 105, 110, 103]
def hoL : B := [104, 111, 115, 116]
def clL : B := [99, 111, 110, 116, 101, 110, 116, 45, 108, 101, 110, 103, 116, 104]
def ckL : B := [99, 104, 117, 110, 107, 101, 100]
/-- What stands behind a head: its bytes, how many these take, the status. -/
def plainL (n : Int) (s : B) : B × Nat × Nat :=
  if n < 0 then ([], 0, 400) else if 32768 < n then ([], 0, 413) else if (s.length : Int) < n then ([], 0, 1) else (s.take n.toNat, n.toNat, 0)
def bodyL (h : List (B × B)) (s : B) : B × Nat × Nat :=
  if 1 < (valuesL h teL).length ∨ ((valuesL h teL).length = 1 ∧ lowL ((valuesL h teL).getD 0 []) ≠ ckL) then ([], 0, 501)
  else if (valuesL h hoL).length ≠ 1 ∨ (valuesL h hoL).getD 0 [] = [] ∨ 1 < (valuesL h teL).length + (valuesL h clL).length then ([], 0, 400)
  else if (valuesL h teL).length = 1 then chunkL [] 0 s
  else plainL (if (valuesL h clL).length = 1 then numL ((valuesL h clL).getD 0 []) else 0) s
theorem values_te (hs : List (B × B)) (v : Value) (w : World) (hR : Rd w 2 v hs.length (pairs hs)) (hn : hs.length ≤ 4096) :
    Calls Tryz.prog 75 #[v, .string ⟨#[116, 114, 97, 110, 115, 102, 101, 114, 45, 101, 110, 99, 111, 100, 105, 110, 103]⟩] w fun e w' => ∃ v', e = .returned v' ∧ w'.ownsRow w.heap.size 9 1 v' (valuesL hs teL).length (strs (valuesL hs teL)) ∧ Below w.heap.size w w' := by
  have h := values_any hs v ⟨#[116, 114, 97, 110, 115, 102, 101, 114, 45, 101, 110, 99, 111, 100, 105, 110, 103]⟩ w hR hn
  rwa [show (⟨#[116, 114, 97, 110, 115, 102, 101, 114, 45, 101, 110, 99, 111, 100, 105, 110, 103]⟩ : ByteArray).toList = teL from ByteArray.toList_mk [116, 114, 97, 110, 115, 102, 101, 114, 45, 101, 110, 99, 111, 100, 105, 110, 103]] at h
theorem values_ho (hs : List (B × B)) (v : Value) (w : World) (hR : Rd w 2 v hs.length (pairs hs)) (hn : hs.length ≤ 4096) :
    Calls Tryz.prog 75 #[v, .string ⟨#[104, 111, 115, 116]⟩] w fun e w' => ∃ v', e = .returned v' ∧ w'.ownsRow w.heap.size 9 1 v' (valuesL hs hoL).length (strs (valuesL hs hoL)) ∧ Below w.heap.size w w' := by
  have h := values_any hs v ⟨#[104, 111, 115, 116]⟩ w hR hn
  rwa [show (⟨#[104, 111, 115, 116]⟩ : ByteArray).toList = hoL from ByteArray.toList_mk [104, 111, 115, 116]] at h
theorem values_cl (hs : List (B × B)) (v : Value) (w : World) (hR : Rd w 2 v hs.length (pairs hs)) (hn : hs.length ≤ 4096) :
    Calls Tryz.prog 75 #[v, .string ⟨#[99, 111, 110, 116, 101, 110, 116, 45, 108, 101, 110, 103, 116, 104]⟩] w fun e w' => ∃ v', e = .returned v' ∧ w'.ownsRow w.heap.size 9 1 v' (valuesL hs clL).length (strs (valuesL hs clL)) ∧ Below w.heap.size w w' := by
  have h := values_any hs v ⟨#[99, 111, 110, 116, 101, 110, 116, 45, 108, 101, 110, 103, 116, 104]⟩ w hR hn
  rwa [show (⟨#[99, 111, 110, 116, 101, 110, 116, 45, 108, 101, 110, 103, 116, 104]⟩ : ByteArray).toList = clL from ByteArray.toList_mk [99, 111, 110, 116, 101, 110, 116, 45, 108, 101, 110, 103, 116, 104]] at h
theorem head_str {w : World} {base : Nat} {A : Option Addr} {c m : Nat} {l : List B} (h : w.ownsRow base 9 1 (.slice A m c) l.length (strs l)) (hl : l.length = 1) :
    ∃ b o, A = some ⟨b, o, none⟩ ∧ w.cell? ⟨b, o, none⟩ = some (.string (ofL (l.getD 0 []))) := by
  obtain ⟨s, rfl⟩ := List.length_eq_one_iff.1 hl
  obtain ⟨b, o, h1, h2⟩ := (rd_of_own h).strAt (k := 0) (s := s) rfl
  exact ⟨b, o, h1, h2⟩
theorem valuesL_mem {h : List (B × B)} {nm : B} {x : B} (hx : x ∈ valuesL h nm) : ∃ y ∈ h, y.2 = x := by
  unfold valuesL at hx; obtain ⟨y, hy, rfl⟩ := List.mem_map.1 hx; exact ⟨y, (List.mem_filter.1 hy).1, rfl⟩
theorem getD0_len {h : List (B × B)} (hh : ∀ x ∈ h, x.2.length ≤ 1048576) (nm : B) : ((valuesL h nm).getD 0 []).length ≤ 1048576 := by
  cases he : valuesL h nm with
  | nil => simp
  | cons x l =>
    obtain ⟨y, hy, rfl⟩ := valuesL_mem (h := h) (nm := nm) (x := x) (by rw [he]; simp)
    simpa using hh y hy
theorem plain0 (s : B) : plainL 0 s = ([], 0, 0) := by unfold plainL; rw [if_neg (by omega), if_neg (by omega), if_neg (by omega)]; rfl
theorem small_ofL (l : B) (hl : l.length ≤ 1048576) (w : World) :
    Calls Tryz.prog 74 #[.string (ofL l)] w fun e w' => e = .returned (.string (ofL (lowL l))) ∧ Below w.heap.size w w' := by
  have h := small_any (ofL l) (by rw [size_ofL]; unfold maxLen; omega) w
  rwa [toL_ofL] at h
theorem number_ofL (l : B) (hl : l.length ≤ 1048576) (w : World) :
    Calls Tryz.prog 77 #[.string (ofL l)] w fun e w' => e = .returned (.int .i64 (numL l)) ∧ Below w.heap.size w w' := by
  have h := number_any (ofL l) (by rw [size_ofL]; unfold maxLen; omega) w
  rwa [toL_ofL] at h
set_option maxHeartbeats 4000000 in
theorem body_any (h : List (B × B)) (v : Value) (s : ByteArray) (w : World) (hR : Rd w 2 v h.length (pairs h)) (hn : h.length ≤ 4096) (hh : ∀ x ∈ h, x.2.length ≤ 1048576) (hs : s.size ≤ 1048576) :
    Calls Tryz.prog 47 #[v, .string s] w fun e w' => bytesOwn w.heap.size (bodyL h s.toList) e w' ∧ Below w.heap.size w w' := by
  have HR := Lib.hid hR
  obtain ⟨A, c, rfl⟩ := hR.shape
  clear hR
  go_enter Tryz.func47, Tryz.ntmps47
  go_wp2_with fail
  refine (values_te h _ _ HR.out hn).mono ?_
  rintro e w1 ⟨v1, rfl, hown1, hb1⟩
  obtain ⟨A1, c1, rfl⟩ := (rd_of_own hown1).shape
  go_wp2_with fail
  refine (values_ho h _ _ (HR.out.below hb1) hn).mono ?_
  rintro e w2 ⟨v2, rfl, hown2, hb2⟩
  obtain ⟨A2, c2, rfl⟩ := (rd_of_own hown2).shape
  have hb12 := hb1.next hb2
  go_wp2_with fail
  refine (values_cl h _ _ (HR.out.below hb12) hn).mono ?_
  rintro e w3 ⟨v3, rfl, hown3, hb3⟩
  obtain ⟨A3, c3, rfl⟩ := (rd_of_own hown3).shape
  have hr := hb12.next hb3
  have hown2 := own_below hown2 hb3
  have hown1 := own_below hown1 (hb2.next hb3)
  clear hb1 hb2 hb12 hb3
  have hxl := getD0_len hh teL
  have hzl := getD0_len hh clL
  have hBL : Hid (bodyL h s.toList = if 1 < (valuesL h teL).length ∨ ((valuesL h teL).length = 1 ∧ lowL ((valuesL h teL).getD 0 []) ≠ ckL) then ([], 0, 501)
      else if (valuesL h hoL).length ≠ 1 ∨ (valuesL h hoL).getD 0 [] = [] ∨ 1 < (valuesL h teL).length + (valuesL h clL).length then ([], 0, 400)
      else if (valuesL h teL).length = 1 then chunkL [] 0 s.toList
      else plainL (if (valuesL h clL).length = 1 then numL ((valuesL h clL).getD 0 []) else 0) s.toList) := rfl
  have hcl : (valuesL h clL).length ≤ 4096 := Nat.le_trans (valuesL_le _ _) hn
  have hte : (valuesL h teL).length ≤ 4096 := Nat.le_trans (valuesL_le _ _) hn
  have hho : (valuesL h hoL).length ≤ 4096 := Nat.le_trans (valuesL_le _ _) hn
  have HX := Lib.hid (head_str hown1)
  have HY := Lib.hid (head_str hown2)
  have HZ := Lib.hid (head_str hown3)
  clear hown1 hown2 hown3
  generalize (valuesL h teL).getD 0 [] = x at hxl hBL HX
  generalize (valuesL h hoL).getD 0 [] = y at hBL HY
  generalize (valuesL h clL).getD 0 [] = z at hzl hBL HZ
  generalize (valuesL h teL).length = C at hte hBL HX ⊢
  generalize (valuesL h hoL).length = H at hho hBL HY ⊢
  generalize (valuesL h clL).length = S at hcl hBL HZ ⊢
  by_cases hC2 : 1 < C
  case pos =>
    go_wp2_with (first | (go_at_call 74; refine (small_ofL x hxl _).mono ?_; rintro e w4 ⟨rfl, hb4⟩; replace hr := hr.next hb4; (try replace hc2 := Below.keeps hb4 hc2); clear hb4) | (go_at_call 77; refine (number_ofL z hzl _).mono ?_; rintro e w4 ⟨rfl, hb4⟩; replace hr := hr.next hb4; clear hb4))
    go_ret3
    exact ⟨bytesOwn_nil (by rw [hBL.out, if_pos (.inl hC2)]) _, hr⟩
  by_cases hC1 : C = 1
  case pos =>
    subst hC1
    obtain ⟨b1, o1, rfl, hc1⟩ := HX.out rfl
    cases hk : ((ofL (lowL x)).toList == [99, 104, 117, 110, 107, 101, 100])
    case false =>
      have Hk := Lib.hid hk
      go_wp2_with (first | (go_at_call 74; refine (small_ofL x hxl _).mono ?_; rintro e w4 ⟨rfl, hb4⟩; replace hr := hr.next hb4; (try replace hc2 := Below.keeps hb4 hc2); clear hb4) | (go_at_call 77; refine (number_ofL z hzl _).mono ?_; rintro e w4 ⟨rfl, hb4⟩; replace hr := hr.next hb4; clear hb4))
      go_ret3
      exact ⟨bytesOwn_nil (by rw [hBL.out, if_pos (.inr ⟨by first | rfl | trivial, fun e => by have := Hk.out; rw [toL_ofL, e] at this; simp [ckL] at this⟩)]) _, hr⟩
    have Hk := Lib.hid (show lowL x = ckL by rw [toL_ofL] at hk; have h2 := hk; simp only [beq_iff_eq] at h2; exact h2)
    by_cases hH : H = 1
    case neg =>
      have hH1 : ((H : Int) != 1) = true := by simp; omega
      go_wp2_with (first | (go_at_call 74; refine (small_ofL x hxl _).mono ?_; rintro e w4 ⟨rfl, hb4⟩; replace hr := hr.next hb4; (try replace hc2 := Below.keeps hb4 hc2); clear hb4) | (go_at_call 77; refine (number_ofL z hzl _).mono ?_; rintro e w4 ⟨rfl, hb4⟩; replace hr := hr.next hb4; clear hb4))
      go_ret3
      exact ⟨bytesOwn_nil (by rw [hBL.out, if_neg (by simp [Hk.out]), if_pos (.inl hH)]) _, hr⟩
    subst hH
    obtain ⟨b2, o2, rfl, hc2⟩ := HY.out rfl
    by_cases hy : y = []
    case pos =>
      have hy1 : (ofL y).toList.isEmpty = true := by rw [toL_ofL, hy]; rfl
      have Hy := Lib.hid hy
      clear hy
      go_wp2_with (first | (go_at_call 74; refine (small_ofL x hxl _).mono ?_; rintro e w4 ⟨rfl, hb4⟩; replace hr := hr.next hb4; (try replace hc2 := Below.keeps hb4 hc2); clear hb4) | (go_at_call 77; refine (number_ofL z hzl _).mono ?_; rintro e w4 ⟨rfl, hb4⟩; replace hr := hr.next hb4; clear hb4))
      go_ret3
      exact ⟨bytesOwn_nil (by rw [hBL.out, if_neg (by simp [Hk.out]), if_pos (.inr (.inl Hy.out))]) _, hr⟩
    have hy1 : (ofL y).toList.isEmpty = false := by rw [toL_ofL]; cases y with | nil => exact absurd rfl hy | cons _ _ => rfl
    have Hy := Lib.hid hy
    clear hy
    by_cases hS : 1 < 1 + S
    case pos =>
      have hS1 : (1 : Int) < 1 + S := by omega
      go_wp2_with (first | (go_at_call 74; refine (small_ofL x hxl _).mono ?_; rintro e w4 ⟨rfl, hb4⟩; replace hr := hr.next hb4; (try replace hc2 := Below.keeps hb4 hc2); clear hb4) | (go_at_call 77; refine (number_ofL z hzl _).mono ?_; rintro e w4 ⟨rfl, hb4⟩; replace hr := hr.next hb4; clear hb4))
      go_ret3
      exact ⟨bytesOwn_nil (by rw [hBL.out, if_neg (by simp [Hk.out]), if_pos (.inr (.inr hS))]) _, hr⟩
    have hS0 : S = 0 := by omega
    subst hS0
    go_wp2_with (first | (go_at_call 74; refine (small_ofL x hxl _).mono ?_; rintro e w4 ⟨rfl, hb4⟩; replace hr := hr.next hb4; (try replace hc2 := Below.keeps hb4 hc2); clear hb4) | (go_at_call 76; refine (chunks_any s hs _).mono ?_; rintro e w4 ⟨⟨v4, rfl, hv4⟩, hb4⟩))
    go_ret3
    refine ⟨?_, hr.next hb4⟩
    have hf : bodyL h s.toList = chunkL [] 0 s.toList := by rw [hBL.out, if_neg (by simp [Hk.out]), if_neg (by simp [Hy.out]), if_pos (by first | rfl | trivial)]
    rw [hf]
    exact ⟨_, rfl, hv4⟩
  have hC0 : C = 0 := by omega
  subst hC0
  clear hC1 hC2
  by_cases hH : H = 1
  case neg =>
    have hH1 : ((H : Int) != 1) = true := by simp; omega
    go_wp2_with (first | (go_at_call 74; refine (small_ofL x hxl _).mono ?_; rintro e w4 ⟨rfl, hb4⟩; replace hr := hr.next hb4; (try replace hc2 := Below.keeps hb4 hc2); clear hb4) | (go_at_call 77; refine (number_ofL z hzl _).mono ?_; rintro e w4 ⟨rfl, hb4⟩; replace hr := hr.next hb4; clear hb4))
    go_ret3
    exact ⟨bytesOwn_nil (by rw [hBL.out, if_neg (by simp), if_pos (.inl hH)]) _, hr⟩
  subst hH
  obtain ⟨b2, o2, rfl, hc2⟩ := HY.out rfl
  by_cases hy : y = []
  case pos =>
    have hy1 : (ofL y).toList.isEmpty = true := by rw [toL_ofL, hy]; rfl
    have Hy := Lib.hid hy
    clear hy
    go_wp2_with (first | (go_at_call 74; refine (small_ofL x hxl _).mono ?_; rintro e w4 ⟨rfl, hb4⟩; replace hr := hr.next hb4; (try replace hc2 := Below.keeps hb4 hc2); clear hb4) | (go_at_call 77; refine (number_ofL z hzl _).mono ?_; rintro e w4 ⟨rfl, hb4⟩; replace hr := hr.next hb4; clear hb4))
    go_ret3
    exact ⟨bytesOwn_nil (by rw [hBL.out, if_neg (by simp), if_pos (.inr (.inl Hy.out))]) _, hr⟩
  have hy1 : (ofL y).toList.isEmpty = false := by rw [toL_ofL]; cases y with | nil => exact absurd rfl hy | cons _ _ => rfl
  have Hy := Lib.hid hy
  clear hy
  by_cases hS : 1 < 0 + S
  case pos =>
    have hS1 : (1 : Int) < S := by omega
    go_wp2_with (first | (go_at_call 74; refine (small_ofL x hxl _).mono ?_; rintro e w4 ⟨rfl, hb4⟩; replace hr := hr.next hb4; (try replace hc2 := Below.keeps hb4 hc2); clear hb4) | (go_at_call 77; refine (number_ofL z hzl _).mono ?_; rintro e w4 ⟨rfl, hb4⟩; replace hr := hr.next hb4; clear hb4))
    go_ret3
    exact ⟨bytesOwn_nil (by rw [hBL.out, if_neg (by simp), if_pos (.inr (.inr hS))]) _, hr⟩
  have hS01 : S = 0 ∨ S = 1 := by omega
  clear hS
  rcases hS01 with rfl | rfl
  · have Hf := Lib.hid (show bodyL h s.toList = plainL 0 s.toList by rw [hBL.out, if_neg (by simp), if_neg (by simp [Hy.out]), if_neg (by simp)]; rfl)
    have hp := plain0 s.toList
    have Hp := Lib.hid hp
    have kb := fun wx => run_bytes_of_string (P := Tryz.prog) wx 9 22 5 ByteArray.empty Tryz.underlying9 Tryz.underlying22 Tryz.underlying5
    go_wp2_with (first | (go_at_call 74; refine (small_ofL x hxl _).mono ?_; rintro e w4 ⟨rfl, hb4⟩; replace hr := hr.next hb4; (try replace hc2 := Below.keeps hb4 hc2); clear hb4) | (go_at_call 77; refine (number_ofL z hzl _).mono ?_; rintro e w4 ⟨rfl, hb4⟩; replace hr := hr.next hb4; clear hb4))
    go_ret3
    refine ⟨?_, (hr.alloc hr.size _).drew⟩
    rw [Hf.out, Hp.out]
    exact ⟨_, rfl, by have h := fun fr => rd_bytes' (w := w3) (wc := w3) (s := ByteArray.empty) (n := 0) (e := 5) (fr := fr) rfl (by decide); rw [show ByteArray.empty.toList = [] from toL_ofL []] at h; exact h _⟩
  · have Hf := Lib.hid (show bodyL h s.toList = plainL (numL z) s.toList by rw [hBL.out, if_neg (by simp), if_neg (by simp [Hy.out]), if_neg (by simp)]; rfl)
    obtain ⟨b3, o3, rfl, hc3⟩ := HZ.out rfl
    by_cases hn0 : numL z < 0
    case pos =>
      go_wp2_with (first | (go_at_call 74; refine (small_ofL x hxl _).mono ?_; rintro e w4 ⟨rfl, hb4⟩; replace hr := hr.next hb4; (try replace hc2 := Below.keeps hb4 hc2); clear hb4) | (go_at_call 77; refine (number_ofL z hzl _).mono ?_; rintro e w4 ⟨rfl, hb4⟩; replace hr := hr.next hb4; clear hb4))
      go_ret3
      exact ⟨bytesOwn_nil (by rw [Hf.out, plainL, if_pos hn0]) _, hr⟩
    by_cases hn1 : 32768 < numL z
    case pos =>
      go_wp2_with (first | (go_at_call 74; refine (small_ofL x hxl _).mono ?_; rintro e w4 ⟨rfl, hb4⟩; replace hr := hr.next hb4; (try replace hc2 := Below.keeps hb4 hc2); clear hb4) | (go_at_call 77; refine (number_ofL z hzl _).mono ?_; rintro e w4 ⟨rfl, hb4⟩; replace hr := hr.next hb4; clear hb4))
      go_ret3
      exact ⟨bytesOwn_nil (by rw [Hf.out, plainL, if_neg (by omega), if_pos (by omega)]) _, hr⟩
    by_cases hn2 : (s.size : Int) < numL z
    case pos =>
      go_wp2_with (first | (go_at_call 74; refine (small_ofL x hxl _).mono ?_; rintro e w4 ⟨rfl, hb4⟩; replace hr := hr.next hb4; (try replace hc2 := Below.keeps hb4 hc2); clear hb4) | (go_at_call 77; refine (number_ofL z hzl _).mono ?_; rintro e w4 ⟨rfl, hb4⟩; replace hr := hr.next hb4; clear hb4))
      go_ret3
      exact ⟨bytesOwn_nil (by rw [Hf.out, plainL, if_neg (by omega), if_neg (by omega), if_pos (by rw [len_toL]; omega)]) _, hr⟩
    have Hg := Lib.hid (show bodyL h s.toList = (s.toList.take (numL z).toNat, (numL z).toNat, 0) by rw [Hf.out, plainL, if_neg (by omega), if_neg (by omega), if_neg (by rw [len_toL]; omega)])
    obtain ⟨N, hN⟩ : ∃ N : Nat, numL z = N := ⟨(numL z).toNat, by omega⟩
    have HN := Lib.hid hN
    have hN1 : N ≤ s.size := by omega
    have hN2 : N ≤ 32768 := by omega
    clear hn0 hn1 hn2 hN
    have kb := fun wx => run_bytes_of_string (P := Tryz.prog) wx 9 22 5 (s.extract 0 N) Tryz.underlying9 Tryz.underlying22 Tryz.underlying5
    go_wp2_with (first | (go_at_call 77; refine (number_ofL z hzl _).mono ?_; rintro e w4 ⟨rfl, hb4⟩; replace hr := hr.next hb4; clear hb4; rw [HN.out]))
    go_ret3
    refine ⟨?_, (hr.alloc hr.size _).drew⟩
    rw [Hg.out, HN.out]
    have h := fun fr => rd_bytes' (w := w4) (wc := w4) (s := s.extract 0 N) (n := N) (e := 5) (fr := fr) (by rw [ByteArray.size_extract]; omega) (by omega)
    rw [toL_to] at h
    exact ⟨_, rfl, h _⟩
end Go.Proofs.YtmhgnaemafohfaaGreatDoor
