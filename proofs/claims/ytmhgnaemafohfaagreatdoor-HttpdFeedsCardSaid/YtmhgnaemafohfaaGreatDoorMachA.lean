/- The machine's block (httpd); opening. Conditions: the texts are short. -/
import Derived.Test.YtmhgnaemafohfaaGreatDoorHttpC
namespace Go.Proofs.YtmhgnaemafohfaaGreatDoor
open Go.RowKit
set_option linter.unusedVariables false
set_option linter.unusedSimpArgs false
set_option maxRecDepth 100000

/-- The machine's cells. -/
def MC (w : World) (bm : Nat) (nx hv : Value) (m p : ByteArray) (Hv Bv : Value) (l k : Int) : Prop :=
  w.heap[bm]? = some (.cells #[nx, hv, .string m, .string p, Hv, Bv, .int .i64 l, .int .i64 k] 88 (0, 0))
theorem MC.cell {w : World} {bm : Nat} {nx hv Hv Bv : Value} {m p : ByteArray} {l k : Int} (h : MC w bm nx hv m p Hv Bv l k) (i : Nat) :
    w.cell? ⟨bm, i, none⟩ = #[nx, hv, .string m, .string p, Hv, Bv, .int .i64 l, .int .i64 k][i]? := by rw [Lib.cell_of_heap h]
theorem MC.c0 {w : World} {bm : Nat} {nx hv Hv Bv : Value} {m p : ByteArray} {l k : Int} (h : MC w bm nx hv m p Hv Bv l k) : w.cell? ⟨bm, 0, none⟩ = some (nx) := h.cell 0
theorem MC.c1 {w : World} {bm : Nat} {nx hv Hv Bv : Value} {m p : ByteArray} {l k : Int} (h : MC w bm nx hv m p Hv Bv l k) : w.cell? ⟨bm, 1, none⟩ = some (hv) := h.cell 1
theorem MC.c2 {w : World} {bm : Nat} {nx hv Hv Bv : Value} {m p : ByteArray} {l k : Int} (h : MC w bm nx hv m p Hv Bv l k) : w.cell? ⟨bm, 2, none⟩ = some (.string m) := h.cell 2
theorem MC.c3 {w : World} {bm : Nat} {nx hv Hv Bv : Value} {m p : ByteArray} {l k : Int} (h : MC w bm nx hv m p Hv Bv l k) : w.cell? ⟨bm, 3, none⟩ = some (.string p) := h.cell 3
theorem MC.c4 {w : World} {bm : Nat} {nx hv Hv Bv : Value} {m p : ByteArray} {l k : Int} (h : MC w bm nx hv m p Hv Bv l k) : w.cell? ⟨bm, 4, none⟩ = some (Hv) := h.cell 4
theorem MC.c5 {w : World} {bm : Nat} {nx hv Hv Bv : Value} {m p : ByteArray} {l k : Int} (h : MC w bm nx hv m p Hv Bv l k) : w.cell? ⟨bm, 5, none⟩ = some (Bv) := h.cell 5
theorem MC.c6 {w : World} {bm : Nat} {nx hv Hv Bv : Value} {m p : ByteArray} {l k : Int} (h : MC w bm nx hv m p Hv Bv l k) : w.cell? ⟨bm, 6, none⟩ = some (.int .i64 l) := h.cell 6
theorem MC.c7 {w : World} {bm : Nat} {nx hv Hv Bv : Value} {m p : ByteArray} {l k : Int} (h : MC w bm nx hv m p Hv Bv l k) : w.cell? ⟨bm, 7, none⟩ = some (.int .i64 k) := h.cell 7
theorem MC.fz {w : World} {bm : Nat} {nx hv Hv Bv : Value} {m p : ByteArray} {l k : Int} (h : MC w bm nx hv m p Hv Bv l k) (i : Nat) : w.frozen? ⟨bm, i, none⟩ = false := Lib.frozen_of_heap h i
theorem MC.lt {w : World} {bm : Nat} {nx hv Hv Bv : Value} {m p : ByteArray} {l k : Int} (h : MC w bm nx hv m p Hv Bv l k) : bm < w.heap.size := (Array.getElem?_eq_some_iff.1 h).1
theorem MC.touch {F : Nat → Prop} {w w' : World} {bm : Nat} {nx hv Hv Bv : Value} {m p : ByteArray} {l k : Int} (h : MC w bm nx hv m p Hv Bv l k) (ht : Touch F w w') (hf : ¬ F bm) : MC w' bm nx hv m p Hv Bv l k := by
  unfold MC; rw [ht.block bm h.lt hf]; exact h
theorem MC.below {w w' : World} {bm : Nat} {nx hv Hv Bv : Value} {m p : ByteArray} {l k : Int} (h : MC w bm nx hv m p Hv Bv l k) (ht : Below w.heap.size w w') : MC w' bm nx hv m p Hv Bv l k := h.touch (.of_below (F := fun _ => False) ht) id
theorem MC.set0 {w : World} {bm : Nat} {nx hv Hv Bv : Value} {m p : ByteArray} {l k : Int} (h : MC w bm nx hv m p Hv Bv l k) (u : Value) : MC (w.setCell ⟨bm, 0, none⟩ u) bm u hv m p Hv Bv l k := heap_set_own h 0 u
theorem MC.set1 {w : World} {bm : Nat} {nx hv Hv Bv : Value} {m p : ByteArray} {l k : Int} (h : MC w bm nx hv m p Hv Bv l k) (u : Value) : MC (w.setCell ⟨bm, 1, none⟩ u) bm nx u m p Hv Bv l k := heap_set_own h 1 u
theorem MC.set2 {w : World} {bm : Nat} {nx hv Hv Bv : Value} {m p : ByteArray} {l k : Int} (h : MC w bm nx hv m p Hv Bv l k) (u : ByteArray) : MC (w.setCell ⟨bm, 2, none⟩ (.string u)) bm nx hv u p Hv Bv l k := heap_set_own h 2 _
theorem MC.set3 {w : World} {bm : Nat} {nx hv Hv Bv : Value} {m p : ByteArray} {l k : Int} (h : MC w bm nx hv m p Hv Bv l k) (u : ByteArray) : MC (w.setCell ⟨bm, 3, none⟩ (.string u)) bm nx hv m u Hv Bv l k := heap_set_own h 3 _
theorem MC.set4 {w : World} {bm : Nat} {nx hv Hv Bv : Value} {m p : ByteArray} {l k : Int} (h : MC w bm nx hv m p Hv Bv l k) (u : Value) : MC (w.setCell ⟨bm, 4, none⟩ u) bm nx hv m p u Bv l k := heap_set_own h 4 u
theorem MC.set5 {w : World} {bm : Nat} {nx hv Hv Bv : Value} {m p : ByteArray} {l k : Int} (h : MC w bm nx hv m p Hv Bv l k) (u : Value) : MC (w.setCell ⟨bm, 5, none⟩ u) bm nx hv m p Hv u l k := heap_set_own h 5 u
theorem MC.set6 {w : World} {bm : Nat} {nx hv Hv Bv : Value} {m p : ByteArray} {l k : Int} (h : MC w bm nx hv m p Hv Bv l k) (u : Int) : MC (w.setCell ⟨bm, 6, none⟩ (.int .i64 u)) bm nx hv m p Hv Bv u k := heap_set_own h 6 _
theorem MC.set7 {w : World} {bm : Nat} {nx hv Hv Bv : Value} {m p : ByteArray} {l k : Int} (h : MC w bm nx hv m p Hv Bv l k) (u : Int) : MC (w.setCell ⟨bm, 7, none⟩ (.int .i64 u)) bm nx hv m p Hv Bv l u := heap_set_own h 7 _

/-- The first line's parts: why they are none. -/
def open4 (m t n : B) : Nat :=
  if n.length ≠ 3 ∨ isB 1 (n.getD 0 0) = false ∨ n.getD 1 0 ≠ 46 ∨ isB 1 (n.getD 2 0) = false then 400
  else if n ≠ [49, 46, 49] then 505
  else if m ≠ [71, 69, 84] ∧ m ≠ [80, 85, 84] ∧ m ≠ [80, 79, 83, 84] ∧ m ≠ [68, 69, 76, 69, 84, 69] then 501
  else if 1024 < t.length then 414 else 0
def open3 (m t v : B) : Nat :=
  if m = [] ∨ t = [] ∨ v = [] ∨ whereL [32] v < v.length then 400
  else if 16 < m.length ∨ m.all (isB 2) = false ∨ t.getD 0 0 ≠ 47 ∨ t.all (isB 3) = false then 400
  else if Lib.hasPrefix v [72, 84, 84, 80, 47] = false then 400
  else open4 m t (Lib.trimPrefix v [72, 84, 84, 80, 47])
def openM (s : B) : B := s.take (whereL [32] s)
def openR (s : B) : B := s.drop (whereL [32] s + 1)
def openL (s : B) : Nat :=
  if whereL [32] s < s.length ∧ whereL [32] (openR s) < (openR s).length then open3 (openM s) (openM (openR s)) (openR (openR s)) else 400

theorem cutM_any (s : ByteArray) (hs : s.size ≤ 1048576) (w : World) (hg : Glob w) :
    Calls Tryz.prog 85 #[.string s, .string ⟨#[32]⟩] w fun e w' => e = .returned (.tuple #[.string (ofL (openM s.toList)), .string (ofL (openR s.toList)), .bool (decide (whereL [32] s.toList < s.toList.length))]) ∧ Below w.heap.size w w' := by
  refine (cutB_any s hs w hg).mono ?_
  rintro e w' ⟨rfl, n, rfl⟩
  exact ⟨rfl, below_drewN _ _ _⟩
theorem openR_le (s : B) : (openR s).length ≤ s.length := by unfold openR; simp
theorem openM_le (s : B) : (openM s).length ≤ s.length := by unfold openM; simp; omega

theorem prefix_any (s : B) (w : World) :
    Calls Tryz.prog 107 #[.string (ofL s), .string ⟨#[72, 84, 84, 80, 47]⟩] w fun e w' => e = .returned (.tuple #[.string (ofL (Lib.trimPrefix s [72, 84, 84, 80, 47])), .bool (Lib.hasPrefix s [72, 84, 84, 80, 47])]) ∧ w' = w :=
  Tryz.strings_CutPrefix (ofL s) ⟨#[72, 84, 84, 80, 47]⟩ w
theorem getI (l : B) (i : Nat) (h : i < (ofL l).size) : (ofL l)[i] = l.getD i 0 := by
  have := getD_eq (ofL l) i h; rw [toL_ofL] at this; exact this.symm
theorem Glob.touch {F : Nat → Prop} {w w' : World} (h : Glob w) (ht : Touch F w w') (hf : ¬ F 0) : Glob w' := by
  obtain ⟨m, hm⟩ := h; exact ⟨m, by rw [ht.cell (p := ⟨0, 0, none⟩) (lt_of_cell hm) hf]; exact hm⟩
theorem empty_no {l : B} (h : ¬ l = []) : (ofL l).toList.isEmpty = false ∧ ¬ (ofL l).toList = [] ∧ 0 < (ofL l).size := by
  rw [toL_ofL, size_ofL]; exact ⟨by simpa using h, h, List.length_pos_iff.2 h⟩
theorem nats_ne {c : UInt8} {n : Nat} (h : ¬ c = UInt8.ofNat n) (hn : n < 256) : ((c.toNat : Int) != n) = true := by
  rw [bne_iff_ne]; intro e; apply h; apply UInt8.toNat.inj; have : c.toNat = n := by omega
  rw [this, UInt8.toNat_ofNat', Nat.mod_eq_of_lt (by omega)]
set_option maxHeartbeats 8000000 in
theorem opening_any (bm : Nat) (nx hv Hv Bv : Value) (m p : ByteArray) (l k : Int) (s : ByteArray) (w : World) (hM : MC w bm nx hv m p Hv Bv l k) (hs : s.size ≤ 1048576) (hg : Glob w) (hne : ¬ 0 = bm) :
    Calls Tryz.prog 91 #[.pointer (some ⟨bm, 0, none⟩), .string s] w fun e w' => e = .returned (.int .i64 (openL s.toList)) ∧ Touch (fun j => j = bm) w w' ∧ Glob w' ∧
      (openL s.toList = 0 → MC w' bm nx hv (ofL (openM s.toList)) (ofL (openM (openR s.toList))) Hv Bv l k) := by
  have hs2 : (ofL (openR s.toList)).size ≤ 1048576 := by rw [size_ofL]; have := openR_le s.toList; rw [len_toL] at this; omega
  have hsm : (ofL (openM s.toList)).size ≤ 1048576 := by rw [size_ofL]; have := openM_le s.toList; rw [len_toL] at this; omega
  have hst : (ofL (openM (openR s.toList))).size ≤ 1048576 := by rw [size_ofL] at hs2 ⊢; have := openM_le (openR s.toList); omega
  have hsv : (ofL (openR (openR s.toList))).size ≤ 1048576 := by rw [size_ofL] at hs2 ⊢; have := openR_le (openR s.toList); omega
  have Hg := Lib.hid hg
  have Hne := Lib.hid hne
  have hr := Below.refl w.heap.size w
  have C1 := Lib.hid (fun w hg => cutM_any s hs w hg)
  have C2 := Lib.hid (fun w hg => cutM_any (ofL (openR s.toList)) hs2 w hg)
  have C3 := Lib.hid (fun w => ibyte_any 32 (ofL (openR (openR s.toList))) w)
  have C4 := Lib.hid (fun w => only_any tells2 (ofL (openM s.toList)) hsm w)
  have C5 := Lib.hid (fun w => only_any tells3 (ofL (openM (openR s.toList))) hst w)
  have C6 := Lib.hid (fun w => prefix_any (openR (openR s.toList)) w)
  rw [toL_ofL] at C2 C3 C4 C5
  rw [show (((32 : UInt8).toNat : Nat) : Int) = 32 from rfl] at C3
  have Ho : Hid (openL s.toList = if whereL [32] s.toList < s.toList.length ∧ whereL [32] (openR s.toList) < (openR s.toList).length then open3 (openM s.toList) (openM (openR s.toList)) (openR (openR s.toList)) else 400) := rfl
  generalize openL s.toList = st at Ho ⊢
  generalize openM s.toList = mm at *
  generalize openM (openR s.toList) = tt at *
  generalize openR (openR s.toList) = vv at *
  generalize openR s.toList = rr at *
  by_cases c1 : whereL [32] s.toList < s.toList.length
  case neg =>
    have Hb := Lib.hid (show st = 400 by rw [Ho.out, if_neg (by simp [c1])])
    go_enter Tryz.func91, Tryz.ntmps91; go_wp2_with first | (go_at_call 85; (first | with_reducible refine (C1.out _ (Hg.out.next hr)).mono ?_ | with_reducible refine (C2.out _ (Hg.out.next hr)).mono ?_); rintro e w4 ⟨rfl, hb4⟩; replace hr := hr.next hb4; clear hb4) | (go_at_call 90; with_reducible refine (C3.out _).mono ?_; rintro e w4 ⟨rfl, rfl⟩) | (go_at_call 98; (first | with_reducible refine (C4.out _).mono ?_ | with_reducible refine (C5.out _).mono ?_); rintro e w4 ⟨rfl, hb4⟩; replace hr := hr.next hb4; clear hb4) | (go_at_call 107; with_reducible refine (C6.out _).mono ?_; rintro e w4 ⟨rfl, rfl⟩) | (go_at_call 111; (first | with_reducible refine (D0.out _).mono ?_ | with_reducible refine (D2.out _).mono ?_); rintro e w4 ⟨rfl, rfl⟩)
    (go_ret; exact ⟨ret_int (by rw [Hb.out]; rfl), .of_below hr, Hg.out.next hr, fun h => by rw [Hb.out] at h; cases h⟩)
  by_cases c2 : whereL [32] rr < rr.length
  case neg =>
    have Hb := Lib.hid (show st = 400 by rw [Ho.out, if_neg (by simp [c2])])
    go_enter Tryz.func91, Tryz.ntmps91; go_wp2_with first | (go_at_call 85; (first | with_reducible refine (C1.out _ (Hg.out.next hr)).mono ?_ | with_reducible refine (C2.out _ (Hg.out.next hr)).mono ?_); rintro e w4 ⟨rfl, hb4⟩; replace hr := hr.next hb4; clear hb4) | (go_at_call 90; with_reducible refine (C3.out _).mono ?_; rintro e w4 ⟨rfl, rfl⟩) | (go_at_call 98; (first | with_reducible refine (C4.out _).mono ?_ | with_reducible refine (C5.out _).mono ?_); rintro e w4 ⟨rfl, hb4⟩; replace hr := hr.next hb4; clear hb4) | (go_at_call 107; with_reducible refine (C6.out _).mono ?_; rintro e w4 ⟨rfl, rfl⟩) | (go_at_call 111; (first | with_reducible refine (D0.out _).mono ?_ | with_reducible refine (D2.out _).mono ?_); rintro e w4 ⟨rfl, rfl⟩)
    (go_ret; exact ⟨ret_int (by rw [Hb.out]; rfl), .of_below hr, Hg.out.next hr, fun h => by rw [Hb.out] at h; cases h⟩)
  rw [if_pos ⟨c1, c2⟩] at Ho
  unfold open3 at Ho
  by_cases e1 : mm = []
  · have Hb := Lib.hid (show st = 400 by rw [Ho.out, if_pos (.inl e1)])
    subst e1
    have h1 : (ofL []).toList.isEmpty = true := by rw [toL_ofL]; rfl
    have h2 : (ofL []).toList = [] := by rw [toL_ofL]
    go_enter Tryz.func91, Tryz.ntmps91; go_wp2_with first | (go_at_call 85; (first | with_reducible refine (C1.out _ (Hg.out.next hr)).mono ?_ | with_reducible refine (C2.out _ (Hg.out.next hr)).mono ?_); rintro e w4 ⟨rfl, hb4⟩; replace hr := hr.next hb4; clear hb4) | (go_at_call 90; with_reducible refine (C3.out _).mono ?_; rintro e w4 ⟨rfl, rfl⟩) | (go_at_call 98; (first | with_reducible refine (C4.out _).mono ?_ | with_reducible refine (C5.out _).mono ?_); rintro e w4 ⟨rfl, hb4⟩; replace hr := hr.next hb4; clear hb4) | (go_at_call 107; with_reducible refine (C6.out _).mono ?_; rintro e w4 ⟨rfl, rfl⟩) | (go_at_call 111; (first | with_reducible refine (D0.out _).mono ?_ | with_reducible refine (D2.out _).mono ?_); rintro e w4 ⟨rfl, rfl⟩)
    (go_ret; exact ⟨ret_int (by rw [Hb.out]; rfl), .of_below hr, Hg.out.next hr, fun h => by rw [Hb.out] at h; cases h⟩)
  obtain ⟨m1, m2, m3⟩ := empty_no e1
  by_cases e2 : tt = []
  · have Hb := Lib.hid (show st = 400 by rw [Ho.out, if_pos (.inr (.inl e2))])
    subst e2
    have h1 : (ofL []).toList.isEmpty = true := by rw [toL_ofL]; rfl
    have h2 : (ofL []).toList = [] := by rw [toL_ofL]
    go_enter Tryz.func91, Tryz.ntmps91; go_wp2_with first | (go_at_call 85; (first | with_reducible refine (C1.out _ (Hg.out.next hr)).mono ?_ | with_reducible refine (C2.out _ (Hg.out.next hr)).mono ?_); rintro e w4 ⟨rfl, hb4⟩; replace hr := hr.next hb4; clear hb4) | (go_at_call 90; with_reducible refine (C3.out _).mono ?_; rintro e w4 ⟨rfl, rfl⟩) | (go_at_call 98; (first | with_reducible refine (C4.out _).mono ?_ | with_reducible refine (C5.out _).mono ?_); rintro e w4 ⟨rfl, hb4⟩; replace hr := hr.next hb4; clear hb4) | (go_at_call 107; with_reducible refine (C6.out _).mono ?_; rintro e w4 ⟨rfl, rfl⟩) | (go_at_call 111; (first | with_reducible refine (D0.out _).mono ?_ | with_reducible refine (D2.out _).mono ?_); rintro e w4 ⟨rfl, rfl⟩)
    (go_ret; exact ⟨ret_int (by rw [Hb.out]; rfl), .of_below hr, Hg.out.next hr, fun h => by rw [Hb.out] at h; cases h⟩)
  obtain ⟨t1, t2, t3⟩ := empty_no e2
  by_cases e3 : vv = []
  · have Hb := Lib.hid (show st = 400 by rw [Ho.out, if_pos (.inr (.inr (.inl e3)))])
    subst e3
    have h1 : (ofL []).toList.isEmpty = true := by rw [toL_ofL]; rfl
    have h2 : (ofL []).toList = [] := by rw [toL_ofL]
    go_enter Tryz.func91, Tryz.ntmps91; go_wp2_with first | (go_at_call 85; (first | with_reducible refine (C1.out _ (Hg.out.next hr)).mono ?_ | with_reducible refine (C2.out _ (Hg.out.next hr)).mono ?_); rintro e w4 ⟨rfl, hb4⟩; replace hr := hr.next hb4; clear hb4) | (go_at_call 90; with_reducible refine (C3.out _).mono ?_; rintro e w4 ⟨rfl, rfl⟩) | (go_at_call 98; (first | with_reducible refine (C4.out _).mono ?_ | with_reducible refine (C5.out _).mono ?_); rintro e w4 ⟨rfl, hb4⟩; replace hr := hr.next hb4; clear hb4) | (go_at_call 107; with_reducible refine (C6.out _).mono ?_; rintro e w4 ⟨rfl, rfl⟩) | (go_at_call 111; (first | with_reducible refine (D0.out _).mono ?_ | with_reducible refine (D2.out _).mono ?_); rintro e w4 ⟨rfl, rfl⟩)
    (go_ret; exact ⟨ret_int (by rw [Hb.out]; rfl), .of_below hr, Hg.out.next hr, fun h => by rw [Hb.out] at h; cases h⟩)
  obtain ⟨v1, v2, v3⟩ := empty_no e3
  by_cases e4 : whereL [32] vv < vv.length
  · have Hb := Lib.hid (show st = 400 by rw [Ho.out, if_pos (.inr (.inr (.inr e4)))])
    rw [size_ofL, if_pos e4] at C3
    go_enter Tryz.func91, Tryz.ntmps91; go_wp2_with first | (go_at_call 85; (first | with_reducible refine (C1.out _ (Hg.out.next hr)).mono ?_ | with_reducible refine (C2.out _ (Hg.out.next hr)).mono ?_); rintro e w4 ⟨rfl, hb4⟩; replace hr := hr.next hb4; clear hb4) | (go_at_call 90; with_reducible refine (C3.out _).mono ?_; rintro e w4 ⟨rfl, rfl⟩) | (go_at_call 98; (first | with_reducible refine (C4.out _).mono ?_ | with_reducible refine (C5.out _).mono ?_); rintro e w4 ⟨rfl, hb4⟩; replace hr := hr.next hb4; clear hb4) | (go_at_call 107; with_reducible refine (C6.out _).mono ?_; rintro e w4 ⟨rfl, rfl⟩) | (go_at_call 111; (first | with_reducible refine (D0.out _).mono ?_ | with_reducible refine (D2.out _).mono ?_); rintro e w4 ⟨rfl, rfl⟩)
    (go_ret; exact ⟨ret_int (by rw [Hb.out]; rfl), .of_below hr, Hg.out.next hr, fun h => by rw [Hb.out] at h; cases h⟩)
  rw [size_ofL, if_neg e4] at C3
  rw [if_neg (fun h => by rcases h with h | h | h | h <;> contradiction)] at Ho
  by_cases e5 : 16 < mm.length
  · have Hb := Lib.hid (show st = 400 by rw [Ho.out, if_pos (.inl e5)])
    have hz : 16 < (ofL mm).size := by rw [size_ofL]; exact e5
    go_enter Tryz.func91, Tryz.ntmps91; go_wp2_with first | (go_at_call 85; (first | with_reducible refine (C1.out _ (Hg.out.next hr)).mono ?_ | with_reducible refine (C2.out _ (Hg.out.next hr)).mono ?_); rintro e w4 ⟨rfl, hb4⟩; replace hr := hr.next hb4; clear hb4) | (go_at_call 90; with_reducible refine (C3.out _).mono ?_; rintro e w4 ⟨rfl, rfl⟩) | (go_at_call 98; (first | with_reducible refine (C4.out _).mono ?_ | with_reducible refine (C5.out _).mono ?_); rintro e w4 ⟨rfl, hb4⟩; replace hr := hr.next hb4; clear hb4) | (go_at_call 107; with_reducible refine (C6.out _).mono ?_; rintro e w4 ⟨rfl, rfl⟩) | (go_at_call 111; (first | with_reducible refine (D0.out _).mono ?_ | with_reducible refine (D2.out _).mono ?_); rintro e w4 ⟨rfl, rfl⟩)
    (go_ret; exact ⟨ret_int (by rw [Hb.out]; rfl), .of_below hr, Hg.out.next hr, fun h => by rw [Hb.out] at h; cases h⟩)
  have hz5 : (ofL mm).size ≤ 16 := by rw [size_ofL]; omega
  cases e6 : mm.all (isB 2)
  · have Hb := Lib.hid (show st = 400 by rw [Ho.out, if_pos (.inr (.inl e6))])
    rw [e6] at C4
    go_enter Tryz.func91, Tryz.ntmps91; go_wp2_with first | (go_at_call 85; (first | with_reducible refine (C1.out _ (Hg.out.next hr)).mono ?_ | with_reducible refine (C2.out _ (Hg.out.next hr)).mono ?_); rintro e w4 ⟨rfl, hb4⟩; replace hr := hr.next hb4; clear hb4) | (go_at_call 90; with_reducible refine (C3.out _).mono ?_; rintro e w4 ⟨rfl, rfl⟩) | (go_at_call 98; (first | with_reducible refine (C4.out _).mono ?_ | with_reducible refine (C5.out _).mono ?_); rintro e w4 ⟨rfl, hb4⟩; replace hr := hr.next hb4; clear hb4) | (go_at_call 107; with_reducible refine (C6.out _).mono ?_; rintro e w4 ⟨rfl, rfl⟩) | (go_at_call 111; (first | with_reducible refine (D0.out _).mono ?_ | with_reducible refine (D2.out _).mono ?_); rintro e w4 ⟨rfl, rfl⟩)
    (go_ret; exact ⟨ret_int (by rw [Hb.out]; rfl), .of_below hr, Hg.out.next hr, fun h => by rw [Hb.out] at h; cases h⟩)
  rw [e6] at C4
  by_cases e7 : tt.getD 0 0 = 47
  case neg =>
    have Hb := Lib.hid (show st = 400 by rw [Ho.out, if_pos (.inr (.inr (.inl e7)))])
    have hz7 : (((ofL tt)[0].toNat : Int) != 47) = true := by rw [getI]; exact nats_ne e7 (by decide)
    go_enter Tryz.func91, Tryz.ntmps91; go_wp2_with first | (go_at_call 85; (first | with_reducible refine (C1.out _ (Hg.out.next hr)).mono ?_ | with_reducible refine (C2.out _ (Hg.out.next hr)).mono ?_); rintro e w4 ⟨rfl, hb4⟩; replace hr := hr.next hb4; clear hb4) | (go_at_call 90; with_reducible refine (C3.out _).mono ?_; rintro e w4 ⟨rfl, rfl⟩) | (go_at_call 98; (first | with_reducible refine (C4.out _).mono ?_ | with_reducible refine (C5.out _).mono ?_); rintro e w4 ⟨rfl, hb4⟩; replace hr := hr.next hb4; clear hb4) | (go_at_call 107; with_reducible refine (C6.out _).mono ?_; rintro e w4 ⟨rfl, rfl⟩) | (go_at_call 111; (first | with_reducible refine (D0.out _).mono ?_ | with_reducible refine (D2.out _).mono ?_); rintro e w4 ⟨rfl, rfl⟩)
    (go_ret; exact ⟨ret_int (by rw [Hb.out]; rfl), .of_below hr, Hg.out.next hr, fun h => by rw [Hb.out] at h; cases h⟩)
  have hz7 : (((ofL tt)[0].toNat : Int) != 47) = false := by rw [getI, e7]; rfl
  cases e8 : tt.all (isB 3)
  · have Hb := Lib.hid (show st = 400 by rw [Ho.out, if_pos (.inr (.inr (.inr e8)))])
    rw [e8] at C5
    go_enter Tryz.func91, Tryz.ntmps91; go_wp2_with first | (go_at_call 85; (first | with_reducible refine (C1.out _ (Hg.out.next hr)).mono ?_ | with_reducible refine (C2.out _ (Hg.out.next hr)).mono ?_); rintro e w4 ⟨rfl, hb4⟩; replace hr := hr.next hb4; clear hb4) | (go_at_call 90; with_reducible refine (C3.out _).mono ?_; rintro e w4 ⟨rfl, rfl⟩) | (go_at_call 98; (first | with_reducible refine (C4.out _).mono ?_ | with_reducible refine (C5.out _).mono ?_); rintro e w4 ⟨rfl, hb4⟩; replace hr := hr.next hb4; clear hb4) | (go_at_call 107; with_reducible refine (C6.out _).mono ?_; rintro e w4 ⟨rfl, rfl⟩) | (go_at_call 111; (first | with_reducible refine (D0.out _).mono ?_ | with_reducible refine (D2.out _).mono ?_); rintro e w4 ⟨rfl, rfl⟩)
    (go_ret; exact ⟨ret_int (by rw [Hb.out]; rfl), .of_below hr, Hg.out.next hr, fun h => by rw [Hb.out] at h; cases h⟩)
  rw [e8] at C5
  rw [if_neg (fun h => by rcases h with h | h | h | h <;> simp_all)] at Ho
  cases e9 : Lib.hasPrefix vv [72, 84, 84, 80, 47]
  · have Hb := Lib.hid (show st = 400 by rw [Ho.out, if_pos e9])
    rw [e9] at C6
    go_enter Tryz.func91, Tryz.ntmps91; go_wp2_with first | (go_at_call 85; (first | with_reducible refine (C1.out _ (Hg.out.next hr)).mono ?_ | with_reducible refine (C2.out _ (Hg.out.next hr)).mono ?_); rintro e w4 ⟨rfl, hb4⟩; replace hr := hr.next hb4; clear hb4) | (go_at_call 90; with_reducible refine (C3.out _).mono ?_; rintro e w4 ⟨rfl, rfl⟩) | (go_at_call 98; (first | with_reducible refine (C4.out _).mono ?_ | with_reducible refine (C5.out _).mono ?_); rintro e w4 ⟨rfl, hb4⟩; replace hr := hr.next hb4; clear hb4) | (go_at_call 107; with_reducible refine (C6.out _).mono ?_; rintro e w4 ⟨rfl, rfl⟩) | (go_at_call 111; (first | with_reducible refine (D0.out _).mono ?_ | with_reducible refine (D2.out _).mono ?_); rintro e w4 ⟨rfl, rfl⟩)
    (go_ret; exact ⟨ret_int (by rw [Hb.out]; rfl), .of_below hr, Hg.out.next hr, fun h => by rw [Hb.out] at h; cases h⟩)
  rw [e9] at C6
  rw [if_neg (by simp [e9])] at Ho
  generalize Lib.trimPrefix vv [72, 84, 84, 80, 47] = nn at *
  unfold open4 at Ho
  by_cases e10 : nn.length = 3
  case neg =>
    have Hb := Lib.hid (show st = 400 by rw [Ho.out, if_pos (.inl e10)])
    have hz : (((ofL nn).size : Int) != 3) = true := by rw [size_ofL]; simp; omega
    go_enter Tryz.func91, Tryz.ntmps91; go_wp2_with first | (go_at_call 85; (first | with_reducible refine (C1.out _ (Hg.out.next hr)).mono ?_ | with_reducible refine (C2.out _ (Hg.out.next hr)).mono ?_); rintro e w4 ⟨rfl, hb4⟩; replace hr := hr.next hb4; clear hb4) | (go_at_call 90; with_reducible refine (C3.out _).mono ?_; rintro e w4 ⟨rfl, rfl⟩) | (go_at_call 98; (first | with_reducible refine (C4.out _).mono ?_ | with_reducible refine (C5.out _).mono ?_); rintro e w4 ⟨rfl, hb4⟩; replace hr := hr.next hb4; clear hb4) | (go_at_call 107; with_reducible refine (C6.out _).mono ?_; rintro e w4 ⟨rfl, rfl⟩) | (go_at_call 111; (first | with_reducible refine (D0.out _).mono ?_ | with_reducible refine (D2.out _).mono ?_); rintro e w4 ⟨rfl, rfl⟩)
    (go_ret; exact ⟨ret_int (by rw [Hb.out]; rfl), .of_below hr, Hg.out.next hr, fun h => by rw [Hb.out] at h; cases h⟩)
  have hz10 : (ofL nn).size = 3 := by rw [size_ofL]; exact e10
  have D0 := Lib.hid (fun w => digitB (ofL nn)[0] w)
  have D2 := Lib.hid (fun w => digitB (ofL nn)[2] w)
  have hz12 : Hid ((ofL nn)[1] = nn.getD 1 0) := getI _ _ _
  have hz13 : Hid ((ofL nn)[0] = nn.getD 0 0) := getI _ _ _
  have hz14 : Hid ((ofL nn)[2] = nn.getD 2 0) := getI _ _ _
  cases e11 : isB 1 (ofL nn)[0]
  · have Hb := Lib.hid (show st = 400 by rw [Ho.out, if_pos (.inr (.inl (by rw [← hz13.out, e11])))])
    rw [e11] at D0
    go_enter Tryz.func91, Tryz.ntmps91; go_wp2_with first | (go_at_call 85; (first | with_reducible refine (C1.out _ (Hg.out.next hr)).mono ?_ | with_reducible refine (C2.out _ (Hg.out.next hr)).mono ?_); rintro e w4 ⟨rfl, hb4⟩; replace hr := hr.next hb4; clear hb4) | (go_at_call 90; with_reducible refine (C3.out _).mono ?_; rintro e w4 ⟨rfl, rfl⟩) | (go_at_call 98; (first | with_reducible refine (C4.out _).mono ?_ | with_reducible refine (C5.out _).mono ?_); rintro e w4 ⟨rfl, hb4⟩; replace hr := hr.next hb4; clear hb4) | (go_at_call 107; with_reducible refine (C6.out _).mono ?_; rintro e w4 ⟨rfl, rfl⟩) | (go_at_call 111; (first | with_reducible refine (D0.out _).mono ?_ | with_reducible refine (D2.out _).mono ?_); rintro e w4 ⟨rfl, rfl⟩)
    (go_ret; exact ⟨ret_int (by rw [Hb.out]; rfl), .of_below hr, Hg.out.next hr, fun h => by rw [Hb.out] at h; cases h⟩)
  rw [e11] at D0
  by_cases e12 : nn.getD 1 0 = 46
  case neg =>
    have Hb := Lib.hid (show st = 400 by rw [Ho.out, if_pos (.inr (.inr (.inl e12)))])
    have hz : (((ofL nn)[1].toNat : Int) != 46) = true := by rw [hz12.out]; exact nats_ne e12 (by decide)
    go_enter Tryz.func91, Tryz.ntmps91; go_wp2_with first | (go_at_call 85; (first | with_reducible refine (C1.out _ (Hg.out.next hr)).mono ?_ | with_reducible refine (C2.out _ (Hg.out.next hr)).mono ?_); rintro e w4 ⟨rfl, hb4⟩; replace hr := hr.next hb4; clear hb4) | (go_at_call 90; with_reducible refine (C3.out _).mono ?_; rintro e w4 ⟨rfl, rfl⟩) | (go_at_call 98; (first | with_reducible refine (C4.out _).mono ?_ | with_reducible refine (C5.out _).mono ?_); rintro e w4 ⟨rfl, hb4⟩; replace hr := hr.next hb4; clear hb4) | (go_at_call 107; with_reducible refine (C6.out _).mono ?_; rintro e w4 ⟨rfl, rfl⟩) | (go_at_call 111; (first | with_reducible refine (D0.out _).mono ?_ | with_reducible refine (D2.out _).mono ?_); rintro e w4 ⟨rfl, rfl⟩)
    (go_ret; exact ⟨ret_int (by rw [Hb.out]; rfl), .of_below hr, Hg.out.next hr, fun h => by rw [Hb.out] at h; cases h⟩)
  have hz15 : (((ofL nn)[1].toNat : Int) != 46) = false := by rw [hz12.out, e12]; rfl
  cases e13 : isB 1 (ofL nn)[2]
  · have Hb := Lib.hid (show st = 400 by rw [Ho.out, if_pos (.inr (.inr (.inr (by rw [← hz14.out, e13]))))])
    rw [e13] at D2
    go_enter Tryz.func91, Tryz.ntmps91; go_wp2_with first | (go_at_call 85; (first | with_reducible refine (C1.out _ (Hg.out.next hr)).mono ?_ | with_reducible refine (C2.out _ (Hg.out.next hr)).mono ?_); rintro e w4 ⟨rfl, hb4⟩; replace hr := hr.next hb4; clear hb4) | (go_at_call 90; with_reducible refine (C3.out _).mono ?_; rintro e w4 ⟨rfl, rfl⟩) | (go_at_call 98; (first | with_reducible refine (C4.out _).mono ?_ | with_reducible refine (C5.out _).mono ?_); rintro e w4 ⟨rfl, hb4⟩; replace hr := hr.next hb4; clear hb4) | (go_at_call 107; with_reducible refine (C6.out _).mono ?_; rintro e w4 ⟨rfl, rfl⟩) | (go_at_call 111; (first | with_reducible refine (D0.out _).mono ?_ | with_reducible refine (D2.out _).mono ?_); rintro e w4 ⟨rfl, rfl⟩)
    (go_ret; exact ⟨ret_int (by rw [Hb.out]; rfl), .of_below hr, Hg.out.next hr, fun h => by rw [Hb.out] at h; cases h⟩)
  rw [e13] at D2
  rw [if_neg (fun h => by rcases h with h | h | h | h; exact h e10; rw [← hz13.out, e11] at h; cases h; exact h e12; rw [← hz14.out, e13] at h; cases h)] at Ho
  clear hz12 hz13 hz14 e11 e12 e13 e9 e8 e7 e6 e5 e4 e3 e2 e1
  have hM2 := hM
  have k2 := hM2.c2
  have f2 := hM2.fz 2
  have k3 := hM2.c3
  have f3 := hM2.fz 3
  by_cases g1 : nn = [49, 46, 49]
  case neg =>
    have Hb := Lib.hid (show st = 505 by rw [Ho.out, if_pos g1])
    have hz16 : ((ofL nn).toList == [49, 46, 49]) = false := by rw [toL_ofL]; simpa using g1
    go_enter Tryz.func91, Tryz.ntmps91; go_wp2_with first | (go_at_call 85; (first | with_reducible refine (C1.out _ (Hg.out.next hr)).mono ?_ | with_reducible refine (C2.out _ (Hg.out.next hr)).mono ?_); rintro e w4 ⟨rfl, hb4⟩; replace hr := hr.next hb4; replace hM2 := hM2.below hb4; replace k2 := hM2.c2; replace f2 := hM2.fz 2; replace k3 := hM2.c3; replace f3 := hM2.fz 3; clear hb4) | (go_at_call 90; with_reducible refine (C3.out _).mono ?_; rintro e w4 ⟨rfl, rfl⟩) | (go_at_call 98; (first | with_reducible refine (C4.out _).mono ?_ | with_reducible refine (C5.out _).mono ?_); rintro e w4 ⟨rfl, hb4⟩; replace hr := hr.next hb4; replace hM2 := hM2.below hb4; replace k2 := hM2.c2; replace f2 := hM2.fz 2; replace k3 := hM2.c3; replace f3 := hM2.fz 3; clear hb4) | (go_at_call 107; with_reducible refine (C6.out _).mono ?_; rintro e w4 ⟨rfl, rfl⟩) | (go_at_call 111; (first | with_reducible refine (D0.out _).mono ?_ | with_reducible refine (D2.out _).mono ?_); rintro e w4 ⟨rfl, rfl⟩)
    all_goals (go_ret; exact ⟨ret_int (by rw [Hb.out]; rfl), (((Touch.of_below (F := fun j => j = bm) hr).setCell (p := ⟨bm, 2, none⟩) rfl (.string (ofL mm))).setCell (p := ⟨bm, 3, none⟩) rfl (.string (ofL tt))), Hg.out.touch (((Touch.of_below (F := fun j => j = bm) hr).setCell (p := ⟨bm, 2, none⟩) rfl (.string (ofL mm))).setCell (p := ⟨bm, 3, none⟩) rfl (.string (ofL tt))) (fun e => Hne.out e), fun h => by rw [Hb.out] at h; cases h⟩)
  rw [if_neg (fun h => h g1)] at Ho
  have hz16 : ((ofL nn).toList == [49, 46, 49]) = true := by rw [toL_ofL, g1]; rfl
  clear g1
  by_cases g2 : mm ≠ [71, 69, 84] ∧ mm ≠ [80, 85, 84] ∧ mm ≠ [80, 79, 83, 84] ∧ mm ≠ [68, 69, 76, 69, 84, 69]
  · have Hb := Lib.hid (show st = 501 by rw [Ho.out, if_pos g2])
    obtain ⟨g3, g4, g5, g6⟩ := g2
    have y3 : ((ofL mm).toList == [71, 69, 84]) = false := by rw [toL_ofL]; simpa using g3
    have y4 : ((ofL mm).toList == [80, 85, 84]) = false := by rw [toL_ofL]; simpa using g4
    have y5 : ((ofL mm).toList == [80, 79, 83, 84]) = false := by rw [toL_ofL]; simpa using g5
    have y6 : ((ofL mm).toList == [68, 69, 76, 69, 84, 69]) = false := by rw [toL_ofL]; simpa using g6
    clear g3 g4 g5 g6
    go_enter Tryz.func91, Tryz.ntmps91; go_wp2_with first | (go_at_call 85; (first | with_reducible refine (C1.out _ (Hg.out.next hr)).mono ?_ | with_reducible refine (C2.out _ (Hg.out.next hr)).mono ?_); rintro e w4 ⟨rfl, hb4⟩; replace hr := hr.next hb4; replace hM2 := hM2.below hb4; replace k2 := hM2.c2; replace f2 := hM2.fz 2; replace k3 := hM2.c3; replace f3 := hM2.fz 3; clear hb4) | (go_at_call 90; with_reducible refine (C3.out _).mono ?_; rintro e w4 ⟨rfl, rfl⟩) | (go_at_call 98; (first | with_reducible refine (C4.out _).mono ?_ | with_reducible refine (C5.out _).mono ?_); rintro e w4 ⟨rfl, hb4⟩; replace hr := hr.next hb4; replace hM2 := hM2.below hb4; replace k2 := hM2.c2; replace f2 := hM2.fz 2; replace k3 := hM2.c3; replace f3 := hM2.fz 3; clear hb4) | (go_at_call 107; with_reducible refine (C6.out _).mono ?_; rintro e w4 ⟨rfl, rfl⟩) | (go_at_call 111; (first | with_reducible refine (D0.out _).mono ?_ | with_reducible refine (D2.out _).mono ?_); rintro e w4 ⟨rfl, rfl⟩)
    (go_ret; exact ⟨ret_int (by rw [Hb.out]; rfl), (((Touch.of_below (F := fun j => j = bm) hr).setCell (p := ⟨bm, 2, none⟩) rfl (.string (ofL mm))).setCell (p := ⟨bm, 3, none⟩) rfl (.string (ofL tt))), Hg.out.touch (((Touch.of_below (F := fun j => j = bm) hr).setCell (p := ⟨bm, 2, none⟩) rfl (.string (ofL mm))).setCell (p := ⟨bm, 3, none⟩) rfl (.string (ofL tt))) (fun e => Hne.out e), fun h => by rw [Hb.out] at h; cases h⟩)
  rw [if_neg g2] at Ho
  have hgm : mm = [71, 69, 84] ∨ mm = [80, 85, 84] ∨ mm = [80, 79, 83, 84] ∨ mm = [68, 69, 76, 69, 84, 69] := by
    by_cases a1 : mm = [71, 69, 84]; exact .inl a1
    by_cases a2 : mm = [80, 85, 84]; exact .inr (.inl a2)
    by_cases a3 : mm = [80, 79, 83, 84]; exact .inr (.inr (.inl a3))
    by_cases a4 : mm = [68, 69, 76, 69, 84, 69]; exact .inr (.inr (.inr a4))
    exact absurd ⟨a1, a2, a3, a4⟩ g2
  clear g2
  have hgm' : ((ofL mm).toList == [71, 69, 84]) = true ∨ (((ofL mm).toList == [71, 69, 84]) = false ∧ ((ofL mm).toList == [80, 85, 84]) = true) ∨ (((ofL mm).toList == [71, 69, 84]) = false ∧ ((ofL mm).toList == [80, 85, 84]) = false ∧ ((ofL mm).toList == [80, 79, 83, 84]) = true) ∨
      (((ofL mm).toList == [71, 69, 84]) = false ∧ ((ofL mm).toList == [80, 85, 84]) = false ∧ ((ofL mm).toList == [80, 79, 83, 84]) = false ∧ ((ofL mm).toList == [68, 69, 76, 69, 84, 69]) = true) := by
    rw [toL_ofL]
    rcases hgm with rfl | rfl | rfl | rfl
    exact .inl rfl
    exact .inr (.inl ⟨rfl, rfl⟩)
    exact .inr (.inr (.inl ⟨rfl, rfl, rfl⟩))
    exact .inr (.inr (.inr ⟨rfl, rfl, rfl, rfl⟩))
  clear hgm
  by_cases g7 : 1024 < tt.length
  · have Hb := Lib.hid (show st = 414 by rw [Ho.out, if_pos g7])
    have hz17 : 1024 < (ofL tt).size := by rw [size_ofL]; exact g7
    clear g7
    rcases hgm' with h1 | ⟨h1, h2⟩ | ⟨h1, h2, h3⟩ | ⟨h1, h2, h3, h4⟩
    all_goals
      go_enter Tryz.func91, Tryz.ntmps91; go_wp2_with first | (go_at_call 85; (first | with_reducible refine (C1.out _ (Hg.out.next hr)).mono ?_ | with_reducible refine (C2.out _ (Hg.out.next hr)).mono ?_); rintro e w4 ⟨rfl, hb4⟩; replace hr := hr.next hb4; replace hM2 := hM2.below hb4; replace k2 := hM2.c2; replace f2 := hM2.fz 2; replace k3 := hM2.c3; replace f3 := hM2.fz 3; clear hb4) | (go_at_call 90; with_reducible refine (C3.out _).mono ?_; rintro e w4 ⟨rfl, rfl⟩) | (go_at_call 98; (first | with_reducible refine (C4.out _).mono ?_ | with_reducible refine (C5.out _).mono ?_); rintro e w4 ⟨rfl, hb4⟩; replace hr := hr.next hb4; replace hM2 := hM2.below hb4; replace k2 := hM2.c2; replace f2 := hM2.fz 2; replace k3 := hM2.c3; replace f3 := hM2.fz 3; clear hb4) | (go_at_call 107; with_reducible refine (C6.out _).mono ?_; rintro e w4 ⟨rfl, rfl⟩) | (go_at_call 111; (first | with_reducible refine (D0.out _).mono ?_ | with_reducible refine (D2.out _).mono ?_); rintro e w4 ⟨rfl, rfl⟩)
      (go_ret; exact ⟨ret_int (by rw [Hb.out]; rfl), (((Touch.of_below (F := fun j => j = bm) hr).setCell (p := ⟨bm, 2, none⟩) rfl (.string (ofL mm))).setCell (p := ⟨bm, 3, none⟩) rfl (.string (ofL tt))), Hg.out.touch (((Touch.of_below (F := fun j => j = bm) hr).setCell (p := ⟨bm, 2, none⟩) rfl (.string (ofL mm))).setCell (p := ⟨bm, 3, none⟩) rfl (.string (ofL tt))) (fun e => Hne.out e), fun h => by rw [Hb.out] at h; cases h⟩)
  have Hb := Lib.hid (show st = 0 by rw [Ho.out, if_neg g7])
  have hz17 : (ofL tt).size ≤ 1024 := by rw [size_ofL]; omega
  clear g7
  rcases hgm' with h1 | ⟨h1, h2⟩ | ⟨h1, h2, h3⟩ | ⟨h1, h2, h3, h4⟩
  all_goals
    go_enter Tryz.func91, Tryz.ntmps91; go_wp2_with first | (go_at_call 85; (first | with_reducible refine (C1.out _ (Hg.out.next hr)).mono ?_ | with_reducible refine (C2.out _ (Hg.out.next hr)).mono ?_); rintro e w4 ⟨rfl, hb4⟩; replace hr := hr.next hb4; replace hM2 := hM2.below hb4; replace k2 := hM2.c2; replace f2 := hM2.fz 2; replace k3 := hM2.c3; replace f3 := hM2.fz 3; clear hb4) | (go_at_call 90; with_reducible refine (C3.out _).mono ?_; rintro e w4 ⟨rfl, rfl⟩) | (go_at_call 98; (first | with_reducible refine (C4.out _).mono ?_ | with_reducible refine (C5.out _).mono ?_); rintro e w4 ⟨rfl, hb4⟩; replace hr := hr.next hb4; replace hM2 := hM2.below hb4; replace k2 := hM2.c2; replace f2 := hM2.fz 2; replace k3 := hM2.c3; replace f3 := hM2.fz 3; clear hb4) | (go_at_call 107; with_reducible refine (C6.out _).mono ?_; rintro e w4 ⟨rfl, rfl⟩) | (go_at_call 111; (first | with_reducible refine (D0.out _).mono ?_ | with_reducible refine (D2.out _).mono ?_); rintro e w4 ⟨rfl, rfl⟩)
    (go_ret; exact ⟨ret_int (by rw [Hb.out]; rfl), (((Touch.of_below (F := fun j => j = bm) hr).setCell (p := ⟨bm, 2, none⟩) rfl (.string (ofL mm))).setCell (p := ⟨bm, 3, none⟩) rfl (.string (ofL tt))), Hg.out.touch (((Touch.of_below (F := fun j => j = bm) hr).setCell (p := ⟨bm, 2, none⟩) rfl (.string (ofL mm))).setCell (p := ⟨bm, 3, none⟩) rfl (.string (ofL tt))) (fun e => Hne.out e), fun _ => (hM2.set2 _).set3 _⟩)
end Go.Proofs.YtmhgnaemafohfaaGreatDoor
