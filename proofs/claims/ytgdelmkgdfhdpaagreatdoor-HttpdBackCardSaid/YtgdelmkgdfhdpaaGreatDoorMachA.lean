/- The machine's block (httpd); opening. Conditions: the texts are short. append onto an own slice, and where it lies then. Conditions: none. The machine's field (httpd). Conditions: the texts are short. The machine's measure (httpd). Conditions: the texts are short. The machine as it stands between two bytes (httpd); its plain states. Conditions: the body is short. -/
import Derived.Test.YtgdelmkgdfhdpaaGreatDoorLib
import Derived.Maps.AppendAt
import Derived.Deep.RegionLaw
import Derived.Laws.EntriesVeiled
namespace Go.Proofs.YtgdelmkgdfhdpaaGreatDoor
open Go.RowKit
set_option linter.unusedVariables false
set_option linter.unusedSimpArgs false
set_option maxRecDepth 100000

/-- The machine's cells. -/
def MC (w : World) (bm : Nat) (nx hv : Value) (m p : ByteArray) (Hv Bv : Value) (l k : Int) : Prop :=
  w.heap[bm]? = some (.cells #[nx, hv, .string m, .string p, Hv, Bv, .int .i64 l, .int .i64 k] 71 (0, 0))
theorem MC.cell {w : World} {bm : Nat} {nx hv Hv Bv : Value} {m p : ByteArray} {l k : Int} (h : MC w bm nx hv m p Hv Bv l k) (i : Nat) :
    w.cell? ⟨bm, i, none⟩ = #[nx, hv, .string m, .string p, Hv, Bv, .int .i64 l, .int .i64 k][i]? := by rw [Lib.cell_of_heap h]
theorem MC.c0 {w : World} {bm : Nat} {nx hv Hv Bv : Value} {m p : ByteArray} {l k : Int} (h : MC w bm nx hv m p Hv Bv l k) : w.cell? ⟨bm, 0, none⟩ = some (nx) := h.cell 0
theorem MC.c1 {w : World} {bm : Nat} {nx hv Hv Bv : Value} {m p : ByteArray} {l k : Int} (h : MC w bm nx hv m p Hv Bv l k) : w.cell? ⟨bm, 1, none⟩ = some (hv) := h.cell 1
theorem MC.c2 {w : World} {bm : Nat} {nx hv Hv Bv : Value} {m p : ByteArray} {l k : Int} (h : MC w bm nx hv m p Hv Bv l k) : w.cell? ⟨bm, 2, none⟩ = some (.string m) := h.cell 2
theorem MC.c3 {w : World} {bm : Nat} {nx hv Hv Bv : Value} {m p : ByteArray} {l k : Int} (h : MC w bm nx hv m p Hv Bv l k) : w.cell? ⟨bm, 3, none⟩ = some (.string p) := h.cell 3
theorem MC.c4 {w : World} {bm : Nat} {nx hv Hv Bv : Value} {m p : ByteArray} {l k : Int} (h : MC w bm nx hv m p Hv Bv l k) : w.cell? ⟨bm, 4, none⟩ = some (Hv) := h.cell 4
theorem MC.c5 {w : World} {bm : Nat} {nx hv Hv Bv : Value} {m p : ByteArray} {l k : Int} (h : MC w bm nx hv m p Hv Bv l k) : w.cell? ⟨bm, 5, none⟩ = some (Bv) := h.cell 5
theorem MC.c6 {w : World} {bm : Nat} {nx hv Hv Bv : Value} {m p : ByteArray} {l k : Int} (h : MC w bm nx hv m p Hv Bv l k) : w.cell? ⟨bm, 6, none⟩ = some (.int .i64 l) := h.cell 6
theorem MC.c7 {w : World} {bm : Nat} {nx hv Hv Bv : Value} {m p : ByteArray} {l k : Int} (h : MC w bm nx hv m p Hv Bv l k) : w.cell? ⟨bm, 7, none⟩ = some (.int .i64 k) := h.cell 7
theorem MC.fz {w : World} {bm : Nat} {nx hv Hv Bv : Value} {m p : ByteArray} {l k : Int} (h : MC w bm nx hv m p Hv Bv l k) (i : Nat) : w.frozen? ⟨bm, i, none⟩ = false := Lib.frozen_of_heap h i
theorem MC.lt {w : World} {bm : Nat} {nx hv Hv Bv : Value} {m p : ByteArray} {l k : Int} (h : MC w bm nx hv m p Hv Bv l k) : bm < w.heap.size := (Array.getElem?_eq_some_iff.1 h).1
theorem MC.touch {F : Nat → Prop} {w w' : World} {bm : Nat} {nx hv Hv Bv : Value} {m p : ByteArray} {l k : Int} (h : MC w bm nx hv m p Hv Bv l k) (ht : Touch F w w') (hf : ¬ F bm) : MC w' bm nx hv m p Hv Bv l k := by
  unfold MC; rw [ht.block bm h.lt hf]; exact h
theorem MC.below {w w' : World} {bm : Nat} {nx hv Hv Bv : Value} {m p : ByteArray} {l k : Int} (h : MC w bm nx hv m p Hv Bv l k) (ht : Below w.heap.size w w') : MC w' bm nx hv m p Hv Bv l k := h.touch (.of_below (F := fun _ => False) ht) id
theorem MC.set0 {w : World} {bm : Nat} {nx hv Hv Bv : Value} {m p : ByteArray} {l k : Int} (h : MC w bm nx hv m p Hv Bv l k) (u : Value) : MC (w.setCell ⟨bm, 0, none⟩ u) bm u hv m p Hv Bv l k := heap_set_own h 0 u
theorem MC.set1 {w : World} {bm : Nat} {nx hv Hv Bv : Value} {m p : ByteArray} {l k : Int} (h : MC w bm nx hv m p Hv Bv l k) (u : Value) : MC (w.setCell ⟨bm, 1, none⟩ u) bm nx u m p Hv Bv l k := heap_set_own h 1 u
theorem MC.set2 {w : World} {bm : Nat} {nx hv Hv Bv : Value} {m p : ByteArray} {l k : Int} (h : MC w bm nx hv m p Hv Bv l k) (u : ByteArray) : MC (w.setCell ⟨bm, 2, none⟩ (.string u)) bm nx hv u p Hv Bv l k := heap_set_own h 2 _
theorem MC.set3 {w : World} {bm : Nat} {nx hv Hv Bv : Value} {m p : ByteArray} {l k : Int} (h : MC w bm nx hv m p Hv Bv l k) (u : ByteArray) : MC (w.setCell ⟨bm, 3, none⟩ (.string u)) bm nx hv m u Hv Bv l k := heap_set_own h 3 _
theorem MC.set4 {w : World} {bm : Nat} {nx hv Hv Bv : Value} {m p : ByteArray} {l k : Int} (h : MC w bm nx hv m p Hv Bv l k) (u : Value) : MC (w.setCell ⟨bm, 4, none⟩ u) bm nx hv m p u Bv l k := heap_set_own h 4 u
theorem MC.set5 {w : World} {bm : Nat} {nx hv Hv Bv : Value} {m p : ByteArray} {l k : Int} (h : MC w bm nx hv m p Hv Bv l k) (u : Value) : MC (w.setCell ⟨bm, 5, none⟩ u) bm nx hv m p Hv u l k := heap_set_own h 5 u
theorem MC.set6 {w : World} {bm : Nat} {nx hv Hv Bv : Value} {m p : ByteArray} {l k : Int} (h : MC w bm nx hv m p Hv Bv l k) (u : Int) : MC (w.setCell ⟨bm, 6, none⟩ (.int .i64 u)) bm nx hv m p Hv Bv u k := heap_set_own h 6 _
theorem MC.set7 {w : World} {bm : Nat} {nx hv Hv Bv : Value} {m p : ByteArray} {l k : Int} (h : MC w bm nx hv m p Hv Bv l k) (u : Int) : MC (w.setCell ⟨bm, 7, none⟩ (.int .i64 u)) bm nx hv m p Hv Bv l u := heap_set_own h 7 _

/-- The first line's parts: why they are none. -/
def open4 (m t n : B) : Nat :=
  if n.length ≠ 3 ∨ isB 1 (n.getD 0 0) = false ∨ n.getD 1 0 ≠ 46 ∨ isB 1 (n.getD 2 0) = false then 400
  else if n ≠ [49, 46, 49] then 505
  else if m ≠ [71, 69, 84] ∧ m ≠ [80, 85, 84] ∧ m ≠ [80, 79, 83, 84] ∧ m ≠ [68, 69, 76, 69, 84, 69] then 501
  else if 1024 < t.length then 414 else 0
def open3 (m t v : B) : Nat :=
  if m = [] ∨ t = [] ∨ v = [] ∨ whereL [32] v < v.length then 400
  else if 16 < m.length ∨ m.all (isB 2) = false ∨ t.getD 0 0 ≠ 47 ∨ t.all (isB 3) = false then 400
  else if Lib.hasPrefix v [72, 84, 84, 80, 47] = false then 400
  else open4 m t (Lib.trimPrefix v [72, 84, 84, 80, 47])
def openM (s : B) : B := s.take (whereL [32] s)
def openR (s : B) : B := s.drop (whereL [32] s + 1)
def openL (s : B) : Nat :=
  if whereL [32] s < s.length ∧ whereL [32] (openR s) < (openR s).length then open3 (openM s) (openM (openR s)) (openR (openR s)) else 400

theorem cutM_any (s : ByteArray) (hs : s.size ≤ 1048576) (w : World) (hg : Glob w) :
    Calls Tryz.prog 52 #[.string s, .string ⟨#[32]⟩] w fun e w' => e = .returned (.tuple #[.string (ofL (openM s.toList)), .string (ofL (openR s.toList)), .bool (decide (whereL [32] s.toList < s.toList.length))]) ∧ Below w.heap.size w w' := by
  refine (cutB_any s hs w hg).mono ?_
  rintro e w' ⟨rfl, n, rfl⟩
  exact ⟨rfl, below_drewN _ _ _⟩
theorem openR_le (s : B) : (openR s).length ≤ s.length := by unfold openR; simp
theorem openM_le (s : B) : (openM s).length ≤ s.length := by unfold openM; simp; omega

theorem prefix_any (s : B) (w : World) :
    Calls Tryz.prog 71 #[.string (ofL s), .string ⟨#[72, 84, 84, 80, 47]⟩] w fun e w' => e = .returned (.tuple #[.string (ofL (Lib.trimPrefix s [72, 84, 84, 80, 47])), .bool (Lib.hasPrefix s [72, 84, 84, 80, 47])]) ∧ w' = w :=
  Tryz.strings_CutPrefix (ofL s) ⟨#[72, 84, 84, 80, 47]⟩ w
theorem getI (l : B) (i : Nat) (h : i < (ofL l).size) : (ofL l)[i] = l.getD i 0 := by
  have := getD_eq (ofL l) i h; rw [toL_ofL] at this; exact this.symm
theorem Glob.touch {F : Nat → Prop} {w w' : World} (h : Glob w) (ht : Touch F w w') (hf : ¬ F 0) : Glob w' := by
  obtain ⟨m, hm⟩ := h; exact ⟨m, by rw [ht.cell (p := ⟨0, 0, none⟩) (lt_of_cell hm) hf]; exact hm⟩
theorem empty_no {l : B} (h : ¬ l = []) : (ofL l).toList.isEmpty = false ∧ ¬ (ofL l).toList = [] ∧ 0 < (ofL l).size := by
  rw [toL_ofL, size_ofL]; exact ⟨by simpa using h, h, List.length_pos_iff.2 h⟩
theorem nats_ne {c : UInt8} {n : Nat} (h : ¬ c = UInt8.ofNat n) (hn : n < 256) : ((c.toNat : Int) != n) = true := by
  rw [bne_iff_ne]; intro e; apply h; apply UInt8.toNat.inj; have : c.toNat = n := by omega
  rw [this, UInt8.toNat_ofNat', Nat.mod_eq_of_lt (by omega)]
set_option maxHeartbeats 8000000 in
theorem opening_any (bm : Nat) (nx hv Hv Bv : Value) (m p : ByteArray) (l k : Int) (s : ByteArray) (w : World) (hM : MC w bm nx hv m p Hv Bv l k) (hs : s.size ≤ 1048576) (hg : Glob w) (hne : ¬ 0 = bm) :
    Calls Tryz.prog 75 #[.pointer (some ⟨bm, 0, none⟩), .string s] w fun e w' => e = .returned (.int .i64 (openL s.toList)) ∧ Touch (fun j => j = bm) w w' ∧ Glob w' ∧
      (openL s.toList = 0 → MC w' bm nx hv (ofL (openM s.toList)) (ofL (openM (openR s.toList))) Hv Bv l k) := by
  have hs2 : (ofL (openR s.toList)).size ≤ 1048576 := by rw [size_ofL]; have := openR_le s.toList; rw [len_toL] at this; omega
  have hsm : (ofL (openM s.toList)).size ≤ 1048576 := by rw [size_ofL]; have := openM_le s.toList; rw [len_toL] at this; omega
  have hst : (ofL (openM (openR s.toList))).size ≤ 1048576 := by rw [size_ofL] at hs2 ⊢; have := openM_le (openR s.toList); omega
  have hsv : (ofL (openR (openR s.toList))).size ≤ 1048576 := by rw [size_ofL] at hs2 ⊢; have := openR_le (openR s.toList); omega
  have Hg := Lib.hid hg
  have Hne := Lib.hid hne
  have hr := Below.refl w.heap.size w
  have C1 := Lib.hid (fun w hg => cutM_any s hs w hg)
  have C2 := Lib.hid (fun w hg => cutM_any (ofL (openR s.toList)) hs2 w hg)
  have C3 := Lib.hid (fun w => ibyte_any 32 (ofL (openR (openR s.toList))) w)
  have C4 := Lib.hid (fun w => only_any tells2 (ofL (openM s.toList)) hsm w)
  have C5 := Lib.hid (fun w => only_any tells3 (ofL (openM (openR s.toList))) hst w)
  have C6 := Lib.hid (fun w => prefix_any (openR (openR s.toList)) w)
  rw [toL_ofL] at C2 C3 C4 C5
  rw [show (((32 : UInt8).toNat : Nat) : Int) = 32 from rfl] at C3
  have Ho : Hid (openL s.toList = if whereL [32] s.toList < s.toList.length ∧ whereL [32] (openR s.toList) < (openR s.toList).length then open3 (openM s.toList) (openM (openR s.toList)) (openR (openR s.toList)) else 400) := rfl
  generalize openL s.toList = st at Ho ⊢
  generalize openM s.toList = mm at *
  generalize openM (openR s.toList) = tt at *
  generalize openR (openR s.toList) = vv at *
  generalize openR s.toList = rr at *
  by_cases c1 : whereL [32] s.toList < s.toList.length
  case neg =>
    have Hb := Lib.hid (show st = 400 by rw [Ho.out, if_neg (by simp [c1])])
    go_enter Tryz.func75, Tryz.ntmps75; go_wp2_with first | (go_at_call 52; (first | with_reducible refine (C1.out _ (Hg.out.next hr)).mono ?_ | with_reducible refine (C2.out _ (Hg.out.next hr)).mono ?_); rintro e w4 ⟨rfl, hb4⟩; replace hr := hr.next hb4; clear hb4) | (go_at_call 74; with_reducible refine (C3.out _).mono ?_; rintro e w4 ⟨rfl, rfl⟩) | (go_at_call 59; (first | with_reducible refine (C4.out _).mono ?_ | with_reducible refine (C5.out _).mono ?_); rintro e w4 ⟨rfl, hb4⟩; replace hr := hr.next hb4; clear hb4) | (go_at_call 71; with_reducible refine (C6.out _).mono ?_; rintro e w4 ⟨rfl, rfl⟩) | (go_at_call 78; (first | with_reducible refine (D0.out _).mono ?_ | with_reducible refine (D2.out _).mono ?_); rintro e w4 ⟨rfl, rfl⟩)
    (go_ret; exact ⟨ret_int (by rw [Hb.out]; rfl), .of_below hr, Hg.out.next hr, fun h => by rw [Hb.out] at h; cases h⟩)
  by_cases c2 : whereL [32] rr < rr.length
  case neg =>
    have Hb := Lib.hid (show st = 400 by rw [Ho.out, if_neg (by simp [c2])])
    go_enter Tryz.func75, Tryz.ntmps75; go_wp2_with first | (go_at_call 52; (first | with_reducible refine (C1.out _ (Hg.out.next hr)).mono ?_ | with_reducible refine (C2.out _ (Hg.out.next hr)).mono ?_); rintro e w4 ⟨rfl, hb4⟩; replace hr := hr.next hb4; clear hb4) | (go_at_call 74; with_reducible refine (C3.out _).mono ?_; rintro e w4 ⟨rfl, rfl⟩) | (go_at_call 59; (first | with_reducible refine (C4.out _).mono ?_ | with_reducible refine (C5.out _).mono ?_); rintro e w4 ⟨rfl, hb4⟩; replace hr := hr.next hb4; clear hb4) | (go_at_call 71; with_reducible refine (C6.out _).mono ?_; rintro e w4 ⟨rfl, rfl⟩) | (go_at_call 78; (first | with_reducible refine (D0.out _).mono ?_ | with_reducible refine (D2.out _).mono ?_); rintro e w4 ⟨rfl, rfl⟩)
    (go_ret; exact ⟨ret_int (by rw [Hb.out]; rfl), .of_below hr, Hg.out.next hr, fun h => by rw [Hb.out] at h; cases h⟩)
  rw [if_pos ⟨c1, c2⟩] at Ho
  unfold open3 at Ho
  by_cases e1 : mm = []
  · have Hb := Lib.hid (show st = 400 by rw [Ho.out, if_pos (.inl e1)])
    subst e1
    have h1 : (ofL []).toList.isEmpty = true := by rw [toL_ofL]; rfl
    have h2 : (ofL []).toList = [] := by rw [toL_ofL]
    go_enter Tryz.func75, Tryz.ntmps75; go_wp2_with first | (go_at_call 52; (first | with_reducible refine (C1.out _ (Hg.out.next hr)).mono ?_ | with_reducible refine (C2.out _ (Hg.out.next hr)).mono ?_); rintro e w4 ⟨rfl, hb4⟩; replace hr := hr.next hb4; clear hb4) | (go_at_call 74; with_reducible refine (C3.out _).mono ?_; rintro e w4 ⟨rfl, rfl⟩) | (go_at_call 59; (first | with_reducible refine (C4.out _).mono ?_ | with_reducible refine (C5.out _).mono ?_); rintro e w4 ⟨rfl, hb4⟩; replace hr := hr.next hb4; clear hb4) | (go_at_call 71; with_reducible refine (C6.out _).mono ?_; rintro e w4 ⟨rfl, rfl⟩) | (go_at_call 78; (first | with_reducible refine (D0.out _).mono ?_ | with_reducible refine (D2.out _).mono ?_); rintro e w4 ⟨rfl, rfl⟩)
    (go_ret; exact ⟨ret_int (by rw [Hb.out]; rfl), .of_below hr, Hg.out.next hr, fun h => by rw [Hb.out] at h; cases h⟩)
  obtain ⟨m1, m2, m3⟩ := empty_no e1
  by_cases e2 : tt = []
  · have Hb := Lib.hid (show st = 400 by rw [Ho.out, if_pos (.inr (.inl e2))])
    subst e2
    have h1 : (ofL []).toList.isEmpty = true := by rw [toL_ofL]; rfl
    have h2 : (ofL []).toList = [] := by rw [toL_ofL]
    go_enter Tryz.func75, Tryz.ntmps75; go_wp2_with first | (go_at_call 52; (first | with_reducible refine (C1.out _ (Hg.out.next hr)).mono ?_ | with_reducible refine (C2.out _ (Hg.out.next hr)).mono ?_); rintro e w4 ⟨rfl, hb4⟩; replace hr := hr.next hb4; clear hb4) | (go_at_call 74; with_reducible refine (C3.out _).mono ?_; rintro e w4 ⟨rfl, rfl⟩) | (go_at_call 59; (first | with_reducible refine (C4.out _).mono ?_ | with_reducible refine (C5.out _).mono ?_); rintro e w4 ⟨rfl, hb4⟩; replace hr := hr.next hb4; clear hb4) | (go_at_call 71; with_reducible refine (C6.out _).mono ?_; rintro e w4 ⟨rfl, rfl⟩) | (go_at_call 78; (first | with_reducible refine (D0.out _).mono ?_ | with_reducible refine (D2.out _).mono ?_); rintro e w4 ⟨rfl, rfl⟩)
    (go_ret; exact ⟨ret_int (by rw [Hb.out]; rfl), .of_below hr, Hg.out.next hr, fun h => by rw [Hb.out] at h; cases h⟩)
  obtain ⟨t1, t2, t3⟩ := empty_no e2
  by_cases e3 : vv = []
  · have Hb := Lib.hid (show st = 400 by rw [Ho.out, if_pos (.inr (.inr (.inl e3)))])
    subst e3
    have h1 : (ofL []).toList.isEmpty = true := by rw [toL_ofL]; rfl
    have h2 : (ofL []).toList = [] := by rw [toL_ofL]
    go_enter Tryz.func75, Tryz.ntmps75; go_wp2_with first | (go_at_call 52; (first | with_reducible refine (C1.out _ (Hg.out.next hr)).mono ?_ | with_reducible refine (C2.out _ (Hg.out.next hr)).mono ?_); rintro e w4 ⟨rfl, hb4⟩; replace hr := hr.next hb4; clear hb4) | (go_at_call 74; with_reducible refine (C3.out _).mono ?_; rintro e w4 ⟨rfl, rfl⟩) | (go_at_call 59; (first | with_reducible refine (C4.out _).mono ?_ | with_reducible refine (C5.out _).mono ?_); rintro e w4 ⟨rfl, hb4⟩; replace hr := hr.next hb4; clear hb4) | (go_at_call 71; with_reducible refine (C6.out _).mono ?_; rintro e w4 ⟨rfl, rfl⟩) | (go_at_call 78; (first | with_reducible refine (D0.out _).mono ?_ | with_reducible refine (D2.out _).mono ?_); rintro e w4 ⟨rfl, rfl⟩)
    (go_ret; exact ⟨ret_int (by rw [Hb.out]; rfl), .of_below hr, Hg.out.next hr, fun h => by rw [Hb.out] at h; cases h⟩)
  obtain ⟨v1, v2, v3⟩ := empty_no e3
  by_cases e4 : whereL [32] vv < vv.length
  · have Hb := Lib.hid (show st = 400 by rw [Ho.out, if_pos (.inr (.inr (.inr e4)))])
    rw [size_ofL, if_pos e4] at C3
    go_enter Tryz.func75, Tryz.ntmps75; go_wp2_with first | (go_at_call 52; (first | with_reducible refine (C1.out _ (Hg.out.next hr)).mono ?_ | with_reducible refine (C2.out _ (Hg.out.next hr)).mono ?_); rintro e w4 ⟨rfl, hb4⟩; replace hr := hr.next hb4; clear hb4) | (go_at_call 74; with_reducible refine (C3.out _).mono ?_; rintro e w4 ⟨rfl, rfl⟩) | (go_at_call 59; (first | with_reducible refine (C4.out _).mono ?_ | with_reducible refine (C5.out _).mono ?_); rintro e w4 ⟨rfl, hb4⟩; replace hr := hr.next hb4; clear hb4) | (go_at_call 71; with_reducible refine (C6.out _).mono ?_; rintro e w4 ⟨rfl, rfl⟩) | (go_at_call 78; (first | with_reducible refine (D0.out _).mono ?_ | with_reducible refine (D2.out _).mono ?_); rintro e w4 ⟨rfl, rfl⟩)
    (go_ret; exact ⟨ret_int (by rw [Hb.out]; rfl), .of_below hr, Hg.out.next hr, fun h => by rw [Hb.out] at h; cases h⟩)
  rw [size_ofL, if_neg e4] at C3
  rw [if_neg (fun h => by rcases h with h | h | h | h <;> contradiction)] at Ho
  by_cases e5 : 16 < mm.length
  · have Hb := Lib.hid (show st = 400 by rw [Ho.out, if_pos (.inl e5)])
    have hz : 16 < (ofL mm).size := by rw [size_ofL]; exact e5
    go_enter Tryz.func75, Tryz.ntmps75; go_wp2_with first | (go_at_call 52; (first | with_reducible refine (C1.out _ (Hg.out.next hr)).mono ?_ | with_reducible refine (C2.out _ (Hg.out.next hr)).mono ?_); rintro e w4 ⟨rfl, hb4⟩; replace hr := hr.next hb4; clear hb4) | (go_at_call 74; with_reducible refine (C3.out _).mono ?_; rintro e w4 ⟨rfl, rfl⟩) | (go_at_call 59; (first | with_reducible refine (C4.out _).mono ?_ | with_reducible refine (C5.out _).mono ?_); rintro e w4 ⟨rfl, hb4⟩; replace hr := hr.next hb4; clear hb4) | (go_at_call 71; with_reducible refine (C6.out _).mono ?_; rintro e w4 ⟨rfl, rfl⟩) | (go_at_call 78; (first | with_reducible refine (D0.out _).mono ?_ | with_reducible refine (D2.out _).mono ?_); rintro e w4 ⟨rfl, rfl⟩)
    (go_ret; exact ⟨ret_int (by rw [Hb.out]; rfl), .of_below hr, Hg.out.next hr, fun h => by rw [Hb.out] at h; cases h⟩)
  have hz5 : (ofL mm).size ≤ 16 := by rw [size_ofL]; omega
  cases e6 : mm.all (isB 2)
  · have Hb := Lib.hid (show st = 400 by rw [Ho.out, if_pos (.inr (.inl e6))])
    rw [e6] at C4
    go_enter Tryz.func75, Tryz.ntmps75; go_wp2_with first | (go_at_call 52; (first | with_reducible refine (C1.out _ (Hg.out.next hr)).mono ?_ | with_reducible refine (C2.out _ (Hg.out.next hr)).mono ?_); rintro e w4 ⟨rfl, hb4⟩; replace hr := hr.next hb4; clear hb4) | (go_at_call 74; with_reducible refine (C3.out _).mono ?_; rintro e w4 ⟨rfl, rfl⟩) | (go_at_call 59; (first | with_reducible refine (C4.out _).mono ?_ | with_reducible refine (C5.out _).mono ?_); rintro e w4 ⟨rfl, hb4⟩; replace hr := hr.next hb4; clear hb4) | (go_at_call 71; with_reducible refine (C6.out _).mono ?_; rintro e w4 ⟨rfl, rfl⟩) | (go_at_call 78; (first | with_reducible refine (D0.out _).mono ?_ | with_reducible refine (D2.out _).mono ?_); rintro e w4 ⟨rfl, rfl⟩)
    (go_ret; exact ⟨ret_int (by rw [Hb.out]; rfl), .of_below hr, Hg.out.next hr, fun h => by rw [Hb.out] at h; cases h⟩)
  rw [e6] at C4
  by_cases e7 : tt.getD 0 0 = 47
  case neg =>
    have Hb := Lib.hid (show st = 400 by rw [Ho.out, if_pos (.inr (.inr (.inl e7)))])
    have hz7 : (((ofL tt)[0].toNat : Int) != 47) = true := by rw [getI]; exact nats_ne e7 (by decide)
    go_enter Tryz.func75, Tryz.ntmps75; go_wp2_with first | (go_at_call 52; (first | with_reducible refine (C1.out _ (Hg.out.next hr)).mono ?_ | with_reducible refine (C2.out _ (Hg.out.next hr)).mono ?_); rintro e w4 ⟨rfl, hb4⟩; replace hr := hr.next hb4; clear hb4) | (go_at_call 74; with_reducible refine (C3.out _).mono ?_; rintro e w4 ⟨rfl, rfl⟩) | (go_at_call 59; (first | with_reducible refine (C4.out _).mono ?_ | with_reducible refine (C5.out _).mono ?_); rintro e w4 ⟨rfl, hb4⟩; replace hr := hr.next hb4; clear hb4) | (go_at_call 71; with_reducible refine (C6.out _).mono ?_; rintro e w4 ⟨rfl, rfl⟩) | (go_at_call 78; (first | with_reducible refine (D0.out _).mono ?_ | with_reducible refine (D2.out _).mono ?_); rintro e w4 ⟨rfl, rfl⟩)
    (go_ret; exact ⟨ret_int (by rw [Hb.out]; rfl), .of_below hr, Hg.out.next hr, fun h => by rw [Hb.out] at h; cases h⟩)
  have hz7 : (((ofL tt)[0].toNat : Int) != 47) = false := by rw [getI, e7]; rfl
  cases e8 : tt.all (isB 3)
  · have Hb := Lib.hid (show st = 400 by rw [Ho.out, if_pos (.inr (.inr (.inr e8)))])
    rw [e8] at C5
    go_enter Tryz.func75, Tryz.ntmps75; go_wp2_with first | (go_at_call 52; (first | with_reducible refine (C1.out _ (Hg.out.next hr)).mono ?_ | with_reducible refine (C2.out _ (Hg.out.next hr)).mono ?_); rintro e w4 ⟨rfl, hb4⟩; replace hr := hr.next hb4; clear hb4) | (go_at_call 74; with_reducible refine (C3.out _).mono ?_; rintro e w4 ⟨rfl, rfl⟩) | (go_at_call 59; (first | with_reducible refine (C4.out _).mono ?_ | with_reducible refine (C5.out _).mono ?_); rintro e w4 ⟨rfl, hb4⟩; replace hr := hr.next hb4; clear hb4) | (go_at_call 71; with_reducible refine (C6.out _).mono ?_; rintro e w4 ⟨rfl, rfl⟩) | (go_at_call 78; (first | with_reducible refine (D0.out _).mono ?_ | with_reducible refine (D2.out _).mono ?_); rintro e w4 ⟨rfl, rfl⟩)
    (go_ret; exact ⟨ret_int (by rw [Hb.out]; rfl), .of_below hr, Hg.out.next hr, fun h => by rw [Hb.out] at h; cases h⟩)
  rw [e8] at C5
  rw [if_neg (fun h => by rcases h with h | h | h | h <;> simp_all)] at Ho
  cases e9 : Lib.hasPrefix vv [72, 84, 84, 80, 47]
  · have Hb := Lib.hid (show st = 400 by rw [Ho.out, if_pos e9])
    rw [e9] at C6
    go_enter Tryz.func75, Tryz.ntmps75; go_wp2_with first | (go_at_call 52; (first | with_reducible refine (C1.out _ (Hg.out.next hr)).mono ?_ | with_reducible refine (C2.out _ (Hg.out.next hr)).mono ?_); rintro e w4 ⟨rfl, hb4⟩; replace hr := hr.next hb4; clear hb4) | (go_at_call 74; with_reducible refine (C3.out _).mono ?_; rintro e w4 ⟨rfl, rfl⟩) | (go_at_call 59; (first | with_reducible refine (C4.out _).mono ?_ | with_reducible refine (C5.out _).mono ?_); rintro e w4 ⟨rfl, hb4⟩; replace hr := hr.next hb4; clear hb4) | (go_at_call 71; with_reducible refine (C6.out _).mono ?_; rintro e w4 ⟨rfl, rfl⟩) | (go_at_call 78; (first | with_reducible refine (D0.out _).mono ?_ | with_reducible refine (D2.out _).mono ?_); rintro e w4 ⟨rfl, rfl⟩)
    (go_ret; exact ⟨ret_int (by rw [Hb.out]; rfl), .of_below hr, Hg.out.next hr, fun h => by rw [Hb.out] at h; cases h⟩)
  rw [e9] at C6
  rw [if_neg (by simp [e9])] at Ho
  generalize Lib.trimPrefix vv [72, 84, 84, 80, 47] = nn at *
  unfold open4 at Ho
  by_cases e10 : nn.length = 3
  case neg =>
    have Hb := Lib.hid (show st = 400 by rw [Ho.out, if_pos (.inl e10)])
    have hz : (((ofL nn).size : Int) != 3) = true := by rw [size_ofL]; simp; omega
    go_enter Tryz.func75, Tryz.ntmps75; go_wp2_with first | (go_at_call 52; (first | with_reducible refine (C1.out _ (Hg.out.next hr)).mono ?_ | with_reducible refine (C2.out _ (Hg.out.next hr)).mono ?_); rintro e w4 ⟨rfl, hb4⟩; replace hr := hr.next hb4; clear hb4) | (go_at_call 74; with_reducible refine (C3.out _).mono ?_; rintro e w4 ⟨rfl, rfl⟩) | (go_at_call 59; (first | with_reducible refine (C4.out _).mono ?_ | with_reducible refine (C5.out _).mono ?_); rintro e w4 ⟨rfl, hb4⟩; replace hr := hr.next hb4; clear hb4) | (go_at_call 71; with_reducible refine (C6.out _).mono ?_; rintro e w4 ⟨rfl, rfl⟩) | (go_at_call 78; (first | with_reducible refine (D0.out _).mono ?_ | with_reducible refine (D2.out _).mono ?_); rintro e w4 ⟨rfl, rfl⟩)
    (go_ret; exact ⟨ret_int (by rw [Hb.out]; rfl), .of_below hr, Hg.out.next hr, fun h => by rw [Hb.out] at h; cases h⟩)
  have hz10 : (ofL nn).size = 3 := by rw [size_ofL]; exact e10
  have D0 := Lib.hid (fun w => digitB (ofL nn)[0] w)
  have D2 := Lib.hid (fun w => digitB (ofL nn)[2] w)
  have hz12 : Hid ((ofL nn)[1] = nn.getD 1 0) := getI _ _ _
  have hz13 : Hid ((ofL nn)[0] = nn.getD 0 0) := getI _ _ _
  have hz14 : Hid ((ofL nn)[2] = nn.getD 2 0) := getI _ _ _
  cases e11 : isB 1 (ofL nn)[0]
  · have Hb := Lib.hid (show st = 400 by rw [Ho.out, if_pos (.inr (.inl (by rw [← hz13.out, e11])))])
    rw [e11] at D0
    go_enter Tryz.func75, Tryz.ntmps75; go_wp2_with first | (go_at_call 52; (first | with_reducible refine (C1.out _ (Hg.out.next hr)).mono ?_ | with_reducible refine (C2.out _ (Hg.out.next hr)).mono ?_); rintro e w4 ⟨rfl, hb4⟩; replace hr := hr.next hb4; clear hb4) | (go_at_call 74; with_reducible refine (C3.out _).mono ?_; rintro e w4 ⟨rfl, rfl⟩) | (go_at_call 59; (first | with_reducible refine (C4.out _).mono ?_ | with_reducible refine (C5.out _).mono ?_); rintro e w4 ⟨rfl, hb4⟩; replace hr := hr.next hb4; clear hb4) | (go_at_call 71; with_reducible refine (C6.out _).mono ?_; rintro e w4 ⟨rfl, rfl⟩) | (go_at_call 78; (first | with_reducible refine (D0.out _).mono ?_ | with_reducible refine (D2.out _).mono ?_); rintro e w4 ⟨rfl, rfl⟩)
    (go_ret; exact ⟨ret_int (by rw [Hb.out]; rfl), .of_below hr, Hg.out.next hr, fun h => by rw [Hb.out] at h; cases h⟩)
  rw [e11] at D0
  by_cases e12 : nn.getD 1 0 = 46
  case neg =>
    have Hb := Lib.hid (show st = 400 by rw [Ho.out, if_pos (.inr (.inr (.inl e12)))])
    have hz : (((ofL nn)[1].toNat : Int) != 46) = true := by rw [hz12.out]; exact nats_ne e12 (by decide)
    go_enter Tryz.func75, Tryz.ntmps75; go_wp2_with first | (go_at_call 52; (first | with_reducible refine (C1.out _ (Hg.out.next hr)).mono ?_ | with_reducible refine (C2.out _ (Hg.out.next hr)).mono ?_); rintro e w4 ⟨rfl, hb4⟩; replace hr := hr.next hb4; clear hb4) | (go_at_call 74; with_reducible refine (C3.out _).mono ?_; rintro e w4 ⟨rfl, rfl⟩) | (go_at_call 59; (first | with_reducible refine (C4.out _).mono ?_ | with_reducible refine (C5.out _).mono ?_); rintro e w4 ⟨rfl, hb4⟩; replace hr := hr.next hb4; clear hb4) | (go_at_call 71; with_reducible refine (C6.out _).mono ?_; rintro e w4 ⟨rfl, rfl⟩) | (go_at_call 78; (first | with_reducible refine (D0.out _).mono ?_ | with_reducible refine (D2.out _).mono ?_); rintro e w4 ⟨rfl, rfl⟩)
    (go_ret; exact ⟨ret_int (by rw [Hb.out]; rfl), .of_below hr, Hg.out.next hr, fun h => by rw [Hb.out] at h; cases h⟩)
  have hz15 : (((ofL nn)[1].toNat : Int) != 46) = false := by rw [hz12.out, e12]; rfl
  cases e13 : isB 1 (ofL nn)[2]
  · have Hb := Lib.hid (show st = 400 by rw [Ho.out, if_pos (.inr (.inr (.inr (by rw [← hz14.out, e13]))))])
    rw [e13] at D2
    go_enter Tryz.func75, Tryz.ntmps75; go_wp2_with first | (go_at_call 52; (first | with_reducible refine (C1.out _ (Hg.out.next hr)).mono ?_ | with_reducible refine (C2.out _ (Hg.out.next hr)).mono ?_); rintro e w4 ⟨rfl, hb4⟩; replace hr := hr.next hb4; clear hb4) | (go_at_call 74; with_reducible refine (C3.out _).mono ?_; rintro e w4 ⟨rfl, rfl⟩) | (go_at_call 59; (first | with_reducible refine (C4.out _).mono ?_ | with_reducible refine (C5.out _).mono ?_); rintro e w4 ⟨rfl, hb4⟩; replace hr := hr.next hb4; clear hb4) | (go_at_call 71; with_reducible refine (C6.out _).mono ?_; rintro e w4 ⟨rfl, rfl⟩) | (go_at_call 78; (first | with_reducible refine (D0.out _).mono ?_ | with_reducible refine (D2.out _).mono ?_); rintro e w4 ⟨rfl, rfl⟩)
    (go_ret; exact ⟨ret_int (by rw [Hb.out]; rfl), .of_below hr, Hg.out.next hr, fun h => by rw [Hb.out] at h; cases h⟩)
  rw [e13] at D2
  rw [if_neg (fun h => by rcases h with h | h | h | h; exact h e10; rw [← hz13.out, e11] at h; cases h; exact h e12; rw [← hz14.out, e13] at h; cases h)] at Ho
  clear hz12 hz13 hz14 e11 e12 e13 e9 e8 e7 e6 e5 e4 e3 e2 e1
  have hM2 := hM
  have k2 := hM2.c2
  have f2 := hM2.fz 2
  have k3 := hM2.c3
  have f3 := hM2.fz 3
  by_cases g1 : nn = [49, 46, 49]
  case neg =>
    have Hb := Lib.hid (show st = 505 by rw [Ho.out, if_pos g1])
    have hz16 : ((ofL nn).toList == [49, 46, 49]) = false := by rw [toL_ofL]; simpa using g1
    go_enter Tryz.func75, Tryz.ntmps75; go_wp2_with first | (go_at_call 52; (first | with_reducible refine (C1.out _ (Hg.out.next hr)).mono ?_ | with_reducible refine (C2.out _ (Hg.out.next hr)).mono ?_); rintro e w4 ⟨rfl, hb4⟩; replace hr := hr.next hb4; replace hM2 := hM2.below hb4; replace k2 := hM2.c2; replace f2 := hM2.fz 2; replace k3 := hM2.c3; replace f3 := hM2.fz 3; clear hb4) | (go_at_call 74; with_reducible refine (C3.out _).mono ?_; rintro e w4 ⟨rfl, rfl⟩) | (go_at_call 59; (first | with_reducible refine (C4.out _).mono ?_ | with_reducible refine (C5.out _).mono ?_); rintro e w4 ⟨rfl, hb4⟩; replace hr := hr.next hb4; replace hM2 := hM2.below hb4; replace k2 := hM2.c2; replace f2 := hM2.fz 2; replace k3 := hM2.c3; replace f3 := hM2.fz 3; clear hb4) | (go_at_call 71; with_reducible refine (C6.out _).mono ?_; rintro e w4 ⟨rfl, rfl⟩) | (go_at_call 78; (first | with_reducible refine (D0.out _).mono ?_ | with_reducible refine (D2.out _).mono ?_); rintro e w4 ⟨rfl, rfl⟩)
    all_goals (go_ret; exact ⟨ret_int (by rw [Hb.out]; rfl), (((Touch.of_below (F := fun j => j = bm) hr).setCell (p := ⟨bm, 2, none⟩) rfl (.string (ofL mm))).setCell (p := ⟨bm, 3, none⟩) rfl (.string (ofL tt))), Hg.out.touch (((Touch.of_below (F := fun j => j = bm) hr).setCell (p := ⟨bm, 2, none⟩) rfl (.string (ofL mm))).setCell (p := ⟨bm, 3, none⟩) rfl (.string (ofL tt))) (fun e => Hne.out e), fun h => by rw [Hb.out] at h; cases h⟩)
  rw [if_neg (fun h => h g1)] at Ho
  have hz16 : ((ofL nn).toList == [49, 46, 49]) = true := by rw [toL_ofL, g1]; rfl
  clear g1
  by_cases g2 : mm ≠ [71, 69, 84] ∧ mm ≠ [80, 85, 84] ∧ mm ≠ [80, 79, 83, 84] ∧ mm ≠ [68, 69, 76, 69, 84, 69]
  · have Hb := Lib.hid (show st = 501 by rw [Ho.out, if_pos g2])
    obtain ⟨g3, g4, g5, g6⟩ := g2
    have y3 : ((ofL mm).toList == [71, 69, 84]) = false := by rw [toL_ofL]; simpa using g3
    have y4 : ((ofL mm).toList == [80, 85, 84]) = false := by rw [toL_ofL]; simpa using g4
    have y5 : ((ofL mm).toList == [80, 79, 83, 84]) = false := by rw [toL_ofL]; simpa using g5
    have y6 : ((ofL mm).toList == [68, 69, 76, 69, 84, 69]) = false := by rw [toL_ofL]; simpa using g6
    clear g3 g4 g5 g6
    go_enter Tryz.func75, Tryz.ntmps75; go_wp2_with first | (go_at_call 52; (first | with_reducible refine (C1.out _ (Hg.out.next hr)).mono ?_ | with_reducible refine (C2.out _ (Hg.out.next hr)).mono ?_); rintro e w4 ⟨rfl, hb4⟩; replace hr := hr.next hb4; replace hM2 := hM2.below hb4; replace k2 := hM2.c2; replace f2 := hM2.fz 2; replace k3 := hM2.c3; replace f3 := hM2.fz 3; clear hb4) | (go_at_call 74; with_reducible refine (C3.out _).mono ?_; rintro e w4 ⟨rfl, rfl⟩) | (go_at_call 59; (first | with_reducible refine (C4.out _).mono ?_ | with_reducible refine (C5.out _).mono ?_); rintro e w4 ⟨rfl, hb4⟩; replace hr := hr.next hb4; replace hM2 := hM2.below hb4; replace k2 := hM2.c2; replace f2 := hM2.fz 2; replace k3 := hM2.c3; replace f3 := hM2.fz 3; clear hb4) | (go_at_call 71; with_reducible refine (C6.out _).mono ?_; rintro e w4 ⟨rfl, rfl⟩) | (go_at_call 78; (first | with_reducible refine (D0.out _).mono ?_ | with_reducible refine (D2.out _).mono ?_); rintro e w4 ⟨rfl, rfl⟩)
    (go_ret; exact ⟨ret_int (by rw [Hb.out]; rfl), (((Touch.of_below (F := fun j => j = bm) hr).setCell (p := ⟨bm, 2, none⟩) rfl (.string (ofL mm))).setCell (p := ⟨bm, 3, none⟩) rfl (.string (ofL tt))), Hg.out.touch (((Touch.of_below (F := fun j => j = bm) hr).setCell (p := ⟨bm, 2, none⟩) rfl (.string (ofL mm))).setCell (p := ⟨bm, 3, none⟩) rfl (.string (ofL tt))) (fun e => Hne.out e), fun h => by rw [Hb.out] at h; cases h⟩)
  rw [if_neg g2] at Ho
  have hgm : mm = [71, 69, 84] ∨ mm = [80, 85, 84] ∨ mm = [80, 79, 83, 84] ∨ mm = [68, 69, 76, 69, 84, 69] := by
    by_cases a1 : mm = [71, 69, 84]; exact .inl a1
    by_cases a2 : mm = [80, 85, 84]; exact .inr (.inl a2)
    by_cases a3 : mm = [80, 79, 83, 84]; exact .inr (.inr (.inl a3))
    by_cases a4 : mm = [68, 69, 76, 69, 84, 69]; exact .inr (.inr (.inr a4))
    exact absurd ⟨a1, a2, a3, a4⟩ g2
  clear g2
  have hgm' : ((ofL mm).toList == [71, 69, 84]) = true ∨ (((ofL mm).toList == [71, 69, 84]) = false ∧ ((ofL mm).toList == [80, 85, 84]) = true) ∨ (((ofL mm).toList == [71, 69, 84]) = false ∧ ((ofL mm).toList == [80, 85, 84]) = false ∧ ((ofL mm).toList == [80, 79, 83, 84]) = true) ∨
      (((ofL mm).toList == [71, 69, 84]) = false ∧ ((ofL mm).toList == [80, 85, 84]) = false ∧ ((ofL mm).toList == [80, 79, 83, 84]) = false ∧ ((ofL mm).toList == [68, 69, 76, 69, 84, 69]) = true) := by
    rw [toL_ofL]
    rcases hgm with rfl | rfl | rfl | rfl
    exact .inl rfl
    exact .inr (.inl ⟨rfl, rfl⟩)
    exact .inr (.inr (.inl ⟨rfl, rfl, rfl⟩))
    exact .inr (.inr (.inr ⟨rfl, rfl, rfl, rfl⟩))
  clear hgm
  by_cases g7 : 1024 < tt.length
  · have Hb := Lib.hid (show st = 414 by rw [Ho.out, if_pos g7])
    have hz17 : 1024 < (ofL tt).size := by rw [size_ofL]; exact g7
    clear g7
    rcases hgm' with h1 | ⟨h1, h2⟩ | ⟨h1, h2, h3⟩ | ⟨h1, h2, h3, h4⟩
    all_goals
      go_enter Tryz.func75, Tryz.ntmps75; go_wp2_with first | (go_at_call 52; (first | with_reducible refine (C1.out _ (Hg.out.next hr)).mono ?_ | with_reducible refine (C2.out _ (Hg.out.next hr)).mono ?_); rintro e w4 ⟨rfl, hb4⟩; replace hr := hr.next hb4; replace hM2 := hM2.below hb4; replace k2 := hM2.c2; replace f2 := hM2.fz 2; replace k3 := hM2.c3; replace f3 := hM2.fz 3; clear hb4) | (go_at_call 74; with_reducible refine (C3.out _).mono ?_; rintro e w4 ⟨rfl, rfl⟩) | (go_at_call 59; (first | with_reducible refine (C4.out _).mono ?_ | with_reducible refine (C5.out _).mono ?_); rintro e w4 ⟨rfl, hb4⟩; replace hr := hr.next hb4; replace hM2 := hM2.below hb4; replace k2 := hM2.c2; replace f2 := hM2.fz 2; replace k3 := hM2.c3; replace f3 := hM2.fz 3; clear hb4) | (go_at_call 71; with_reducible refine (C6.out _).mono ?_; rintro e w4 ⟨rfl, rfl⟩) | (go_at_call 78; (first | with_reducible refine (D0.out _).mono ?_ | with_reducible refine (D2.out _).mono ?_); rintro e w4 ⟨rfl, rfl⟩)
      (go_ret; exact ⟨ret_int (by rw [Hb.out]; rfl), (((Touch.of_below (F := fun j => j = bm) hr).setCell (p := ⟨bm, 2, none⟩) rfl (.string (ofL mm))).setCell (p := ⟨bm, 3, none⟩) rfl (.string (ofL tt))), Hg.out.touch (((Touch.of_below (F := fun j => j = bm) hr).setCell (p := ⟨bm, 2, none⟩) rfl (.string (ofL mm))).setCell (p := ⟨bm, 3, none⟩) rfl (.string (ofL tt))) (fun e => Hne.out e), fun h => by rw [Hb.out] at h; cases h⟩)
  have Hb := Lib.hid (show st = 0 by rw [Ho.out, if_neg g7])
  have hz17 : (ofL tt).size ≤ 1024 := by rw [size_ofL]; omega
  clear g7
  rcases hgm' with h1 | ⟨h1, h2⟩ | ⟨h1, h2, h3⟩ | ⟨h1, h2, h3, h4⟩
  all_goals
    go_enter Tryz.func75, Tryz.ntmps75; go_wp2_with first | (go_at_call 52; (first | with_reducible refine (C1.out _ (Hg.out.next hr)).mono ?_ | with_reducible refine (C2.out _ (Hg.out.next hr)).mono ?_); rintro e w4 ⟨rfl, hb4⟩; replace hr := hr.next hb4; replace hM2 := hM2.below hb4; replace k2 := hM2.c2; replace f2 := hM2.fz 2; replace k3 := hM2.c3; replace f3 := hM2.fz 3; clear hb4) | (go_at_call 74; with_reducible refine (C3.out _).mono ?_; rintro e w4 ⟨rfl, rfl⟩) | (go_at_call 59; (first | with_reducible refine (C4.out _).mono ?_ | with_reducible refine (C5.out _).mono ?_); rintro e w4 ⟨rfl, hb4⟩; replace hr := hr.next hb4; replace hM2 := hM2.below hb4; replace k2 := hM2.c2; replace f2 := hM2.fz 2; replace k3 := hM2.c3; replace f3 := hM2.fz 3; clear hb4) | (go_at_call 71; with_reducible refine (C6.out _).mono ?_; rintro e w4 ⟨rfl, rfl⟩) | (go_at_call 78; (first | with_reducible refine (D0.out _).mono ?_ | with_reducible refine (D2.out _).mono ?_); rintro e w4 ⟨rfl, rfl⟩)
    (go_ret; exact ⟨ret_int (by rw [Hb.out]; rfl), (((Touch.of_below (F := fun j => j = bm) hr).setCell (p := ⟨bm, 2, none⟩) rfl (.string (ofL mm))).setCell (p := ⟨bm, 3, none⟩) rfl (.string (ofL tt))), Hg.out.touch (((Touch.of_below (F := fun j => j = bm) hr).setCell (p := ⟨bm, 2, none⟩) rfl (.string (ofL mm))).setCell (p := ⟨bm, 3, none⟩) rfl (.string (ofL tt))) (fun e => Hne.out e), fun _ => (hM2.set2 _).set3 _⟩)
end Go.Proofs.YtgdelmkgdfhdpaaGreatDoor
namespace Go.Proofs.YtgdelmkgdfhdpaaGreatDoor
open Go.RowKit
set_option linter.unusedVariables false
set_option linter.unusedSimpArgs false

/-- The new row lies where the old one lay, or is new. -/
def Lies (w : World) (v v' : Value) : Prop := ∀ k, v'.ownBlock = some k → v.ownBlock = some k ∨ w.heap.size ≤ k
theorem lies_of {w : World} {x : Obj} {v v' : Value} (h : v'.ownBlock = v.ownBlock ∨ v'.ownBlock = some (w.alloc x).heap.size) : Lies w v v' := by
  intro k hk
  rcases h with h | h
  · exact .inl (h ▸ hk)
  · rw [h] at hk; cases hk; right; simp
theorem touch_push {w0 w' : World} {x : Obj} {v : Value} (hg : (w0.alloc x).grownBy w' v.ownBlock) : Touch (fun k => v.ownBlock = some k) w0 w' :=
  ((Touch.of_below ((Below.refl w0.heap.size w0).alloc (Nat.le_refl _) x)).grown hg fun k hk => hk)

theorem wpList_pushAt {P : Program} (w0 : World) {ops : Array Oper} {rest : List Oper} {o : Oper} {a : Act} {Q : Exit → Act → World → Prop} (hgd : o.guard = none) (s x : Operand) (t : TypeId)
    (ho : o.op = .call { callee := .builtin .append, args := #[s, x], argTypes := #[t, t] })
    {e : TypeId} {z : Value} {size bytes : Nat} (hrow : Row P t e z size bytes)
    (v : Value) (n : Nat) (xs : List Value) (hs : a.eval s = v) (hown : w0.ownsRow 0 e size v n xs)
    (news : List Value) (g : Nat) (hx : a.eval x = .slice (some ⟨g, 0, none⟩) 1 1) (hg : g = w0.heap.size) (hl : news.length = size) (h1 : ∀ u ∈ news, u.oneCell' = true)
    (hbytes : (n + 1) * bytes ≤ 140737488355328)
    (h : ∀ v' w', w'.ownsRow 0 e size v' (n + 1) (xs ++ news) → Touch (fun k => v.ownBlock = some k) w0 w' → Lies w0 v v' → wpList P ops Q rest (a.put o.dst v') w') :
    wpList P ops Q (o :: rest) a (w0.alloc (.cells news.toArray e)) := by
  obtain ⟨ht, ⟨i, hi, hz, hsize, hby⟩, hzs, hsz, hbz⟩ := hrow
  subst hg
  have hle : n + 1 ≤ (n + 1) * bytes := Nat.le_mul_of_pos_right _ hbz
  refine wpList_append_own_at _ hgd s x t ho 0 e i z size bytes ht hi hz hsize hby hzs hsz v n xs hs (hown.alloc _) ⟨w0.heap.size, 0, none⟩ 1 1 news hx (by rw [hl, Nat.one_mul]) cells_new h1
    (by unfold maxLen; omega) hbytes (Nat.zero_le _) fun v' w' h2 h3 h4 h5 => ?_
  exact h v' w' h2 (touch_push h3) (lies_of h5)

theorem step_pushAt {P : Program} {w0 : World} {ops : Array Oper} {o : Oper} {a : Act} {K : Act → World → Prop} {Q : Exit → Act → World → Prop} {E : Prop} (hgd : o.guard = none) (s x : Operand) (t : TypeId)
    (ho : o.op = .call { callee := .builtin .append, args := #[s, x], argTypes := #[t, t] })
    {e : TypeId} {z : Value} {size bytes : Nat} (hrow : Row P t e z size bytes)
    (v : Value) (n : Nat) (xs : List Value) (hs : a.eval s = v) (hown : w0.ownsRow 0 e size v n xs)
    (news : List Value) (g : Nat) (hx : a.eval x = .slice (some ⟨g, 0, none⟩) 1 1) (hg : g = w0.heap.size) (hl : news.length = size) (h1 : ∀ u ∈ news, u.oneCell' = true)
    (hbytes : (n + 1) * bytes ≤ 140737488355328)
    (h : ∀ v' w', w'.ownsRow 0 e size v' (n + 1) (xs ++ news) → Touch (fun k => v.ownBlock = some k) w0 w' → Lies w0 v v' → K (a.put o.dst v') w') :
    if Region.wanted o (yielded ops a.tmps) = true then Oper.wp P o a (w0.alloc (.cells news.toArray e)) K Q else E := by
  have hw : Region.wanted o (yielded ops a.tmps) = true := by simp [Region.wanted, hgd]
  rw [if_pos hw]
  subst hg
  obtain ⟨ht, ⟨i, hi, hz, hsize, hby⟩, hzs, hsz, hbz⟩ := hrow
  have hle : n + 1 ≤ (n + 1) * bytes := Nat.le_mul_of_pos_right _ hbz
  obtain ⟨v', w', hr, h2, h3, h4, h5⟩ := run_append_own_at (P := P) (w0.alloc (.cells news.toArray e)) 0 t o.type e i z size bytes ht hi hz hsize hby hzs hsz v n xs (hown.alloc _) ⟨w0.heap.size, 0, none⟩ 1 1 news (by rw [hl, Nat.one_mul]) cells_new h1 (by unfold maxLen; omega) hbytes (Nat.zero_le _)
  unfold Oper.wp execOp
  simp only [ho, resolve, invoke, builtin, Sem.run_bind, Sem.run_pure, Result.andThen_ok, List.map_toArray, List.map_cons, List.map_nil, hs, hx, hr]
  exact h v' w' h2 (touch_push h3) (lies_of h5)
theorem Lies.refl {w : World} (v : Value) : Lies w v v := fun k hk => .inl hk
end Go.Proofs.YtgdelmkgdfhdpaaGreatDoor
namespace Go.Proofs.YtgdelmkgdfhdpaaGreatDoor
open Go.RowKit
set_option linter.unusedVariables false
set_option linter.unusedSimpArgs false
set_option maxRecDepth 100000

def fName (s : B) : B := s.take (whereL [58] s)
def fRest (s : B) : B := s.drop (whereL [58] s + 1)
def fOk (s : B) : Bool := decide (whereL [58] s < s.length) && tokenL (fName s) && valueL (bareL (fRest s))
def fOf (s : B) : B × B := (lowL (fName s), bareL (fRest s))
def fSt (n : Nat) (s : B) : Nat := if n = 32 then 431 else if fOk s then 0 else 400
theorem bareL_le (l : B) : (bareL l).length ≤ l.length := by
  unfold bareL
  have h1 := (List.dropWhile_sublist (isB 5) (l := l)).length_le
  have h2 := (List.dropWhile_sublist (isB 5) (l := (l.dropWhile (isB 5)).reverse)).length_le
  simp at h2 ⊢; omega

theorem _root_.Go.RowKit.Below.undrew {w w' : World} (h : Below w.drew.heap.size w.drew w') : Below w.heap.size w w' := ⟨h.os, h.tape, h.output, h.size, h.block⟩
set_option maxHeartbeats 8000000 in
theorem field_any (bm : Nat) (nx hv Hv Bv : Value) (m p : ByteArray) (l k : Int) (hs : List (B × B)) (s : ByteArray) (w : World) (hM : MC w bm nx hv m p Hv Bv l k)
    (hown : w.ownsRow 0 30 2 Hv hs.length (pairs hs)) (hn : hs.length ≤ 32) (hz : s.size ≤ 1048576) (hne : ∀ j, Hv.ownBlock = some j → j ≠ bm) :
    Calls Tryz.prog 76 #[.pointer (some ⟨bm, 0, none⟩), .string s] w fun e w' => e = .returned (.int .i64 (fSt hs.length s.toList)) ∧ Touch (fun j => j = bm ∨ Hv.ownBlock = some j) w w' ∧
      (fSt hs.length s.toList = 0 → ∃ Hv', MC w' bm nx hv m p Hv' Bv l k ∧ w'.ownsRow 0 30 2 Hv' (hs ++ [fOf s.toList]).length (pairs (hs ++ [fOf s.toList])) ∧ Lies w Hv Hv') := by
  have hr := Below.refl w.heap.size w
  have hM2 := hM
  have k4 := hM2.c4
  have f4 := hM2.fz 4
  obtain ⟨A, c, hHv⟩ := (rd_of_own hown).shape
  have C1 := Lib.hid (fun w => ibyte_any 58 s w)
  rw [show (((58 : UInt8).toNat : Nat) : Int) = 58 from rfl] at C1
  have Ho : Hid (fSt hs.length s.toList = if hs.length = 32 then 431 else if fOk s.toList then 0 else 400) := rfl
  have Hf : Hid (fOf s.toList = (lowL (s.extract 0 (whereL [58] s.toList)).toList, bareL (s.extract (whereL [58] s.toList + 1) s.size).toList)) := by
    show _ = _; rw [toL_to, toL_from]; rfl
  have Hok : Hid (fOk s.toList = (decide (whereL [58] s.toList < s.size) && tokenL (s.extract 0 (whereL [58] s.toList)).toList && valueL (bareL (s.extract (whereL [58] s.toList + 1) s.size).toList))) := by
    show _ = _; rw [toL_to, toL_from, ← len_toL]; rfl
  generalize fSt hs.length s.toList = st at Ho ⊢
  generalize fOf s.toList = fo at Hf ⊢
  generalize fOk s.toList = ok at Hok Ho
  subst hHv
  by_cases e1 : hs.length = 32
  · have Hb := Lib.hid (show st = 431 by rw [Ho.out, if_pos e1])
    have e1' : ((hs.length : Int) == 32) = true := by simp; omega
    go_enter Tryz.func76, Tryz.ntmps76; go_wp2_with first | (go_at_call 74; with_reducible refine (C1.out _).mono ?_; rintro e w4 ⟨rfl, rfl⟩) | (go_at_call 39; with_reducible refine (C2.out _).mono ?_; rintro e w4 ⟨rfl, hb4⟩; replace hr := hr.next hb4; replace hM2 := hM2.below hb4; replace k4 := hM2.c4; replace f4 := hM2.fz 4; clear hb4) | (go_at_call 63; with_reducible refine (C3.out _).mono ?_; rintro e w4 ⟨rfl, rfl⟩) | (go_at_call 41; with_reducible refine (C4.out _).mono ?_; rintro e w4 ⟨rfl, hb4⟩; replace hr := hr.next hb4; replace hM2 := hM2.below hb4; replace k4 := hM2.c4; replace f4 := hM2.fz 4; clear hb4)
    (go_ret; exact ⟨ret_int (by rw [Hb.out]; rfl), .of_below hr, fun h => by rw [Hb.out] at h; cases h⟩)
  have e1' : ((hs.length : Int) == 32) = false := by simp; omega
  rw [if_neg e1] at Ho
  by_cases e2 : whereL [58] s.toList < s.size
  case neg =>
    have Hb := Lib.hid (show st = 400 by rw [Ho.out, Hok.out, decide_eq_false e2]; rfl)
    rw [if_neg e2] at C1
    go_enter Tryz.func76, Tryz.ntmps76; go_wp2_with first | (go_at_call 74; with_reducible refine (C1.out _).mono ?_; rintro e w4 ⟨rfl, rfl⟩) | (go_at_call 39; with_reducible refine (C2.out _).mono ?_; rintro e w4 ⟨rfl, hb4⟩; replace hr := hr.next hb4; replace hM2 := hM2.below hb4; replace k4 := hM2.c4; replace f4 := hM2.fz 4; clear hb4) | (go_at_call 63; with_reducible refine (C3.out _).mono ?_; rintro e w4 ⟨rfl, rfl⟩) | (go_at_call 41; with_reducible refine (C4.out _).mono ?_; rintro e w4 ⟨rfl, hb4⟩; replace hr := hr.next hb4; replace hM2 := hM2.below hb4; replace k4 := hM2.c4; replace f4 := hM2.fz 4; clear hb4)
    (go_ret; exact ⟨ret_int (by rw [Hb.out]; rfl), .of_below hr, fun h => by rw [Hb.out] at h; cases h⟩)
  rw [if_pos e2] at C1
  rw [decide_eq_true e2, Bool.true_and] at Hok
  generalize whereL [58] s.toList = a at *
  have x1 : (0 : Int) ≤ (a : Int) := by omega
  have x2 : ((a : Int)).toNat = a := by omega
  have x3 : (a : Int) ≤ s.size := by omega
  have x4 : IntKind.i64.wrap ((a : Int) + 1) = (a : Int) + 1 := IntWalk.i64_in _ (by omega)
  have x5 : (0 : Int) ≤ (a : Int) + 1 := by omega
  have x6 : ((a : Int) + 1).toNat = a + 1 := by omega
  have x7 : (a : Int) + 1 ≤ s.size := by omega
  have hz1 : (s.extract 0 a).size ≤ 1048576 := size_to hz
  have hz2 : (s.extract (a + 1) s.size).size ≤ 1048576 := size_from hz
  have hz3 : (ofL (bareL (s.extract (a + 1) s.size).toList)).size ≤ 1048576 := by rw [size_ofL]; have := bareL_le (s.extract (a + 1) s.size).toList; rw [len_toL] at this; omega
  have C2 := Lib.hid (fun w => token_any (s.extract 0 a) hz1 w)
  have C3 := Lib.hid (fun w => bare_any (s.extract (a + 1) s.size) hz2 w)
  have C4 := Lib.hid (fun w => value_any (ofL (bareL (s.extract (a + 1) s.size).toList)) hz3 w)
  rw [toL_ofL] at C4
  have C5 := Lib.hid (fun w => lower_any (s.extract 0 a) hz1 w)
  cases e3 : tokenL (s.extract 0 a).toList
  · have Hb := Lib.hid (show st = 400 by rw [Ho.out, Hok.out, e3]; rfl)
    rw [e3] at C2
    go_enter Tryz.func76, Tryz.ntmps76; go_wp2_with first | (go_at_call 74; with_reducible refine (C1.out _).mono ?_; rintro e w4 ⟨rfl, rfl⟩) | (go_at_call 39; with_reducible refine (C2.out _).mono ?_; rintro e w4 ⟨rfl, hb4⟩; replace hr := hr.next hb4; replace hM2 := hM2.below hb4; replace k4 := hM2.c4; replace f4 := hM2.fz 4; clear hb4) | (go_at_call 63; with_reducible refine (C3.out _).mono ?_; rintro e w4 ⟨rfl, rfl⟩) | (go_at_call 41; with_reducible refine (C4.out _).mono ?_; rintro e w4 ⟨rfl, hb4⟩; replace hr := hr.next hb4; replace hM2 := hM2.below hb4; replace k4 := hM2.c4; replace f4 := hM2.fz 4; clear hb4)
    (go_ret; exact ⟨ret_int (by rw [Hb.out]; rfl), .of_below hr, fun h => by rw [Hb.out] at h; cases h⟩)
  rw [e3] at C2
  cases e4 : valueL (bareL (s.extract (a + 1) s.size).toList)
  · have Hb := Lib.hid (show st = 400 by rw [Ho.out, Hok.out, e3, e4]; rfl)
    rw [e4] at C4
    go_enter Tryz.func76, Tryz.ntmps76; go_wp2_with first | (go_at_call 74; with_reducible refine (C1.out _).mono ?_; rintro e w4 ⟨rfl, rfl⟩) | (go_at_call 39; with_reducible refine (C2.out _).mono ?_; rintro e w4 ⟨rfl, hb4⟩; replace hr := hr.next hb4; replace hM2 := hM2.below hb4; replace k4 := hM2.c4; replace f4 := hM2.fz 4; clear hb4) | (go_at_call 63; with_reducible refine (C3.out _).mono ?_; rintro e w4 ⟨rfl, rfl⟩) | (go_at_call 41; with_reducible refine (C4.out _).mono ?_; rintro e w4 ⟨rfl, hb4⟩; replace hr := hr.next hb4; replace hM2 := hM2.below hb4; replace k4 := hM2.c4; replace f4 := hM2.fz 4; clear hb4)
    (go_ret; exact ⟨ret_int (by rw [Hb.out]; rfl), .of_below hr, fun h => by rw [Hb.out] at h; cases h⟩)
  rw [e4] at C4
  have Hb := Lib.hid (show st = 0 by rw [Ho.out, Hok.out, e3, e4]; rfl)
  clear hz3 e3 e4 e1
  go_enter Tryz.func76, Tryz.ntmps76; go_wp2_with first | (go_at_call 74; with_reducible refine (C1.out _).mono ?_; rintro e w4 ⟨rfl, rfl⟩) | (go_at_call 39; with_reducible refine (C2.out _).mono ?_; rintro e w4 ⟨rfl, hb4⟩; replace hr := hr.next hb4; replace hM2 := hM2.below hb4; replace k4 := hM2.c4; replace f4 := hM2.fz 4; clear hb4) | (go_at_call 63; with_reducible refine (C3.out _).mono ?_; rintro e w4 ⟨rfl, rfl⟩) | (go_at_call 41; with_reducible refine (C4.out _).mono ?_; rintro e w4 ⟨rfl, hb4⟩; replace hr := hr.next hb4; replace hM2 := hM2.below hb4; replace k4 := hM2.c4; replace f4 := hM2.fz 4; clear hb4)
  clear hz hz1 hz2
  have Hown := Lib.hid hown
  have Hne := Lib.hid hne
  have Hn := Lib.hid (show (hs.length + 1) * 32 ≤ 140737488355328 by omega)
  have Hr := Lib.hid hr
  clear hown hne
  go_region_law (first | (go_simp; go_at_call 40; with_reducible refine (C5.out _).mono ?_; rintro e w6 ⟨rfl, hb6⟩; have hM6 := hM2.below hb6.undrew; have k6 := hM6.c4; have ka6 := keeps_alloc k6; have hown6 := own_below Hown.out (Hr.out.next hb6.undrew); try dsimp only) | (go_simp; go_at_call 63; with_reducible refine (C3.out _).mono ?_; rintro e w8 ⟨rfl, rfl⟩; try dsimp only) | (refine step_pushAt (by rfl) _ _ _ (by rfl) rowH _ _ _ (by rfl) hown6 [.string (ofL (lowL (s.extract 0 a).toList)), .string (ofL (bareL (s.extract (a + 1) s.size).toList))] _ (by rfl) (by simp) rfl (oneCell_pair _ _) Hn.out ?_; intro v' w7 hown7 ht7 hl7; obtain ⟨A7, c7, rfl⟩ := (rd_of_own hown7).shape; have hM7 := hM6.touch ht7 (fun e => Hne.out bm e rfl); have k7 := hM7.c4; have f7 := hM7.fz 4))
  all_goals
    go_wp2
    go_ret
    refine ⟨ret_int (by rw [Hb.out]; rfl), ?_, fun _ => ⟨_, hM7.set4 _, ?_, fun j hj => ?_⟩⟩
    · exact ((((Touch.of_below (F := fun j => j = bm ∨ (Value.slice A hs.length c).ownBlock = some j) Hr.out).next hb6.undrew).trans (ht7.mono (fun j _ h => .inr h))).setCell (p := ⟨bm, 4, none⟩) (.inl rfl) _)
    · rw [pairs_snoc, Hf.out, List.length_append]
      refine own_touch hown7 ((Touch.refl (fun j => j = bm) w7).setCell (p := ⟨bm, 4, none⟩) rfl _) fun j hj e => ?_
      subst e
      rcases hl7 j hj with h | h
      · exact Hne.out _ h rfl
      · have := hM6.lt; omega
    · rcases hl7 j hj with h | h
      · exact .inl h
      · exact .inr (Nat.le_trans (Hr.out.next hb6.undrew).size h)
end Go.Proofs.YtgdelmkgdfhdpaaGreatDoor
namespace Go.Proofs.YtgdelmkgdfhdpaaGreatDoor
open Go.RowKit
set_option linter.unusedVariables false
set_option linter.unusedSimpArgs false
set_option maxRecDepth 100000

theorem digit_val {c : UInt8} (h : isB 1 c = true) : Lib.digitVal c = some (c.toNat - 48) := by
  have hc : (48:Int) ≤ c.toNat ∧ (c.toNat:Int) ≤ 57 := by simpa [isB, inB] using h
  unfold Lib.digitVal
  rw [if_pos (by omega)]
theorem dec_num : ∀ (l : B) (acc : Nat), l.all (isB 1) = true → Lib.decFrom acc l = some (l.foldl (fun n c => 10 * n + (c.toNat - 48)) acc)
  | [], acc, _ => rfl
  | c :: l, acc, h => by
    simp only [List.all_cons, Bool.and_eq_true] at h
    unfold Lib.decFrom
    rw [digit_val h.1]
    simp only [List.foldl_cons]
    rw [Nat.mul_comm 10 acc]
    exact dec_num l _ h.2
theorem atoi_num (l : B) (h0 : l ≠ []) (h : l.all (isB 1) = true) : Lib.atoi l = some (numF l : Int) := by
  cases l with
  | nil => exact absurd rfl h0
  | cons c r =>
    have hc := (by simpa [List.all_cons] using h : isB 1 c = true ∧ ∀ x ∈ r, isB 1 x = true).1
    have hc' : (48:Int) ≤ c.toNat ∧ (c.toNat:Int) ≤ 57 := by simpa [isB, inB] using hc
    have h1 : (c == 45) = false := by rw [beq_eq_false_iff_ne]; rintro rfl; simp at hc'
    have h2 : (c == 43) = false := by rw [beq_eq_false_iff_ne]; rintro rfl; simp at hc'
    unfold Lib.atoi
    simp only [h1, h2, Bool.false_eq_true, if_false]
    unfold Lib.decNat
    rw [dec_num (c :: r) 0 h]
    rfl
theorem tally_te (hs : List (B × B)) (v : Value) (w : World) (hR : Rd w 2 v hs.length (pairs hs)) (hn : hs.length ≤ 4096) :
    Calls Tryz.prog 98 #[v, .string ⟨#[116, 114, 97, 110, 115, 102, 101, 114, 45, 101, 110, 99, 111, 100, 105, 110, 103]⟩] w fun e w' => e = .returned (.tuple #[.int .i64 (valuesL hs teL).length, .string (ofL (firstL (valuesL hs teL)))]) ∧ Below w.heap.size w w' := by
  have h := tally_any hs v ⟨#[116, 114, 97, 110, 115, 102, 101, 114, 45, 101, 110, 99, 111, 100, 105, 110, 103]⟩ w hR hn
  rwa [show (⟨#[116, 114, 97, 110, 115, 102, 101, 114, 45, 101, 110, 99, 111, 100, 105, 110, 103]⟩ : ByteArray).toList = teL from ByteArray.toList_mk [116, 114, 97, 110, 115, 102, 101, 114, 45, 101, 110, 99, 111, 100, 105, 110, 103]] at h
theorem tally_ho (hs : List (B × B)) (v : Value) (w : World) (hR : Rd w 2 v hs.length (pairs hs)) (hn : hs.length ≤ 4096) :
    Calls Tryz.prog 98 #[v, .string ⟨#[104, 111, 115, 116]⟩] w fun e w' => e = .returned (.tuple #[.int .i64 (valuesL hs hoL).length, .string (ofL (firstL (valuesL hs hoL)))]) ∧ Below w.heap.size w w' := by
  have h := tally_any hs v ⟨#[104, 111, 115, 116]⟩ w hR hn
  rwa [show (⟨#[104, 111, 115, 116]⟩ : ByteArray).toList = hoL from ByteArray.toList_mk [104, 111, 115, 116]] at h
theorem tally_cl (hs : List (B × B)) (v : Value) (w : World) (hR : Rd w 2 v hs.length (pairs hs)) (hn : hs.length ≤ 4096) :
    Calls Tryz.prog 98 #[v, .string ⟨#[99, 111, 110, 116, 101, 110, 116, 45, 108, 101, 110, 103, 116, 104]⟩] w fun e w' => e = .returned (.tuple #[.int .i64 (valuesL hs clL).length, .string (ofL (firstL (valuesL hs clL)))]) ∧ Below w.heap.size w w' := by
  have h := tally_any hs v ⟨#[99, 111, 110, 116, 101, 110, 116, 45, 108, 101, 110, 103, 116, 104]⟩ w hR hn
  rwa [show (⟨#[99, 111, 110, 116, 101, 110, 116, 45, 108, 101, 110, 103, 116, 104]⟩ : ByteArray).toList = clL from ByteArray.toList_mk [99, 111, 110, 116, 101, 110, 116, 45, 108, 101, 110, 103, 116, 104]] at h
theorem firstL_len {h : List (B × B)} (hh : ∀ x ∈ h, x.2.length ≤ 1048576) (nm : B) : (firstL (valuesL h nm)).length ≤ 1048576 := by
  have := getD0_len hh nm
  unfold firstL; cases hv : valuesL h nm with
  | nil => simp
  | cons a l => rw [hv] at this; simpa using this

/-- How the body goes on behind the head. -/
def measF (C H S : Nat) (x y z : B) : Nat :=
  if 1 < C ∨ (C = 1 ∧ lowL x ≠ ckL) then 501
  else if H ≠ 1 ∨ y = [] then 400
  else if 1 < C + S then 400
  else if C = 1 then 1
  else if S = 0 then 0
  else if z = [] ∨ 9 < z.length ∨ z.all (isB 1) = false then 400
  else if 32768 < numF z then 413
  else if numF z = 0 then 0 else 1
def measL (h : List (B × B)) : Nat := measF (valuesL h teL).length (valuesL h hoL).length (valuesL h clL).length (firstL (valuesL h teL)) (firstL (valuesL h hoL)) (firstL (valuesL h clL))
def MeasOut (bm : Nat) (nx hv Hv Bv : Value) (m p : ByteArray) (l k : Int) (C : Nat) (z : B) (st : Nat) (w' : World) : Prop :=
  (st = 0 → ∃ l' : Int, (l' = l ∨ l' = numF z) ∧ MC w' bm nx hv m p Hv Bv l' k) ∧
  (st = 1 → C = 1 → MC w' bm (.func (.func 99) #[] #[]) hv m p Hv Bv l k) ∧
  (st = 1 → ¬ C = 1 → MC w' bm (.func (.func 100) #[] #[]) hv m p Hv Bv (numF z) k)
theorem atoi_any (z : B) (h0 : z ≠ []) (h9 : z.length ≤ 9) (h : z.all (isB 1) = true) (w : World) :
    Calls Tryz.prog 72 #[.string (ofL z)] w fun e w' => e = .returned (.tuple #[.int .i64 (numF z), .nilIface]) ∧ Below w.heap.size w w' := by
  refine (Tryz.strconv_Atoi (ofL z) (numF z) (by rw [size_ofL]; omega) (by rw [← toL_eq, toL_ofL]; exact atoi_num z h0 h) w).mono ?_
  rintro e w' ⟨rfl, t, rfl⟩
  exact ⟨rfl, Lib.bytesWorld_below _ _ _⟩
set_option maxHeartbeats 8000000 in
theorem measure_any (bm : Nat) (nx hv Hv Bv : Value) (m p : ByteArray) (l k : Int) (hs : List (B × B)) (w : World) (hM : MC w bm nx hv m p Hv Bv l k)
    (hR : Rd w 2 Hv hs.length (pairs hs)) (hn : hs.length ≤ 4096) (hl : ∀ x ∈ hs, x.2.length ≤ 1048576) :
    Calls Tryz.prog 77 #[.pointer (some ⟨bm, 0, none⟩)] w fun e w' => e = .returned (.int .i64 (measL hs)) ∧ Touch (fun j => j = bm) w w' ∧
      MeasOut bm nx hv Hv Bv m p l k (valuesL hs teL).length (firstL (valuesL hs clL)) (measL hs) w' := by
  have hr := Below.refl w.heap.size w
  have hM2 := hM
  have k0 := hM2.c0
  have f0 := hM2.fz 0
  have k4 := hM2.c4
  have k6 := hM2.c6
  have f6 := hM2.fz 6
  obtain ⟨A, c, hHv⟩ := hR.shape
  subst hHv
  have HR := Lib.hid hR
  have C1 := Lib.hid (fun w hR => tally_te hs (.slice A hs.length c) w hR hn)
  have C2 := Lib.hid (fun w hR => tally_ho hs (.slice A hs.length c) w hR hn)
  have C3 := Lib.hid (fun w hR => tally_cl hs (.slice A hs.length c) w hR hn)
  have hxl : (ofL (firstL (valuesL hs teL))).size ≤ 1048576 := by rw [size_ofL]; exact firstL_len hl _
  have hzl : (ofL (firstL (valuesL hs clL))).size ≤ 1048576 := by rw [size_ofL]; exact firstL_len hl _
  have hte : (valuesL hs teL).length ≤ 4096 := Nat.le_trans (valuesL_le _ _) hn
  have hho : (valuesL hs hoL).length ≤ 4096 := Nat.le_trans (valuesL_le _ _) hn
  have hcl : (valuesL hs clL).length ≤ 4096 := Nat.le_trans (valuesL_le _ _) hn
  have C4 := Lib.hid (fun w => lower_any (ofL (firstL (valuesL hs teL))) hxl w)
  have C5 := Lib.hid (fun w => only_any tells1 (ofL (firstL (valuesL hs clL))) hzl w)
  rw [toL_ofL] at C4 C5
  have Ho : Hid (measL hs = measF (valuesL hs teL).length (valuesL hs hoL).length (valuesL hs clL).length (firstL (valuesL hs teL)) (firstL (valuesL hs hoL)) (firstL (valuesL hs clL))) := rfl
  generalize measL hs = st at *
  generalize firstL (valuesL hs teL) = x at *
  generalize firstL (valuesL hs hoL) = y at *
  generalize firstL (valuesL hs clL) = z at *
  generalize (valuesL hs teL).length = C at *
  generalize (valuesL hs hoL).length = H at *
  generalize (valuesL hs clL).length = S at *
  clear hR hl
  unfold measF at Ho
  by_cases e1 : 1 < C
  · have Hb := Lib.hid (show st = 501 by rw [Ho.out, if_pos (.inl e1)])
    go_enter Tryz.func77, Tryz.ntmps77; go_wp2_with first | (go_at_call 98; (first | with_reducible refine (C1.out _ (HR.out.below hr)).mono ?_ | with_reducible refine (C2.out _ (HR.out.below hr)).mono ?_ | with_reducible refine (C3.out _ (HR.out.below hr)).mono ?_); rintro e w4 ⟨rfl, hb4⟩; replace hr := hr.next hb4; replace hM2 := hM2.below hb4; replace k0 := hM2.c0; replace f0 := hM2.fz 0; replace k4 := hM2.c4; replace k6 := hM2.c6; replace f6 := hM2.fz 6; clear hb4) | (go_at_call 40; with_reducible refine (C4.out _).mono ?_; rintro e w4 ⟨rfl, hb4⟩; replace hr := hr.next hb4; replace hM2 := hM2.below hb4; replace k0 := hM2.c0; replace f0 := hM2.fz 0; replace k4 := hM2.c4; replace k6 := hM2.c6; replace f6 := hM2.fz 6; clear hb4) | (go_at_call 59; with_reducible refine (C5.out _).mono ?_; rintro e w4 ⟨rfl, hb4⟩; replace hr := hr.next hb4; replace hM2 := hM2.below hb4; replace k0 := hM2.c0; replace f0 := hM2.fz 0; replace k4 := hM2.c4; replace k6 := hM2.c6; replace f6 := hM2.fz 6; clear hb4) | (go_at_call 72; with_reducible refine (C6.out _).mono ?_; rintro e w4 ⟨rfl, hb4⟩; replace hr := hr.next hb4; replace hM2 := hM2.below hb4; replace k0 := hM2.c0; replace f0 := hM2.fz 0; replace k4 := hM2.c4; replace k6 := hM2.c6; replace f6 := hM2.fz 6; clear hb4)
    (go_ret; exact ⟨ret_int (by rw [Hb.out]; rfl), .of_below hr, ⟨(fun h => by rw [Hb.out] at h; cases h), (fun h => by rw [Hb.out] at h; cases h), (fun h => by rw [Hb.out] at h; cases h)⟩⟩)
  by_cases e2 : C = 1 ∧ lowL x ≠ ckL
  · have Hb := Lib.hid (show st = 501 by rw [Ho.out, if_pos (.inr e2)])
    obtain ⟨rfl, e3⟩ := e2
    have y1 : ((ofL (lowL x)).toList == [99, 104, 117, 110, 107, 101, 100]) = false := by rw [toL_ofL]; simpa [ckL] using e3
    clear e3
    go_enter Tryz.func77, Tryz.ntmps77; go_wp2_with first | (go_at_call 98; (first | with_reducible refine (C1.out _ (HR.out.below hr)).mono ?_ | with_reducible refine (C2.out _ (HR.out.below hr)).mono ?_ | with_reducible refine (C3.out _ (HR.out.below hr)).mono ?_); rintro e w4 ⟨rfl, hb4⟩; replace hr := hr.next hb4; replace hM2 := hM2.below hb4; replace k0 := hM2.c0; replace f0 := hM2.fz 0; replace k4 := hM2.c4; replace k6 := hM2.c6; replace f6 := hM2.fz 6; clear hb4) | (go_at_call 40; with_reducible refine (C4.out _).mono ?_; rintro e w4 ⟨rfl, hb4⟩; replace hr := hr.next hb4; replace hM2 := hM2.below hb4; replace k0 := hM2.c0; replace f0 := hM2.fz 0; replace k4 := hM2.c4; replace k6 := hM2.c6; replace f6 := hM2.fz 6; clear hb4) | (go_at_call 59; with_reducible refine (C5.out _).mono ?_; rintro e w4 ⟨rfl, hb4⟩; replace hr := hr.next hb4; replace hM2 := hM2.below hb4; replace k0 := hM2.c0; replace f0 := hM2.fz 0; replace k4 := hM2.c4; replace k6 := hM2.c6; replace f6 := hM2.fz 6; clear hb4) | (go_at_call 72; with_reducible refine (C6.out _).mono ?_; rintro e w4 ⟨rfl, hb4⟩; replace hr := hr.next hb4; replace hM2 := hM2.below hb4; replace k0 := hM2.c0; replace f0 := hM2.fz 0; replace k4 := hM2.c4; replace k6 := hM2.c6; replace f6 := hM2.fz 6; clear hb4)
    (go_ret; exact ⟨ret_int (by rw [Hb.out]; rfl), .of_below hr, ⟨(fun h => by rw [Hb.out] at h; cases h), (fun h => by rw [Hb.out] at h; cases h), (fun h => by rw [Hb.out] at h; cases h)⟩⟩)
  rw [if_neg (fun h => h.elim e1 e2)] at Ho
  have y0 : ((C : Int) == 1) = false ∨ (((C : Int) == 1) = true ∧ ((ofL (lowL x)).toList == [99, 104, 117, 110, 107, 101, 100]) = true) := by
    by_cases h1 : C = 1
    · right
      refine ⟨by simp; omega, ?_⟩
      rw [toL_ofL]
      by_cases h2 : lowL x = ckL
      · rw [h2]; rfl
      · exact absurd ⟨h1, h2⟩ e2
    · left; simp; omega
  clear e2
  by_cases e4 : H ≠ 1 ∨ y = []
  · have Hb := Lib.hid (show st = 400 by rw [Ho.out, if_pos e4])
    by_cases e5 : H = 1
    · have hy : y = [] := e4.resolve_left (fun h => h e5)
      subst hy e5
      have h1 : (ofL []).toList.isEmpty = true := by rw [toL_ofL]; rfl
      have h2 : (ofL []).toList = [] := by rw [toL_ofL]
      rcases y0 with y0 | ⟨y0, y1⟩
      all_goals
        go_enter Tryz.func77, Tryz.ntmps77; go_wp2_with first | (go_at_call 98; (first | with_reducible refine (C1.out _ (HR.out.below hr)).mono ?_ | with_reducible refine (C2.out _ (HR.out.below hr)).mono ?_ | with_reducible refine (C3.out _ (HR.out.below hr)).mono ?_); rintro e w4 ⟨rfl, hb4⟩; replace hr := hr.next hb4; replace hM2 := hM2.below hb4; replace k0 := hM2.c0; replace f0 := hM2.fz 0; replace k4 := hM2.c4; replace k6 := hM2.c6; replace f6 := hM2.fz 6; clear hb4) | (go_at_call 40; with_reducible refine (C4.out _).mono ?_; rintro e w4 ⟨rfl, hb4⟩; replace hr := hr.next hb4; replace hM2 := hM2.below hb4; replace k0 := hM2.c0; replace f0 := hM2.fz 0; replace k4 := hM2.c4; replace k6 := hM2.c6; replace f6 := hM2.fz 6; clear hb4) | (go_at_call 59; with_reducible refine (C5.out _).mono ?_; rintro e w4 ⟨rfl, hb4⟩; replace hr := hr.next hb4; replace hM2 := hM2.below hb4; replace k0 := hM2.c0; replace f0 := hM2.fz 0; replace k4 := hM2.c4; replace k6 := hM2.c6; replace f6 := hM2.fz 6; clear hb4) | (go_at_call 72; with_reducible refine (C6.out _).mono ?_; rintro e w4 ⟨rfl, hb4⟩; replace hr := hr.next hb4; replace hM2 := hM2.below hb4; replace k0 := hM2.c0; replace f0 := hM2.fz 0; replace k4 := hM2.c4; replace k6 := hM2.c6; replace f6 := hM2.fz 6; clear hb4)
        (go_ret; exact ⟨ret_int (by rw [Hb.out]; rfl), .of_below hr, ⟨(fun h => by rw [Hb.out] at h; cases h), (fun h => by rw [Hb.out] at h; cases h), (fun h => by rw [Hb.out] at h; cases h)⟩⟩)
    · have h1 : ((H : Int) != 1) = true := by simp; omega
      clear e4
      rcases y0 with y0 | ⟨y0, y1⟩
      all_goals
        go_enter Tryz.func77, Tryz.ntmps77; go_wp2_with first | (go_at_call 98; (first | with_reducible refine (C1.out _ (HR.out.below hr)).mono ?_ | with_reducible refine (C2.out _ (HR.out.below hr)).mono ?_ | with_reducible refine (C3.out _ (HR.out.below hr)).mono ?_); rintro e w4 ⟨rfl, hb4⟩; replace hr := hr.next hb4; replace hM2 := hM2.below hb4; replace k0 := hM2.c0; replace f0 := hM2.fz 0; replace k4 := hM2.c4; replace k6 := hM2.c6; replace f6 := hM2.fz 6; clear hb4) | (go_at_call 40; with_reducible refine (C4.out _).mono ?_; rintro e w4 ⟨rfl, hb4⟩; replace hr := hr.next hb4; replace hM2 := hM2.below hb4; replace k0 := hM2.c0; replace f0 := hM2.fz 0; replace k4 := hM2.c4; replace k6 := hM2.c6; replace f6 := hM2.fz 6; clear hb4) | (go_at_call 59; with_reducible refine (C5.out _).mono ?_; rintro e w4 ⟨rfl, hb4⟩; replace hr := hr.next hb4; replace hM2 := hM2.below hb4; replace k0 := hM2.c0; replace f0 := hM2.fz 0; replace k4 := hM2.c4; replace k6 := hM2.c6; replace f6 := hM2.fz 6; clear hb4) | (go_at_call 72; with_reducible refine (C6.out _).mono ?_; rintro e w4 ⟨rfl, hb4⟩; replace hr := hr.next hb4; replace hM2 := hM2.below hb4; replace k0 := hM2.c0; replace f0 := hM2.fz 0; replace k4 := hM2.c4; replace k6 := hM2.c6; replace f6 := hM2.fz 6; clear hb4)
        (go_ret; exact ⟨ret_int (by rw [Hb.out]; rfl), .of_below hr, ⟨(fun h => by rw [Hb.out] at h; cases h), (fun h => by rw [Hb.out] at h; cases h), (fun h => by rw [Hb.out] at h; cases h)⟩⟩)
  rw [if_neg e4] at Ho
  have hH : H = 1 := by omega
  have hy : y ≠ [] := fun h => e4 (.inr h)
  subst hH
  obtain ⟨z1, z2, z3⟩ := empty_no hy
  clear e4
  by_cases e6 : 1 < C + S
  · have Hb := Lib.hid (show st = 400 by rw [Ho.out, if_pos e6])
    rcases y0 with y0 | ⟨y0, y1⟩
    all_goals
      go_enter Tryz.func77, Tryz.ntmps77; go_wp2_with first | (go_at_call 98; (first | with_reducible refine (C1.out _ (HR.out.below hr)).mono ?_ | with_reducible refine (C2.out _ (HR.out.below hr)).mono ?_ | with_reducible refine (C3.out _ (HR.out.below hr)).mono ?_); rintro e w4 ⟨rfl, hb4⟩; replace hr := hr.next hb4; replace hM2 := hM2.below hb4; replace k0 := hM2.c0; replace f0 := hM2.fz 0; replace k4 := hM2.c4; replace k6 := hM2.c6; replace f6 := hM2.fz 6; clear hb4) | (go_at_call 40; with_reducible refine (C4.out _).mono ?_; rintro e w4 ⟨rfl, hb4⟩; replace hr := hr.next hb4; replace hM2 := hM2.below hb4; replace k0 := hM2.c0; replace f0 := hM2.fz 0; replace k4 := hM2.c4; replace k6 := hM2.c6; replace f6 := hM2.fz 6; clear hb4) | (go_at_call 59; with_reducible refine (C5.out _).mono ?_; rintro e w4 ⟨rfl, hb4⟩; replace hr := hr.next hb4; replace hM2 := hM2.below hb4; replace k0 := hM2.c0; replace f0 := hM2.fz 0; replace k4 := hM2.c4; replace k6 := hM2.c6; replace f6 := hM2.fz 6; clear hb4) | (go_at_call 72; with_reducible refine (C6.out _).mono ?_; rintro e w4 ⟨rfl, hb4⟩; replace hr := hr.next hb4; replace hM2 := hM2.below hb4; replace k0 := hM2.c0; replace f0 := hM2.fz 0; replace k4 := hM2.c4; replace k6 := hM2.c6; replace f6 := hM2.fz 6; clear hb4)
      (go_ret; exact ⟨ret_int (by rw [Hb.out]; rfl), .of_below hr, ⟨(fun h => by rw [Hb.out] at h; cases h), (fun h => by rw [Hb.out] at h; cases h), (fun h => by rw [Hb.out] at h; cases h)⟩⟩)
  rw [if_neg e6] at Ho
  by_cases e7 : C = 1
  · have Hb := Lib.hid (show st = 1 by rw [Ho.out, if_pos e7])
    have hS : S = 0 := by omega
    subst e7 hS
    have y1 : ((ofL (lowL x)).toList == [99, 104, 117, 110, 107, 101, 100]) = true := by rcases y0 with h | ⟨_, h⟩; simp at h; exact h
    clear y0
    go_enter Tryz.func77, Tryz.ntmps77; go_wp2_with first | (go_at_call 98; (first | with_reducible refine (C1.out _ (HR.out.below hr)).mono ?_ | with_reducible refine (C2.out _ (HR.out.below hr)).mono ?_ | with_reducible refine (C3.out _ (HR.out.below hr)).mono ?_); rintro e w4 ⟨rfl, hb4⟩; replace hr := hr.next hb4; replace hM2 := hM2.below hb4; replace k0 := hM2.c0; replace f0 := hM2.fz 0; replace k4 := hM2.c4; replace k6 := hM2.c6; replace f6 := hM2.fz 6; clear hb4) | (go_at_call 40; with_reducible refine (C4.out _).mono ?_; rintro e w4 ⟨rfl, hb4⟩; replace hr := hr.next hb4; replace hM2 := hM2.below hb4; replace k0 := hM2.c0; replace f0 := hM2.fz 0; replace k4 := hM2.c4; replace k6 := hM2.c6; replace f6 := hM2.fz 6; clear hb4) | (go_at_call 59; with_reducible refine (C5.out _).mono ?_; rintro e w4 ⟨rfl, hb4⟩; replace hr := hr.next hb4; replace hM2 := hM2.below hb4; replace k0 := hM2.c0; replace f0 := hM2.fz 0; replace k4 := hM2.c4; replace k6 := hM2.c6; replace f6 := hM2.fz 6; clear hb4) | (go_at_call 72; with_reducible refine (C6.out _).mono ?_; rintro e w4 ⟨rfl, hb4⟩; replace hr := hr.next hb4; replace hM2 := hM2.below hb4; replace k0 := hM2.c0; replace f0 := hM2.fz 0; replace k4 := hM2.c4; replace k6 := hM2.c6; replace f6 := hM2.fz 6; clear hb4)
    (go_ret; exact ⟨ret_int (by rw [Hb.out]; rfl), (Touch.of_below (F := fun j => j = bm) hr).setCell (p := ⟨bm, 0, none⟩) rfl _, ⟨(fun h => by rw [Hb.out] at h; cases h), fun _ _ => hM2.set0 _, fun _ h => absurd rfl h⟩⟩)
  rw [if_neg e7] at Ho
  have y3 : ((C : Int) == 1) = false := by simp; omega
  have hC : C = 0 := by omega
  clear y0
  subst hC
  by_cases e8 : S = 0
  · have Hb := Lib.hid (show st = 0 by rw [Ho.out, if_pos e8])
    subst e8
    go_enter Tryz.func77, Tryz.ntmps77; go_wp2_with first | (go_at_call 98; (first | with_reducible refine (C1.out _ (HR.out.below hr)).mono ?_ | with_reducible refine (C2.out _ (HR.out.below hr)).mono ?_ | with_reducible refine (C3.out _ (HR.out.below hr)).mono ?_); rintro e w4 ⟨rfl, hb4⟩; replace hr := hr.next hb4; replace hM2 := hM2.below hb4; replace k0 := hM2.c0; replace f0 := hM2.fz 0; replace k4 := hM2.c4; replace k6 := hM2.c6; replace f6 := hM2.fz 6; clear hb4) | (go_at_call 40; with_reducible refine (C4.out _).mono ?_; rintro e w4 ⟨rfl, hb4⟩; replace hr := hr.next hb4; replace hM2 := hM2.below hb4; replace k0 := hM2.c0; replace f0 := hM2.fz 0; replace k4 := hM2.c4; replace k6 := hM2.c6; replace f6 := hM2.fz 6; clear hb4) | (go_at_call 59; with_reducible refine (C5.out _).mono ?_; rintro e w4 ⟨rfl, hb4⟩; replace hr := hr.next hb4; replace hM2 := hM2.below hb4; replace k0 := hM2.c0; replace f0 := hM2.fz 0; replace k4 := hM2.c4; replace k6 := hM2.c6; replace f6 := hM2.fz 6; clear hb4) | (go_at_call 72; with_reducible refine (C6.out _).mono ?_; rintro e w4 ⟨rfl, hb4⟩; replace hr := hr.next hb4; replace hM2 := hM2.below hb4; replace k0 := hM2.c0; replace f0 := hM2.fz 0; replace k4 := hM2.c4; replace k6 := hM2.c6; replace f6 := hM2.fz 6; clear hb4)
    (go_ret; exact ⟨ret_int (by rw [Hb.out]; rfl), .of_below hr, ⟨fun _ => ⟨_, .inl rfl, hM2⟩, (fun h => by rw [Hb.out] at h; cases h), (fun h => by rw [Hb.out] at h; cases h)⟩⟩)
  rw [if_neg e8] at Ho
  have hS : S = 1 := by omega
  subst hS
  by_cases e9 : z = []
  · have Hb := Lib.hid (show st = 400 by rw [Ho.out, if_pos (.inl e9)])
    subst e9
    have h1 : (ofL []).toList.isEmpty = true := by rw [toL_ofL]; rfl
    have h2 : (ofL []).toList = [] := by rw [toL_ofL]
    go_enter Tryz.func77, Tryz.ntmps77; go_wp2_with first | (go_at_call 98; (first | with_reducible refine (C1.out _ (HR.out.below hr)).mono ?_ | with_reducible refine (C2.out _ (HR.out.below hr)).mono ?_ | with_reducible refine (C3.out _ (HR.out.below hr)).mono ?_); rintro e w4 ⟨rfl, hb4⟩; replace hr := hr.next hb4; replace hM2 := hM2.below hb4; replace k0 := hM2.c0; replace f0 := hM2.fz 0; replace k4 := hM2.c4; replace k6 := hM2.c6; replace f6 := hM2.fz 6; clear hb4) | (go_at_call 40; with_reducible refine (C4.out _).mono ?_; rintro e w4 ⟨rfl, hb4⟩; replace hr := hr.next hb4; replace hM2 := hM2.below hb4; replace k0 := hM2.c0; replace f0 := hM2.fz 0; replace k4 := hM2.c4; replace k6 := hM2.c6; replace f6 := hM2.fz 6; clear hb4) | (go_at_call 59; with_reducible refine (C5.out _).mono ?_; rintro e w4 ⟨rfl, hb4⟩; replace hr := hr.next hb4; replace hM2 := hM2.below hb4; replace k0 := hM2.c0; replace f0 := hM2.fz 0; replace k4 := hM2.c4; replace k6 := hM2.c6; replace f6 := hM2.fz 6; clear hb4) | (go_at_call 72; with_reducible refine (C6.out _).mono ?_; rintro e w4 ⟨rfl, hb4⟩; replace hr := hr.next hb4; replace hM2 := hM2.below hb4; replace k0 := hM2.c0; replace f0 := hM2.fz 0; replace k4 := hM2.c4; replace k6 := hM2.c6; replace f6 := hM2.fz 6; clear hb4)
    (go_ret; exact ⟨ret_int (by rw [Hb.out]; rfl), .of_below hr, ⟨(fun h => by rw [Hb.out] at h; cases h), (fun h => by rw [Hb.out] at h; cases h), (fun h => by rw [Hb.out] at h; cases h)⟩⟩)
  obtain ⟨v1, v2, v3⟩ := empty_no e9
  by_cases e10 : 9 < z.length
  · have Hb := Lib.hid (show st = 400 by rw [Ho.out, if_pos (.inr (.inl e10))])
    have h1 : 9 < (ofL z).size := by rw [size_ofL]; exact e10
    go_enter Tryz.func77, Tryz.ntmps77; go_wp2_with first | (go_at_call 98; (first | with_reducible refine (C1.out _ (HR.out.below hr)).mono ?_ | with_reducible refine (C2.out _ (HR.out.below hr)).mono ?_ | with_reducible refine (C3.out _ (HR.out.below hr)).mono ?_); rintro e w4 ⟨rfl, hb4⟩; replace hr := hr.next hb4; replace hM2 := hM2.below hb4; replace k0 := hM2.c0; replace f0 := hM2.fz 0; replace k4 := hM2.c4; replace k6 := hM2.c6; replace f6 := hM2.fz 6; clear hb4) | (go_at_call 40; with_reducible refine (C4.out _).mono ?_; rintro e w4 ⟨rfl, hb4⟩; replace hr := hr.next hb4; replace hM2 := hM2.below hb4; replace k0 := hM2.c0; replace f0 := hM2.fz 0; replace k4 := hM2.c4; replace k6 := hM2.c6; replace f6 := hM2.fz 6; clear hb4) | (go_at_call 59; with_reducible refine (C5.out _).mono ?_; rintro e w4 ⟨rfl, hb4⟩; replace hr := hr.next hb4; replace hM2 := hM2.below hb4; replace k0 := hM2.c0; replace f0 := hM2.fz 0; replace k4 := hM2.c4; replace k6 := hM2.c6; replace f6 := hM2.fz 6; clear hb4) | (go_at_call 72; with_reducible refine (C6.out _).mono ?_; rintro e w4 ⟨rfl, hb4⟩; replace hr := hr.next hb4; replace hM2 := hM2.below hb4; replace k0 := hM2.c0; replace f0 := hM2.fz 0; replace k4 := hM2.c4; replace k6 := hM2.c6; replace f6 := hM2.fz 6; clear hb4)
    (go_ret; exact ⟨ret_int (by rw [Hb.out]; rfl), .of_below hr, ⟨(fun h => by rw [Hb.out] at h; cases h), (fun h => by rw [Hb.out] at h; cases h), (fun h => by rw [Hb.out] at h; cases h)⟩⟩)
  have h9 : (ofL z).size ≤ 9 := by rw [size_ofL]; omega
  cases e11 : z.all (isB 1)
  · have Hb := Lib.hid (show st = 400 by rw [Ho.out, if_pos (.inr (.inr e11))])
    rw [e11] at C5
    go_enter Tryz.func77, Tryz.ntmps77; go_wp2_with first | (go_at_call 98; (first | with_reducible refine (C1.out _ (HR.out.below hr)).mono ?_ | with_reducible refine (C2.out _ (HR.out.below hr)).mono ?_ | with_reducible refine (C3.out _ (HR.out.below hr)).mono ?_); rintro e w4 ⟨rfl, hb4⟩; replace hr := hr.next hb4; replace hM2 := hM2.below hb4; replace k0 := hM2.c0; replace f0 := hM2.fz 0; replace k4 := hM2.c4; replace k6 := hM2.c6; replace f6 := hM2.fz 6; clear hb4) | (go_at_call 40; with_reducible refine (C4.out _).mono ?_; rintro e w4 ⟨rfl, hb4⟩; replace hr := hr.next hb4; replace hM2 := hM2.below hb4; replace k0 := hM2.c0; replace f0 := hM2.fz 0; replace k4 := hM2.c4; replace k6 := hM2.c6; replace f6 := hM2.fz 6; clear hb4) | (go_at_call 59; with_reducible refine (C5.out _).mono ?_; rintro e w4 ⟨rfl, hb4⟩; replace hr := hr.next hb4; replace hM2 := hM2.below hb4; replace k0 := hM2.c0; replace f0 := hM2.fz 0; replace k4 := hM2.c4; replace k6 := hM2.c6; replace f6 := hM2.fz 6; clear hb4) | (go_at_call 72; with_reducible refine (C6.out _).mono ?_; rintro e w4 ⟨rfl, hb4⟩; replace hr := hr.next hb4; replace hM2 := hM2.below hb4; replace k0 := hM2.c0; replace f0 := hM2.fz 0; replace k4 := hM2.c4; replace k6 := hM2.c6; replace f6 := hM2.fz 6; clear hb4)
    (go_ret; exact ⟨ret_int (by rw [Hb.out]; rfl), .of_below hr, ⟨(fun h => by rw [Hb.out] at h; cases h), (fun h => by rw [Hb.out] at h; cases h), (fun h => by rw [Hb.out] at h; cases h)⟩⟩)
  have C6 := Lib.hid (fun w => atoi_any z e9 (by omega) e11 w)
  have hnl : numF z < 1000000000 := Nat.lt_of_lt_of_le (numF_lt _ z rfl e11) (Nat.pow_le_pow_right (show 10 > 0 by decide) (show z.length ≤ 9 by omega))
  rw [e11] at C5
  rw [if_neg (fun h => by rcases h with h | h | h; exact e9 h; exact e10 h; rw [e11] at h; cases h)] at Ho
  clear e9 e10 e11
  by_cases e12 : 32768 < numF z
  · have Hb := Lib.hid (show st = 413 by rw [Ho.out, if_pos e12])
    go_enter Tryz.func77, Tryz.ntmps77; go_wp2_with first | (go_at_call 98; (first | with_reducible refine (C1.out _ (HR.out.below hr)).mono ?_ | with_reducible refine (C2.out _ (HR.out.below hr)).mono ?_ | with_reducible refine (C3.out _ (HR.out.below hr)).mono ?_); rintro e w4 ⟨rfl, hb4⟩; replace hr := hr.next hb4; replace hM2 := hM2.below hb4; replace k0 := hM2.c0; replace f0 := hM2.fz 0; replace k4 := hM2.c4; replace k6 := hM2.c6; replace f6 := hM2.fz 6; clear hb4) | (go_at_call 40; with_reducible refine (C4.out _).mono ?_; rintro e w4 ⟨rfl, hb4⟩; replace hr := hr.next hb4; replace hM2 := hM2.below hb4; replace k0 := hM2.c0; replace f0 := hM2.fz 0; replace k4 := hM2.c4; replace k6 := hM2.c6; replace f6 := hM2.fz 6; clear hb4) | (go_at_call 59; with_reducible refine (C5.out _).mono ?_; rintro e w4 ⟨rfl, hb4⟩; replace hr := hr.next hb4; replace hM2 := hM2.below hb4; replace k0 := hM2.c0; replace f0 := hM2.fz 0; replace k4 := hM2.c4; replace k6 := hM2.c6; replace f6 := hM2.fz 6; clear hb4) | (go_at_call 72; with_reducible refine (C6.out _).mono ?_; rintro e w4 ⟨rfl, hb4⟩; replace hr := hr.next hb4; replace hM2 := hM2.below hb4; replace k0 := hM2.c0; replace f0 := hM2.fz 0; replace k4 := hM2.c4; replace k6 := hM2.c6; replace f6 := hM2.fz 6; clear hb4)
    (go_ret; exact ⟨ret_int (by rw [Hb.out]; rfl), (Touch.of_below (F := fun j => j = bm) hr).setCell (p := ⟨bm, 6, none⟩) rfl _, ⟨(fun h => by rw [Hb.out] at h; cases h), (fun h => by rw [Hb.out] at h; cases h), (fun h => by rw [Hb.out] at h; cases h)⟩⟩)
  rw [if_neg e12] at Ho
  by_cases e13 : numF z = 0
  · have Hb := Lib.hid (show st = 0 by rw [Ho.out, if_pos e13])
    have h1 : ((numF z : Int) == 0) = true := by simp [e13]
    clear e13
    go_enter Tryz.func77, Tryz.ntmps77; go_wp2_with first | (go_at_call 98; (first | with_reducible refine (C1.out _ (HR.out.below hr)).mono ?_ | with_reducible refine (C2.out _ (HR.out.below hr)).mono ?_ | with_reducible refine (C3.out _ (HR.out.below hr)).mono ?_); rintro e w4 ⟨rfl, hb4⟩; replace hr := hr.next hb4; replace hM2 := hM2.below hb4; replace k0 := hM2.c0; replace f0 := hM2.fz 0; replace k4 := hM2.c4; replace k6 := hM2.c6; replace f6 := hM2.fz 6; clear hb4) | (go_at_call 40; with_reducible refine (C4.out _).mono ?_; rintro e w4 ⟨rfl, hb4⟩; replace hr := hr.next hb4; replace hM2 := hM2.below hb4; replace k0 := hM2.c0; replace f0 := hM2.fz 0; replace k4 := hM2.c4; replace k6 := hM2.c6; replace f6 := hM2.fz 6; clear hb4) | (go_at_call 59; with_reducible refine (C5.out _).mono ?_; rintro e w4 ⟨rfl, hb4⟩; replace hr := hr.next hb4; replace hM2 := hM2.below hb4; replace k0 := hM2.c0; replace f0 := hM2.fz 0; replace k4 := hM2.c4; replace k6 := hM2.c6; replace f6 := hM2.fz 6; clear hb4) | (go_at_call 72; with_reducible refine (C6.out _).mono ?_; rintro e w4 ⟨rfl, hb4⟩; replace hr := hr.next hb4; replace hM2 := hM2.below hb4; replace k0 := hM2.c0; replace f0 := hM2.fz 0; replace k4 := hM2.c4; replace k6 := hM2.c6; replace f6 := hM2.fz 6; clear hb4)
    (go_ret; exact ⟨ret_int (by rw [Hb.out]; rfl), (Touch.of_below (F := fun j => j = bm) hr).setCell (p := ⟨bm, 6, none⟩) rfl _, ⟨fun _ => ⟨_, .inr rfl, hM2.set6 _⟩, (fun h => by rw [Hb.out] at h; cases h), (fun h => by rw [Hb.out] at h; cases h)⟩⟩)
  have Hb := Lib.hid (show st = 1 by rw [Ho.out, if_neg e13])
  have h1 : ((numF z : Int) == 0) = false := by simp [e13]
  clear e13
  go_enter Tryz.func77, Tryz.ntmps77; go_wp2_with first | (go_at_call 98; (first | with_reducible refine (C1.out _ (HR.out.below hr)).mono ?_ | with_reducible refine (C2.out _ (HR.out.below hr)).mono ?_ | with_reducible refine (C3.out _ (HR.out.below hr)).mono ?_); rintro e w4 ⟨rfl, hb4⟩; replace hr := hr.next hb4; replace hM2 := hM2.below hb4; replace k0 := hM2.c0; replace f0 := hM2.fz 0; replace k4 := hM2.c4; replace k6 := hM2.c6; replace f6 := hM2.fz 6; clear hb4) | (go_at_call 40; with_reducible refine (C4.out _).mono ?_; rintro e w4 ⟨rfl, hb4⟩; replace hr := hr.next hb4; replace hM2 := hM2.below hb4; replace k0 := hM2.c0; replace f0 := hM2.fz 0; replace k4 := hM2.c4; replace k6 := hM2.c6; replace f6 := hM2.fz 6; clear hb4) | (go_at_call 59; with_reducible refine (C5.out _).mono ?_; rintro e w4 ⟨rfl, hb4⟩; replace hr := hr.next hb4; replace hM2 := hM2.below hb4; replace k0 := hM2.c0; replace f0 := hM2.fz 0; replace k4 := hM2.c4; replace k6 := hM2.c6; replace f6 := hM2.fz 6; clear hb4) | (go_at_call 72; with_reducible refine (C6.out _).mono ?_; rintro e w4 ⟨rfl, hb4⟩; replace hr := hr.next hb4; replace hM2 := hM2.below hb4; replace k0 := hM2.c0; replace f0 := hM2.fz 0; replace k4 := hM2.c4; replace k6 := hM2.c6; replace f6 := hM2.fz 6; clear hb4)
  (go_ret; exact ⟨ret_int (by rw [Hb.out]; rfl), ((Touch.of_below (F := fun j => j = bm) hr).setCell (p := ⟨bm, 6, none⟩) rfl _).setCell (p := ⟨bm, 0, none⟩) rfl _, ⟨(fun h => by rw [Hb.out] at h; cases h), fun _ h => (by cases h), fun _ _ => (hM2.set6 _).set0 _⟩⟩)
end Go.Proofs.YtgdelmkgdfhdpaaGreatDoor
namespace Go.Proofs.YtgdelmkgdfhdpaaGreatDoor
open Go.RowKit
set_option linter.unusedVariables false
set_option linter.unusedSimpArgs false
set_option maxRecDepth 100000

/-- What the machine waits for. -/
inductive St | heads | sizes | plain | chunk | endS | lineC | endC | lineE | endE
/-- A closure over a box that holds a function. -/
def Clo (w : World) (F : Nat → Prop) (nx : Value) (fn g : Nat) : Prop :=
  ∃ b, nx = .func (.func fn) #[] #[.pointer (some ⟨b, 0, none⟩)] ∧ F b ∧ w.heap[b]? = some (.cells #[.func (.func g) #[] #[]] 138 (0, 0))
def Nx (w : World) (F : Nat → Prop) (nx : Value) : St → Prop
  | .heads => nx = .func (.func 57) #[] #[]
  | .sizes => nx = .func (.func 99) #[] #[]
  | .plain => nx = .func (.func 100) #[] #[]
  | .chunk => nx = .func (.func 122) #[] #[]
  | .endS => Clo w F nx 132 121
  | .lineC => Clo w F nx 134 133
  | .endC => Clo w F nx 132 133
  | .lineE => Clo w F nx 134 124
  | .endE => Clo w F nx 132 124
structure Mc where
  st : St
  head : B
  m : B
  p : B
  h : List (B × B)
  b : B
  left : Nat
  many : Nat

/-- The machine but for what comes next and the head. -/
def MB (w : World) (bm : Nat) (F : Nat → Prop) (nx hv : Value) (x : Mc) : Prop :=
  (F bm ∧ ∀ k, F k → k < w.heap.size) ∧ ∃ Hv Bv, MC w bm nx hv (ofL x.m) (ofL x.p) Hv Bv x.left x.many ∧
    (w.ownsRow 0 30 2 Hv x.h.length (pairs x.h) ∧ ∀ k, Hv.ownBlock = some k → F k) ∧
    (w.ownsRow 0 5 1 Bv x.b.length (bytesV x.b) ∧ ∀ k, Bv.ownBlock = some k → F k) ∧ (x.b = [] → Bv = .slice none 0 0)
def MI (w : World) (bm : Nat) (F : Nat → Prop) (x : Mc) : Prop :=
  ∃ nx hv, MB w bm F nx hv x ∧ Nx w F nx x.st ∧ (x.st = .heads → (w.ownsRow 0 5 1 hv x.head.length (bytesV x.head) ∧ ∀ k, hv.ownBlock = some k → F k) ∧ x.h = [] ∧ x.b = [])
/-- What the blocks are that a step may add. -/
def Grow (F : Nat → Prop) (w w' : World) (k : Nat) : Prop := F k ∨ (w.heap.size ≤ k ∧ k < w'.heap.size)

theorem own_elem {w : World} {base : Nat} {e : TypeId} {size : Nat} {v : Value} {n : Nat} {xs : List Value} (h : w.ownsRow base e size v n xs) {k : Nat} (hk : v.ownBlock = some k) : ∃ cs, w.heap[k]? = some (.cells cs e (0, 0)) := by
  rcases h.2 with ⟨rfl, _⟩ | ⟨g, cap, cur, rfl, _, hg, _⟩
  · cases hk
  · cases hk; exact ⟨cur, hg⟩
theorem MC.not_own {w : World} {bm : Nat} {nx hv Hv Bv : Value} {m p : ByteArray} {l k : Int} (h : MC w bm nx hv m p Hv Bv l k) {base : Nat} {e : TypeId} {size : Nat} {v : Value} {n : Nat} {xs : List Value} (ho : w.ownsRow base e size v n xs)
    (he : e ≠ 71) : ∀ j, v.ownBlock = some j → j ≠ bm := by
  rintro j hj rfl
  obtain ⟨cs, hcs⟩ := own_elem ho hj
  unfold MC at h
  rw [h] at hcs
  simp only [Option.some.injEq, Obj.cells.injEq] at hcs
  exact he hcs.2.1.symm
theorem own_apart {w : World} {b1 b2 : Nat} {e1 e2 : TypeId} {s1 s2 : Nat} {v1 v2 : Value} {n1 n2 : Nat} {x1 x2 : List Value} (h1 : w.ownsRow b1 e1 s1 v1 n1 x1) (h2 : w.ownsRow b2 e2 s2 v2 n2 x2) (he : e1 ≠ e2) :
    ∀ j, v1.ownBlock = some j → v2.ownBlock ≠ some j := by
  intro j hj hj2
  obtain ⟨c1, hc1⟩ := own_elem h1 hj
  obtain ⟨c2, hc2⟩ := own_elem h2 hj2
  rw [hc1] at hc2
  simp only [Option.some.injEq, Obj.cells.injEq] at hc2
  exact he hc2.2.1

theorem grow_of {F : Nat → Prop} {w w' : World} (ht : Touch F w w') (hF : ∀ k, F k → k < w.heap.size) : ∀ k, Grow F w w' k → k < w'.heap.size := fun k h => h.elim (fun a => Nat.lt_of_lt_of_le (hF k a) ht.size) (·.2)
/-- How a step ends. -/
def StepOut (w : World) (bm : Nat) (F : Nat → Prop) (st : Nat) (x' : Mc) (w' : World) : Prop :=
  Touch F w w' ∧ (st = 1 → MI w' bm (Grow F w w') x') ∧ (st = 0 → ∃ nx hv y, MB w' bm (Grow F w w') nx hv y ∧ y.m = x'.m ∧ y.p = x'.p ∧ y.h = x'.h ∧ y.b = x'.b)
def plainStep (x : Mc) (c : UInt8) : Mc := { x with st := .plain, b := x.b ++ [c], left := x.left - 1 }
def plainSt (x : Mc) : Nat := if x.left = 1 then 0 else 1

/-- A byte more in the body, and one less to come. -/
theorem body_more {w w1 w2 : World} {bm : Nat} {F : Nat → Prop} {nx hv : Value} {x : Mc} {Hv Bv Bv' : Value} (hF : F bm ∧ ∀ k, F k → k < w.heap.size) (hM : MC w bm nx hv (ofL x.m) (ofL x.p) Hv Bv x.left x.many)
    (hH : w.ownsRow 0 30 2 Hv x.h.length (pairs x.h) ∧ ∀ k, Hv.ownBlock = some k → F k) (hB : w.ownsRow 0 5 1 Bv x.b.length (bytesV x.b) ∧ ∀ k, Bv.ownBlock = some k → F k)
    (c : UInt8) (hown1 : w1.ownsRow 0 5 1 Bv' (x.b.length + 1) (bytesV x.b ++ [.int .u8 c.toNat])) (ht1 : Touch (fun k => Bv.ownBlock = some k) w w1) (hl1 : Lies w Bv Bv') (hl : 1 ≤ x.left)
    (nx' : Value) (ht2 : Touch (fun j => j = bm) w1 w2) (hM2 : MC w2 bm nx' hv (ofL x.m) (ofL x.p) Hv Bv' ((x.left : Int) - 1) x.many) (st : St) :
    MB w2 bm (Grow F w w2) nx' hv { plainStep x c with st := st } := by
  have hM1 := hM.touch ht1 (fun e => hM.not_own hB.1 (by decide) bm e rfl)
  have ht : Touch F w w2 := (ht1.mono fun j _ h => hB.2 j h).trans (ht2.mono fun j _ h => h ▸ hF.1)
  have hs : w1.heap.size ≤ w2.heap.size := ht2.size
  refine ⟨⟨.inl hF.1, grow_of ht hF.2⟩, Hv, Bv', ?_, ⟨?_, fun k hk => .inl (hH.2 k hk)⟩, ⟨?_, fun k hk => ?_⟩, fun h => absurd h (by simp [plainStep])⟩
  · have : ((x.left : Int) - 1) = ((x.left - 1 : Nat) : Int) := by omega
    rw [this] at hM2; exact hM2
  · exact own_touch (own_touch hH.1 ht1 (fun k hk e => own_apart hH.1 hB.1 (by decide) k hk e)) ht2 (fun k hk e => hM.not_own hH.1 (by decide) k hk e)
  · have h := own_touch hown1 ht2 (fun k hk e => hM1.not_own hown1 (by decide) k hk e)
    show w2.ownsRow 0 5 1 Bv' (x.b ++ [c]).length (bytesV (x.b ++ [c]))
    rw [List.length_append, bytesV_append]; exact h
  · rcases hl1 k hk with h | h
    · exact .inl (hB.2 k h)
    · exact .inr ⟨h, Nat.lt_of_lt_of_le (hown1.lt k hk).2 hs⟩

theorem one_byte (c : UInt8) : ∀ u ∈ [Value.int .u8 c.toNat], u.oneCell' = true := by intro u hu; simp at hu; subst hu; rfl
theorem plain_any (bm : Nat) (F : Nat → Prop) (x : Mc) (c : UInt8) (w : World) (hI : MI w bm F x) (hst : x.st = .plain) (h1 : 1 ≤ x.left) (h2 : x.left ≤ 1048576) (hb : x.b.length ≤ 1048576) :
    Calls Tryz.prog 100 #[.pointer (some ⟨bm, 0, none⟩), .int .u8 c.toNat] w fun e w' => e = .returned (.int .i64 (plainSt x)) ∧ StepOut w bm F (plainSt x) (plainStep x c) w' := by
  obtain ⟨nx, hv, ⟨hF, Hv, Bv, hM, hH, hB, _⟩, hN, _⟩ := hI
  rename_i hzz _
  clear hzz
  have Hone := one_byte c
  have HB := Lib.hid hB
  obtain ⟨A, cp, hBv⟩ := (rd_of_own hB.1).shape
  have hne := hM.not_own hB.1 (by decide)
  have hH' := Lib.hid hH
  have HF := Lib.hid hF
  clear hH hB hF
  subst hBv
  have k5 := hM.c5
  by_cases hlast : x.left = 1
  all_goals
    have Hp : Hid (plainSt x = if x.left = 1 then 0 else 1) := rfl
    generalize plainSt x = st at Hp ⊢
    first | rw [if_pos hlast] at Hp | rw [if_neg hlast] at Hp
    have h3 : x.left ≤ 1 ∨ 2 ≤ x.left := by omega
    first | (replace h3 : x.left ≤ 1 := by omega) | (replace h3 : 2 ≤ x.left := by omega)
    clear hlast
    go_enter Tryz.func100, Tryz.ntmps100
    go_wp2_with (at_builtin; refine wpList_pushAt _ rfl _ _ 23 rfl rowB _ _ _ rfl HB.out.1 [.int .u8 c.toNat] w.heap.size rfl rfl rfl Hone (by omega) ?_)
    intro v' w1 hown1 ht1 hl1
    obtain ⟨A7, c7, rfl⟩ := (rd_of_own hown1).shape
    have hM1 := hM.touch ht1 (fun e => hne bm e rfl)
    have k5 := hM1.c5
    have f5 := hM1.fz 5
    have k6 := hM1.c6
    have f6 := hM1.fz 6
    have hMx := (hM1.set5 (.slice A7 (x.b.length + 1) c7)).set6 ((x.left : Int) - 1)
    have ht2 := ((Touch.refl (fun j => j = bm) w1).setCell (p := ⟨bm, 5, none⟩) rfl (.slice A7 (x.b.length + 1) c7)).setCell (p := ⟨bm, 6, none⟩) rfl (.int .i64 ((x.left : Int) - 1))
    have hMB := Lib.hid (body_more HF.out hM hH'.out HB.out c hown1 ht1 hl1 h1 nx ht2 hMx .plain)
    have HT := Lib.hid ((ht1.mono (G := F) fun j _ h => HB.out.2 j h).trans (ht2.mono fun j _ h => h ▸ HF.out.1))
    go_wp2
    go_ret
    exact ⟨ret_int (by rw [Hp.out]; rfl), HT.out, fun _ => ⟨nx, hv, hMB.out, (by rw [hst] at hN; exact hN), fun h => by cases h⟩, fun _ => ⟨nx, hv, _, hMB.out, rfl, rfl, rfl, rfl⟩⟩

/-- The closures. -/
theorem line_clo (g : Nat) (w : World) : Calls Tryz.prog 123 #[.func (.func g) #[] #[]] w fun e w' => e = .returned (.func (.func 134) #[] #[.pointer (some ⟨w.heap.size, 0, none⟩)]) ∧ w' = w.alloc (.cells #[.func (.func g) #[] #[]] 138) := by
  go_enter Tryz.func123, Tryz.ntmps123
  go_wp2
  go_ret
  exact ⟨rfl, rfl⟩
theorem end_clo (g : Nat) (w : World) : Calls Tryz.prog 120 #[.func (.func g) #[] #[]] w fun e w' => e = .returned (.func (.func 132) #[] #[.pointer (some ⟨w.heap.size, 0, none⟩)]) ∧ w' = w.alloc (.cells #[.func (.func g) #[] #[]] 138) := by
  go_enter Tryz.func120, Tryz.ntmps120
  go_wp2
  go_ret
  exact ⟨rfl, rfl⟩
theorem clo_new {F : Nat → Prop} {w w1 : World} {bm fn g : Nat} (u : Value) (hF : ∀ k, F k → k < w.heap.size) (hs : w.heap.size ≤ w1.heap.size) (hb : bm < w1.heap.size) :
    Clo ((w1.alloc (.cells #[.func (.func g) #[] #[]] 138)).setCell ⟨bm, 0, none⟩ u) (Grow F w ((w1.alloc (.cells #[.func (.func g) #[] #[]] 138)).setCell ⟨bm, 0, none⟩ u))
      (.func (.func fn) #[] #[.pointer (some ⟨w1.heap.size, 0, none⟩)]) fn g := by
  refine ⟨w1.heap.size, rfl, .inr ⟨hs, by simp [World.setCell]⟩, ?_⟩
  rw [Go.Deep.blk_setCell_other _ _ _ _ (by simp; omega)]
  exact heap_alloc_new w1 _
def chunkStep (x : Mc) (c : UInt8) : Mc := { plainStep x c with st := if x.left = 1 then .lineC else .chunk }
theorem chunk_any (bm : Nat) (F : Nat → Prop) (x : Mc) (c : UInt8) (w : World) (hI : MI w bm F x) (hst : x.st = .chunk) (h1 : 1 ≤ x.left) (h2 : x.left ≤ 1048576) (hb : x.b.length ≤ 1048576) :
    Calls Tryz.prog 122 #[.pointer (some ⟨bm, 0, none⟩), .int .u8 c.toNat] w fun e w' => e = .returned (.int .i64 1) ∧ StepOut w bm F 1 (chunkStep x c) w' := by
  obtain ⟨nx, hv, ⟨hF, Hv, Bv, hM, hH, hB, _⟩, hN, _⟩ := hI
  rename_i hzz _
  clear hzz
  have Hone := one_byte c
  have HB := Lib.hid hB
  obtain ⟨A, cp, hBv⟩ := (rd_of_own hB.1).shape
  have hne := hM.not_own hB.1 (by decide)
  have hH' := Lib.hid hH
  have HF := Lib.hid hF
  clear hH hB hF
  subst hBv
  have k5 := hM.c5
  have Hc : Hid (chunkStep x c = { plainStep x c with st := if x.left = 1 then .lineC else .chunk }) := rfl
  generalize chunkStep x c = cx at Hc ⊢
  by_cases hlast : x.left = 1
  · rw [if_pos hlast] at Hc
    have h3 : (((x.left : Int) - 1) == 0) = true := by simp; omega
    have h4 : (x.left : Int) - 1 = 0 := by omega
    have H4 := Lib.hid h4
    clear hlast h4
    go_enter Tryz.func122, Tryz.ntmps122
    go_wp2_with (at_builtin; refine wpList_pushAt _ rfl _ _ 23 rfl rowB _ _ _ rfl HB.out.1 [.int .u8 c.toNat] w.heap.size rfl rfl rfl Hone (by omega) ?_)
    intro v' w1 hown1 ht1 hl1
    obtain ⟨A7, c7, rfl⟩ := (rd_of_own hown1).shape
    have hM1 := hM.touch ht1 (fun e => hne bm e rfl)
    have k5 := hM1.c5
    have f5 := hM1.fz 5
    have k6 := hM1.c6
    have f6 := hM1.fz 6
    go_wp2_with fail
    have hMx := (hM1.set5 (.slice A7 (x.b.length + 1) c7)).set6 ((x.left : Int) - 1)
    have ht2 := ((Touch.refl (fun j => j = bm) w1).setCell (p := ⟨bm, 5, none⟩) rfl (.slice A7 (x.b.length + 1) c7)).setCell (p := ⟨bm, 6, none⟩) rfl (.int .i64 ((x.left : Int) - 1))
    generalize (w1.setCell ⟨bm, 5, none⟩ (.slice A7 (x.b.length + 1) c7)).setCell ⟨bm, 6, none⟩ (.int .i64 ((x.left : Int) - 1)) = w2 at hMx ht2 ⊢
    refine (line_clo 133 w2).mono ?_
    rintro e w3 ⟨rfl, rfl⟩
    have hM3 := hMx.below ((Below.refl w2.heap.size w2).alloc (Nat.le_refl _) (.cells #[.func (.func 133) #[] #[]] 138))
    have k0 := hM3.c0
    have f0 := hM3.fz 0
    have hs2 : w.heap.size ≤ w2.heap.size := Nat.le_trans ht1.size ht2.size
    have ht3 := (ht2.next ((Below.refl w2.heap.size w2).alloc (Nat.le_refl _) (.cells #[.func (.func 133) #[] #[]] 138))).setCell (p := ⟨bm, 0, none⟩) rfl (.func (.func 134) #[] #[.pointer (some ⟨w2.heap.size, 0, none⟩)])
    have hMB := Lib.hid (body_more HF.out hM hH'.out HB.out c hown1 ht1 hl1 h1 _ ht3 (hM3.set0 _) .lineC)
    have HT := Lib.hid ((ht1.mono (G := F) fun j _ h => HB.out.2 j h).trans (ht3.mono fun j _ h => h ▸ HF.out.1))
    have HC := Lib.hid (clo_new (bm := bm) (fn := 134) (g := 133) (.func (.func 134) #[] #[.pointer (some ⟨w2.heap.size, 0, none⟩)]) HF.out.2 hs2 hMx.lt)
    clear ht3 hs2
    go_wp2_with fail
    go_ret
    exact ⟨rfl, HT.out, fun _ => ⟨_, hv, by rw [Hc.out]; exact hMB.out, by rw [Hc.out]; exact HC.out, fun h => by rw [Hc.out] at h; cases h⟩, fun h => by cases h⟩
  · rw [if_neg hlast] at Hc
    have h3 : (((x.left : Int) - 1) == 0) = false := by simp; omega
    clear hlast
    go_enter Tryz.func122, Tryz.ntmps122
    go_wp2_with (at_builtin; refine wpList_pushAt _ rfl _ _ 23 rfl rowB _ _ _ rfl HB.out.1 [.int .u8 c.toNat] w.heap.size rfl rfl rfl Hone (by omega) ?_)
    intro v' w1 hown1 ht1 hl1
    obtain ⟨A7, c7, rfl⟩ := (rd_of_own hown1).shape
    have hM1 := hM.touch ht1 (fun e => hne bm e rfl)
    have k5 := hM1.c5
    have f5 := hM1.fz 5
    have k6 := hM1.c6
    have f6 := hM1.fz 6
    have hMx := (hM1.set5 (.slice A7 (x.b.length + 1) c7)).set6 ((x.left : Int) - 1)
    have ht2 := ((Touch.refl (fun j => j = bm) w1).setCell (p := ⟨bm, 5, none⟩) rfl (.slice A7 (x.b.length + 1) c7)).setCell (p := ⟨bm, 6, none⟩) rfl (.int .i64 ((x.left : Int) - 1))
    have hMB := Lib.hid (body_more HF.out hM hH'.out HB.out c hown1 ht1 hl1 h1 nx ht2 hMx .chunk)
    have HT := Lib.hid ((ht1.mono (G := F) fun j _ h => HB.out.2 j h).trans (ht2.mono fun j _ h => h ▸ HF.out.1))
    go_wp2
    go_ret
    exact ⟨rfl, HT.out, fun _ => ⟨nx, hv, by rw [Hc.out]; exact hMB.out, by rw [hst] at hN; rw [Hc.out]; exact hN, fun h => by rw [Hc.out] at h; cases h⟩, fun h => by cases h⟩
end Go.Proofs.YtgdelmkgdfhdpaaGreatDoor
