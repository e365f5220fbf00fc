/- The law's awake. Conditions: the error's type stands, the table of powers of ten stands. -/
import Derived.Test.YthkpbgpgcpkiiaaGreatDoorJPriD
import Derived.Test.YthkpbgpgcpkiiaaGreatDoorJsonN
import Derived.Test.YthkpbgpgcpkiiaaGreatDoorJParR
namespace Go.Proofs.YthkpbgpgcpkiiaaGreatDoor
open Go.RowKit
set_option linter.unusedVariables false
set_option linter.unusedSimpArgs false
set_option maxRecDepth 100000

/-- What the program's own variables hold. -/
def Good (w : World) : Prop := ET w ∧ Tab10 w ∧ 7 ≤ w.heap.size
theorem Good.below {w w' : World} (h : Good w) (hb : Below w.heap.size w w') : Good w' := ⟨h.1.below hb, h.2.1.below hb, Nat.le_trans h.2.2 hb.size⟩
theorem box5 {w : World} {b : Nat} {v0 v1 v2 v3 v4 : Value} {ty : TypeId} (h : w.heap[b]? = some (.cells #[v0, v1, v2, v3, v4] ty (0, 0))) :
    w.cell? ⟨b, 0, none⟩ = some v0 ∧ w.cell? ⟨b, 1, none⟩ = some v1 ∧ w.cell? ⟨b, 2, none⟩ = some v2 ∧ w.cell? ⟨b, 3, none⟩ = some v3 ∧ w.cell? ⟨b, 4, none⟩ = some v4 ∧ b < w.heap.size :=
  ⟨by rw [Lib.cell_of_heap h]; rfl, by rw [Lib.cell_of_heap h]; rfl, by rw [Lib.cell_of_heap h]; rfl, by rw [Lib.cell_of_heap h]; rfl, by rw [Lib.cell_of_heap h]; rfl, (Array.getElem?_eq_some_iff.1 h).1⟩
/-- A text that is read, its three results. -/
theorem parse_at (s : ByteArray) (hs : s.size ≤ 140737488351232) (w : World) (hET : ET w) {v : J} {p n : Nat} (h : parseJ s.toList = (v, p, n)) :
    Calls Tryz.prog 19 #[.string s] w fun e w' => ∃ A1 m1 c1 A2 m2 c2, e = .returned (.tuple #[.agg #[.int .i64 v.kind, .int .i64 v.int, .string (ofL v.text), .slice A1 m1 c1, .slice A2 m2 c2], .int .i64 (p : Int), .int .i64 (n : Int)]) ∧
      RJ (fun b => b < w'.heap.size) w' v [.int .i64 v.kind, .int .i64 v.int, .string (ofL v.text), .slice A1 m1 c1, .slice A2 m2 c2] ∧ Below w.heap.size w w' := by
  have K := parse_any s hs w hET
  rw [h] at K
  refine K.mono ?_
  rintro e w' ⟨⟨N, I, he, hR⟩, hb⟩
  have hR' : RJ (fun b => b < w'.heap.size) w' v [.int .i64 v.kind, .int .i64 v.int, .string (ofL v.text), N, I] := RJ.mono (fun b _ hb => hb) _ _ hR
  obtain ⟨⟨A1, m1, c1, rfl⟩, A2, m2, c2, rfl⟩ := rj_slices hR'
  exact ⟨A1, m1, c1, A2, m2, c2, he, hR', hb⟩
set_option maxHeartbeats 4000000 in
theorem awake_any (w : World) (hG : Good w) : Calls Tryz.prog 11 #[] w fun e w' => e = .returned (.bool true) ∧ Below w.heap.size w w' := by
  have hs1 : (⟨#[123, 34, 98, 34, 58, 49, 44, 34, 97, 34, 58, 91, 116, 114, 117, 101, 44, 110, 117, 108, 108, 93, 125]⟩ : ByteArray).toList = wakeB := by rw [toL_eq]; rfl
  have hs2 : (⟨#[91, 49, 44, 93]⟩ : ByteArray).toList = [91, 49, 44, 93] := by rw [toL_eq]
  have K1 := Lib.hid (parse_at ⟨#[123, 34, 98, 34, 58, 49, 44, 34, 97, 34, 58, 91, 116, 114, 117, 101, 44, 110, 117, 108, 108, 93, 125]⟩ (by decide) w hG.1 (v := wakeV) (p := 0) (n := 0) (by rw [hs1, wake_parse]))
  have K2 := Lib.hid (fun (w' : World) (hb : Below w.heap.size w w') => parse_at ⟨#[91, 49, 44, 93]⟩ (by decide) w' (hG.below hb).1 (v := J0) (p := 3) (n := 40) (by rw [hs2, wake_fail]))
  have K3 := Lib.hid (fun (w' : World) (N I : Value) (hb : Below w.heap.size w w') hR => by
    have := Print_any wakeV N I w' hR wake_wf (by rw [wake_wt]; omega) (hG.below hb).2.2 (hG.below hb).2.1
    rw [wake_print] at this; exact this)
  clear hs1 hs2 hG
  have e00 : ((0 : Nat) : Int) = 0 := rfl
  generalize wakeV = wv at *
  generalize J0 = w0 at *
  go_enter Tryz.func11, Tryz.ntmps11
  go_wp2_with fail
  (with_reducible refine K1.out.mono ?_); rintro e w1 ⟨A1, m1, c1, A2, m2, c2, rfl, hR, hb1⟩
  have HB1 := Lib.hid hb1
  clear hb1
  have hb2 := (Below.refl w1.heap.size w1).alloc (Nat.le_refl _) (.cells #[.int .i64 wv.kind, .int .i64 wv.int, .string (ofL wv.text), .slice A1 m1 c1, .slice A2 m2 c2] 25)
  have hk2 : (w1.alloc (.cells #[.int .i64 wv.kind, .int .i64 wv.int, .string (ofL wv.text), .slice A1 m1 c1, .slice A2 m2 c2] 25)).heap[w1.heap.size]? = some (.cells #[.int .i64 wv.kind, .int .i64 wv.int, .string (ofL wv.text), .slice A1 m1 c1, .slice A2 m2 c2] 25 (0, 0)) := heap_alloc_new w1 _
  have HR2 := Lib.hid (hR.grow hb2)
  clear hR
  go_upto_region 2 with fail
  generalize w1.alloc (.cells #[.int .i64 wv.kind, .int .i64 wv.int, .string (ofL wv.text), .slice A1 m1 c1, .slice A2 m2 c2] 25) = w2 at *
  obtain ⟨d0, d1, d2, d3, d4, -⟩ := box5 hk2
  have HB2 := Lib.hid (HB1.out.next hb2)
  have K3 := Lib.hid (K3.out _ _ _ HB2.out HR2.out)
  clear hb2 hk2 K1
  go_wp2_with fail
  (with_reducible refine K3.out.mono ?_); rintro e w3 ⟨rfl, hb3⟩
  have HB3 := Lib.hid (HB2.out.next hb3)
  have K2 := Lib.hid (K2.out _ HB3.out)
  clear hb3 K3
  go_wp2_with fail
  (with_reducible refine K2.out.mono ?_); rintro e w4 ⟨A3, m3, c3, A4, m4, c4, rfl, hR4, hb4⟩
  have HB4 := Lib.hid (HB3.out.next hb4)
  have hb5 := (Below.refl w4.heap.size w4).alloc (Nat.le_refl _) (.cells #[.int .i64 w0.kind, .int .i64 w0.int, .string (ofL w0.text), .slice A3 m3 c3, .slice A4 m4 c4] 25)
  clear hb4 K2 hR4
  have HB5 := Lib.hid (HB4.out.next hb5)
  clear hb5
  go_upto_region 4 with fail
  generalize w4.alloc (.cells #[.int .i64 w0.kind, .int .i64 w0.int, .string (ofL w0.text), .slice A3 m3 c3, .slice A4 m4 c4] 25) = w5 at *
  have ht : (ofL wakeT).toList == [123, 34, 97, 34, 58, 91, 116, 114, 117, 101, 44, 110, 117, 108, 108, 93, 44, 34, 98, 34, 58, 49, 125] := by rw [toL_ofL]; rfl
  go_wp2_with fail
  go_ret
  exact ⟨ret_bool (by simp [toL_ofL, wakeT]), HB5.out⟩
end Go.Proofs.YthkpbgpgcpkiiaaGreatDoor
