/- The law HttpdParses (blotterlaw08) is true: its walk. Conditions: none. -/
import Derived.Test.YtmhgnaemafohfaaGreatDoorMachN
namespace Go.Proofs.YtmhgnaemafohfaaGreatDoor
open Go.RowKit
set_option linter.unusedVariables false
set_option linter.unusedSimpArgs false
set_option maxRecDepth 100000

theorem req_of_own {base : Nat} {x : Req} {v : Value} {w : World} (h : OwnReq base x v w) : ReqV w x v := by
  obtain ⟨Hv, Bv, rfl, h1, h2⟩ := h
  exact ⟨_, _, rfl, rd_of_own h1, rd_of_own h2⟩
theorem reqV_below {x : Req} {v : Value} {w w' : World} (h : ReqV w x v) (hb : Below w.heap.size w w') : ReqV w' x v := by
  obtain ⟨Hv, Bv, rfl, h1, h2⟩ := h
  exact ⟨_, _, rfl, h1.below hb, h2.below hb⟩
/-- A row of bytes, whichever. -/
def ByteRow (w : World) (g n : Nat) : Prop := ∃ cs, w.heap[g]? = some (.cells cs 5 (0, 0)) ∧ ∀ j, j < n → ∃ c : Int, cs[j]? = some (.int .u8 c)
theorem ByteRow.at {w : World} {g n : Nat} (h : ByteRow w g n) {k : Nat} (hk : k < n) : (∃ c : Int, w.cell? ⟨g, k, none⟩ = some (.int .u8 c)) ∧ w.frozen? ⟨g, k, none⟩ = false := by
  obtain ⟨cs, h1, h2⟩ := h
  obtain ⟨c, hc⟩ := h2 k hk
  exact ⟨⟨c, by rw [Lib.cell_of_heap h1]; exact hc⟩, Lib.frozen_of_heap h1 k⟩
theorem ByteRow.set {w : World} {g n : Nat} (h : ByteRow w g n) (k : Nat) (c : Int) : ByteRow (w.setCell ⟨g, k, none⟩ (.int .u8 c)) g n := by
  obtain ⟨cs, h1, h2⟩ := h
  refine ⟨_, heap_set_own h1 k _, fun j hj => ?_⟩
  obtain ⟨d, hd⟩ := h2 j hj
  by_cases e : k = j
  · subst e
    refine ⟨c, ?_⟩
    have hlt := (Array.getElem?_eq_some_iff.1 hd).1
    simp [Array.set!, hlt]
  · exact ⟨d, by simp only [Array.set!]; rw [Array.getElem?_setIfInBounds_ne e]; exact hd⟩
theorem row_of_own {w : World} {base : Nat} {l : B} {v : Value} (h : w.ownsRow base 5 1 v l.length (bytesV l)) : l = [] ∨ ∃ g cap, v = .slice (some ⟨g, 0, none⟩) l.length cap ∧ base ≤ g ∧ ByteRow w g l.length := by
  rcases h.2 with ⟨_, h0⟩ | ⟨g, cap, cur, rfl, hb, hg, hc, hm, hs, htk⟩
  · exact .inl (List.eq_nil_of_length_eq_zero h0)
  · refine .inr ⟨g, cap, rfl, hb, cur, hg, fun j hj => ?_⟩
    obtain ⟨c, hc⟩ : ∃ c, l[j]? = some c := ⟨l[j], List.getElem?_eq_getElem hj⟩
    have h1 := bytesV_at hc
    rw [← htk, List.getElem?_take_of_lt (by omega), Array.getElem?_toList] at h1
    exact ⟨_, h1⟩

theorem req_small (l : B) : (progParse l).1.b.length ≤ 32768 ∧ (progParse l).1.h.length ≤ 32 := by
  rw [parse_law]
  rcases one_law l with ⟨_, _, _, h1, h2, _⟩ | ⟨_, _, h⟩
  · exact ⟨h1, h2⟩
  · rw [h]; exact ⟨Nat.zero_le _, Nat.zero_le _⟩
theorem reqV_agg {x : Req} {v : Value} {w : World} (h : ReqV w x v) : ∃ A c B d, v = .agg #[.string (ofL x.m), .string (ofL x.p), .slice A x.h.length c, .slice B x.b.length d] := by
  obtain ⟨Hv, Bv, rfl, h1, h2⟩ := h
  obtain ⟨A, c, rfl⟩ := h1.shape
  obtain ⟨B, d, rfl⟩ := h2.shape
  exact ⟨_, _, _, _, rfl⟩

set_option maxHeartbeats 8000000 in
theorem parses_any (l : B) (v : Value) (w : World) (hR : Rd w 1 v l.length (bytesV l)) (hg : Glob w) :
    Calls Tryz.prog 3 #[v] w fun e w' => e = .returned (.bool true) ∧ Below w.heap.size w w' := by
  obtain ⟨A, cp, rfl⟩ := hR.shape
  have HR := Lib.hid hR
  have HG := Lib.hid hg
  clear hR hg
  have CA := Lib.hid (fun w' (hb : Below w.heap.size w w') => awake_any w' (HG.out.next hb))
  by_cases hbig : 262144 < l.length
  · have hb1 : (262144 : Int) < l.length := by omega
    go_enter Tryz.func3, Tryz.ntmps3
    go_wp2_with fail
    refine (CA.out _ (Below.refl _ _)).mono ?_
    rintro e w4 ⟨rfl, hb4⟩
    go_wp2_with fail
    go_ret
    exact ⟨rfl, hb4⟩
  have hb1 : ¬ (262144 : Int) < l.length := by omega
  have hl : l.length ≤ 262144 := by omega
  clear hbig
  go_enter Tryz.func3, Tryz.ntmps3
  go_wp2_with fail
  refine (clone_any l _ w HR.out (by omega)).mono ?_
  rintro e w1 ⟨v1, rfl, hown, hr⟩
  have hRg := rd_of_own hown
  obtain ⟨A1, c1, rfl⟩ := hRg.shape
  have HOG := Lib.hid hown
  go_wp2_with fail
  refine (prog_any l _ w1 hRg (by omega) (HG.out.next hr)).mono ?_
  clear hown hRg
  rintro e w2 ⟨⟨v2, rfl, hq⟩, hb2⟩
  obtain ⟨hsB, hsH⟩ := req_small l
  have hx := parse_law l
  generalize progParse l = x at *
  have HX := Lib.hid hx.symm
  clear hx
  obtain ⟨r, n, st⟩ := x
  simp only at hsB hsH
  have HQ := Lib.hid hq
  obtain ⟨A2, c2, B2, d2, rfl⟩ := req_agg hq
  clear hq
  have hr2 := hr.next hb2
  go_wp2_with fail
  have hR1 : RC (w2.alloc (.cells #[.string (ofL r.m), .string (ofL r.p), .slice A2 r.h.length c2, .slice B2 r.b.length d2] 27)) w2.heap.size (ofL r.m) (ofL r.p) (.slice A2 r.h.length c2) (.slice B2 r.b.length d2) := heap_alloc_new _ _
  have hb3 := (Below.refl w2.heap.size w2).alloc (Nat.le_refl _) (.cells #[.string (ofL r.m), .string (ofL r.p), .slice A2 r.h.length c2, .slice B2 r.b.length d2] 27)
  generalize w2.alloc (.cells #[.string (ofL r.m), .string (ofL r.p), .slice A2 r.h.length c2, .slice B2 r.b.length d2] 27) = w3 at *
  have hr3 := hr2.next hb3
  refine (refParse_any l _ w3 (HR.out.below hr3) (by omega)).mono ?_
  rintro e w4 ⟨hp, hb4⟩
  rw [HX.out] at hp
  obtain ⟨v4, rfl, hq⟩ := hp
  have HQ4 := Lib.hid hq
  obtain ⟨A4, c4, B4, d4, rfl⟩ := reqV_agg hq
  clear hq
  have hr4 := hr3.next hb4
  have hR4 := hR1.below hb4
  have klt := hR4.lt
  have k0 := hR4.c0
  have k1 := hR4.c1
  have k2 := hR4.c2
  have k3 := hR4.c3
  go_wp2_with fail
  have hb5 := (Below.refl w4.heap.size w4).alloc (Nat.le_refl _) (.cells #[.string (ofL r.m), .string (ofL r.p), .slice A4 r.h.length c4, .slice B4 r.b.length d4] 27)
  generalize w4.alloc (.cells #[.string (ofL r.m), .string (ofL r.p), .slice A4 r.h.length c4, .slice B4 r.b.length d4] 27) = w5 at *
  refine (same_any r _ _ w5 (reqV_below (req_of_own HQ.out) ((hb3.next hb4).next hb5)) (reqV_below HQ4.out hb5) (by omega) (by omega)).mono ?_
  rintro e w6 ⟨rfl, hb6⟩
  have hr6 := (hr4.next hb5).next hb6
  have hR6 := hR4.below (hb5.next hb6)
  have hb26 := ((hb3.next hb4).next hb5).next hb6
  clear k0 k1 k2 k3 klt HQ4 hb5 hb6 hR4 hr4 hb4 hR1 hr3 hb3
  have k3 := hR6.c3
  have klt := hR6.lt
  have hrow : Hid (r.b = [] ∨ ∃ g, B2 = some ⟨g, 0, none⟩ ∧ w1.heap.size ≤ g ∧ g < w2.heap.size ∧ ByteRow w6 g r.b.length) := by
    obtain ⟨Hv, Bv, he, _, ho⟩ := HQ.out
    rcases row_of_own (own_below ho hb26) with h | ⟨g, cap, hv, hg, hrw⟩
    · exact .inl h
    · refine .inr ⟨g, ?_, hg, ?_, hrw⟩
      · rw [hv] at he; simp at he; exact he.2.1
      · exact (ho.lt g (by rw [hv]; rfl)).2
  have h47 : r.b.length ≤ 32768 := hsB
  go_wp2_with fail
  go_loopw [46] (fun i wr => ∃ k : Nat, k ≤ r.b.length ∧ i = .int .i64 k ∧ Hid (r.b = [] ∨ ∃ g, B2 = some ⟨g, 0, none⟩ ∧ w1.heap.size ≤ g ∧ g < w2.heap.size ∧ ByteRow wr g r.b.length) ∧ Hid (Touch (fun j => B2 = some ⟨j, 0, none⟩ ∧ w1.heap.size ≤ j ∧ j < w2.heap.size) w6 wr)) (fun i _ => r.b.length - (intOf i).toNat)
  case atStart => exact ⟨0, Nat.zero_le _, rfl, hrow, Touch.refl _ _⟩
  case round =>
    obtain ⟨k, hk, rfl, Hrow, Ht⟩ := hrel
    have hR7 := hR6.touch Ht.out (fun e => by obtain ⟨_, _, h⟩ := e; omega)
    have j3 := hR7.c3
    have jlt := hR7.lt
    have hb16 := hb2.trans ((hb26.mono hb2.size).trans (Ht.out.below (B := w1.heap.size) (fun k hk h => by omega) (Nat.le_trans hb2.size hb26.size)))
    by_cases hlt : k < r.b.length
    · obtain ⟨g, hB, hg1, hg2, hbr⟩ := Hrow.out.resolve_left (by intro e; rw [e] at hlt; exact absurd hlt (Nat.not_lt_zero _))
      subst hB
      obtain ⟨⟨c, hc⟩, hf⟩ := hbr.at hlt
      have Hbr := Lib.hid hbr
      have Hg1 := Lib.hid hg1
      have Hg2 := Lib.hid hg2
      clear hbr hg1 hg2 hb2 hb26 hb16 hr6 hr k3 klt
      go_wp2_with fail
      go_roundw
      case rel => exact ⟨k + 1, by omega, by go_num, .inr ⟨g, rfl, Hg1.out, Hg2.out, Hbr.out.set k _⟩, Ht.out.setCell (p := ⟨g, k, none⟩) ⟨rfl, Hg1.out, Hg2.out⟩ _⟩
      case measure => simp [intOf]; omega
    · clear k3 klt Hrow
      have hbw := hr.trans (hb16.mono hr.size)
      go_wp2_with fail
      refine (equal_any l l _ _ _ ((rd_of_own HOG.out).below hb16) (HR.out.below hbw) (by omega) (by omega)).mono ?_
      rintro e w8 ⟨rfl, hb8⟩
      have hbx := hbw.next hb8
      go_wp2_with fail
      refine (CA.out _ hbx).mono ?_
      rintro e w9 ⟨rfl, hb9⟩
      go_wp2_with fail
      go_ret
      exact ⟨rfl, hbx.next hb9⟩
end Go.Proofs.YtmhgnaemafohfaaGreatDoor
