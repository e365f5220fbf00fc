/- The law HttpdParses (blotterlaw08) is true: its walk. Conditions: none. -/
import Derived.Test.YtmhgnaemafohfaaDoorMachN
namespace Go.Proofs.YtmhgnaemafohfaaDoor
open Go.RowKit
set_option linter.unusedVariables false
set_option linter.unusedSimpArgs false
set_option maxRecDepth 100000

theorem req_of_own {base : Nat} {x : Req} {v : Value} {w : World} (h : OwnReq base x v w) : ReqV w x v := by
  obtain ⟨Hv, Bv, rfl, h1, h2⟩ := h
  exact ⟨_, _, rfl, rd_of_own h1, rd_of_own h2⟩
theorem reqV_below {x : Req} {v : Value} {w w' : World} (h : ReqV w x v) (hb : Below w.heap.size w w') : ReqV w' x v := by
  obtain ⟨Hv, Bv, rfl, h1, h2⟩ := h
  exact ⟨_, _, rfl, h1.below hb, h2.below hb⟩
/-- A row of bytes, whichever. -/
def ByteRow (w : World) (g n : Nat) : Prop := ∃ cs, w.heap[g]? = some (.cells cs 5 (0, 0)) ∧ ∀ j, j < n → ∃ c : Int, cs[j]? = some (.int .u8 c)
theorem ByteRow.at {w : World} {g n : Nat} (h : ByteRow w g n) {k : Nat} (hk : k < n) : (∃ c : Int, w.cell? ⟨g, k, none⟩ = some (.int .u8 c)) ∧ w.frozen? ⟨g, k, none⟩ = false := by
  obtain ⟨cs, h1, h2⟩ := h
  obtain ⟨c, hc⟩ := h2 k hk
  exact ⟨⟨c, by rw [Lib.cell_of_heap h1]; exact hc⟩, Lib.frozen_of_heap h1 k⟩
theorem ByteRow.set {w : World} {g n : Nat} (h : ByteRow w g n) (k : Nat) (c : Int) : ByteRow (w.setCell ⟨g, k, none⟩ (.int .u8 c)) g n := by
  obtain ⟨cs, h1, h2⟩ := h
  refine ⟨_, heap_set_own h1 k _, fun j hj => ?_⟩
  obtain ⟨d, hd⟩ := h2 j hj
  by_cases e : k = j
  · subst e
    refine ⟨c, ?_⟩
    have hlt := (Array.getElem?_eq_some_iff.1 hd).1
    simp [Array.set!, hlt]
  · exact ⟨d, by simp only [Array.set!]; rw [Array.getElem?_setIfInBounds_ne e]; exact hd⟩
theorem row_of_own {w : World} {base : Nat} {l : B} {v : Value} (h : w.ownsRow base 5 1 v l.length (bytesV l)) : l = [] ∨ ∃ g cap, v = .slice (some ⟨g, 0, none⟩) l.length cap ∧ base ≤ g ∧ ByteRow w g l.length := by
  rcases h.2 with ⟨_, h0⟩ | ⟨g, cap, cur, rfl, hb, hg, hc, hm, hs, htk⟩
  · exact .inl (List.eq_nil_of_length_eq_zero h0)
  · refine .inr ⟨g, cap, rfl, hb, cur, hg, fun j hj => ?_⟩
    obtain ⟨c, hc⟩ : ∃ c, l[j]? = some c := ⟨l[j], List.getElem?_eq_getElem hj⟩
    have h1 := bytesV_at hc
    rw [← htk, List.getElem?_take_of_lt (by omega), Array.getElem?_toList] at h1
    exact ⟨_, h1⟩

theorem req_small (l : B) : (progParse l).1.b.length ≤ 32768 ∧ (progParse l).1.h.length ≤ 32 := by
  rw [parse_law]
  rcases one_law l with ⟨_, _, _, h1, h2, _⟩ | ⟨_, _, h⟩
  · exact ⟨h1, h2⟩
  · rw [h]; exact ⟨Nat.zero_le _, Nat.zero_le _⟩
theorem reqV_agg {x : Req} {v : Value} {w : World} (h : ReqV w x v) : ∃ A c B d, v = .agg #[.string (ofL x.m), .string (ofL x.p), .slice A x.h.length c, .slice B x.b.length d] := by
  obtain ⟨Hv, Bv, rfl, h1, h2⟩ := h
  obtain ⟨A, c, rfl⟩ := h1.shape
  obtain ⟨B, d, rfl⟩ := h2.shape
  exact ⟨_, _, _, _, rfl⟩

end Go.Proofs.YtmhgnaemafohfaaDoor
