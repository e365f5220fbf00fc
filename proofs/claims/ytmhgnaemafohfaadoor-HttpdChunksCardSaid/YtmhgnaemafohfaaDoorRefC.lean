/- The reference's functions with lists (blotterref08): values, cut. Conditions: the texts are short. -/
import Derived.Test.YtmhgnaemafohfaaDoorMem
import Derived.Test.YtmhgnaemafohfaaDoorRefB
namespace Go.Proofs.YtmhgnaemafohfaaDoor
open Go.RowKit
set_option linter.unusedVariables false
set_option linter.unusedSimpArgs false
set_option maxRecDepth 100000

theorem rowS : Row Tryd.prog 74 9 (.string ⟨#[]⟩) 1 16 :=
  ⟨Tryd.underlying74, info_parts (by kernel_rfl), rfl, by decide, by decide⟩
theorem rowB : Row Tryd.prog 22 5 (.int .u8 0) 1 1 :=
  ⟨Tryd.underlying22, info_parts (by kernel_rfl), rfl, by decide, by decide⟩
theorem rowH : Row Tryd.prog 24 54 (.agg #[(.string ⟨#[]⟩), (.string ⟨#[]⟩)]) 2 32 :=
  ⟨Tryd.underlying24, info_parts (by kernel_rfl), rfl, by decide, by decide⟩

def valuesL (hs : List (B × B)) (nm : B) : List B := (hs.filter fun h => h.1 == nm).map (·.2)
theorem valuesL_snoc (hs : List (B × B)) (h : B × B) (nm : B) : valuesL (hs ++ [h]) nm = valuesL hs nm ++ if h.1 == nm then [h.2] else [] := by
  unfold valuesL; rw [List.filter_append, List.map_append]; simp only [List.filter_cons, List.filter_nil]; split <;> simp
theorem valuesL_le (hs : List (B × B)) (nm : B) : (valuesL hs nm).length ≤ hs.length := by unfold valuesL; simp [List.length_filter_le]
theorem take_snoc' {α : Type} {l : List α} {k : Nat} {x : α} (h : l[k]? = some x) : l.take (k + 1) = l.take k ++ [x] := by rw [List.take_add_one, h]; rfl
/-- A head's lines. -/
def cutL (s : B) : List B :=
  if h : whereL [13, 10] s < s.length then s.take (whereL [13, 10] s) :: cutL (s.drop (whereL [13, 10] s + 2)) else [s]
termination_by s.length
decreasing_by simp; omega
theorem whereL_hit (t : B) : ∀ s : B, whereL t s < s.length → t <+: s.drop (whereL t s)
  | [], h => by simp at h
  | c :: r, h => by
    unfold whereL at h ⊢
    split
    · rename_i hp; simpa using List.isPrefixOf_iff_prefix.1 hp
    · rename_i hp; rw [if_neg hp] at h; simpa using whereL_hit t r (by simpa using h)
theorem whereL_room {t s : B} (h : whereL t s < s.length) : whereL t s + t.length ≤ s.length := by
  have := (whereL_hit t s h).length_le; rw [List.length_drop] at this; omega
theorem cutL_yes {s : B} (h : whereL [13, 10] s < s.length) : cutL s = s.take (whereL [13, 10] s) :: cutL (s.drop (whereL [13, 10] s + 2)) := by rw [cutL, dif_pos h]
theorem cutL_no {s : B} (h : ¬ whereL [13, 10] s < s.length) : cutL s = [s] := by rw [cutL, dif_neg h]
def strLen : Value → Nat | .string s => s.size | _ => 0
theorem hdr_eq (w : World) (x0 y0 x1 y1 : ByteArray) :
    (Op.equalIn 10000 54 (.agg #[.string x0, .string x1]) (.agg #[.string y0, .string y1])).run Tryd.prog w = .ok (x0.toList == y0.toList && (x1.toList == y1.toList)) w := by
  rw [run_equalIn_struct w 9999 54 _ _ (by rw [Program.fieldsOf, Tryd.underlying54]) (by kernel_rfl)]
  simp only [Program.fieldsOf, Tryd.underlying54]
  go_simp
  by_cases h0 : x0.toList = y0.toList <;> by_cases h1 : x1.toList = y1.toList <;> simp [h0, h1]
theorem hdr_dec (h g : B × B) : ((ofL h.1).toList == (ofL g.1).toList && ((ofL h.2).toList == (ofL g.2).toList)) = decide (h = g) := by
  obtain ⟨a, b⟩ := h; obtain ⟨c, d⟩ := g
  rw [Bool.eq_iff_iff]; simp [toL_ofL]
theorem sameHdr_any (hs gs : List (B × B)) (v u : Value) (w : World) (hR : Rd w 2 v hs.length (pairs hs)) (hS : Rd w 2 u gs.length (pairs gs)) (hn : hs.length ≤ maxLen) (hm : gs.length ≤ maxLen) :
    Calls Tryd.prog 22 #[v, u] w fun e w' => e = .returned (.bool (decide (hs = gs))) ∧ Below w.heap.size w w' := by
  have HR := Lib.hid hR
  have HS := Lib.hid hS
  obtain ⟨A, c, rfl⟩ := hR.shape
  obtain ⟨A', c', rfl⟩ := hS.shape
  clear hR hS
  unfold maxLen at hn hm
  by_cases hl : hs.length = gs.length
  · have Hl := Lib.hid hl
    go_enter Tryd.func22, Tryd.ntmps22
    go_wp2
    go_loopw [13] (fun i wr => ∃ k : Nat, k ≤ hs.length ∧ i = .int .i64 k ∧ hs.take k = gs.take k ∧ Below w.heap.size w wr) (fun i _ => hs.length - (intOf i).toNat)
    case atStart => exact ⟨0, Nat.zero_le _, rfl, rfl, Below.refl _ _⟩
    case round =>
      obtain ⟨k, hk, rfl, he, hb⟩ := hrel
      have He := Lib.hid he
      clear he
      by_cases hlt : k < hs.length
      · obtain ⟨h, hh⟩ : ∃ h, hs[k]? = some h := ⟨hs[k], List.getElem?_eq_getElem hlt⟩
        obtain ⟨g, hg⟩ : ∃ g, gs[k]? = some g := ⟨gs[k]'(by omega), List.getElem?_eq_getElem (by omega)⟩
        obtain ⟨b, o, rfl, hc1, hc2⟩ := (HR.out.below hb).pairAt hh
        obtain ⟨b', o', rfl, hd1, hd2⟩ := (HS.out.below hb).pairAt hg
        have hlt' : k < gs.length := by omega
        clear hl
        have kq := fun w' => hdr_eq w' (ofL h.1) (ofL g.1) (ofL h.2) (ofL g.2)
        rw [hdr_dec] at kq
        by_cases hhg : h = g
        · rw [decide_eq_true hhg] at kq
          have Hs : Hid (hs.take (k + 1) = gs.take (k + 1)) := by show _ = _; rw [take_snoc' hh, take_snoc' hg, He.out, hhg]
          clear hh hg hhg
          go_wp2
          go_quiet (fail)
          go_wp2
          go_roundw
          case rel => exact ⟨k + 1, by omega, by go_num, Hs.out, hb.trans (below_drewN _ _ _)⟩
          case measure => simp [intOf]; omega
        · rw [decide_eq_false hhg] at kq
          have Hs : Hid (hs ≠ gs) := fun e => by rw [e] at hh; rw [hh] at hg; exact hhg (Option.some.inj hg)
          clear hh hg hhg
          go_wp2
          go_quiet (fail)
          go_wp2
          go_ret
          exact ⟨ret_bool (by simp [Hs.out]), hb.trans (below_drewN _ _ _)⟩
      · have hk' : ¬ k < gs.length := by omega
        have Hf : Hid (hs = gs) := by show _ = _; have := He.out; rwa [List.take_of_length_le (by omega), List.take_of_length_le (by have := Hl.out; omega)] at this
        go_wp2
        go_ret
        exact ⟨ret_bool (by simp [Hf.out]), hb⟩
  · have Hf : Hid (hs ≠ gs) := fun e => hl (by rw [e])
    have hl' : ((hs.length : Int) != (gs.length : Int)) = true := by simp; omega
    go_enter Tryd.func22, Tryd.ntmps22
    go_wp2
    go_ret
    exact ⟨ret_bool (by simp [Hf.out]), Below.refl _ _⟩
end Go.Proofs.YtmhgnaemafohfaaDoor
