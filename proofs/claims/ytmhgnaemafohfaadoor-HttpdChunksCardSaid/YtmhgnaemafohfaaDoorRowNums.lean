/- A list of whole numbers that came in reads as its numbers. Conditions: none. -/
import Derived.Test.YtmhgnaemafohfaaDoorRowBytes
import Derived.Test.YtmhgnaemafohfaaDoorPieA
namespace Go.Proofs.YtmhgnaemafohfaaDoor.Rowk
open Go.ChangeShapes Go.WideShapes Go.ChangeAt Go.RowKit
set_option linter.unusedVariables false
set_option maxRecDepth 100000

theorem open_nums {H : Type} {enc : TypeId × Value → H} {W : World} {base : Nat} {v1 : Value} {d1 : DataW H} {p1 : List MemPlace} (hval : Value.okWide Tryd.prog W .any base 32 v1)
    (h1 : DataW.Trod enc Tryd.prog W 0 (fun _ => true) true 32 v1 d1 p1) : ∃ zs : List Int, Ints W v1 zs ∧ ∀ z ∈ zs, -9223372036854775808 ≤ z ∧ z ≤ 9223372036854775807 := by
  obtain ⟨a1, len, cap, rfl⟩ := okWide_slice Tryd.underlying32 hval
  obtain ⟨fuel, hf⟩ := h1
  rcases open_ints Tryd.underlying32 Tryd.underlying3 (by kernel_rfl) hf with ⟨hcs, hx⟩ | ⟨a, len', cap', zs, hcs, _, hl, hm, hz, hx, hcell, hwz⟩
  · simp [Value.cells] at hcs
    obtain ⟨rfl, rfl, rfl⟩ := hcs
    exact ⟨[], ⟨none, 0, rfl, fun _ => rfl, Nat.le_refl _, Nat.zero_le _, fun j z h => by simp at h⟩, fun z hz => by cases hz⟩
  · simp [Value.cells] at hcs
    obtain ⟨rfl, rfl, rfl⟩ := hcs
    simp only [if_true] at hz
    have hlen : (zs.take len).length = len := by simp; omega
    refine ⟨zs.take len, ⟨some a, cap, by rw [hlen], (fun h => by cases h), by rw [hlen]; exact hl, hm, fun j z hj => ?_⟩, fun z hz' => ?_⟩
    · have hs := slice_spot Tryd.underlying32 hval
      rw [List.getElem?_take] at hj
      split at hj
      · rename_i hjl
        have hjz : j < zs.length := (List.getElem?_eq_some_iff.1 hj).1
        have hc := hcell j hjz
        rw [List.getD_eq_getElem?_getD, hj] at hc
        obtain ⟨b, o, q⟩ := a
        simp only at hs
        subst hs
        refine ⟨b, o, rfl, ?_⟩
        have ha : (⟨b, o, none⟩ : Addr).add j = ⟨b, o + j, none⟩ := by simp [Addr.add]
        rw [← ha]; exact hc
      · cases hj
    · have hw := hwz z (List.mem_of_mem_take hz')
      unfold Lit.wf at hw
      simp only [Bool.and_eq_true, decide_eq_true_eq] at hw
      have e1 : IntKind.i64.min = -9223372036854775808 := by decide
      have e2 : IntKind.i64.max = 9223372036854775807 := by decide
      omega
end Go.Proofs.YtmhgnaemafohfaaDoor.Rowk
