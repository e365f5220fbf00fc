/- A list of feeds that came in reads as one. Conditions: none. -/
import Derived.Test.YtmhgnaemafohfaaGreatDoorRowReq
import Derived.Test.YtmhgnaemafohfaaGreatDoorFeedB
namespace Go.Proofs.YtmhgnaemafohfaaGreatDoor.Rowk
open Go.ChangeShapes Go.WideShapes Go.ChangeAt Go.RowKit
set_option linter.unusedVariables false
set_option maxRecDepth 100000

/-- Bytes that lie in a cell of memory: whether the cell is as it should be is not said. -/
theorem open_bytesS {H : Type} {enc : TypeId × Value → H} {W : World} {fuel : Nat} {v : Value} {x : DataW H × List MemPlace}
    (hf : DataW.trod enc Tryz.prog W 0 (fun _ => true) true fuel 22 [v] = some x) : ∃ l : B, PartS W v l := by
  rcases open_ints Tryz.underlying22 Tryz.underlying5 (by kernel_rfl) hf with ⟨hcs, hx⟩ | ⟨a, len, cap, zs, hcs, _, hl, hm, hz, hx, hcell, hwz⟩
  · simp only [List.cons.injEq, and_true] at hcs
    subst hcs
    exact ⟨[], .inl ⟨rd_nil _ _, (fun n c h => by cases h; rfl)⟩⟩
  · simp only [List.cons.injEq, and_true] at hcs
    subst hcs
    simp only [if_true] at hz
    by_cases h0 : cap = 0
    · have hl0 : len = 0 := by omega
      subst hl0
      exact ⟨[], .inr ⟨a, _, rfl, rfl⟩⟩
    have hs : a.spot = none := by simpa [Addr.add] using World.cell?_spot (hcell 0 (by omega))
    have hlen : ((zs.take len).map fun n => UInt8.ofNat n.toNat).length = len := by simp; omega
    refine ⟨(zs.take len).map fun n => UInt8.ofNat n.toNat, .inl ⟨⟨by rw [bytesV_len, Nat.mul_one], some a, cap, by rw [hlen], by rw [hlen]; exact hl, hm, (fun h => by cases h), fun b hb => ?_⟩, (fun n c h => by cases h)⟩⟩
    cases hb
    refine ⟨hs, fun j u hj => ?_⟩
    unfold bytesV at hj
    rw [List.getElem?_map, List.getElem?_map, List.getElem?_take] at hj
    split at hj
    · rename_i hjl
      have hjz : j < zs.length := by omega
      rw [List.getElem?_eq_getElem hjz] at hj
      simp only [Option.map_some, Option.some.injEq] at hj
      have hw := hwz zs[j] (List.getElem_mem hjz)
      have hc := hcell j hjz
      have hg : zs.getD j 0 = zs[j] := by simp [List.getD_eq_getElem?_getD, List.getElem?_eq_getElem hjz]
      rw [hg] at hc
      have hn : 0 ≤ zs[j] ∧ zs[j] ≤ 255 := by
        unfold Lit.wf at hw
        simp only [Bool.and_eq_true, decide_eq_true_eq] at hw
        have e1 : IntKind.u8.min = 0 := by decide
        have e2 : IntKind.u8.max = 255 := by decide
        omega
      have e : ((UInt8.ofNat zs[j].toNat).toNat : Int) = zs[j] := by
        have h1 : (UInt8.ofNat zs[j].toNat).toNat = zs[j].toNat := by rw [UInt8.toNat_ofNat']; omega
        rw [h1]; omega
      rw [e] at hj
      subst hj
      have ha : a.add j = ⟨a.block, a.off + j, none⟩ := by
        unfold Addr.add; split
        · rename_i h; subst h; cases a; simp at hs; subst hs; rfl
        · rfl
      rw [← ha]; exact hc
    · cases hj
theorem open_feeds {H : Type} {enc : TypeId × Value → H} {W : World} {base : Nat} {v1 : Value} {d1 : DataW H} {p1 : List MemPlace} (hval : Value.okWide Tryz.prog W .any base 59 v1)
    (h1 : DataW.Trod enc Tryz.prog W 0 (fun _ => true) true 59 v1 d1 p1) :
    ∃ fs : List (Int × B), FeedsIn W v1 fs ∧ (∀ f ∈ fs, -9223372036854775808 ≤ f.1 ∧ f.1 ≤ 9223372036854775807) ∧ (fs = [] ∨ ∃ elems spare, d1 = .slice elems spare ∧ elems.length = fs.length) := by
  obtain ⟨a1, len1, cap1, rfl⟩ := okWide_slice Tryz.underlying59 hval
  obtain ⟨fuel, hf⟩ := h1
  rcases Deep.open_slice_pairs Tryz.underlying59 Tryz.underlying66 (by kernel_rfl) rfl rfl (by kernel_rfl) (by kernel_rfl) hf with ⟨h1, h2⟩ | ⟨a, len, cap, m, n, V0, V1, D0, D1, P0, P1, h1, _, hl, hm, hmm, hx, hc⟩
  · simp [Value.cells] at h1
    obtain ⟨rfl, rfl, rfl⟩ := h1
    exact ⟨[], ⟨none, 0, rfl, fun i f h => by simp at h⟩, (fun f h => by cases h), .inl rfl⟩
  · simp [Value.cells] at h1
    obtain ⟨rfl, rfl, rfl⟩ := h1
    simp only [if_true] at hmm
    subst hmm
    have hsp := slice_spot Tryz.underlying59 hval
    obtain ⟨b, o, q⟩ := a
    simp only at hsp
    subst hsp
    have hi : ∀ i, ∃ l : B, i < m → PartS W (V1 i) l := fun i => by
      by_cases h : i < m
      · obtain ⟨l, hl⟩ := open_bytesS (hc i h).2.2.2
        exact ⟨l, fun _ => hl⟩
      · exact ⟨[], fun h' => absurd h' h⟩
    have hz : ∀ i, i < m → V0 i = .int .i64 (intOf (V0 i)) ∧ -9223372036854775808 ≤ intOf (V0 i) ∧ intOf (V0 i) ≤ 9223372036854775807 := fun i h => by
      obtain ⟨z, e0, _, hw⟩ := DataW.trod_int Tryz.underlying3 (hc i h).2.2.1
      simp only [List.cons.injEq, and_true] at e0
      rw [e0]
      unfold Lit.wf at hw
      simp only [Bool.and_eq_true, decide_eq_true_eq] at hw
      have e1 : IntKind.i64.min = -9223372036854775808 := by decide
      have e2 : IntKind.i64.max = 9223372036854775807 := by decide
      refine ⟨rfl, ?_, ?_⟩ <;> simp only [intOf] <;> omega
    have hlen : ((List.range len1).map fun i => (intOf (V0 i), Classical.choose (hi i))).length = len1 := by simp
    refine ⟨(List.range len1).map fun i => (intOf (V0 i), Classical.choose (hi i)), ⟨some ⟨b, o, none⟩, m, by rw [hlen], fun i f hf => ?_⟩, fun f hf => ?_, .inr ⟨_, _, congrArg Prod.fst hx, by simp⟩⟩
    · rw [List.getElem?_map] at hf
      by_cases h : i < len1
      · rw [List.getElem?_range h] at hf
        simp only [Option.map_some, Option.some.injEq] at hf
        subst hf
        obtain ⟨c0, c1, _, _⟩ := hc i (by omega)
        rw [addr_add] at c0 c1
        exact ⟨b, o, V1 i, rfl, by rw [c0]; exact congrArg some (hz i (by omega)).1, c1, Classical.choose_spec (hi i) (by omega)⟩
      · rw [List.getElem?_eq_none (by simp; omega)] at hf
        cases hf
    · obtain ⟨i, h, rfl⟩ := List.mem_map.1 hf
      have := List.mem_range.1 h
      exact (hz i (by omega)).2
theorem sized_feeds {H : Type} {d : DataW H} {ts : List TypeId} {ds : List (DataW H)} {fs : List (Int × B)} (h : (DataW.weightsEach Tryz.prog ts ds).all (· ≤ reachBytes) = true) {j : Nat} (ht : ts[j]? = some 59) (hd : ds[j]? = some d)
    (hs : fs = [] ∨ ∃ elems spare, d = .slice elems spare ∧ elems.length = fs.length) : fs.length ≤ 1099511627776 * 16 := by
  rcases hs with rfl | ⟨elems, spare, rfl, he⟩
  · exact Nat.zero_le _
  · have := sized_slice h ht hd Tryz.underlying59
    rw [show Tryz.prog.bytesOf 66 = 32 by kernel_rfl] at this
    unfold reachBytes at this
    omega
end Go.Proofs.YtmhgnaemafohfaaGreatDoor.Rowk
