/- A list of bytes that came in reads as its bytes. Conditions: none. -/
import Derived.Test.YtmhgnaemafohfaaGreatDoorRowBase
import Derived.Test.YtmhgnaemafohfaaGreatDoorMem
import Derived.SizedLaws
namespace Go.Proofs.YtmhgnaemafohfaaGreatDoor.Rowk
open Go.ChangeShapes Go.WideShapes Go.ChangeAt Go.RowKit
set_option linter.unusedVariables false
set_option maxRecDepth 100000

theorem slice_spot {P : Program} {w : World} {base : Nat} {t e : TypeId} {a : Addr} {len cap : Nat} (ht : P.underlying t = some (.slice e)) (h : Value.okWide P w .any base t (.slice (some a) len cap)) : a.spot = none := by
  simp only [Value.okWide, ht, Cell.okWide, Cell.ok] at h
  exact h.2.2.2.1
theorem open_bytes2 {H : Type} {enc : TypeId × Value → H} {W : World} {base : Nat} {v1 : Value} {d1 : DataW H} {p1 : List MemPlace} (hval : Value.okWide Tryz.prog W .any base 22 v1)
    (h1 : DataW.Trod enc Tryz.prog W 0 (fun _ => true) true 22 v1 d1 p1) : ∃ l : List UInt8, Rd W 1 v1 l.length (bytesV l) ∧ (l = [] ∨ ∃ elems spare, d1 = .slice elems spare ∧ elems.length = l.length) := by
  obtain ⟨a1, len, cap, rfl⟩ := okWide_slice Tryz.underlying22 hval
  obtain ⟨fuel, hf⟩ := h1
  rcases open_ints Tryz.underlying22 Tryz.underlying5 (by kernel_rfl) hf with ⟨hcs, hx⟩ | ⟨a, len', cap', zs, hcs, _, hl, hm, hz, hx, hcell, hwz⟩
  · simp [Value.cells] at hcs
    obtain ⟨rfl, rfl, rfl⟩ := hcs
    exact ⟨[], ⟨by simp [bytesV], none, 0, rfl, Nat.le_refl _, Nat.zero_le _, fun _ => rfl, fun a ha => by cases ha⟩, .inl rfl⟩
  · simp [Value.cells] at hcs
    obtain ⟨rfl, rfl, rfl⟩ := hcs
    simp only [if_true] at hz
    have hlen : ((zs.take len).map fun n => UInt8.ofNat n.toNat).length = len := by simp; omega
    simp only [Prod.mk.injEq] at hx
    refine ⟨(zs.take len).map fun n => UInt8.ofNat n.toNat, ⟨by rw [bytesV_len, Nat.mul_one], some a, cap, by rw [hlen], by rw [hlen]; exact hl, hm, (fun h => by cases h), fun b hb => ?_⟩, .inr ⟨_, _, hx.1, by rw [hlen]; simp [lits]; omega⟩⟩
    cases hb
    have hs := slice_spot Tryz.underlying22 hval
    refine ⟨hs, fun j u hj => ?_⟩
    unfold bytesV at hj
    rw [List.getElem?_map, List.getElem?_map, List.getElem?_take] at hj
    split at hj
    · rename_i hjl
      have hjz : j < zs.length := by omega
      rw [List.getElem?_eq_getElem hjz] at hj
      simp only [Option.map_some, Option.some.injEq] at hj
      have hw := hwz zs[j] (List.getElem_mem hjz)
      have hc := hcell j hjz
      have hg : zs.getD j 0 = zs[j] := by simp [List.getD_eq_getElem?_getD, List.getElem?_eq_getElem hjz]
      rw [hg] at hc
      have hn : 0 ≤ zs[j] ∧ zs[j] ≤ 255 := by
        unfold Lit.wf at hw
        simp only [Bool.and_eq_true, decide_eq_true_eq] at hw
        have e1 : IntKind.u8.min = 0 := by decide
        have e2 : IntKind.u8.max = 255 := by decide
        omega
      have e : ((UInt8.ofNat zs[j].toNat).toNat : Int) = zs[j] := by
        have h1 : (UInt8.ofNat zs[j].toNat).toNat = zs[j].toNat := by rw [UInt8.toNat_ofNat']; omega
        rw [h1]; omega
      rw [e] at hj
      subst hj
      have ha : a.add j = ⟨a.block, a.off + j, none⟩ := by
        unfold Addr.add; split
        · rename_i h; subst h; cases a; simp at hs; subst hs; rfl
        · rfl
      rw [← ha]; exact hc
    · cases hj
theorem bytes_none {H : Type} {enc : TypeId × Value → H} {W : World} {v1 : Value} {d1 : DataW H} {p1 : List MemPlace} (h1 : DataW.Trod enc Tryz.prog W 0 (fun _ => true) true 22 v1 d1 p1) :
    ∀ n c, v1 = .slice none n c → c = 0 := by
  rintro n c rfl
  obtain ⟨fuel, hf⟩ := h1
  rcases open_ints Tryz.underlying22 Tryz.underlying5 (by kernel_rfl) hf with ⟨hcs, hx⟩ | ⟨a, len', cap', zs, hcs, _⟩
  · simp [Value.cells] at hcs; exact hcs.2
  · simp [Value.cells] at hcs
theorem open_bytes {H : Type} {enc : TypeId × Value → H} {W : World} {base : Nat} {v1 : Value} {d1 : DataW H} {p1 : List MemPlace} (hval : Value.okWide Tryz.prog W .any base 22 v1)
    (h1 : DataW.Trod enc Tryz.prog W 0 (fun _ => true) true 22 v1 d1 p1) : ∃ l : List UInt8, Rd W 1 v1 l.length (bytesV l) := by
  obtain ⟨l, h, _⟩ := open_bytes2 hval h1
  exact ⟨l, h⟩
theorem sized_bytes {H : Type} {d : DataW H} {ts : List TypeId} {ds : List (DataW H)} {l : List UInt8} (h : (DataW.weightsEach Tryz.prog ts ds).all (· ≤ reachBytes) = true) {j : Nat} (ht : ts[j]? = some 22) (hd : ds[j]? = some d)
    (hs : l = [] ∨ ∃ elems spare, d = .slice elems spare ∧ elems.length = l.length) : l.length ≤ 140737488351232 := by
  rcases hs with rfl | ⟨elems, spare, rfl, he⟩
  · exact Nat.zero_le _
  · have := sized_slice h ht hd Tryz.underlying22
    have hb : Tryz.prog.bytesOf 5 = 1 := by kernel_rfl
    rw [hb] at this
    unfold reachBytes at this
    omega
end Go.Proofs.YtmhgnaemafohfaaGreatDoor.Rowk
