/- A request that came in reads as one. Conditions: none. -/
import Derived.Test.YtmhgnaemafohfaaGreatDoorRowBytes
import Derived.Test.YtmhgnaemafohfaaGreatDoorPrintB
import Derived.Deep.SlicePairs
namespace Go.Proofs.YtmhgnaemafohfaaGreatDoor.Rowk
open Go.ChangeShapes Go.WideShapes Go.ChangeAt Go.RowKit
set_option linter.unusedVariables false
set_option maxRecDepth 100000

theorem cell_spot {P : Program} {w : World} {base : Nat} {t e : TypeId} {a : Addr} {len cap : Nat} (ht : P.underlying t = some (.slice e)) (h : Cell.okWide P w .any base t (.slice (some a) len cap)) : a.spot = none := by
  simp only [Cell.okWide, ht, Cell.ok] at h
  exact h.2.2.2.1
theorem addr_add (b o k : Nat) : (⟨b, o, none⟩ : Addr).add k = ⟨b, o + k, none⟩ := by unfold Addr.add; split <;> simp_all
def strV : Value → B
  | .string s => s.toList
  | _ => []
/-- A list of headers that came in. -/
theorem open_hdrs {H : Type} {enc : TypeId × Value → H} {W : World} {base fuel : Nat} {v : Value} {x : DataW H × List MemPlace} (hok : Cell.okWide Tryz.prog W .any base 25 v)
    (hf : DataW.trod enc Tryz.prog W 0 (fun _ => true) true fuel 25 [v] = some x) :
    ∃ hs : List (B × B), Rd W 2 v hs.length (pairs hs) ∧ (∀ n c, v = .slice none n c → c = 0) ∧ (hs = [] ∨ ∃ elems spare, x.1 = .slice elems spare ∧ elems.length = hs.length) := by
  rcases Deep.open_slice_pairs Tryz.underlying25 Tryz.underlying72 (by kernel_rfl) rfl rfl (by kernel_rfl) (by kernel_rfl) hf with ⟨h1, h2⟩ | ⟨a, len, cap, m, n, V0, V1, D0, D1, P0, P1, h1, _, hl, hm, hmm, hx, hc⟩
  · simp only [List.cons.injEq, and_true] at h1
    subst h1
    exact ⟨[], ⟨by simp [pairs], none, 0, rfl, Nat.le_refl _, Nat.zero_le _, fun _ => rfl, fun a ha => by cases ha⟩, (fun n c h => by cases h; rfl), .inl rfl⟩
  · simp only [List.cons.injEq, and_true] at h1
    subst h1
    simp only [if_true] at hmm
    subst hmm
    have hsp := cell_spot Tryz.underlying25 hok
    obtain ⟨b, o, q⟩ := a
    simp only at hsp
    subst hsp
    have hs0 : ∀ i, i < m → V0 i = .string (ofL (strV (V0 i))) ∧ V1 i = .string (ofL (strV (V1 i))) := by
      intro i hi
      obtain ⟨_, _, t0, t1⟩ := hc i hi
      obtain ⟨s0, e0, _⟩ := DataW.trod_string Tryz.underlying9 t0
      obtain ⟨s1, e1, _⟩ := DataW.trod_string Tryz.underlying9 t1
      simp only [List.cons.injEq, and_true] at e0 e1
      rw [e0, e1]
      simp only [strV, ofL_toL, and_self]
    have hlen : ((List.range len).map fun i => (strV (V0 i), strV (V1 i))).length = len := by simp
    refine ⟨(List.range len).map fun i => (strV (V0 i), strV (V1 i)), ⟨by rw [pairs_len], _, m, by rw [hlen], by rw [hlen]; exact hl, hm, (fun h => by cases h), fun a ha => ?_⟩, (fun n c h => by cases h), .inr ⟨_, _, by rw [hx], by simp⟩⟩
    cases ha
    refine ⟨rfl, fun j u hj => ?_⟩
    have hjl := (List.getElem?_eq_some_iff.1 hj).1
    rw [pairs_len, hlen] at hjl
    have hi : j / 2 < len := by omega
    have hk : ((List.range len).map fun i => (strV (V0 i), strV (V1 i)))[j / 2]? = some (strV (V0 (j / 2)), strV (V1 (j / 2))) := by simp [hi]
    obtain ⟨p0, p1⟩ := pairs_at hk
    obtain ⟨c0, c1, _, _⟩ := hc (j / 2) (by omega)
    obtain ⟨q0, q1⟩ := hs0 (j / 2) (by omega)
    rw [addr_add] at c0 c1
    by_cases he : j % 2 = 0
    · have ej : j = j / 2 * 2 := by omega
      rw [ej] at hj ⊢
      rw [p0] at hj
      cases hj
      rw [c0, q0]; simp [strV, toL_ofL]
    · have ej : j = j / 2 * 2 + 1 := by omega
      rw [ej] at hj ⊢
      rw [p1] at hj
      cases hj
      rw [c1, q1]; simp [strV, toL_ofL]
/-- What a list of bytes holds that lies in a cell. -/
theorem open_bytesC {H : Type} {enc : TypeId × Value → H} {W : World} {base fuel : Nat} {v : Value} {x : DataW H × List MemPlace} (hok : Cell.okWide Tryz.prog W .any base 22 v)
    (hf : DataW.trod enc Tryz.prog W 0 (fun _ => true) true fuel 22 [v] = some x) :
    ∃ l : B, Part W (v, l) ∧ (l = [] ∨ ∃ elems spare, x.1 = .slice elems spare ∧ elems.length = l.length) := by
  have hval : Value.okWide Tryz.prog W .any base 22 v := by
    unfold Value.okWide
    rw [Tryz.underlying22]
    exact hok
  obtain ⟨a1, len, cap, rfl⟩ := okWide_slice Tryz.underlying22 hval
  have h1 : DataW.Trod enc Tryz.prog W 0 (fun _ => true) true 22 (.slice a1 len cap) x.1 x.2 := ⟨fuel, hf⟩
  obtain ⟨l, hR, hs⟩ := open_bytes2 hval h1
  exact ⟨l, ⟨hR, bytes_none h1⟩, hs⟩
theorem open_req {H : Type} {enc : TypeId × Value → H} {W : World} {base : Nat} {v1 : Value} {d1 : DataW H} {p1 : List MemPlace} (hval : Value.okWide Tryz.prog W .any base 27 v1)
    (h1 : DataW.Trod enc Tryz.prog W 0 (fun _ => true) true 27 v1 d1 p1) : ∃ r : Req, ReqP W r v1 ∧ ∃ hd bd, d1 = .agg [.lit (.string r.m), .lit (.string r.p), hd, bd] ∧
      (r.h = [] ∨ ∃ elems spare, hd = .slice elems spare ∧ elems.length = r.h.length) ∧ (r.b = [] ∨ ∃ elems spare, bd = .slice elems spare ∧ elems.length = r.b.length) := by
  unfold Value.okWide at hval
  rw [Tryz.underlying27] at hval
  obtain ⟨cs, rfl, hsz, ts, hts, _, hall⟩ := hval
  rw [show Tryz.prog.cellTypes Tryz.prog.depth 27 = some [9, 9, 25, 22] by kernel_rfl] at hts
  cases hts
  rw [show Tryz.prog.cellsOf 27 = 4 by kernel_rfl] at hsz
  obtain ⟨a, b, c, d, rfl⟩ : ∃ a b c d, cs = #[a, b, c, d] := by
    obtain ⟨l⟩ := cs
    match l, hsz with
    | [a, b, c, d], _ => exact ⟨a, b, c, d, rfl⟩
  obtain ⟨fuel, hf⟩ := h1
  obtain ⟨xs, k, rfl, hxy, hlen, hxl, hfi⟩ := DataW.trod_struct Tryz.underlying27 hf
  obtain ⟨x0, x1, x2, x3, rfl⟩ : ∃ x0 x1 x2 x3, xs = [x0, x1, x2, x3] := by
    match xs, hxl with
    | [x0, x1, x2, x3], _ => exact ⟨x0, x1, x2, x3, rfl⟩
  have c9 : Tryz.prog.cellsOf 9 = 1 := by kernel_rfl
  have c25 : Tryz.prog.cellsOf 25 = 1 := by kernel_rfl
  have c22 : Tryz.prog.cellsOf 22 = 1 := by kernel_rfl
  have g0 := hfi 0 _ rfl
  have g1 := hfi 1 _ rfl
  have g2 := hfi 2 _ rfl
  have g3 := hfi 3 _ rfl
  simp [c9, c25, c22, Value.cells] at g0 g1 g2 g3
  obtain ⟨s0, e0, f0, _⟩ := DataW.trod_string Tryz.underlying9 g0
  obtain ⟨s1, e1, f1, _⟩ := DataW.trod_string Tryz.underlying9 g1
  simp only [List.cons.injEq, and_true] at e0 e1
  subst e0 e1
  obtain ⟨_, hu2, hok2⟩ := hall 2 c rfl
  cases hu2
  obtain ⟨_, hu3, hok3⟩ := hall 3 d rfl
  cases hu3
  obtain ⟨hs, hH, hHn, hHs⟩ := open_hdrs hok2 g2
  obtain ⟨l, hB, hBs⟩ := open_bytesC hok3 g3
  simp only [Prod.mk.injEq] at hxy
  refine ⟨⟨s0.toList, s1.toList, hs, l⟩, ⟨c, d, by simp only [ofL_toL], hH, hB⟩, x2.1, x3.1, ?_, hHs, hBs⟩
  rw [hxy.1, f0, f1]
  simp [toL_eq]
/-- What the reach says of the parts. -/
theorem sized_req {H : Type} {d : DataW H} {ts : List TypeId} {ds : List (DataW H)} {r : Req} {hd bd : DataW H} (h : (DataW.weightsEach Tryz.prog ts ds).all (· ≤ reachBytes) = true) {j : Nat} (ht : ts[j]? = some 27) (hj : ds[j]? = some d)
    (he : d = .agg [.lit (.string r.m), .lit (.string r.p), hd, bd]) (h1 : r.h = [] ∨ ∃ elems spare, hd = .slice elems spare ∧ elems.length = r.h.length) (h2 : r.b = [] ∨ ∃ elems spare, bd = .slice elems spare ∧ elems.length = r.b.length) :
    r.m.length ≤ 140737488351232 ∧ r.p.length ≤ 140737488351232 ∧ r.h.length ≤ 1099511627776 * 4 ∧ r.b.length ≤ 140737488351232 := by
  subst he
  have hw : (DataW.weightsEach Tryz.prog [9, 9, 25, 22] [DataW.lit (.string r.m), .lit (.string r.p), hd, bd]).all (· ≤ reachBytes) = true := by
    rw [List.all_eq_true]
    intro x hx
    refine List.all_eq_true.1 h x (DataW.weights_mem_each ht hj x ?_)
    simp only [DataW.weights, Tryz.underlying27]
    exact hx
  have a0 := sized_string hw (j := 0) rfl rfl
  have a1 := sized_string hw (j := 1) rfl rfl
  refine ⟨a0, a1, ?_, ?_⟩
  · rcases h1 with h1 | ⟨elems, spare, rfl, hl⟩
    · rw [h1]; exact Nat.zero_le _
    · have := sized_slice hw (j := 2) rfl rfl Tryz.underlying25
      rw [show Tryz.prog.bytesOf 72 = 32 by kernel_rfl] at this
      unfold reachBytes at this
      omega
  · exact sized_bytes hw (j := 3) rfl rfl h2
end Go.Proofs.YtmhgnaemafohfaaGreatDoor.Rowk
