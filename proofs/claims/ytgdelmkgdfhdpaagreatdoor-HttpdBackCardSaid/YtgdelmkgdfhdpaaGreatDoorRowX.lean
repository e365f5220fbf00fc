/- What every row of this seat needs: the listed variables' world, the free variable that holds a number. Conditions: none. A list of bytes that came in reads as its bytes. Conditions: none. A request that came in reads as one. Conditions: none. An answer that came in reads as one. Conditions: none. -/
import Derived.Test.YtgdelmkgdfhdpaaGreatDoorCards
import Derived.Test.YtgdelmkgdfhdpaaGreatDoorTie
import Derived.WalkKit
import Derived.ProofKit
import Derived.OpenShut
import Derived.ShutString
import Derived.ChangeOld
import Derived.Below
import Derived.Deep.DeepHandedRow
import Derived.Deep.DeepWitnessRowRef
import Derived.Lib.LaidTab
import Derived.Lib.LaidIn
import Derived.Lib.LaidU8
import Derived.Test.YtgdelmkgdfhdpaaGreatDoorRef
import Derived.SizedLaws
import Derived.Test.YtgdelmkgdfhdpaaGreatDoorMachL
import Derived.Deep.SlicePairs
import Derived.Test.YtgdelmkgdfhdpaaGreatDoorWriteH
namespace Go.Proofs.YtgdelmkgdfhdpaaGreatDoor.Rowk
open Go.ChangeShapes Go.WideShapes Go.ChangeAt Go.RowKit
set_option linter.unusedVariables false
set_option maxRecDepth 1000000

theorem own : ownKnob Tryz.prog.godebug = none := by kernel_rfl
theorem laidOut : laidOutB Tryz.prog = true := by kernel_rfl
/-- A variable whose type is an integer's holds an integer. -/
theorem int_of_shape {P : Program} {w : World} {g : Nat} {t : TypeId} {k : IntKind} {zero : Array Value} (h : w.ShapedOpen P) (hg : g < P.globals.size)
    (h0 : ((begin P (fun _ _ => 0) default).world.heap[g]?).bind Obj.row? = some (zero, t)) (hz : zero.size = 1)
    (hb : P.buildable t = true) (hc : P.cellTypes P.depth t = some [t]) (hu : P.underlying t = some (.int k)) : ∃ m, w.cell? ⟨g, 0, none⟩ = some (.int k m) := by
  obtain ⟨cs, hh, hs, hr⟩ := h.1 g zero t hg h0
  obtain ⟨ts, hts, _, hall⟩ := hr hb
  rw [hc] at hts
  cases hts
  have h1 : 0 < cs.size := by omega
  obtain ⟨u, hu', hok⟩ := hall 0 cs[0] (by simp [h1])
  have : u = t := by simpa using hu'.symm
  subst this
  have hcell : w.cell? ⟨g, 0, none⟩ = some cs[0] := by simp [World.cell?, hh, h1]
  rw [hcell]
  unfold Cell.ok at hok
  rw [hu] at hok
  cases hv : cs[0] <;> rw [hv] at hok <;> simp at hok
  obtain ⟨rfl, _⟩ := hok
  exact ⟨_, rfl⟩
theorem glob (W : World) (h : W.ShapedOpen Tryz.prog) : ∃ m, W.cell? ⟨0, 0, none⟩ = some (.int .i64 m) :=
  int_of_shape (zero := #[.int .i64 0]) (t := 3) h (by decide +kernel) (by kernel_rfl) rfl (by kernel_rfl) (by kernel_rfl) Tryz.underlying3

/-- A world for a witness: the listed variables hold what their initialisers lay. -/
noncomputable def laidWorld (os : Os) : World :=
  let N := (World.settled Tryz.prog os).heap.size
  let w0 := World.holding Tryz.prog os ⟨#[.cells #[.string ⟨#[118, 97, 108, 117, 101, 32, 111, 117, 116, 32, 111, 102, 32, 114, 97, 110, 103, 101]⟩] 155, .cells #[.string ⟨#[105, 110, 118, 97, 108, 105, 100, 32, 115, 121, 110, 116, 97, 120]⟩] 155], #[], []⟩
  let put (h : Array Obj) (g : Nat) (cs : Array Value) : Array Obj := h.modify g fun
    | .cells _ t frozen => .cells cs t frozen
    | o => o
  let h0 := put (put w0.heap 3 #[.iface 153 (.pointer (some ⟨N, 0, none⟩))]) 2 #[.iface 153 (.pointer (some ⟨N + 1, 0, none⟩))]
  let h1 := put h0 6 (Lib.firstTab.map fun z => Value.int .u8 z).toArray
  let h2 := put h1 4 #[.int .u8 0, .int .u8 1, .int .u8 28, .int .u8 2, .int .u8 29, .int .u8 14, .int .u8 24, .int .u8 3, .int .u8 30, .int .u8 22, .int .u8 20, .int .u8 15, .int .u8 25, .int .u8 17, .int .u8 4, .int .u8 8, .int .u8 31, .int .u8 27, .int .u8 13, .int .u8 23, .int .u8 21, .int .u8 19, .int .u8 16, .int .u8 7, .int .u8 26, .int .u8 12, .int .u8 18, .int .u8 6, .int .u8 11, .int .u8 5, .int .u8 10, .int .u8 9]
  let h3 := put h2 5 #[.int .u8 0, .int .u8 1, .int .u8 56, .int .u8 2, .int .u8 57, .int .u8 49, .int .u8 28, .int .u8 3, .int .u8 61, .int .u8 58, .int .u8 42, .int .u8 50, .int .u8 38, .int .u8 29, .int .u8 17, .int .u8 4, .int .u8 62, .int .u8 47, .int .u8 59, .int .u8 36, .int .u8 45, .int .u8 43, .int .u8 51, .int .u8 22, .int .u8 53, .int .u8 39, .int .u8 33, .int .u8 30, .int .u8 24, .int .u8 18, .int .u8 12, .int .u8 5, .int .u8 63, .int .u8 55, .int .u8 48, .int .u8 27, .int .u8 60, .int .u8 41, .int .u8 37, .int .u8 16, .int .u8 46, .int .u8 35, .int .u8 44, .int .u8 21, .int .u8 52, .int .u8 32, .int .u8 23, .int .u8 11, .int .u8 54, .int .u8 26, .int .u8 40, .int .u8 15, .int .u8 34, .int .u8 20, .int .u8 31, .int .u8 10, .int .u8 25, .int .u8 14, .int .u8 19, .int .u8 9, .int .u8 13, .int .u8 8, .int .u8 7, .int .u8 6]
  let h4 := put h3 1 #[.int .u64 1, .int .u64 10, .int .u64 100, .int .u64 1000, .int .u64 10000, .int .u64 100000, .int .u64 1000000, .int .u64 10000000, .int .u64 100000000, .int .u64 1000000000, .int .u64 10000000000, .int .u64 100000000000, .int .u64 1000000000000, .int .u64 10000000000000, .int .u64 100000000000000, .int .u64 1000000000000000, .int .u64 10000000000000000, .int .u64 100000000000000000, .int .u64 1000000000000000000, .int .u64 10000000000000000000]
  let h5 := put h4 7 #[.int .u8 128, .int .u8 191, .int .u8 160, .int .u8 191, .int .u8 128, .int .u8 159, .int .u8 144, .int .u8 191, .int .u8 128, .int .u8 143, .int .u8 0, .int .u8 0, .int .u8 0, .int .u8 0, .int .u8 0, .int .u8 0, .int .u8 0, .int .u8 0, .int .u8 0, .int .u8 0, .int .u8 0, .int .u8 0, .int .u8 0, .int .u8 0, .int .u8 0, .int .u8 0, .int .u8 0, .int .u8 0, .int .u8 0, .int .u8 0, .int .u8 0, .int .u8 0]
  { w0 with heap := h5 }
noncomputable abbrev N0 : Nat := (World.settled Tryz.prog default).heap.size
theorem laid_in (os : Os) (args : Array Value) : LaidIn Tryz.prog ((laidWorld os).forCall (fun _ _ => 0) ⟨#[], args, []⟩).memory Rows.httpdWritesRow.laid [0, 1, 2, 3, 4, 5, 6, 7, N0, N0 + 1] :=
  LaidIn.of_run [0, 1, 2, 3, 4, 5, 6, 7, N0, N0 + 1] 8 (by kernel_rfl) (by kernel_rfl) (by kernel_rfl) (by kernel_rfl)
theorem laid_met (os : Os) (args : Array Value) : laidMet Tryz.prog Rows.httpdWritesRow.laid ((laidWorld os).forCall (fun _ _ => 0) ⟨#[], args, []⟩).memory := (laid_in os args).met
end Go.Proofs.YtgdelmkgdfhdpaaGreatDoor.Rowk
namespace Go.Proofs.YtgdelmkgdfhdpaaGreatDoor.Rowk
open Go.ChangeShapes Go.WideShapes Go.ChangeAt Go.RowKit
set_option linter.unusedVariables false
set_option maxRecDepth 100000

theorem slice_spot {P : Program} {w : World} {base : Nat} {t e : TypeId} {a : Addr} {len cap : Nat} (ht : P.underlying t = some (.slice e)) (h : Value.okWide P w .any base t (.slice (some a) len cap)) : a.spot = none := by
  simp only [Value.okWide, ht, Cell.okWide, Cell.ok] at h
  exact h.2.2.2.1
theorem open_bytes2 {H : Type} {enc : TypeId × Value → H} {W : World} {base : Nat} {v1 : Value} {d1 : DataW H} {p1 : List MemPlace} (hval : Value.okWide Tryz.prog W .any base 23 v1)
    (h1 : DataW.Trod enc Tryz.prog W 0 (fun _ => true) true 23 v1 d1 p1) : ∃ l : List UInt8, Rd W 1 v1 l.length (bytesV l) ∧ (l = [] ∨ ∃ elems spare, d1 = .slice elems spare ∧ elems.length = l.length) := by
  obtain ⟨a1, len, cap, rfl⟩ := okWide_slice Tryz.underlying23 hval
  obtain ⟨fuel, hf⟩ := h1
  rcases open_ints Tryz.underlying23 Tryz.underlying5 (by kernel_rfl) hf with ⟨hcs, hx⟩ | ⟨a, len', cap', zs, hcs, _, hl, hm, hz, hx, hcell, hwz⟩
  · simp [Value.cells] at hcs
    obtain ⟨rfl, rfl, rfl⟩ := hcs
    exact ⟨[], ⟨by simp [bytesV], none, 0, rfl, Nat.le_refl _, Nat.zero_le _, fun _ => rfl, fun a ha => by cases ha⟩, .inl rfl⟩
  · simp [Value.cells] at hcs
    obtain ⟨rfl, rfl, rfl⟩ := hcs
    simp only [if_true] at hz
    have hlen : ((zs.take len).map fun n => UInt8.ofNat n.toNat).length = len := by simp; omega
    simp only [Prod.mk.injEq] at hx
    refine ⟨(zs.take len).map fun n => UInt8.ofNat n.toNat, ⟨by rw [bytesV_len, Nat.mul_one], some a, cap, by rw [hlen], by rw [hlen]; exact hl, hm, (fun h => by cases h), fun b hb => ?_⟩, .inr ⟨_, _, hx.1, by rw [hlen]; simp [lits]; omega⟩⟩
    cases hb
    have hs := slice_spot Tryz.underlying23 hval
    refine ⟨hs, fun j u hj => ?_⟩
    unfold bytesV at hj
    rw [List.getElem?_map, List.getElem?_map, List.getElem?_take] at hj
    split at hj
    · rename_i hjl
      have hjz : j < zs.length := by omega
      rw [List.getElem?_eq_getElem hjz] at hj
      simp only [Option.map_some, Option.some.injEq] at hj
      have hw := hwz zs[j] (List.getElem_mem hjz)
      have hc := hcell j hjz
      have hg : zs.getD j 0 = zs[j] := by simp [List.getD_eq_getElem?_getD, List.getElem?_eq_getElem hjz]
      rw [hg] at hc
      have hn : 0 ≤ zs[j] ∧ zs[j] ≤ 255 := by
        unfold Lit.wf at hw
        simp only [Bool.and_eq_true, decide_eq_true_eq] at hw
        have e1 : IntKind.u8.min = 0 := by decide
        have e2 : IntKind.u8.max = 255 := by decide
        omega
      have e : ((UInt8.ofNat zs[j].toNat).toNat : Int) = zs[j] := by
        have h1 : (UInt8.ofNat zs[j].toNat).toNat = zs[j].toNat := by rw [UInt8.toNat_ofNat']; omega
        rw [h1]; omega
      rw [e] at hj
      subst hj
      have ha : a.add j = ⟨a.block, a.off + j, none⟩ := by
        unfold Addr.add; split
        · rename_i h; subst h; cases a; simp at hs; subst hs; rfl
        · rfl
      rw [← ha]; exact hc
    · cases hj
theorem bytes_none {H : Type} {enc : TypeId × Value → H} {W : World} {v1 : Value} {d1 : DataW H} {p1 : List MemPlace} (h1 : DataW.Trod enc Tryz.prog W 0 (fun _ => true) true 23 v1 d1 p1) :
    ∀ n c, v1 = .slice none n c → c = 0 := by
  rintro n c rfl
  obtain ⟨fuel, hf⟩ := h1
  rcases open_ints Tryz.underlying23 Tryz.underlying5 (by kernel_rfl) hf with ⟨hcs, hx⟩ | ⟨a, len', cap', zs, hcs, _⟩
  · simp [Value.cells] at hcs; exact hcs.2
  · simp [Value.cells] at hcs
theorem open_bytes {H : Type} {enc : TypeId × Value → H} {W : World} {base : Nat} {v1 : Value} {d1 : DataW H} {p1 : List MemPlace} (hval : Value.okWide Tryz.prog W .any base 23 v1)
    (h1 : DataW.Trod enc Tryz.prog W 0 (fun _ => true) true 23 v1 d1 p1) : ∃ l : List UInt8, Rd W 1 v1 l.length (bytesV l) := by
  obtain ⟨l, h, _⟩ := open_bytes2 hval h1
  exact ⟨l, h⟩
theorem sized_bytes {H : Type} {d : DataW H} {ts : List TypeId} {ds : List (DataW H)} {l : List UInt8} (h : (DataW.weightsEach Tryz.prog ts ds).all (· ≤ reachBytes) = true) {j : Nat} (ht : ts[j]? = some 23) (hd : ds[j]? = some d)
    (hs : l = [] ∨ ∃ elems spare, d = .slice elems spare ∧ elems.length = l.length) : l.length ≤ 140737488351232 := by
  rcases hs with rfl | ⟨elems, spare, rfl, he⟩
  · exact Nat.zero_le _
  · have := sized_slice h ht hd Tryz.underlying23
    have hb : Tryz.prog.bytesOf 5 = 1 := by kernel_rfl
    rw [hb] at this
    unfold reachBytes at this
    omega
end Go.Proofs.YtgdelmkgdfhdpaaGreatDoor.Rowk
namespace Go.Proofs.YtgdelmkgdfhdpaaGreatDoor.Rowk
open Go.ChangeShapes Go.WideShapes Go.ChangeAt Go.RowKit
set_option linter.unusedVariables false
set_option maxRecDepth 100000

theorem cell_spot {P : Program} {w : World} {base : Nat} {t e : TypeId} {a : Addr} {len cap : Nat} (ht : P.underlying t = some (.slice e)) (h : Cell.okWide P w .any base t (.slice (some a) len cap)) : a.spot = none := by
  simp only [Cell.okWide, ht, Cell.ok] at h
  exact h.2.2.2.1
theorem addr_add (b o k : Nat) : (⟨b, o, none⟩ : Addr).add k = ⟨b, o + k, none⟩ := by unfold Addr.add; split <;> simp_all
def strV : Value → B
  | .string s => s.toList
  | _ => []
/-- A list of headers that came in. -/
theorem open_hdrs {H : Type} {enc : TypeId × Value → H} {W : World} {base fuel : Nat} {v : Value} {x : DataW H × List MemPlace} (hok : Cell.okWide Tryz.prog W .any base 22 v)
    (hf : DataW.trod enc Tryz.prog W 0 (fun _ => true) true fuel 22 [v] = some x) :
    ∃ hs : List (B × B), Rd W 2 v hs.length (pairs hs) ∧ (∀ n c, v = .slice none n c → c = 0) ∧ (hs = [] ∨ ∃ elems spare, x.1 = .slice elems spare ∧ elems.length = hs.length) := by
  rcases Deep.open_slice_pairs Tryz.underlying22 Tryz.underlying30 (by kernel_rfl) rfl rfl (by kernel_rfl) (by kernel_rfl) hf with ⟨h1, h2⟩ | ⟨a, len, cap, m, n, V0, V1, D0, D1, P0, P1, h1, _, hl, hm, hmm, hx, hc⟩
  · simp only [List.cons.injEq, and_true] at h1
    subst h1
    exact ⟨[], ⟨by simp [pairs], none, 0, rfl, Nat.le_refl _, Nat.zero_le _, fun _ => rfl, fun a ha => by cases ha⟩, (fun n c h => by cases h; rfl), .inl rfl⟩
  · simp only [List.cons.injEq, and_true] at h1
    subst h1
    simp only [if_true] at hmm
    subst hmm
    have hsp := cell_spot Tryz.underlying22 hok
    obtain ⟨b, o, q⟩ := a
    simp only at hsp
    subst hsp
    have hs0 : ∀ i, i < m → V0 i = .string (ofL (strV (V0 i))) ∧ V1 i = .string (ofL (strV (V1 i))) := by
      intro i hi
      obtain ⟨_, _, t0, t1⟩ := hc i hi
      obtain ⟨s0, e0, _⟩ := DataW.trod_string Tryz.underlying9 t0
      obtain ⟨s1, e1, _⟩ := DataW.trod_string Tryz.underlying9 t1
      simp only [List.cons.injEq, and_true] at e0 e1
      rw [e0, e1]
      simp only [strV, ofL_toL, and_self]
    have hlen : ((List.range len).map fun i => (strV (V0 i), strV (V1 i))).length = len := by simp
    refine ⟨(List.range len).map fun i => (strV (V0 i), strV (V1 i)), ⟨by rw [pairs_len], _, m, by rw [hlen], by rw [hlen]; exact hl, hm, (fun h => by cases h), fun a ha => ?_⟩, (fun n c h => by cases h), .inr ⟨_, _, by rw [hx], by simp⟩⟩
    cases ha
    refine ⟨rfl, fun j u hj => ?_⟩
    have hjl := (List.getElem?_eq_some_iff.1 hj).1
    rw [pairs_len, hlen] at hjl
    have hi : j / 2 < len := by omega
    have hk : ((List.range len).map fun i => (strV (V0 i), strV (V1 i)))[j / 2]? = some (strV (V0 (j / 2)), strV (V1 (j / 2))) := by simp [hi]
    obtain ⟨p0, p1⟩ := pairs_at hk
    obtain ⟨c0, c1, _, _⟩ := hc (j / 2) (by omega)
    obtain ⟨q0, q1⟩ := hs0 (j / 2) (by omega)
    rw [addr_add] at c0 c1
    by_cases he : j % 2 = 0
    · have ej : j = j / 2 * 2 := by omega
      rw [ej] at hj ⊢
      rw [p0] at hj
      cases hj
      rw [c0, q0]; simp [strV, toL_ofL]
    · have ej : j = j / 2 * 2 + 1 := by omega
      rw [ej] at hj ⊢
      rw [p1] at hj
      cases hj
      rw [c1, q1]; simp [strV, toL_ofL]
/-- What a list of bytes holds that lies in a cell. -/
theorem open_bytesC {H : Type} {enc : TypeId × Value → H} {W : World} {base fuel : Nat} {v : Value} {x : DataW H × List MemPlace} (hok : Cell.okWide Tryz.prog W .any base 23 v)
    (hf : DataW.trod enc Tryz.prog W 0 (fun _ => true) true fuel 23 [v] = some x) :
    ∃ l : B, Part W (v, l) ∧ (l = [] ∨ ∃ elems spare, x.1 = .slice elems spare ∧ elems.length = l.length) := by
  have hval : Value.okWide Tryz.prog W .any base 23 v := by
    unfold Value.okWide
    rw [Tryz.underlying23]
    exact hok
  obtain ⟨a1, len, cap, rfl⟩ := okWide_slice Tryz.underlying23 hval
  have h1 : DataW.Trod enc Tryz.prog W 0 (fun _ => true) true 23 (.slice a1 len cap) x.1 x.2 := ⟨fuel, hf⟩
  obtain ⟨l, hR, hs⟩ := open_bytes2 hval h1
  exact ⟨l, ⟨hR, bytes_none h1⟩, hs⟩
theorem open_req {H : Type} {enc : TypeId × Value → H} {W : World} {base : Nat} {v1 : Value} {d1 : DataW H} {p1 : List MemPlace} (hval : Value.okWide Tryz.prog W .any base 45 v1)
    (h1 : DataW.Trod enc Tryz.prog W 0 (fun _ => true) true 45 v1 d1 p1) : ∃ r : Req, ReqP W r v1 ∧ ∃ hd bd, d1 = .agg [.lit (.string r.m), .lit (.string r.p), hd, bd] ∧
      (r.h = [] ∨ ∃ elems spare, hd = .slice elems spare ∧ elems.length = r.h.length) ∧ (r.b = [] ∨ ∃ elems spare, bd = .slice elems spare ∧ elems.length = r.b.length) := by
  unfold Value.okWide at hval
  rw [Tryz.underlying45] at hval
  obtain ⟨cs, rfl, hsz, ts, hts, _, hall⟩ := hval
  rw [show Tryz.prog.cellTypes Tryz.prog.depth 45 = some [9, 9, 22, 23] by kernel_rfl] at hts
  cases hts
  rw [show Tryz.prog.cellsOf 45 = 4 by kernel_rfl] at hsz
  obtain ⟨a, b, c, d, rfl⟩ : ∃ a b c d, cs = #[a, b, c, d] := by
    obtain ⟨l⟩ := cs
    match l, hsz with
    | [a, b, c, d], _ => exact ⟨a, b, c, d, rfl⟩
  obtain ⟨fuel, hf⟩ := h1
  obtain ⟨xs, k, rfl, hxy, hlen, hxl, hfi⟩ := DataW.trod_struct Tryz.underlying45 hf
  obtain ⟨x0, x1, x2, x3, rfl⟩ : ∃ x0 x1 x2 x3, xs = [x0, x1, x2, x3] := by
    match xs, hxl with
    | [x0, x1, x2, x3], _ => exact ⟨x0, x1, x2, x3, rfl⟩
  have c9 : Tryz.prog.cellsOf 9 = 1 := by kernel_rfl
  have c25 : Tryz.prog.cellsOf 22 = 1 := by kernel_rfl
  have c22 : Tryz.prog.cellsOf 23 = 1 := by kernel_rfl
  have g0 := hfi 0 _ rfl
  have g1 := hfi 1 _ rfl
  have g2 := hfi 2 _ rfl
  have g3 := hfi 3 _ rfl
  simp [c9, c25, c22, Value.cells] at g0 g1 g2 g3
  obtain ⟨s0, e0, f0, _⟩ := DataW.trod_string Tryz.underlying9 g0
  obtain ⟨s1, e1, f1, _⟩ := DataW.trod_string Tryz.underlying9 g1
  simp only [List.cons.injEq, and_true] at e0 e1
  subst e0 e1
  obtain ⟨_, hu2, hok2⟩ := hall 2 c rfl
  cases hu2
  obtain ⟨_, hu3, hok3⟩ := hall 3 d rfl
  cases hu3
  obtain ⟨hs, hH, hHn, hHs⟩ := open_hdrs hok2 g2
  obtain ⟨l, hB, hBs⟩ := open_bytesC hok3 g3
  simp only [Prod.mk.injEq] at hxy
  refine ⟨⟨s0.toList, s1.toList, hs, l⟩, ⟨c, d, by simp only [ofL_toL], hH, hB⟩, x2.1, x3.1, ?_, hHs, hBs⟩
  rw [hxy.1, f0, f1]
  simp [toL_eq]
/-- What the reach says of the parts. -/
theorem sized_req {H : Type} {d : DataW H} {ts : List TypeId} {ds : List (DataW H)} {r : Req} {hd bd : DataW H} (h : (DataW.weightsEach Tryz.prog ts ds).all (· ≤ reachBytes) = true) {j : Nat} (ht : ts[j]? = some 45) (hj : ds[j]? = some d)
    (he : d = .agg [.lit (.string r.m), .lit (.string r.p), hd, bd]) (h1 : r.h = [] ∨ ∃ elems spare, hd = .slice elems spare ∧ elems.length = r.h.length) (h2 : r.b = [] ∨ ∃ elems spare, bd = .slice elems spare ∧ elems.length = r.b.length) :
    r.m.length ≤ 140737488351232 ∧ r.p.length ≤ 140737488351232 ∧ r.h.length ≤ 1099511627776 * 4 ∧ r.b.length ≤ 140737488351232 := by
  subst he
  have hw : (DataW.weightsEach Tryz.prog [9, 9, 22, 23] [DataW.lit (.string r.m), .lit (.string r.p), hd, bd]).all (· ≤ reachBytes) = true := by
    rw [List.all_eq_true]
    intro x hx
    refine List.all_eq_true.1 h x (DataW.weights_mem_each ht hj x ?_)
    simp only [DataW.weights, Tryz.underlying45]
    exact hx
  have a0 := sized_string hw (j := 0) rfl rfl
  have a1 := sized_string hw (j := 1) rfl rfl
  refine ⟨a0, a1, ?_, ?_⟩
  · rcases h1 with h1 | ⟨elems, spare, rfl, hl⟩
    · rw [h1]; exact Nat.zero_le _
    · have := sized_slice hw (j := 2) rfl rfl Tryz.underlying22
      rw [show Tryz.prog.bytesOf 30 = 32 by kernel_rfl] at this
      unfold reachBytes at this
      omega
  · exact sized_bytes hw (j := 3) rfl rfl h2
end Go.Proofs.YtgdelmkgdfhdpaaGreatDoor.Rowk
namespace Go.Proofs.YtgdelmkgdfhdpaaGreatDoor.Rowk
open Go.ChangeShapes Go.WideShapes Go.ChangeAt Go.RowKit
set_option linter.unusedVariables false
set_option maxRecDepth 100000

theorem open_ans {H : Type} {enc : TypeId × Value → H} {W : World} {base : Nat} {v1 : Value} {d1 : DataW H} {p1 : List MemPlace} (hval : Value.okWide Tryz.prog W .any base 25 v1)
    (h1 : DataW.Trod enc Tryz.prog W 0 (fun _ => true) true 25 v1 d1 p1) : ∃ (s : Int) (hs : List (B × B)) (b : B), AnsP W s hs b v1 ∧ ∃ hd bd, d1 = .agg [.lit (.int .i64 s), hd, bd] ∧
      (hs = [] ∨ ∃ elems spare, hd = .slice elems spare ∧ elems.length = hs.length) ∧ (b = [] ∨ ∃ elems spare, bd = .slice elems spare ∧ elems.length = b.length) := by
  unfold Value.okWide at hval
  rw [Tryz.underlying25] at hval
  obtain ⟨cs, rfl, hsz, ts, hts, _, hall⟩ := hval
  rw [show Tryz.prog.cellTypes Tryz.prog.depth 25 = some [3, 22, 23] by kernel_rfl] at hts
  cases hts
  rw [show Tryz.prog.cellsOf 25 = 3 by kernel_rfl] at hsz
  obtain ⟨a, c, d, rfl⟩ : ∃ a c d, cs = #[a, c, d] := by
    obtain ⟨l⟩ := cs
    match l, hsz with
    | [a, c, d], _ => exact ⟨a, c, d, rfl⟩
  obtain ⟨fuel, hf⟩ := h1
  obtain ⟨xs, k, rfl, hxy, hlen, hxl, hfi⟩ := DataW.trod_struct Tryz.underlying25 hf
  obtain ⟨x0, x2, x3, rfl⟩ : ∃ x0 x2 x3, xs = [x0, x2, x3] := by
    match xs, hxl with
    | [x0, x2, x3], _ => exact ⟨x0, x2, x3, rfl⟩
  have c9 : Tryz.prog.cellsOf 3 = 1 := by kernel_rfl
  have c25 : Tryz.prog.cellsOf 22 = 1 := by kernel_rfl
  have c22 : Tryz.prog.cellsOf 23 = 1 := by kernel_rfl
  have g0 := hfi 0 _ rfl
  have g2 := hfi 1 _ rfl
  have g3 := hfi 2 _ rfl
  simp [c9, c25, c22, Value.cells] at g0 g2 g3
  obtain ⟨z, e0, f0, _⟩ := DataW.trod_int Tryz.underlying3 g0
  simp only [List.cons.injEq, and_true] at e0
  subst e0
  obtain ⟨_, hu2, hok2⟩ := hall 1 c rfl
  cases hu2
  obtain ⟨_, hu3, hok3⟩ := hall 2 d rfl
  cases hu3
  obtain ⟨hs, hH, hHn, hHs⟩ := open_hdrs hok2 g2
  obtain ⟨l, hB, hBs⟩ := open_bytesC hok3 g3
  simp only [Prod.mk.injEq] at hxy
  refine ⟨z, hs, l, ⟨c, d, rfl, hH, hB⟩, x2.1, x3.1, ?_, hHs, hBs⟩
  rw [hxy.1, f0]
  simp
/-- What the reach says of the parts. -/
theorem sized_ans {H : Type} {d : DataW H} {ts : List TypeId} {ds : List (DataW H)} {s : Int} {hs : List (B × B)} {b : B} {hd bd : DataW H} (h : (DataW.weightsEach Tryz.prog ts ds).all (· ≤ reachBytes) = true) {j : Nat} (ht : ts[j]? = some 25) (hj : ds[j]? = some d)
    (he : d = .agg [.lit (.int .i64 s), hd, bd]) (h1 : hs = [] ∨ ∃ elems spare, hd = .slice elems spare ∧ elems.length = hs.length) (h2 : b = [] ∨ ∃ elems spare, bd = .slice elems spare ∧ elems.length = b.length) :
    hs.length ≤ 4398046511104 ∧ b.length ≤ 140737488351232 := by
  subst he
  have hw : (DataW.weightsEach Tryz.prog [3, 22, 23] [DataW.lit (.int .i64 s), hd, bd]).all (· ≤ reachBytes) = true := by
    rw [List.all_eq_true]
    intro x hx
    refine List.all_eq_true.1 h x (DataW.weights_mem_each ht hj x ?_)
    simp only [DataW.weights, Tryz.underlying25]
    exact hx
  refine ⟨?_, ?_⟩
  · rcases h1 with h1 | ⟨elems, spare, rfl, hl⟩
    · rw [h1]; exact Nat.zero_le _
    · have := sized_slice hw (j := 1) rfl rfl Tryz.underlying22
      rw [show Tryz.prog.bytesOf 30 = 32 by kernel_rfl] at this
      unfold reachBytes at this
      omega
  · exact sized_bytes hw (j := 2) rfl rfl h2
end Go.Proofs.YtgdelmkgdfhdpaaGreatDoor.Rowk
