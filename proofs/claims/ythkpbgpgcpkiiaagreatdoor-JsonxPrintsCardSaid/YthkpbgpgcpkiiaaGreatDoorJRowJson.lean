/- What every row of this seat needs: the listed variables' world, what they give; a JSON value that came in reads as one. Conditions: none. -/
import Derived.Test.YthkpbgpgcpkiiaaGreatDoorCards
import Derived.Test.YthkpbgpgcpkiiaaGreatDoorTie
import Derived.Test.YthkpbgpgcpkiiaaGreatDoorJLawA
import Derived.WalkKit
import Derived.ProofKit
import Derived.OpenShut
import Derived.ShutString
import Derived.ChangeOld
import Derived.Below
import Derived.Deep.DeepHandedRow
import Derived.Deep.DeepWitnessRowRef
import Derived.Lib.LaidTab
import Derived.Lib.LaidIn
import Derived.Lib.LaidU8
import Derived.LaidHandle
import Derived.LaidSub
import Derived.SizedLaws
import Derived.Test.YthkpbgpgcpkiiaaGreatDoorJsonO
import Derived.SliceStrings
import Derived.ChangeArms
import Derived.WideShapes
namespace Go.Proofs.YthkpbgpgcpkiiaaGreatDoor.Rowk
open Go.ChangeShapes Go.WideShapes Go.ChangeAt Go.RowKit
set_option linter.unusedVariables false
set_option maxRecDepth 1000000

theorem own : ownKnob Tryz.prog.godebug = none := by kernel_rfl
theorem laidOut : laidOutB Tryz.prog = true := by kernel_rfl
/-- A world for a witness: the listed variables hold what their initialisers lay. -/
noncomputable def laidWorld (os : Os) : World :=
  let N := (World.settled Tryz.prog os).heap.size
  let w0 := World.holding Tryz.prog os ⟨#[.cells #[.string ⟨#[118, 97, 108, 117, 101, 32, 111, 117, 116, 32, 111, 102, 32, 114, 97, 110, 103, 101]⟩] 177, .cells #[.string ⟨#[105, 110, 118, 97, 108, 105, 100, 32, 115, 121, 110, 116, 97, 120]⟩] 177], #[], []⟩
  let put (h : Array Obj) (g : Nat) (cs : Array Value) : Array Obj := h.modify g fun
    | .cells _ t frozen => .cells cs t frozen
    | o => o
  let h0 := put (put w0.heap 6 #[.iface 175 (.pointer (some ⟨N, 0, none⟩))]) 5 #[.iface 175 (.pointer (some ⟨N + 1, 0, none⟩))]
  let h1 := put h0 0 #[.iface 105 (.agg #[.pointer (some ⟨7, 55, none⟩)])]
  let h2 := put h1 3 #[.int .u8 0, .int .u8 1, .int .u8 28, .int .u8 2, .int .u8 29, .int .u8 14, .int .u8 24, .int .u8 3, .int .u8 30, .int .u8 22, .int .u8 20, .int .u8 15, .int .u8 25, .int .u8 17, .int .u8 4, .int .u8 8, .int .u8 31, .int .u8 27, .int .u8 13, .int .u8 23, .int .u8 21, .int .u8 19, .int .u8 16, .int .u8 7, .int .u8 26, .int .u8 12, .int .u8 18, .int .u8 6, .int .u8 11, .int .u8 5, .int .u8 10, .int .u8 9]
  let h3 := put h2 4 #[.int .u8 0, .int .u8 1, .int .u8 56, .int .u8 2, .int .u8 57, .int .u8 49, .int .u8 28, .int .u8 3, .int .u8 61, .int .u8 58, .int .u8 42, .int .u8 50, .int .u8 38, .int .u8 29, .int .u8 17, .int .u8 4, .int .u8 62, .int .u8 47, .int .u8 59, .int .u8 36, .int .u8 45, .int .u8 43, .int .u8 51, .int .u8 22, .int .u8 53, .int .u8 39, .int .u8 33, .int .u8 30, .int .u8 24, .int .u8 18, .int .u8 12, .int .u8 5, .int .u8 63, .int .u8 55, .int .u8 48, .int .u8 27, .int .u8 60, .int .u8 41, .int .u8 37, .int .u8 16, .int .u8 46, .int .u8 35, .int .u8 44, .int .u8 21, .int .u8 52, .int .u8 32, .int .u8 23, .int .u8 11, .int .u8 54, .int .u8 26, .int .u8 40, .int .u8 15, .int .u8 34, .int .u8 20, .int .u8 31, .int .u8 10, .int .u8 25, .int .u8 14, .int .u8 19, .int .u8 9, .int .u8 13, .int .u8 8, .int .u8 7, .int .u8 6]
  let h4 := put h3 1 #[.int .u64 1, .int .u64 10, .int .u64 100, .int .u64 1000, .int .u64 10000, .int .u64 100000, .int .u64 1000000, .int .u64 10000000, .int .u64 100000000, .int .u64 1000000000, .int .u64 10000000000, .int .u64 100000000000, .int .u64 1000000000000, .int .u64 10000000000000, .int .u64 100000000000000, .int .u64 1000000000000000, .int .u64 10000000000000000, .int .u64 100000000000000000, .int .u64 1000000000000000000, .int .u64 10000000000000000000]
  { w0 with heap := h4 }
noncomputable abbrev N0 : Nat := (World.settled Tryz.prog default).heap.size
theorem laid_in (os : Os) (args : Array Value) : LaidIn Tryz.prog ((laidWorld os).forCall (fun _ _ => 0) ⟨#[], args, []⟩).memory (Rows.jsonxPrintsRow.laid.filter fun x => x.2.handleName?.isNone) [0, 1, 2, 3, 4, 5, 6, N0, N0 + 1] :=
  LaidIn.of_run [0, 1, 2, 3, 4, 5, 6, N0, N0 + 1] 8 (by kernel_rfl) (by kernel_rfl) (by kernel_rfl) (by kernel_rfl)
theorem laid_met (os : Os) (args : Array Value) : laidMetH Tryz.prog Rows.jsonxPrintsRow.laid ((laidWorld os).forCall (fun _ _ => 0) ⟨#[], args, []⟩).memory :=
  laidMetH_of_parts (laid_in os args).met (by kernel_rfl)

theorem e_et : Tryz.prog.globalNamed "errors.errorType" = some 0 := by kernel_rfl
theorem e_rt : (Tryz.prog.cutTypes.find? (·.1 == "internal/reflectlite.rtype")).map (·.2) = some 105 := by kernel_rfl
theorem e_size : Tryz.prog.types.size = 204 := by kernel_rfl
theorem e_row : ((List.range 204).filter fun t => Tryz.prog.rowNamed t [101, 114, 114, 111, 114]) = [55] := by kernel_rfl
theorem e_handle : typeHandle Tryz.prog 55 = .pointer (some ⟨7, 55, none⟩) := by kernel_rfl
/-- The error's type, out of what is laid. -/
theorem et_of (W : World) (hL : laidMetH Tryz.prog Rows.jsonxPrintsRow.laid W) : ET W := by
  have h := (laidMetH_iff.1 hL).2
  have hf : (Rows.jsonxPrintsRow.laid.filter fun x => x.2.handleName?.isSome) = [("errors.errorType", Rows.laid_errors_errorType)] := by kernel_rfl
  rw [hf] at h
  obtain ⟨name, u, ty, e1, e2, e3, e4, e5⟩ := h _ (List.mem_singleton.2 rfl)
  have en : name = [101, 114, 114, 111, 114] := (Option.some.inj e1).symm
  subst en
  obtain rfl := Option.some.inj (e_rt.symm.trans e2)
  have hm : ty ∈ (List.range 204).filter fun t => Tryz.prog.rowNamed t [101, 114, 114, 111, 114] := List.mem_filter.2 ⟨List.mem_range.2 (by rw [← e_size]; exact e3), e4⟩
  rw [e_row] at hm
  obtain rfl := List.mem_singleton.1 hm
  rw [e_handle] at e5
  have := World.var?_cell e_et e5 0
  unfold ET
  simpa using this
theorem tab10_of (W : World) (hL : laidMetH Tryz.prog Rows.jsonxPrintsRow.laid W) : Tab10 W := by
  have h := (laidMetH_iff.1 hL).1.filter (fun x => x.1 == "internal/strconv.uint64pow10")
  have e : ((Rows.jsonxPrintsRow.laid.filter fun x => x.2.handleName?.isNone).filter (fun x => x.1 == "internal/strconv.uint64pow10")) = [("internal/strconv.uint64pow10", Lib.tabData .u64 Lib.pow10Tab)] := by kernel_rfl
  rw [e] at h
  exact Lib.tabIs_of_head (g := 1) (by kernel_rfl) (by kernel_rfl) Tryz.underlying135 Tryz.underlying120 (by kernel_rfl) (by kernel_rfl) h
theorem globals_lie {P : Program} {w : World} {g : Nat} {t : TypeId} {zero : Array Value} (h : w.ShapedOpen P) (hg : g < P.globals.size)
    (h0 : ((begin P (fun _ _ => 0) default).world.heap[g]?).bind Obj.row? = some (zero, t)) : g < w.heap.size := by
  obtain ⟨cs, hh, _⟩ := h.1 g zero t hg h0
  exact (Array.getElem?_eq_some_iff.1 hh).1
theorem good_of (W : World) (hsh : W.ShapedOpen Tryz.prog) (hL : laidMetH Tryz.prog Rows.jsonxPrintsRow.laid W) : Good W :=
  ⟨et_of W hL, tab10_of W hL, by
    have h := globals_lie (g := 6) (t := 55) (zero := #[.nilIface]) hsh (by decide +kernel) (by kernel_rfl)
    omega⟩
end Go.Proofs.YthkpbgpgcpkiiaaGreatDoor.Rowk
namespace Go.Proofs.YthkpbgpgcpkiiaaGreatDoor.Rowk
open Go.ChangeShapes Go.WideShapes Go.ChangeAt Go.RowKit
set_option linter.unusedVariables false
set_option linter.unusedSimpArgs false
set_option maxRecDepth 100000

theorem addr_add (b o k : Nat) : (⟨b, o, none⟩ : Addr).add k = ⟨b, o + k, none⟩ := by unfold Addr.add; split <;> simp_all
theorem spot_of {W : World} {a : Addr} {v : Value} (h : W.cell? (a.add 0) = some v) : a.spot = none := by simpa [Addr.add] using World.cell?_spot h
/-- Names that came in. -/
theorem open_names {H : Type} {enc : TypeId × Value → H} {W : World} {fuel : Nat} {v : Value} {x : DataW H × List MemPlace}
    (hf : DataW.trod enc Tryz.prog W 0 (fun _ => true) true fuel 22 [v] = some x) (hz : ∀ n ∈ DataW.weights Tryz.prog 22 x.1, n ≤ reachBytes) :
    ∃ ns : List B, RdP (fun b => b < W.heap.size) W 1 v ns.length (strs ns) ∧ ns.length ≤ 140737488355328 ∧ ∀ s ∈ ns, s.length ≤ 9223372036854775807 := by
  rcases open_strings Tryz.underlying22 Tryz.underlying9 (by kernel_rfl) hf with ⟨hcs, hx⟩ | ⟨a, len, cap, ss, hcs, _, hl, hm, hss, hx, hcell, hw⟩
  · simp only [List.cons.injEq, and_true] at hcs
    subst hcs
    exact ⟨[], RdP.nil, Nat.zero_le _, fun s h => by cases h⟩
  · simp only [List.cons.injEq, and_true] at hcs
    subst hcs
    simp only [if_true] at hss
    have hbound : len ≤ 140737488355328 := by
      have h9 := hz ((((ss.take len).map fun s => (DataW.lit (.string s.data.toList) : DataW H)).length + ((ss.drop len).map fun s => (DataW.lit (.string s.data.toList) : DataW H)).length) * Tryz.prog.bytesOf 9) (by
        rw [hx]
        simp only [DataW.weights, Tryz.underlying22]
        exact List.mem_cons_self ..)
      rw [show Tryz.prog.bytesOf 9 = 16 by kernel_rfl] at h9
      simp only [List.length_map, List.length_take, List.length_drop] at h9
      unfold reachBytes at h9
      omega
    have hmem : ∀ s ∈ (ss.take len).map (fun s => s.toList), s.length ≤ 9223372036854775807 := by
      intro s hs
      obtain ⟨u, hu, rfl⟩ := List.mem_map.1 hs
      have h9 := hw u (List.mem_of_mem_take hu)
      unfold maxLen at h9
      rw [toL_eq, Array.length_toList]
      exact h9
    have hlen : ((ss.take len).map fun s => s.toList).length = len := by simp; omega
    by_cases h0 : len = 0
    · subst h0
      exact ⟨[], ⟨⟨_, _, rfl⟩, .inl ⟨rfl, rfl⟩⟩, Nat.zero_le _, fun s h => by cases h⟩
    have hs : a.spot = none := spot_of (hcell 0 (by omega))
    obtain ⟨b, o, sp⟩ := a
    simp only at hs
    subst hs
    have hat : ∀ j u, (strs ((ss.take len).map fun s => s.toList))[j]? = some u → W.cell? ⟨b, o + j, none⟩ = some u := by
      intro j u hj
      unfold strs at hj
      rw [List.getElem?_map, List.getElem?_map, List.getElem?_take] at hj
      split at hj
      · rename_i hjl
        have hjz : j < ss.length := by omega
        rw [List.getElem?_eq_getElem hjz] at hj
        simp only [Option.map_some, Option.some.injEq, ofL_toL] at hj
        have hc := hcell j hjz
        rw [addr_add] at hc
        rw [hc, ← hj]
        simp [List.getD_eq_getElem?_getD, List.getElem?_eq_getElem hjz]
      · cases hj
    refine ⟨(ss.take len).map fun s => s.toList, ?_, by rw [hlen]; exact hbound, hmem⟩
    refine ⟨⟨_, _, by rw [hlen]⟩, .inr ⟨⟨by rw [strs_len, Nat.mul_one], some ⟨b, o, none⟩, cap, by rw [hlen], by rw [hlen]; exact hl, hm, (fun h => by cases h), fun a' ha' => ?_⟩, fun a' n' c' hv => ?_⟩⟩
    · cases ha'; exact ⟨rfl, hat⟩
    · cases hv
      have h1 : 0 < (strs ((ss.take len).map fun s => s.toList)).length := by rw [strs_len, hlen]; omega
      exact lt_of_cell (hat 0 _ (List.getElem?_eq_getElem h1))
theorem i64_bounds {z : Int} (h : (Lit.int .i64 z).wf = true) : -9223372036854775808 ≤ z ∧ z ≤ 9223372036854775807 := by
  unfold Lit.wf at h
  simp only [Bool.and_eq_true, decide_eq_true_eq] at h
  have e1 : IntKind.i64.min = -9223372036854775808 := by decide
  have e2 : IntKind.i64.max = 9223372036854775807 := by decide
  omega
theorem open_cells {H : Type} {enc : TypeId × Value → H} {W : World} : ∀ (fuel : Nat) (cs : List Value) (x : DataW H × List MemPlace),
    DataW.trod enc Tryz.prog W 0 (fun _ => true) true fuel 25 cs = some x → (∀ n ∈ DataW.weights Tryz.prog 25 x.1, n ≤ reachBytes) → ∃ v : J, RJ (fun b => b < W.heap.size) W v cs ∧ wfJ v = true ∧ lenJ v = true := by
  intro fuel
  induction fuel using Nat.strongRecOn with
  | ind fuel ih =>
    intro cs x h hz
    obtain ⟨ys, n, hfu, hx, hl, hlen, hf⟩ := DataW.trod_struct Tryz.underlying25 h
    rw [show Tryz.prog.cellsOf 25 = 5 by kernel_rfl] at hl
    match cs, hl with
    | [k0, k1, k2, k3, k4], _ =>
    match ys, hlen with
    | [y0, y1, y2, y3, y4], _ =>
    have hz' : ∀ n ∈ DataW.weightsEach Tryz.prog [3, 2, 9, 22, 23] [y0.1, y1.1, y2.1, y3.1, y4.1], n ≤ reachBytes := by
      intro n hn
      refine hz n ?_
      rw [hx]
      simp only [DataW.weights, Tryz.underlying25]
      exact hn
    have z3 : ∀ n ∈ DataW.weights Tryz.prog 22 y3.1, n ≤ reachBytes := fun n hn => hz' n (DataW.weights_mem_each (j := 3) rfl rfl n hn)
    have z4 : ∀ n ∈ DataW.weights Tryz.prog 23 y4.1, n ≤ reachBytes := fun n hn => hz' n (DataW.weights_mem_each (j := 4) rfl rfl n hn)
    have f0 := hf 0 _ rfl
    have f1 := hf 1 _ rfl
    have f2 := hf 2 _ rfl
    have f3 := hf 3 _ rfl
    have f4 := hf 4 _ rfl
    simp only [show Tryz.prog.cellsOf 3 = 1 by kernel_rfl, show Tryz.prog.cellsOf 2 = 1 by kernel_rfl, show Tryz.prog.cellsOf 9 = 1 by kernel_rfl, show Tryz.prog.cellsOf 22 = 1 by kernel_rfl, show Tryz.prog.cellsOf 23 = 1 by kernel_rfl,
      List.drop_zero, List.drop_succ_cons, List.take_succ_cons, List.take_zero, List.getElem?_cons_zero, List.getElem?_cons_succ] at f0 f1 f2 f3 f4
    obtain ⟨zk, e0, -, w0⟩ := DataW.trod_int Tryz.underlying3 f0
    obtain ⟨zn, e1, -, w1⟩ := DataW.trod_int Tryz.underlying2 f1
    obtain ⟨st, e2, -, w2⟩ := DataW.trod_string Tryz.underlying9 f2
    cases e0
    cases e1
    cases e2
    obtain ⟨ns, hN, hNl, hNs⟩ := open_names f3 z3
    have hit : ∃ (is : List J) (xs : List Value), RdP (fun b => b < W.heap.size) W 5 k4 is.length xs ∧ RJs (fun b => b < W.heap.size) W is xs ∧ wfsJ is = true ∧ is.length ≤ 140737488355328 ∧ lensJ is = true := by
      rcases DataW.trod_slice Tryz.underlying23 f4 with ⟨hcs, hx⟩ | ⟨a, len, cap, elems, rest, m, hm, hcs, hx4, _, hlc, hcm, hel, hat, -, -⟩
      · cases hcs
        exact ⟨[], [], RdP.nil, by rw [RJs], by rw [wfsJ], Nat.zero_le _, by rw [lensJ]⟩
      · cases hcs
        rw [show Tryz.prog.cellsOf 25 = 5 by kernel_rfl] at hat
        by_cases h0 : len = 0
        · subst h0
          exact ⟨[], [], ⟨⟨_, _, rfl⟩, .inl ⟨rfl, rfl⟩⟩, by rw [RJs], by rw [wfsJ], Nat.zero_le _, by rw [lensJ]⟩
        rw [hx4] at z4
        simp only [DataW.weights, Tryz.underlying23] at z4
        have hbound : len ≤ 140737488355328 := by
          have h9 := z4 _ (List.mem_cons_self ..)
          rw [show Tryz.prog.bytesOf 25 = 80 by kernel_rfl] at h9
          simp only [List.length_map, hel] at h9
          unfold reachBytes at h9
          omega
        have zel : ∀ y ∈ elems, ∀ n ∈ DataW.weights Tryz.prog 25 y.1, n ≤ reachBytes := by
          intro y hy n hn
          refine z4 n (List.mem_cons_of_mem _ (List.mem_append.2 (.inl ?_)))
          clear hat hel hx4 z4
          induction elems with
          | nil => cases hy
          | cons e r ihr =>
            simp only [List.map_cons, DataW.weightsAll, List.mem_append]
            rcases List.mem_cons.1 hy with rfl | hy
            · exact .inl hn
            · exact .inr (ihr hy)
        have each : ∀ i, i < len → ∃ cs', W.cells? 0 (a.add (i * 5)) 5 = some cs' ∧ ∃ v : J, RJ (fun b => b < W.heap.size) W v cs' ∧ wfJ v = true ∧ lenJ v = true := by
          intro i hi
          have h1 := hat i hi
          rw [List.getElem?_eq_getElem (by omega), Option.bind_eq_some_iff] at h1
          obtain ⟨cs', hc, ht⟩ := h1
          exact ⟨cs', hc, ih m (by omega) _ _ ht (zel _ (List.getElem_mem _))⟩
        have hs : a.spot = none := by
          obtain ⟨cs', hc, _⟩ := each 0 (by omega)
          obtain ⟨_, h5, h6⟩ := World.cells?_some hc
          have h7 := h6 0 (by omega)
          rw [List.getElem?_eq_getElem (by omega)] at h7
          exact spot_of (by simpa [Addr.add] using h7)
        obtain ⟨b, o, sp⟩ := a
        simp only at hs
        subst hs
        have build : ∀ q, q ≤ len → ∃ (is : List J) (xs : List Value), is.length = q ∧ xs.length = q * 5 ∧ RJs (fun b => b < W.heap.size) W is xs ∧ wfsJ is = true ∧ lensJ is = true ∧ ∀ j u, xs[j]? = some u → W.cell? ⟨b, o + j, none⟩ = some u := by
          intro q
          induction q with
          | zero => exact fun _ => ⟨[], [], rfl, rfl, by rw [RJs], by rw [wfsJ], by rw [lensJ], fun j u hj => by cases hj⟩
          | succ q ihq =>
            intro hq
            obtain ⟨is, xs, g1, g2, g3, g4, g6, g5⟩ := ihq (by omega)
            obtain ⟨cs', hc, v, hv, hwv, hlv⟩ := each q (by omega)
            obtain ⟨_, h5, h6⟩ := World.cells?_some hc
            refine ⟨is ++ [v], xs ++ cs', by simp [g1], by rw [List.length_append, g2, h5]; omega, g3.snoc hv, wfs_all.2 (fun u hu => ?_), lens_all.2 (fun u hu => ?_), fun j u hj => ?_⟩
            · rcases List.mem_append.1 hu with h | h
              · exact wfs_all.1 g4 u h
              · rw [List.mem_singleton.1 h]; exact hwv
            · rcases List.mem_append.1 hu with h | h
              · exact lens_all.1 g6 u h
              · rw [List.mem_singleton.1 h]; exact hlv
            · by_cases hjx : j < xs.length
              · rw [List.getElem?_append_left hjx] at hj; exact g5 j u hj
              · rw [List.getElem?_append_right (by omega)] at hj
                have hj5 : j - xs.length < 5 := by rw [← h5]; exact (List.getElem?_eq_some_iff.1 hj).1
                have h8 := h6 (j - xs.length) hj5
                rw [addr_add, addr_add, hj] at h8
                rw [← h8]; congr 2; rw [g2]; omega
        obtain ⟨is, xs, g1, g2, g3, g4, g6, g5⟩ := build len (Nat.le_refl _)
        refine ⟨is, xs, ⟨⟨_, _, by rw [g1]⟩, .inr ⟨⟨by rw [g1]; exact g2, some ⟨b, o, none⟩, cap, by rw [g1], by rw [g1]; exact hlc, hcm, (fun h => by cases h), fun a' ha' => ?_⟩, fun a' n' c' hv => ?_⟩⟩, g3, g4, by rw [g1]; exact hbound, g6⟩
        · cases ha'; exact ⟨rfl, g5⟩
        · cases hv
          have h1 : 0 < xs.length := by omega
          exact lt_of_cell (g5 0 _ (List.getElem?_eq_getElem h1))
    obtain ⟨is, xs, h1, h2, h3, h4, h5⟩ := hit
    refine ⟨.mk zk zn st.toList ns is, ?_, ?_, ?_⟩
    · rw [RJ, ofL_toL]; exact ⟨_, _, rfl, hN, xs, h1, h2⟩
    · have := i64_bounds w1
      rw [wfJ]; simp [this.1, this.2, h3]
    · have h9 := w2
      unfold maxLen at h9
      rw [lenJ]
      simp only [Bool.and_eq_true, decide_eq_true_eq, List.all_eq_true]
      refine ⟨⟨⟨⟨hNl, h4⟩, ?_⟩, hNs⟩, h5⟩
      rw [toL_eq, Array.length_toList]
      exact h9
theorem rj_cells {D : Nat → Prop} {w : World} {v : J} {cs : List Value} (h : RJ D w v cs) : ∃ (A1 : Option Addr) (m1 c1 : Nat) (A2 : Option Addr) (m2 c2 : Nat), cs = [.int .i64 v.kind, .int .i64 v.int, .string (ofL v.text), .slice A1 m1 c1, .slice A2 m2 c2] := by
  obtain ⟨k, n, t, ns, is⟩ := v
  rw [RJ] at h
  obtain ⟨v1, v2, rfl, ⟨⟨A1, c1, rfl⟩, _⟩, xs, ⟨⟨A2, c2, rfl⟩, _⟩, _⟩ := h
  exact ⟨A1, _, c1, A2, _, c2, rfl⟩
theorem open_json {H : Type} {enc : TypeId × Value → H} {W : World} {base : Nat} {v1 : Value} {d1 : DataW H} {p1 : List MemPlace} (hval : Value.okWide Tryz.prog W .any base 25 v1)
    (h1 : DataW.Trod enc Tryz.prog W 0 (fun _ => true) true 25 v1 d1 p1) (hz : ∀ n ∈ DataW.weights Tryz.prog 25 d1, n ≤ reachBytes) :
    ∃ (v : J) (A1 : Option Addr) (m1 c1 : Nat) (A2 : Option Addr) (m2 c2 : Nat), v1 = .agg #[.int .i64 v.kind, .int .i64 v.int, .string (ofL v.text), .slice A1 m1 c1, .slice A2 m2 c2] ∧
      RJ (fun b => b < W.heap.size) W v [.int .i64 v.kind, .int .i64 v.int, .string (ofL v.text), .slice A1 m1 c1, .slice A2 m2 c2] ∧ wfJ v = true ∧ lenJ v = true := by
  obtain ⟨cs, rfl, hsz⟩ := okWide_struct Tryz.underlying25 hval
  obtain ⟨fuel, hf⟩ := h1
  obtain ⟨v, hv, hw, hl⟩ := open_cells _ _ _ hf hz
  obtain ⟨A1, m1, c1, A2, m2, c2, he⟩ := rj_cells hv
  rw [he] at hv
  refine ⟨v, A1, m1, c1, A2, m2, c2, ?_, hv, hw, hl⟩
  obtain ⟨l⟩ := cs
  have he' : l = _ := he
  rw [he']
end Go.Proofs.YthkpbgpgcpkiiaaGreatDoor.Rowk
