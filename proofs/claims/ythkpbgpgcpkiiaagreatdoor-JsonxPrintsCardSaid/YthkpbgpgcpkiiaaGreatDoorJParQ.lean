/- errors.As at an *api.Fault: it is one. Conditions: the listed variable is a type's handle. -/
import Derived.Test.YthkpbgpgcpkiiaaGreatDoorJParP
namespace Go.Proofs.YthkpbgpgcpkiiaaGreatDoor
open Go.RowKit Go.Extern.Stop Go.Stop Go.Extern
set_option linter.unusedVariables false
set_option linter.unusedSimpArgs false
set_option maxRecDepth 100000

theorem rls (v x : Value) : ReflectliteValue.set #[v, x] = (do
    let (some (dst, a, fl), some (src, b, _)) := (← ReflectliteValue.parts v, ← ReflectliteValue.parts x)
      | unsupported (.noEntry "extern/(internal/reflectlite.Value).Set.zeroValue")
    if fl / ReflectliteValue.flagAddr % 2 == 0 then unsupported (.noEntry "extern/(internal/reflectlite.Value).Set.unaddressable")
    let val ← loadVar src b
    if ← Rtype.directlyAssignable dst src then storeVar dst a val
    else if ← Rtype.implements dst src then
      if (← Rtype.kind src) == 20 then
        match val with
        | .nilIface => unsupported (.noEntry "extern/reflectlite: a nil value of one interface type handed on as a value of another")
        | _ => storeVar dst a val
      else storeVar dst a (.iface src val)
    else panicString ("reflectlite.Set: value of type " ++ (← Rtype.spelt src) ++ " is not assignable to type " ++ (← Rtype.spelt dst))
    pure (.tuple #[])) := rfl
theorem partsFa (a : Addr) (w : World) : (ReflectliteValue.parts (.agg #[.pointer (some ⟨7, 59, none⟩), .pointer (some a), .int .u64 409])).run Tryz.prog w = .ok (some (59, a, 409)) w := by kernel_rfl
theorem partsF (a : Addr) (w : World) : (ReflectliteValue.parts (.agg #[.pointer (some ⟨7, 59, none⟩), .pointer (some a), .int .u64 153])).run Tryz.prog w = .ok (some (59, a, 153)) w := by kernel_rfl
theorem directF (w : World) : (Rtype.directlyAssignable 59 59).run Tryz.prog w = .ok true w := by kernel_rfl
theorem sizeF (w : World) : (sizeOf 59).run Tryz.prog w = .ok 2 w := by kernel_rfl
theorem aggF (w : World) : (isAgg 59).run Tryz.prog w = .ok true w := by kernel_rfl
/-- (Value).Set: the variable at tb gets what the Value's own variable at b holds. -/
theorem setF (tb b : Nat) (x y x0 y0 : Int) (W : World) (hb0 : W.cell? ⟨b, 0, none⟩ = some (.int .i64 x)) (hb1 : W.cell? ⟨b, 1, none⟩ = some (.int .i64 y)) (ht0 : W.cell? ⟨tb, 0, none⟩ = some (.int .i64 x0)) (ht1 : W.cell? ⟨tb, 1, none⟩ = some (.int .i64 y0))
    (hf0 : W.frozen? ⟨tb, 0, none⟩ = false) (hf1 : W.frozen? ⟨tb, 1, none⟩ = false) :
    (ReflectliteValue.set #[.agg #[.pointer (some ⟨7, 59, none⟩), .pointer (some ⟨tb, 0, none⟩), .int .u64 409], .agg #[.pointer (some ⟨7, 59, none⟩), .pointer (some ⟨b, 0, none⟩), .int .u64 153]]).run Tryz.prog W
      = .ok (.tuple #[]) ((W.setCell ⟨tb, 0, none⟩ (.int .i64 x)).setCell ⟨tb, 1, none⟩ (.int .i64 y)) := by
  have hl : (loadVar 59 ⟨b, 0, none⟩).run Tryz.prog W = .ok (.agg #[.int .i64 x, .int .i64 y]) W := by
    simp [loadVar, aggF, sizeF, loadCells, loadCellsFrom, Result.andThen, hb0, hb1, Addr.add, go_sem]
  have hs : (storeVar 59 ⟨tb, 0, none⟩ (.agg #[.int .i64 x, .int .i64 y])).run Tryz.prog W = .ok () ((W.setCell ⟨tb, 0, none⟩ (.int .i64 x)).setCell ⟨tb, 1, none⟩ (.int .i64 y)) := by
    simp [storeVar, sizeF, Value.cells, storeCells, Result.andThen, ht0, ht1, hf0, hf1, Addr.add, go_sem]
  rw [rls]
  simp only [Sem.run_bind, partsFa, partsF, Result.andThen]
  simp [ReflectliteValue.flagAddr, hl, Result.andThen, directF, hs]
/-- A fault's two cells. -/
def FC (w : World) (b : Nat) (x y : Int) : Prop := w.heap[b]? = some (.cells #[.int .i64 x, .int .i64 y] 59 (0, 0))
theorem FC.cell {w : World} {b : Nat} {x y : Int} (h : FC w b x y) (i : Nat) : w.cell? ⟨b, i, none⟩ = #[Value.int .i64 x, .int .i64 y][i]? := by rw [Lib.cell_of_heap h]
theorem FC.c0 {w : World} {b : Nat} {x y : Int} (h : FC w b x y) : w.cell? ⟨b, 0, none⟩ = some (.int .i64 x) := h.cell 0
theorem FC.c1 {w : World} {b : Nat} {x y : Int} (h : FC w b x y) : w.cell? ⟨b, 1, none⟩ = some (.int .i64 y) := h.cell 1
theorem FC.fz {w : World} {b : Nat} {x y : Int} (h : FC w b x y) (i : Nat) : w.frozen? ⟨b, i, none⟩ = false := Lib.frozen_of_heap h i
theorem FC.lt {w : World} {b : Nat} {x y : Int} (h : FC w b x y) : b < w.heap.size := (Array.getElem?_eq_some_iff.1 h).1
theorem FC.touch {F : Nat → Prop} {w w' : World} {b : Nat} {x y : Int} (h : FC w b x y) (ht : Touch F w w') (hf : ¬ F b) : FC w' b x y := by unfold FC; rw [ht.block b h.lt hf]; exact h
theorem FC.below {w w' : World} {b : Nat} {x y : Int} (h : FC w b x y) (hb : Below w.heap.size w w') : FC w' b x y := h.touch (.of_below (F := fun _ => False) hb) id
theorem FC.put {w : World} {b : Nat} {x0 y0 : Int} (h : FC w b x0 y0) (x y : Int) : FC ((w.setCell ⟨b, 0, none⟩ (.int .i64 x)).setCell ⟨b, 1, none⟩ (.int .i64 y)) b x y := heap_set_own (heap_set_own h 0 _) 1 _
/-- The listed variable. -/
def ET (w : World) : Prop := w.cell? ⟨0, 0, none⟩ = some (.iface 105 (.agg #[.pointer (some ⟨7, 55, none⟩)]))
theorem ET.below {w w' : World} (h : ET w) (hb : Below w.heap.size w w') : ET w' := Below.keeps hb h
abbrev asW1 (w : World) (tb : Nat) : World := (w.alloc (.cells #[.pointer (some ⟨tb, 0, none⟩)] 61)).alloc (.cells #[.pointer (some ⟨7, 61, none⟩), .pointer (some ⟨w.heap.size, 0, none⟩), .int .u64 150] 84)
abbrev asW2 (w : World) (tb : Nat) : World := (asW1 w tb).alloc (.cells #[.pointer (some ⟨7, 61, none⟩), .pointer (some ⟨w.heap.size, 0, none⟩), .int .u64 150] 84)
abbrev asW3 (w : World) (tb : Nat) (x y : Int) : World := (asW2 w tb).alloc (.cells #[.int .i64 x, .int .i64 y] 59)
set_option maxHeartbeats 4000000 in
theorem as_hit (x y x0 y0 : Int) (tb : Nat) (w : World) (hF : FC w tb x0 y0) (hg : ET w) :
    Calls Tryz.prog 30 #[.iface 59 (.agg #[.int .i64 x, .int .i64 y]), .iface 61 (.pointer (some ⟨tb, 0, none⟩))] w fun ev w' => ev = .returned (.bool true) ∧ w' = ((asW3 w tb x y).setCell ⟨tb, 0, none⟩ (.int .i64 x)).setCell ⟨tb, 1, none⟩ (.int .i64 y) := by
  have h45 := @run_callFunc_extern Tryz.prog 45 _ (fun args => ReflectliteValue.unpack (args.getD 0 (.tuple #[]))) Tryz.func45 (by kernel_rfl) (by kernel_rfl) (by kernel_rfl) (by kernel_rfl)
  have h46 := @run_callFunc_extern Tryz.prog 46 _ (ReflectliteValue.methodAny (ReflectliteValue.valueError "reflectlite.Value.Type" 0) (fun t _ _ _ => ReflectliteType.toType t)) Tryz.func46 (by kernel_rfl) (by kernel_rfl) (by kernel_rfl) (by kernel_rfl)
  have h47 := @run_callFunc_extern Tryz.prog 47 _ (ReflectliteValue.method (ReflectliteValue.valueError "reflectlite.Value.IsNil" 0) ReflectliteValue.isNil) Tryz.func47 (by kernel_rfl) (by kernel_rfl) (by kernel_rfl) (by kernel_rfl)
  have h145 := @run_callFunc_extern Tryz.prog 145 _ (ReflectliteType.abiMethod fun t => do pure (.int .u8 (← Rtype.kind t))) Tryz.func145 (by kernel_rfl) (by kernel_rfl) (by kernel_rfl) (by kernel_rfl)
  have h158 := @run_callFunc_extern Tryz.prog 158 _ (ReflectliteType.method ReflectliteType.elem) Tryz.func158 (by kernel_rfl) (by kernel_rfl) (by kernel_rfl) (by kernel_rfl)
  have h159 := @run_callFunc_extern Tryz.prog 159 _ (ReflectliteType.relation "Implements" ReflectliteType.implements_) Tryz.func159 (by kernel_rfl) (by kernel_rfl) (by kernel_rfl) (by kernel_rfl)
  have h66 := @run_callFunc_extern Tryz.prog 66 _ ReflectliteType.typeOf Tryz.func66 (by kernel_rfl) (by kernel_rfl) (by kernel_rfl) (by kernel_rfl)
  have h156 := @run_callFunc_extern Tryz.prog 156 _ (ReflectliteType.relation "AssignableTo" ReflectliteType.assignableTo) Tryz.func156 (by kernel_rfl) (by kernel_rfl) (by kernel_rfl) (by kernel_rfl)
  have h67 := @run_callFunc_extern Tryz.prog 67 _ (ReflectliteValue.method (ReflectliteValue.valueError "reflectlite.Value.Elem" 0) ReflectliteValue.elem) Tryz.func67 (by kernel_rfl) (by kernel_rfl) (by kernel_rfl) (by kernel_rfl)
  have h68 := @run_callFunc_extern Tryz.prog 68 _ ReflectliteValue.set Tryz.func68 (by kernel_rfl) (by kernel_rfl) (by kernel_rfl) (by kernel_rfl)
  have tO := typeOfF
  have mK := methodKind
  have mE := methodElem
  have mI := methodImplements
  have mA := methodAssignableTo
  have aF := assignableF
  have vF := valueOfF x y
  have f6 := valueOfP
  have f7 := typeP
  have kP := kindP
  have kF := kindF
  have eP := elemP
  have iF := implementsF
  have hlt := hF.lt
  have hb1 : Below w.heap.size w (asW1 w tb) := ((Below.refl w.heap.size w).alloc (Nat.le_refl _) _).alloc (by simp) _
  have hb2 : Below w.heap.size w (asW2 w tb) := hb1.alloc (by simp; omega) _
  have hb3 : Below w.heap.size w (asW3 w tb x y) := hb2.alloc (by simp; omega) _
  have n8 := isNilP ⟨w.heap.size, 0, none⟩ ⟨tb, 0, none⟩ (asW1 w tb) (by simp)
  have hg2 := hg.below hb1
  unfold ET at hg2
  have el := elemV ⟨w.heap.size, 0, none⟩ ⟨tb, 0, none⟩ (asW2 w tb) (by rw [World.cell?_alloc_lt _ _ ⟨w.heap.size, 0, none⟩ (by simp; omega)]; simp)
  have hF3 := hF.below hb3
  have st := setF tb (w.heap.size + 1 + 1 + 1) x y x0 y0 (asW3 w tb x y) (by rw [World.cell?_alloc_at _ _ _ _ (by simp)]; rfl) (by rw [World.cell?_alloc_at _ _ _ _ (by simp)]; rfl) hF3.c0 hF3.c1 (hF3.fz 0) (hF3.fz 1)
  clear hF3 hF hg
  go_enter Tryz.func30, Tryz.ntmps30
  go_wp2
  refine wp_loop_rounds 1 ?_
  rw [rounds_succ]
  go_wp2
  go_ret
  exact ⟨rfl, rfl⟩
end Go.Proofs.YthkpbgpgcpkiiaaGreatDoor
