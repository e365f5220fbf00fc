/- errors.As at an *api.Fault: it is one. Conditions: the listed variable is a type's handle. jsonx.Parse. Conditions: the listed variable is a type's handle. The law's awake. Conditions: the error's type stands, the table of powers of ten stands. -/
import Derived.Test.YtigdjnfnkjfkmaaGreatDoorJParP
import Derived.RegionTactic
import Derived.Test.YtigdjnfnkjfkmaaGreatDoorJChkC
import Derived.Test.YtigdjnfnkjfkmaaGreatDoorJsonH
namespace Go.Proofs.YtigdjnfnkjfkmaaGreatDoor
open Go.RowKit Go.Extern.Stop Go.Stop Go.Extern
set_option linter.unusedVariables false
set_option linter.unusedSimpArgs false
set_option maxRecDepth 100000

theorem rls (v x : Value) : ReflectliteValue.set #[v, x] = (do
    let (some (dst, a, fl), some (src, b, _)) := (← ReflectliteValue.parts v, ← ReflectliteValue.parts x)
      | unsupported (.noEntry "extern/(internal/reflectlite.Value).Set.zeroValue")
    if fl / ReflectliteValue.flagAddr % 2 == 0 then unsupported (.noEntry "extern/(internal/reflectlite.Value).Set.unaddressable")
    let val ← loadVar src b
    if ← Rtype.directlyAssignable dst src then storeVar dst a val
    else if ← Rtype.implements dst src then
      if (← Rtype.kind src) == 20 then
        match val with
        | .nilIface => unsupported (.noEntry "extern/reflectlite: a nil value of one interface type handed on as a value of another")
        | _ => storeVar dst a val
      else storeVar dst a (.iface src val)
    else panicString ("reflectlite.Set: value of type " ++ (← Rtype.spelt src) ++ " is not assignable to type " ++ (← Rtype.spelt dst))
    pure (.tuple #[])) := rfl
theorem partsFa (a : Addr) (w : World) : (ReflectliteValue.parts (.agg #[.pointer (some ⟨7, 84, none⟩), .pointer (some a), .int .u64 409])).run Tryz.prog w = .ok (some (84, a, 409)) w := by kernel_rfl
theorem partsF (a : Addr) (w : World) : (ReflectliteValue.parts (.agg #[.pointer (some ⟨7, 84, none⟩), .pointer (some a), .int .u64 153])).run Tryz.prog w = .ok (some (84, a, 153)) w := by kernel_rfl
theorem directF (w : World) : (Rtype.directlyAssignable 84 84).run Tryz.prog w = .ok true w := by kernel_rfl
theorem sizeF (w : World) : (sizeOf 84).run Tryz.prog w = .ok 2 w := by kernel_rfl
theorem aggF (w : World) : (isAgg 84).run Tryz.prog w = .ok true w := by kernel_rfl
/-- (Value).Set: the variable at tb gets what the Value's own variable at b holds. -/
theorem setF (tb b : Nat) (x y x0 y0 : Int) (W : World) (hb0 : W.cell? ⟨b, 0, none⟩ = some (.int .i64 x)) (hb1 : W.cell? ⟨b, 1, none⟩ = some (.int .i64 y)) (ht0 : W.cell? ⟨tb, 0, none⟩ = some (.int .i64 x0)) (ht1 : W.cell? ⟨tb, 1, none⟩ = some (.int .i64 y0))
    (hf0 : W.frozen? ⟨tb, 0, none⟩ = false) (hf1 : W.frozen? ⟨tb, 1, none⟩ = false) :
    (ReflectliteValue.set #[.agg #[.pointer (some ⟨7, 84, none⟩), .pointer (some ⟨tb, 0, none⟩), .int .u64 409], .agg #[.pointer (some ⟨7, 84, none⟩), .pointer (some ⟨b, 0, none⟩), .int .u64 153]]).run Tryz.prog W
      = .ok (.tuple #[]) ((W.setCell ⟨tb, 0, none⟩ (.int .i64 x)).setCell ⟨tb, 1, none⟩ (.int .i64 y)) := by
  have hl : (loadVar 84 ⟨b, 0, none⟩).run Tryz.prog W = .ok (.agg #[.int .i64 x, .int .i64 y]) W := by
    simp [loadVar, aggF, sizeF, loadCells, loadCellsFrom, Result.andThen, hb0, hb1, Addr.add, go_sem]
  have hs : (storeVar 84 ⟨tb, 0, none⟩ (.agg #[.int .i64 x, .int .i64 y])).run Tryz.prog W = .ok () ((W.setCell ⟨tb, 0, none⟩ (.int .i64 x)).setCell ⟨tb, 1, none⟩ (.int .i64 y)) := by
    simp [storeVar, sizeF, Value.cells, storeCells, Result.andThen, ht0, ht1, hf0, hf1, Addr.add, go_sem]
  rw [rls]
  simp only [Sem.run_bind, partsFa, partsF, Result.andThen]
  simp [ReflectliteValue.flagAddr, hl, Result.andThen, directF, hs]
/-- A fault's two cells. -/
def FC (w : World) (b : Nat) (x y : Int) : Prop := w.heap[b]? = some (.cells #[.int .i64 x, .int .i64 y] 84 (0, 0))
theorem FC.cell {w : World} {b : Nat} {x y : Int} (h : FC w b x y) (i : Nat) : w.cell? ⟨b, i, none⟩ = #[Value.int .i64 x, .int .i64 y][i]? := by rw [Lib.cell_of_heap h]
theorem FC.c0 {w : World} {b : Nat} {x y : Int} (h : FC w b x y) : w.cell? ⟨b, 0, none⟩ = some (.int .i64 x) := h.cell 0
theorem FC.c1 {w : World} {b : Nat} {x y : Int} (h : FC w b x y) : w.cell? ⟨b, 1, none⟩ = some (.int .i64 y) := h.cell 1
theorem FC.fz {w : World} {b : Nat} {x y : Int} (h : FC w b x y) (i : Nat) : w.frozen? ⟨b, i, none⟩ = false := Lib.frozen_of_heap h i
theorem FC.lt {w : World} {b : Nat} {x y : Int} (h : FC w b x y) : b < w.heap.size := (Array.getElem?_eq_some_iff.1 h).1
theorem FC.touch {F : Nat → Prop} {w w' : World} {b : Nat} {x y : Int} (h : FC w b x y) (ht : Touch F w w') (hf : ¬ F b) : FC w' b x y := by unfold FC; rw [ht.block b h.lt hf]; exact h
theorem FC.below {w w' : World} {b : Nat} {x y : Int} (h : FC w b x y) (hb : Below w.heap.size w w') : FC w' b x y := h.touch (.of_below (F := fun _ => False) hb) id
theorem FC.put {w : World} {b : Nat} {x0 y0 : Int} (h : FC w b x0 y0) (x y : Int) : FC ((w.setCell ⟨b, 0, none⟩ (.int .i64 x)).setCell ⟨b, 1, none⟩ (.int .i64 y)) b x y := heap_set_own (heap_set_own h 0 _) 1 _
/-- The listed variable. -/
def ET (w : World) : Prop := w.cell? ⟨0, 0, none⟩ = some (.iface 147 (.agg #[.pointer (some ⟨7, 80, none⟩)]))
theorem ET.below {w w' : World} (h : ET w) (hb : Below w.heap.size w w') : ET w' := Below.keeps hb h
abbrev asW1 (w : World) (tb : Nat) : World := (w.alloc (.cells #[.pointer (some ⟨tb, 0, none⟩)] 86)).alloc (.cells #[.pointer (some ⟨7, 86, none⟩), .pointer (some ⟨w.heap.size, 0, none⟩), .int .u64 150] 118)
abbrev asW2 (w : World) (tb : Nat) : World := (asW1 w tb).alloc (.cells #[.pointer (some ⟨7, 86, none⟩), .pointer (some ⟨w.heap.size, 0, none⟩), .int .u64 150] 118)
abbrev asW3 (w : World) (tb : Nat) (x y : Int) : World := (asW2 w tb).alloc (.cells #[.int .i64 x, .int .i64 y] 84)
set_option maxHeartbeats 4000000 in
theorem as_hit (x y x0 y0 : Int) (tb : Nat) (w : World) (hF : FC w tb x0 y0) (hg : ET w) :
    Calls Tryz.prog 55 #[.iface 84 (.agg #[.int .i64 x, .int .i64 y]), .iface 86 (.pointer (some ⟨tb, 0, none⟩))] w fun ev w' => ev = .returned (.bool true) ∧ w' = ((asW3 w tb x y).setCell ⟨tb, 0, none⟩ (.int .i64 x)).setCell ⟨tb, 1, none⟩ (.int .i64 y) := by
  have h45 := @run_callFunc_extern Tryz.prog 79 _ (fun args => ReflectliteValue.unpack (args.getD 0 (.tuple #[]))) Tryz.func79 (by kernel_rfl) (by kernel_rfl) (by kernel_rfl) (by kernel_rfl)
  have h46 := @run_callFunc_extern Tryz.prog 80 _ (ReflectliteValue.methodAny (ReflectliteValue.valueError "reflectlite.Value.Type" 0) (fun t _ _ _ => ReflectliteType.toType t)) Tryz.func80 (by kernel_rfl) (by kernel_rfl) (by kernel_rfl) (by kernel_rfl)
  have h47 := @run_callFunc_extern Tryz.prog 81 _ (ReflectliteValue.method (ReflectliteValue.valueError "reflectlite.Value.IsNil" 0) ReflectliteValue.isNil) Tryz.func81 (by kernel_rfl) (by kernel_rfl) (by kernel_rfl) (by kernel_rfl)
  have h145 := @run_callFunc_extern Tryz.prog 208 _ (ReflectliteType.abiMethod fun t => do pure (.int .u8 (← Rtype.kind t))) Tryz.func208 (by kernel_rfl) (by kernel_rfl) (by kernel_rfl) (by kernel_rfl)
  have h158 := @run_callFunc_extern Tryz.prog 221 _ (ReflectliteType.method ReflectliteType.elem) Tryz.func221 (by kernel_rfl) (by kernel_rfl) (by kernel_rfl) (by kernel_rfl)
  have h159 := @run_callFunc_extern Tryz.prog 222 _ (ReflectliteType.relation "Implements" ReflectliteType.implements_) Tryz.func222 (by kernel_rfl) (by kernel_rfl) (by kernel_rfl) (by kernel_rfl)
  have h66 := @run_callFunc_extern Tryz.prog 112 _ ReflectliteType.typeOf Tryz.func112 (by kernel_rfl) (by kernel_rfl) (by kernel_rfl) (by kernel_rfl)
  have h156 := @run_callFunc_extern Tryz.prog 219 _ (ReflectliteType.relation "AssignableTo" ReflectliteType.assignableTo) Tryz.func219 (by kernel_rfl) (by kernel_rfl) (by kernel_rfl) (by kernel_rfl)
  have h67 := @run_callFunc_extern Tryz.prog 113 _ (ReflectliteValue.method (ReflectliteValue.valueError "reflectlite.Value.Elem" 0) ReflectliteValue.elem) Tryz.func113 (by kernel_rfl) (by kernel_rfl) (by kernel_rfl) (by kernel_rfl)
  have h68 := @run_callFunc_extern Tryz.prog 114 _ ReflectliteValue.set Tryz.func114 (by kernel_rfl) (by kernel_rfl) (by kernel_rfl) (by kernel_rfl)
  have tO := typeOfF
  have mK := methodKind
  have mE := methodElem
  have mI := methodImplements
  have mA := methodAssignableTo
  have aF := assignableF
  have vF := valueOfF x y
  have f6 := valueOfP
  have f7 := typeP
  have kP := kindP
  have kF := kindF
  have eP := elemP
  have iF := implementsF
  have hlt := hF.lt
  have hb1 : Below w.heap.size w (asW1 w tb) := ((Below.refl w.heap.size w).alloc (Nat.le_refl _) _).alloc (by simp) _
  have hb2 : Below w.heap.size w (asW2 w tb) := hb1.alloc (by simp; omega) _
  have hb3 : Below w.heap.size w (asW3 w tb x y) := hb2.alloc (by simp; omega) _
  have n8 := isNilP ⟨w.heap.size, 0, none⟩ ⟨tb, 0, none⟩ (asW1 w tb) (by simp)
  have hg2 := hg.below hb1
  unfold ET at hg2
  have el := elemV ⟨w.heap.size, 0, none⟩ ⟨tb, 0, none⟩ (asW2 w tb) (by rw [World.cell?_alloc_lt _ _ ⟨w.heap.size, 0, none⟩ (by simp; omega)]; simp)
  have hF3 := hF.below hb3
  have st := setF tb (w.heap.size + 1 + 1 + 1) x y x0 y0 (asW3 w tb x y) (by rw [World.cell?_alloc_at _ _ _ _ (by simp)]; rfl) (by rw [World.cell?_alloc_at _ _ _ _ (by simp)]; rfl) hF3.c0 hF3.c1 (hF3.fz 0) (hF3.fz 1)
  clear hF3 hF hg
  go_enter Tryz.func55, Tryz.ntmps55
  go_wp2
  refine wp_loop_rounds 1 ?_
  rw [rounds_succ]
  go_wp2
  go_ret
  exact ⟨rfl, rfl⟩
end Go.Proofs.YtigdjnfnkjfkmaaGreatDoor
namespace Go.Proofs.YtigdjnfnkjfkmaaGreatDoor
open Go.RowKit
set_option linter.unusedVariables false
set_option linter.unusedSimpArgs false
set_option maxRecDepth 100000

def parsedV (H : Nat) (x : J × Nat × Nat) (e : Ending) (w : World) : Prop := ∃ N I, e = .returned (.tuple #[.agg #[.int .i64 x.1.kind, .int .i64 x.1.int, .string (ofL x.1.text), N, I], .int .i64 (x.2.1 : Int), .int .i64 (x.2.2 : Int)]) ∧
  RJ (fun b => H ≤ b) w x.1 [.int .i64 x.1.kind, .int .i64 x.1.int, .string (ofL x.1.text), N, I]
theorem parsed_none (H at' n : Nat) (w : World) : parsedV H (J0, at', n) (.returned (.tuple #[.agg #[.int .i64 0, .int .i64 0, .string ⟨#[]⟩, .slice none 0 0, .slice none 0 0], .int .i64 (at' : Int), .int .i64 (n : Int)])) w :=
  ⟨_, _, rfl, rj_plain 0 0 []⟩
set_option maxHeartbeats 8000000 in
theorem parse_any (s : ByteArray) (hs : s.size ≤ 140737488351232) (w : World) (hET : ET w) :
    Calls Tryz.prog 23 #[.string s] w fun e w' => parsedV w.heap.size (parseJ s.toList) e w' ∧ Below w.heap.size w w' := by
  have hb1 := (Below.refl w.heap.size w).alloc (Nat.le_refl _) (.cells #[.int .i64 0, .int .i64 0, .string ⟨#[]⟩, .slice none 0 0, .slice none 0 0] 49)
  have HR1 := Lib.hid (JC.new w)
  have HB1 := Lib.hid hb1
  have HG := Lib.hid hET
  have hz : (w.alloc (.cells #[.int .i64 0, .int .i64 0, .string ⟨#[]⟩, .slice none 0 0, .slice none 0 0] 49)).heap.size = w.heap.size + 1 := by simp
  have hld := len_toL s
  clear hET hb1
  by_cases hl : 65536 < s.size
  · have HX := Lib.hid (show parseJ s.toList = (J0, 0, 4) by unfold parseJ; rw [if_pos (by omega)])
    have hq : (s.size : Int) > 65536 := by omega
    go_enter Tryz.func23, Tryz.ntmps23
    go_upto_region 1 with fail
    generalize w.alloc (.cells #[.int .i64 0, .int .i64 0, .string ⟨#[]⟩, .slice none 0 0, .slice none 0 0] 49) = w1 at *
    have hr5 := HR1.out
    (have g0 := hr5.c0); (have g1 := hr5.c1); (have g2 := hr5.c2); (have g3 := hr5.c3); (have g4 := hr5.c4); (have f0 := hr5.fz 0); (have f1 := hr5.fz 1); (have f2 := hr5.fz 2); (have f3 := hr5.fz 3); (have f4 := hr5.fz 4)
    have hx10 := hr5.put 0 0 ⟨#[]⟩ (.slice none 0 0) (.slice none 0 0)
    have HTX := Lib.hid ((Touch.of_below (F := fun _ => False) HB1.out).putJ (Nat.le_refl _) 0 0 ⟨#[]⟩ (.slice none 0 0) (.slice none 0 0))
    go_wp2_with fail
    (have hc0 := hx10.c0); (have hc1 := hx10.c1); (have hc2 := hx10.c2); (have hc3 := hx10.c3); (have hc4 := hx10.c4)
    refine bodyPost_ret (v := .tuple #[.agg #[.int .i64 0, .int .i64 0, .string ⟨#[]⟩, .slice none 0 0, .slice none 0 0], .int .i64 0, .int .i64 4]) (by simp [results, Tryz.results23, go_sem, hc0, hc1, hc2, hc3, hc4]) rfl ⟨?_, HTX.out.below (fun _ _ h => h) (Nat.le_refl _)⟩
    rw [HX.out]
    exact parsed_none _ 0 4 _
  · have hq : ¬ (s.size : Int) > 65536 := by omega
    have K1 := Lib.hid (fun w => read_any s (by omega) w)
    go_enter Tryz.func23, Tryz.ntmps23
    go_upto_region 3 with fail
    generalize w.alloc (.cells #[.int .i64 0, .int .i64 0, .string ⟨#[]⟩, .slice none 0 0, .slice none 0 0] 49) = w1 at *
    cases hw : wholeP s.toList with
    | ok v r =>
      have hrr := whole_rest hw
      have HX := Lib.hid (show parseJ s.toList = (v, 0, 0) by unfold parseJ; rw [if_neg (by omega), hw])
      unfold readV at K1
      rw [hw] at K1
      dsimp only at K1
      clear hw
      go_upto_region 5 with (go_at_call 54; with_reducible refine (K1.out _).mono ?_; rintro e w2 ⟨⟨N0, I0, rfl, hRJ⟩, hb2⟩; obtain ⟨⟨AN, nN, cN, rfl⟩, ⟨AI, nI, cI, rfl⟩⟩ := rj_shape hRJ)
      have hb3 := ((Below.refl w2.heap.size w2).alloc (Nat.le_refl _) (.cells #[.int .i64 v.kind, .int .i64 v.int, .string (ofL v.text), .slice AN nN cN, .slice AI nI cI] 49)).alloc (by simp) (.cells #[.int .i64 0, .int .i64 0] 84)
      have hv3 : JC ((w2.alloc (.cells #[.int .i64 v.kind, .int .i64 v.int, .string (ofL v.text), .slice AN nN cN, .slice AI nI cI] 49)).alloc (.cells #[.int .i64 0, .int .i64 0] 84)) w2.heap.size v.kind v.int (ofL v.text) (.slice AN nN cN) (.slice AI nI cI) := JC.below (heap_alloc_new w2 _) ((Below.refl _ _).alloc (Nat.le_refl _) _)
      have hf3 : FC ((w2.alloc (.cells #[.int .i64 v.kind, .int .i64 v.int, .string (ofL v.text), .slice AN nN cN, .slice AI nI cI] 49)).alloc (.cells #[.int .i64 0, .int .i64 0] 84)) (w2.heap.size + 1) 0 0 := by
        have := heap_alloc_new (w2.alloc (.cells #[.int .i64 v.kind, .int .i64 v.int, .string (ofL v.text), .slice AN nN cN, .slice AI nI cI] 49)) (.cells #[.int .i64 0, .int .i64 0] 84)
        rw [World.size_alloc] at this; exact this
      have hr3 := (HR1.out.below hb2).below hb3
      have hg3 := ((HG.out.below HB1.out).below hb2).below hb3
      have HB3 := Lib.hid ((HB1.out.next hb2).next hb3)
      have HRJ := Lib.hid (hRJ.below hb3)
      generalize ((w2.alloc (.cells #[.int .i64 v.kind, .int .i64 v.int, .string (ofL v.text), .slice AN nN cN, .slice AI nI cI] 49)).alloc (.cells #[.int .i64 0, .int .i64 0] 84)) = w3 at *
      have hz2 : w.heap.size < w2.heap.size := by have := hb2.size; omega
      have hne : ¬ w.heap.size = w2.heap.size ∧ ¬ w.heap.size = w2.heap.size + 1 := by have := hb2.size; omega
      clear hb3 hb2 hRJ
      go_upto_region 7 with (go_at_call 55; with_reducible refine (as_nil _ _).mono ?_; rintro e w4 ⟨rfl, rfl⟩)
      have hr5 := hr3
      (have g0 := hr5.c0); (have g1 := hr5.c1); (have g2 := hr5.c2); (have g3 := hr5.c3); (have g4 := hr5.c4); (have f0 := hr5.fz 0); (have f1 := hr5.fz 1); (have f2 := hr5.fz 2); (have f3 := hr5.fz 3); (have f4 := hr5.fz 4)
      have v0 := hv3.c0
      have v1 := hv3.c1
      have v2 := hv3.c2
      have v3 := hv3.c3
      have v4 := hv3.c4
      have hx10 := hr5.put v.kind v.int (ofL v.text) (.slice AN nN cN) (.slice AI nI cI)
      have HTX := Lib.hid ((Touch.of_below (F := fun _ => False) HB3.out).putJ (Nat.le_refl _) v.kind v.int (ofL v.text) (.slice AN nN cN) (.slice AI nI cI))
      have HRX := Lib.hid (RJ.keep (w' := putJ w4 w.heap.size v.kind v.int (ofL v.text) (.slice AN nN cN) (.slice AI nI cI)) (touch_keeps ((((((Touch.refl (fun j => j = w.heap.size) w4).setCell (p := ⟨w.heap.size, 0, none⟩) rfl _).setCell (p := ⟨w.heap.size, 1, none⟩) rfl _).setCell (p := ⟨w.heap.size, 2, none⟩) rfl _).setCell (p := ⟨w.heap.size, 3, none⟩) rfl _).setCell (p := ⟨w.heap.size, 4, none⟩) rfl _) (fun b hb e => by have h1 : w1.heap.size ≤ b := hb; have h2 : b = w.heap.size := e; omega)) _ _ HRJ.out)
      go_wp2_with fail
      (have hc0 := hx10.c0); (have hc1 := hx10.c1); (have hc2 := hx10.c2); (have hc3 := hx10.c3); (have hc4 := hx10.c4)
      refine bodyPost_ret (v := .tuple #[.agg #[.int .i64 v.kind, .int .i64 v.int, .string (ofL v.text), .slice AN nN cN, .slice AI nI cI], .int .i64 0, .int .i64 0]) (by simp [results, Tryz.results23, go_sem, hc0, hc1, hc2, hc3, hc4]) rfl ⟨?_, HTX.out.below (fun _ _ h => h) (Nat.le_refl _)⟩
      rw [HX.out]
      exact ⟨_, _, rfl, RJ.mono (fun b hb _ => by have h1 : w1.heap.size ≤ b := hb; show w.heap.size ≤ b; omega) _ _ HRX.out⟩
    | fail r n =>
      have HX := Lib.hid (show parseJ s.toList = (J0, s.toList.length - r.length, n) by unfold parseJ; rw [if_neg (by omega), hw])
      unfold readV at K1
      rw [hw] at K1
      dsimp only at K1
      clear hw
      generalize s.toList.length - r.length = at' at *
      generalize hat : (at' : Int) = ai at *
      generalize hnt : (n : Int) = ni at *
      go_upto_region 5 with (go_at_call 54; with_reducible refine (K1.out _).mono ?_; rintro e w2 ⟨rfl, hb2⟩)
      have hb3 := ((Below.refl w2.heap.size w2).alloc (Nat.le_refl _) (.cells #[.int .i64 0, .int .i64 0, .string ⟨#[]⟩, .slice none 0 0, .slice none 0 0] 49)).alloc (by simp) (.cells #[.int .i64 0, .int .i64 0] 84)
      have hv3 : JC ((w2.alloc (.cells #[.int .i64 0, .int .i64 0, .string ⟨#[]⟩, .slice none 0 0, .slice none 0 0] 49)).alloc (.cells #[.int .i64 0, .int .i64 0] 84)) w2.heap.size 0 0 ⟨#[]⟩ (.slice none 0 0) (.slice none 0 0) := JC.below (heap_alloc_new w2 _) ((Below.refl _ _).alloc (Nat.le_refl _) _)
      have hf3 : FC ((w2.alloc (.cells #[.int .i64 0, .int .i64 0, .string ⟨#[]⟩, .slice none 0 0, .slice none 0 0] 49)).alloc (.cells #[.int .i64 0, .int .i64 0] 84)) (w2.heap.size + 1) 0 0 := by
        have := heap_alloc_new (w2.alloc (.cells #[.int .i64 0, .int .i64 0, .string ⟨#[]⟩, .slice none 0 0, .slice none 0 0] 49)) (.cells #[.int .i64 0, .int .i64 0] 84)
        rw [World.size_alloc] at this; exact this
      have hr3 := (HR1.out.below hb2).below hb3
      have hg3 := ((HG.out.below HB1.out).below hb2).below hb3
      have HB3 := Lib.hid ((HB1.out.next hb2).next hb3)
      generalize ((w2.alloc (.cells #[.int .i64 0, .int .i64 0, .string ⟨#[]⟩, .slice none 0 0, .slice none 0 0] 49)).alloc (.cells #[.int .i64 0, .int .i64 0] 84)) = w3 at *
      have hz2 : w.heap.size < w2.heap.size := by have := hb2.size; omega
      have hne : ¬ w.heap.size = w2.heap.size ∧ ¬ w.heap.size = w2.heap.size + 1 := by have := hb2.size; omega
      clear hb3 hb2
      have hfl := hf3.lt
      go_upto_region 6 with (go_at_call 55; with_reducible refine (as_hit ai ni 0 0 (w2.heap.size + 1) w3 hf3 hg3).mono ?_; rintro e w4 ⟨rfl, hw4⟩)
      rw [← hw4]
      have htl : Touch (fun k => k = w2.heap.size + 1) w3 w4 := by
        rw [hw4]
        exact ((Touch.of_below (F := fun k => k = w2.heap.size + 1) ((((((Below.refl w3.heap.size w3).alloc (Nat.le_refl _) _).alloc (by simp) _).alloc (by simp; omega) _).alloc (by simp; omega) _))).setCell (p := ⟨w2.heap.size + 1, 0, none⟩) rfl _).setCell (p := ⟨w2.heap.size + 1, 1, none⟩) rfl _
      have hf4 : FC w4 (w2.heap.size + 1) ai ni := by
        rw [hw4]
        exact (hf3.below ((((((Below.refl w3.heap.size w3).alloc (Nat.le_refl _) _).alloc (by simp) _).alloc (by simp; omega) _).alloc (by simp; omega) _))).put ai ni
      have hr5 := hr3.touch htl hne.2
      have ht5 := (Touch.of_below (F := fun _ => False) HB3.out).under htl (fun k hk h => by have h' : k = w2.heap.size + 1 := h; omega)
      generalize hfb : w2.heap.size + 1 = fb at *
      have hne2 : ¬ w.heap.size = fb := hne.2
      have hne3 : ¬ fb = w.heap.size := fun e => hne.2 e.symm
      have c0 := hf4.c0
      have c1 := hf4.c1
      (have g0 := hr5.c0); (have g1 := hr5.c1); (have g2 := hr5.c2); (have g3 := hr5.c3); (have g4 := hr5.c4); (have f0 := hr5.fz 0); (have f1 := hr5.fz 1); (have f2 := hr5.fz 2); (have f3 := hr5.fz 3); (have f4 := hr5.fz 4)
      clear hw4 htl hf4 hf3 hr3 hg3 hv3
      go_region
      have hx10 := (hr5.put 0 0 ⟨#[]⟩ (.slice none 0 0) (.slice none 0 0)).below ((Below.refl _ _).drew)
      have HTX := Lib.hid ((ht5.putJ (Nat.le_refl _) 0 0 ⟨#[]⟩ (.slice none 0 0) (.slice none 0 0)).next ((Below.refl _ _).drew))
      go_wp2_with fail
      (have hc0 := hx10.c0); (have hc1 := hx10.c1); (have hc2 := hx10.c2); (have hc3 := hx10.c3); (have hc4 := hx10.c4)
      refine bodyPost_ret (v := .tuple #[.agg #[.int .i64 0, .int .i64 0, .string ⟨#[]⟩, .slice none 0 0, .slice none 0 0], .int .i64 ai, .int .i64 ni]) (by simp [results, Tryz.results23, go_sem, hc0, hc1, hc2, hc3, hc4]) rfl ⟨?_, HTX.out.below (fun _ _ h => h) (Nat.le_refl _)⟩
      rw [HX.out, ← hat, ← hnt]
      exact parsed_none _ at' n _
end Go.Proofs.YtigdjnfnkjfkmaaGreatDoor
namespace Go.Proofs.YtigdjnfnkjfkmaaGreatDoor
open Go.RowKit
set_option linter.unusedVariables false
set_option linter.unusedSimpArgs false
set_option maxRecDepth 100000

/-- What the program's own variables hold. -/
def Good (w : World) : Prop := ET w ∧ Tab10 w ∧ 7 ≤ w.heap.size
theorem Good.below {w w' : World} (h : Good w) (hb : Below w.heap.size w w') : Good w' := ⟨h.1.below hb, h.2.1.below hb, Nat.le_trans h.2.2 hb.size⟩
/-- A text that is read, its three results. -/
theorem parse_at (s : ByteArray) (hs : s.size ≤ 140737488351232) (w : World) (hET : ET w) {v : J} {p n : Nat} (h : parseJ s.toList = (v, p, n)) :
    Calls Tryz.prog 23 #[.string s] w fun e w' => ∃ A1 m1 c1 A2 m2 c2, e = .returned (.tuple #[.agg #[.int .i64 v.kind, .int .i64 v.int, .string (ofL v.text), .slice A1 m1 c1, .slice A2 m2 c2], .int .i64 (p : Int), .int .i64 (n : Int)]) ∧
      RJ (fun b => b < w'.heap.size) w' v [.int .i64 v.kind, .int .i64 v.int, .string (ofL v.text), .slice A1 m1 c1, .slice A2 m2 c2] ∧ Below w.heap.size w w' := by
  have K := parse_any s hs w hET
  rw [h] at K
  refine K.mono ?_
  rintro e w' ⟨⟨N, I, he, hR⟩, hb⟩
  have hR' : RJ (fun b => b < w'.heap.size) w' v [.int .i64 v.kind, .int .i64 v.int, .string (ofL v.text), N, I] := RJ.mono (fun b _ hb => hb) _ _ hR
  obtain ⟨⟨A1, m1, c1, rfl⟩, A2, m2, c2, rfl⟩ := rj_slices hR'
  exact ⟨A1, m1, c1, A2, m2, c2, he, hR', hb⟩
end Go.Proofs.YtigdjnfnkjfkmaaGreatDoor
