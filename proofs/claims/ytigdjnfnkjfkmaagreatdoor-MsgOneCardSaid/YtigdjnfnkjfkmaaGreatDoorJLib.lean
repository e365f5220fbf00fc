/- A strings.Builder: what it holds, what a call of its methods may write. Conditions: the texts are short. A text as JSON (jsonx.quoted). Conditions: the texts are short. The order of names (jsonx.order): slices.SortFunc. Conditions: the lists are short. -/
import Derived.Test.YtigdjnfnkjfkmaaGreatDoorJParM
import Derived.Shelf.Strings.BuilderX
import Derived.Shelf.Strings.BuilderK
import Derived.Test.YtigdjnfnkjfkmaaGreatDoorJsonH
import Derived.Shelf.SlSortCmp.Whole1
namespace Go.Proofs.YtigdjnfnkjfkmaaGreatDoor
open Go.RowKit
set_option linter.unusedVariables false
set_option linter.unusedSimpArgs false
set_option maxRecDepth 100000

def ren167 : Go.Shelf.Ren := ⟨fun | 167 => 88 | 240 => 116 | 276 => 135 | n => n,
  fun | 0 => 0 | 4 => 4 | 5 => 5 | 9 => 9 | 20 => 20 | 37 => 89 | 70 => 88 | 72 => 91 | 75 => 80 | 80 => 93 | 164 => 115 | n => n, fun n => n⟩
theorem lays167 : Go.Proofs.Lays.n167 Tryz.prog ren167 := {
  mixed := by kernel_rfl
  f167 := Tryz.func88.trans (congrArg some (by kernel_rfl))
  f240 := Tryz.func116.trans (congrArg some (by kernel_rfl))
  f276 := Tryz.func135.trans (congrArg some (by kernel_rfl))
  t0 := Tryz.underlying0
  a0 := Tryz.isAgg0
  z0 := Tryz.sizeOf0
  v0 := Tryz.zeroValue0
  t4 := Tryz.underlying4
  a4 := Tryz.isAgg4
  z4 := Tryz.sizeOf4
  v4 := Tryz.zeroValue4
  t5 := Tryz.underlying5
  a5 := Tryz.isAgg5
  z5 := Tryz.sizeOf5
  v5 := Tryz.zeroValue5
  t9 := Tryz.underlying9
  a9 := Tryz.isAgg9
  z9 := Tryz.sizeOf9
  v9 := Tryz.zeroValue9
  t20 := Tryz.underlying20
  a20 := Tryz.isAgg20
  z20 := Tryz.sizeOf20
  v20 := Tryz.zeroValue20
  t37 := Tryz.underlying89
  a37 := Tryz.isAgg89
  z37 := Tryz.sizeOf89
  v37 := Tryz.zeroValue89
  t70 := Tryz.underlying88
  a70 := Tryz.isAgg88
  z70 := Tryz.sizeOf88
  v70 := Tryz.zeroValue88
  t72 := Tryz.underlying91
  a72 := Tryz.isAgg91
  z72 := Tryz.sizeOf91
  v72 := Tryz.zeroValue91
  t75 := Tryz.underlying80
  a75 := Tryz.isAgg80
  z75 := Tryz.sizeOf80
  v75 := Tryz.zeroValue80
  t164 := Tryz.underlying115
  a164 := Tryz.isAgg115
  z164 := Tryz.sizeOf115
  v164 := Tryz.zeroValue115 }
theorem extra167 : Go.Proofs.Builder.Extra Tryz.prog ren167 := {
  sizeBuilder := by kernel_rfl
  liesBuilder := by kernel_rfl
  t5 := Tryz.underlying5
  a5 := Tryz.isAgg5
  z5 := Tryz.sizeOf5
  v5 := Tryz.zeroValue5
  infoByte := by kernel_rfl
  cellsByte := by kernel_rfl
  sizeByte := by kernel_rfl
  neB5 := by decide }

/-- A builder: its block, its row, what it holds. -/
def Bv (w : World) (b : Nat) (v : Value) (l : B) : Prop :=
  ∃ p, (p = .pointer none ∨ p = .pointer (some ⟨b, 0, none⟩)) ∧ w.heap[b]? = some (.cells #[p, v] 91 (0, 0)) ∧ OwnB w (b + 1) v l
/-- What a builder's methods write: its block, its row; its new row is new. -/
def Wr (b : Nat) (v v' : Value) (w w' : World) : Prop := Touch (fun k => k = b ∨ v.ownBlock = some k) w w' ∧ Lies w v v'
theorem Wr.refl (b : Nat) (v : Value) (w : World) : Wr b v v w w := ⟨Touch.refl _ _, fun k hk => .inl hk⟩
theorem Wr.trans {b : Nat} {v v' v'' : Value} {w w' w'' : World} (h : Wr b v v' w w') (h' : Wr b v' v'' w' w'') : Wr b v v'' w w'' := by
  refine ⟨h.1.under h'.1 (fun k hk hf => ?_), fun k hk => ?_⟩
  · rcases hf with hf | hf
    · exact .inl hf
    · rcases h.2 k hf with h2 | h2
      · exact .inr h2
      · omega
  · rcases h'.2 k hk with h2 | h2
    · exact h.2 k h2
    · exact .inr (Nat.le_trans h.1.size h2)
theorem Wr.below {b : Nat} {v v' : Value} {w w' w'' : World} (h : Wr b v v' w w') (h' : Below w'.heap.size w' w'') : Wr b v v' w w'' := ⟨h.1.next h', h.2⟩
theorem Wr.after {b : Nat} {v v' : Value} {w w' w'' : World} (h : Below w.heap.size w w') (h' : Wr b v v' w' w'') : Wr b v v' w w'' :=
  ⟨(Touch.of_below h).under h'.1 (fun k hk hf => hf), fun k hk => (h'.2 k hk).imp id (fun h2 => Nat.le_trans h.size h2)⟩
theorem Bv.lt {w : World} {b : Nat} {v : Value} {l : B} (h : Bv w b v l) : b < w.heap.size := by obtain ⟨p, _, hb, _⟩ := h; exact (Array.getElem?_eq_some_iff.1 hb).1
theorem Bv.own {w : World} {b : Nat} {v : Value} {l : B} (h : Bv w b v l) : OwnB w (b + 1) v l := by obtain ⟨p, _, _, ho⟩ := h; exact ho
theorem Bv.touch {F : Nat → Prop} {w w' : World} {b : Nat} {v : Value} {l : B} (h : Bv w b v l) (ht : Touch F w w') (h1 : ¬ F b) (h2 : ∀ k, v.ownBlock = some k → ¬ F k) : Bv w' b v l := by
  have hlt := h.lt
  obtain ⟨p, hp, hb, ho⟩ := h
  exact ⟨p, hp, by rw [ht.block b hlt h1]; exact hb, ho.touch ht h2⟩
theorem Bv.below {w w' : World} {b : Nat} {v : Value} {l : B} (h : Bv w b v l) (hb : Below w.heap.size w w') : Bv w' b v l := h.touch (.of_below (F := fun _ => False) hb) id (fun _ _ h => h)
theorem Bv.new (w : World) : Bv (w.alloc (.cells #[.pointer none, .slice none 0 0] 91)) w.heap.size (.slice none 0 0) [] :=
  ⟨_, .inl rfl, heap_alloc_new w _, World.ownsRow_nil _ _ _ _⟩
theorem Bv.is {w : World} {b : Nat} {v : Value} {l : B} (h : Bv w b v l) : Lib.IsBuilder 91 5 b b (bytesV l) w := by
  obtain ⟨p, hp, hb, hown⟩ := h
  have hown' : w.ownsRow (b + 1) 5 1 v l.length (bytesV l) := hown
  have hat : Lib.BuilderAt 91 5 b b p (bytesV l) w := ⟨Nat.le_refl _, v, hb, by rw [bytesV_len]; exact hown'.mono (by omega), fun e => by have := (hown'.lt _ e).1; omega⟩
  rcases hp with rfl | rfl
  · exact .inl hat
  · exact .inr hat
theorem append_lies {P : Program} {w : World} {base : Nat} {t u ty e : TypeId} (hrow : Row P t e (.int .u8 0) 1 1) (hu : P.underlying u = some .string) {v : Value} {n : Nat} {xs : List Value} (hown : w.ownsRow base e 1 v n xs) {s : ByteArray}
    (hbytes : n + s.size ≤ 140737488355328) {v' : Value} {w' : World} (hr : (Builtin.append_ #[t, u] ty #[v, .string s]).run P w = .ok v' w') : Lies w v v' := by
  obtain ⟨ht, ⟨i, hi, hz, hsize, hby⟩, hzs, hsz, hbz⟩ := hrow
  have hxl : xs.length = n := by simpa using hown.1
  intro k hk
  rcases hown.2 with ⟨rfl, rfl⟩ | ⟨g, cap, cur, rfl, hbg, hg, hnc, hcm, hcs, htake⟩
  · by_cases hm : s.size = 0
    · have hf := Lib.run_firstCells_string (P := P) w 1 s
      rw [hm] at hf
      simp [Builtin.append_, run_underlying ht, run_underlying hu, sizeOf, typeInfo, hi, hsize, Builtin.lenOf, hm, hf] at hr
      rw [← hr.1] at hk
      cases hk
    · have hr2 := run_append_nil_string (P := P) w t u ty e i (.int .u8 0) ht hu hi hz s (by omega) (by omega) (by rw [hby]; omega)
      rw [hr2] at hr
      cases hr
      cases hk
      exact .inr (Nat.le_refl _)
  · by_cases hroom : n + s.size ≤ cap
    · have hr2 := Lib.run_append_room_string (P := P) w t u ty e i ht hu hi hsize g n cap cur hg s hroom (by rw [hcs]; omega)
      rw [hr2] at hr
      cases hr
      exact .inl hk
    · have holds : ∀ j u, xs[j]? = some u → w.cell? ((⟨g, 0, none⟩ : Addr).add j) = some u := hown.cells (g := g) rfl
      have hr2 := Lib.run_append_grow_string (P := P) w t u ty e i (.int .u8 0) ht hu hi hz ⟨g, 0, none⟩ n cap xs (by rw [hsize]; simpa using hxl) holds s (by omega) (by omega) (by rw [hby]; exact growslice_fits (by omega) (by omega))
      rw [hr2] at hr
      cases hr
      cases hk
      exact .inr (Nat.le_refl _)
theorem wpList_strL {P : Program} (w : World) {ops : Array Oper} {rest : List Oper} {o : Oper} {a : Act} {Q : Exit → Act → World → Prop} (hgd : o.guard = none) (sl x : Operand) (t u : TypeId)
    (ho : o.op = .call { callee := .builtin .append, args := #[sl, x], argTypes := #[t, u] })
    (base : Nat) (hrow : Row P t 5 (.int .u8 0) 1 1) (hu : P.underlying u = some .string)
    (v : Value) (l : B) (hs : a.eval sl = v) (hown : OwnB w base v l) (s : ByteArray) (hx : a.eval x = .string s)
    (hbytes : l.length + s.size ≤ 140737488355328) (hbase : base ≤ w.heap.size)
    (h : ∀ v' w', OwnB w' base v' (l ++ s.toList) → Touch (fun k => v.ownBlock = some k) w w' → Lies w v v' → wpList P ops Q rest (a.put o.dst v') w') : wpList P ops Q (o :: rest) a w := by
  refine wpList_plain hgd fun K hK => ?_
  have hown' : w.ownsRow base 5 1 v l.length (bytesV l) := hown
  obtain ⟨ht, ⟨i, hi, hz, hsize, hby⟩, hzs, hsz, hbz⟩ := hrow
  obtain ⟨v', w', hr, h2, h3, _⟩ := Lib.run_append_own_string (P := P) w base t u o.type 5 i ht hu hi hz hsize hby v l.length (bytesV l) hown' s (by unfold maxLen; omega) hbytes hbase
  have hl := append_lies (P := P) ⟨ht, ⟨i, hi, hz, hsize, hby⟩, hzs, hsz, hbz⟩ hu hown' hbytes hr
  unfold Oper.wp execOp
  simp only [ho, resolve, invoke, builtin, Sem.run_bind, Sem.run_pure, Result.andThen_ok, List.map_toArray, List.map_cons, List.map_nil, hs, hx, hr]
  refine hK _ _ (h v' w' ?_ ((Touch.refl _ w).grown h3 (fun k hk => hk)) hl)
  have hc : Lib.strCells s = bytesV s.toList := by unfold Lib.strCells bytesV; rw [toL_eq]
  unfold OwnB
  rw [List.length_append, len_toL, bytesV_append, ← hc]
  exact h2
theorem copyCheck_any (b : Nat) (v : Value) (l : B) (w : World) (h : Bv w b v l) :
    Calls Tryz.prog 116 #[.pointer (some ⟨b, 0, none⟩)] w fun e w' => e = .returned (.tuple #[]) ∧ w'.heap[b]? = some (.cells #[.pointer (some ⟨b, 0, none⟩), v] 91 (0, 0)) ∧ OwnB w' (b + 1) v l ∧ Touch (fun k => k = b) w w' := by
  obtain ⟨p, hp, hb, hown⟩ := h
  rcases hp with rfl | rfl
  · refine (Any.Builder_copyCheck_fresh { lays167 with } extra167.toX72 b w (by rw [Lib.cell_of_heap hb]; rfl) (by simp [World.shape?, hb]; rfl) (Lib.frozen_of_heap hb 0)).mono ?_
    rintro e w' ⟨rfl, rfl⟩
    have ht := (Touch.refl (fun k => k = b) w).setCell (p := ⟨b, 0, none⟩) rfl (.pointer (some ⟨b, 0, none⟩))
    exact ⟨rfl, by rw [heap_set_own hb]; rfl, hown.touch ht (fun k hk e => by have := (World.ownsRow.lt (show World.ownsRow _ _ _ _ _ _ _ from hown) k hk).1; omega), ht⟩
  · refine (Any.Builder_copyCheck_used { lays167 with } extra167.toX72 b w (by rw [Lib.cell_of_heap hb]; rfl)).mono ?_
    rintro e w' ⟨rfl, rfl⟩
    exact ⟨rfl, hb, hown, Touch.refl _ _⟩
theorem bv_end {w w1 w2 : World} {b : Nat} {v v' : Value} {l l' : B} (hown : OwnB w1 (b + 1) v l) (ht1 : Touch (fun k => k = b) w w1) (hbk : w2.heap[b]? = some (.cells #[.pointer (some ⟨b, 0, none⟩), v] 91 (0, 0)))
    (ht2 : Touch (fun k => v.ownBlock = some k) w1 w2) (hl : Lies w1 v v') (ho : OwnB w2 (b + 1) v' l') : Bv (w2.setCell ⟨b, 1, none⟩ v') b v' l' ∧ Wr b v v' w (w2.setCell ⟨b, 1, none⟩ v') := by
  have hts := (Touch.refl (fun k => k = b) w2).setCell (p := ⟨b, 1, none⟩) rfl v'
  have hne : ∀ k, v'.ownBlock = some k → ¬ k = b := fun k hk e => by have := (World.ownsRow.lt (show World.ownsRow _ _ _ _ _ _ _ from ho) k hk).1; omega
  refine ⟨⟨_, .inr rfl, by rw [heap_set_own hbk]; rfl, ho.touch hts hne⟩, ?_, fun k hk => (hl k hk).imp id (fun h => Nat.le_trans ht1.size h)⟩
  exact ((ht1.mono fun k _ h => .inl h).trans (ht2.mono fun k _ h => .inr h)).trans (hts.mono fun k _ h => .inl h)
set_option maxHeartbeats 2000000 in
theorem writeByte_any (b : Nat) (v : Value) (l : B) (c : UInt8) (w : World) (h : Bv w b v l) (hl : l.length + 1 ≤ 140737488355328) :
    Calls Tryz.prog 88 #[.pointer (some ⟨b, 0, none⟩), .int .u8 c.toNat] w fun e w' => e = .returned .nilIface ∧ ∃ v', Bv w' b v' (l ++ [c]) ∧ Wr b v v' w w' := by
  have Hcc := Lib.hid (copyCheck_any b v l w h)
  clear h
  go_enter Tryz.func88, Tryz.ntmps88
  go_wp2_with (go_at_call 116; refine Hcc.out.mono ?_)
  rintro e w1 ⟨rfl, hbk, hown, ht1⟩
  have hown1 : w1.ownsRow (b + 1) 5 1 v l.length (bytesV l) := hown
  have c0 : w1.cell? ⟨b, 0, none⟩ = some (.pointer (some ⟨b, 0, none⟩)) := by rw [Lib.cell_of_heap hbk]; rfl
  have c1 : w1.cell? ⟨b, 1, none⟩ = some v := by rw [Lib.cell_of_heap hbk]; rfl
  have hlt : b < w1.heap.size := (Array.getElem?_eq_some_iff.1 hbk).1
  have Hone : ∀ u ∈ [Value.int .u8 (c.toNat : Int)], u.oneCell' = true := by intro u hu; simp at hu; subst hu; rfl
  go_wp2_with (at_builtin; refine wpList_pushL w1 (by rfl) _ _ _ (by rfl) (b + 1) rowB v l.length (bytesV l) (by rfl) hown1 [.int .u8 c.toNat] _ (by rfl) rfl rfl Hone (by omega) (by omega) ?_)
  intro v' w2 hown' ht2 hl2
  have hb2 : w2.heap[b]? = some (.cells #[.pointer (some ⟨b, 0, none⟩), v] 91 (0, 0)) := by
    rw [ht2.block b hlt (fun e => by have := (hown1.lt b e).1; omega)]; exact hbk
  have d0 : w2.cell? ⟨b, 0, none⟩ = some (.pointer (some ⟨b, 0, none⟩)) := by rw [Lib.cell_of_heap hb2]; rfl
  have d1 : w2.cell? ⟨b, 1, none⟩ = some v := by rw [Lib.cell_of_heap hb2]; rfl
  have f1 : w2.frozen? ⟨b, 1, none⟩ = false := Lib.frozen_of_heap hb2 1
  have ho2 : OwnB w2 (b + 1) v' (l ++ [c]) := by unfold OwnB; rw [List.length_append, bytesV_append]; exact hown'
  obtain ⟨A, cp, rfl⟩ := (rd_of_own hown').shape
  have hE := bv_end hown ht1 hb2 ht2 hl2 ho2
  clear hown' ho2 hl2 ht2
  go_wp2
  go_ret
  exact ⟨rfl, _, hE.1, hE.2⟩
set_option maxHeartbeats 2000000 in
theorem writeString_any (b : Nat) (v : Value) (l : B) (s : ByteArray) (w : World) (h : Bv w b v l) (hl : l.length + s.size ≤ 140737488355328) :
    Calls Tryz.prog 84 #[.pointer (some ⟨b, 0, none⟩), .string s] w fun e w' => e = .returned (.tuple #[.int .i64 s.size, .nilIface]) ∧ ∃ v', Bv w' b v' (l ++ s.toList) ∧ Wr b v v' w w' := by
  have Hcc := Lib.hid (copyCheck_any b v l w h)
  clear h
  go_enter Tryz.func84, Tryz.ntmps84
  go_wp2_with (go_at_call 116; refine Hcc.out.mono ?_)
  rintro e w1 ⟨rfl, hbk, hown, ht1⟩
  have c0 : w1.cell? ⟨b, 0, none⟩ = some (.pointer (some ⟨b, 0, none⟩)) := by rw [Lib.cell_of_heap hbk]; rfl
  have c1 : w1.cell? ⟨b, 1, none⟩ = some v := by rw [Lib.cell_of_heap hbk]; rfl
  have hlt : b < w1.heap.size := (Array.getElem?_eq_some_iff.1 hbk).1
  go_wp2_with (at_builtin; refine wpList_strL w1 (by rfl) _ _ 89 9 (by rfl) (b + 1) rowB Tryz.underlying9 v l (by rfl) hown s (by rfl) hl (by omega) ?_)
  intro v' w2 ho2 ht2 hl2
  have hb2 : w2.heap[b]? = some (.cells #[.pointer (some ⟨b, 0, none⟩), v] 91 (0, 0)) := by
    rw [ht2.block b hlt (fun e => by have := ((show World.ownsRow _ _ _ _ _ _ _ from hown).lt b e).1; omega)]; exact hbk
  have d0 : w2.cell? ⟨b, 0, none⟩ = some (.pointer (some ⟨b, 0, none⟩)) := by rw [Lib.cell_of_heap hb2]; rfl
  have d1 : w2.cell? ⟨b, 1, none⟩ = some v := by rw [Lib.cell_of_heap hb2]; rfl
  have f1 : w2.frozen? ⟨b, 1, none⟩ = false := Lib.frozen_of_heap hb2 1
  obtain ⟨A, cp, rfl⟩ := (rd_of_own (show World.ownsRow _ _ _ _ _ _ _ from ho2)).shape
  have hE := bv_end hown ht1 hb2 ht2 hl2 ho2
  generalize (l ++ s.toList).length = n2 at hE ⊢
  clear ho2 hl2 ht2
  go_wp2
  go_ret2
  exact ⟨rfl, _, hE.1, hE.2⟩
theorem string_any (b : Nat) (v : Value) (l : B) (w : World) (h : Bv w b v l) :
    Calls Tryz.prog 58 #[.pointer (some ⟨b, 0, none⟩)] w fun e w' => e = .returned (.string (ofL l)) ∧ Below b w w' := by
  have hc : Lib.byteCells l = bytesV l := rfl
  exact Tryz.Builder_String_any b b l w (by rw [hc]; exact h.is) (Nat.le_of_lt h.lt)
theorem len_any (b : Nat) (v : Value) (l : B) (w : World) (h : Bv w b v l) :
    Calls Tryz.prog 60 #[.pointer (some ⟨b, 0, none⟩)] w fun e w' => e = .returned (.int .i64 l.length) ∧ w' = w := by
  refine (Tryz.Builder_Len b b (bytesV l) w h.is).mono ?_
  rintro e w' ⟨rfl, rfl⟩
  exact ⟨by rw [bytesV_len], rfl⟩
end Go.Proofs.YtigdjnfnkjfkmaaGreatDoor
namespace Go.Proofs.YtigdjnfnkjfkmaaGreatDoor
open Go.RowKit
set_option linter.unusedVariables false
set_option linter.unusedSimpArgs false
set_option maxRecDepth 100000

theorem row_kept {w w' : World} {b g n cap : Nat} {v v' : Value} {cs : List Value} (h : Rd w 1 (.slice (some ⟨g, 0, none⟩) n cap) n cs) (hw : Wr b v v' w w') (h1 : ¬ g = b) (h2 : ¬ v.ownBlock = some g) : Rd w' 1 (.slice (some ⟨g, 0, none⟩) n cap) n cs :=
  rd_touch h hw.1 (fun a n c e => by cases e; exact fun h => h.elim h1 h2)
theorem writeByte_lit (b : Nat) (v : Value) (l : B) (c : UInt8) (k : Int) (hk : (c.toNat : Int) = k) (w : World) (h : Bv w b v l) (hl : l.length + 1 ≤ 140737488355328) :
    Calls Tryz.prog 88 #[.pointer (some ⟨b, 0, none⟩), .int .u8 k] w fun e w' => e = .returned .nilIface ∧ ∃ v', Bv w' b v' (l ++ [c]) ∧ Wr b v v' w w' := by
  subst hk; exact writeByte_any b v l c w h hl
theorem hexAt (x : Nat) (h : x < (⟨#[48, 49, 50, 51, 52, 53, 54, 55, 56, 57, 97, 98, 99, 100, 101, 102]⟩ : ByteArray).size) : ((hexc x).toNat : Int) = (((⟨#[48, 49, 50, 51, 52, 53, 54, 55, 56, 57, 97, 98, 99, 100, 101, 102]⟩ : ByteArray)[x]'h).toNat : Int) := by
  have := getI [48, 49, 50, 51, 52, 53, 54, 55, 56, 57, 97, 98, 99, 100, 101, 102] x h
  exact congrArg (fun c : UInt8 => (c.toNat : Int)) this.symm
set_option maxHeartbeats 8000000 in
theorem quoted_any (b : Nat) (v : Value) (l : B) (s : ByteArray) (w : World) (h : Bv w b v l) (hl : l.length + 6 * s.size + 2 ≤ 140737488355328) (hs : s.size ≤ 1099511627776) :
    Calls Tryz.prog 87 #[.pointer (some ⟨b, 0, none⟩), .string s] w fun e w' => e = .returned (.tuple #[]) ∧ ∃ v', Bv w' b v' (l ++ quoteB s.toList) ∧ Wr b v v' w w' := by
  have K1 := Lib.hid (writeByte_lit b v l 34 34 rfl w h (by omega))
  have hld := len_toL s
  have kb := fun wx => run_bytes_of_string (P := Tryz.prog) wx 9 89 5 s Tryz.underlying9 Tryz.underlying89 Tryz.underlying5
  go_enter Tryz.func87, Tryz.ntmps87
  go_wp2_with (go_at_call 88; with_reducible refine K1.out.mono ?_; rintro e w1 ⟨rfl, v1, hB1, hW1⟩)
  have hR := rd_bytes' (w := w1) (wc := w1) (s := s) (n := s.size) (e := 5) (fr := ((bytesRow s (grownCap w1 s.size 0 5)).size, (bytesRow s (grownCap w1 s.size 0 5)).size + 1)) rfl hs
  have hb := ((Below.refl w1.heap.size w1).alloc (Nat.le_refl _) (.cells (bytesRow s (grownCap w1 s.size 0 5)) 5 ((bytesRow s (grownCap w1 s.size 0 5)).size, (bytesRow s (grownCap w1 s.size 0 5)).size + 1))).drew
  generalize (w1.alloc (.cells (bytesRow s (grownCap w1 s.size 0 5)) 5 ((bytesRow s (grownCap w1 s.size 0 5)).size, (bytesRow s (grownCap w1 s.size 0 5)).size + 1))).drew = w2 at hR hb ⊢
  generalize grownCap w1 s.size 0 5 = cap at hR ⊢
  rw [hld] at hR
  have hg : ¬ w1.heap.size = b ∧ ¬ v1.ownBlock = some w1.heap.size := ⟨by have := hB1.lt; omega, fun e => by have := (World.ownsRow.lt (show World.ownsRow _ _ _ _ _ _ _ from hB1.own) _ e).2; omega⟩
  have HR := Lib.hid hR
  have HB2 := Lib.hid (hB1.below hb)
  have HW2 := Lib.hid (hW1.below hb)
  have hsz2 : w1.heap.size ≤ w2.heap.size := hb.size
  clear hR hB1 hW1 hb K1 kb h
  go_loopw [11] (fun i wr => ∃ (n : Nat) (vk : Value), n ≤ s.size ∧ i = .int .i64 n ∧ Bv wr b vk (l ++ 34 :: (s.toList.take n).flatMap quoteC) ∧ (((s.toList.take n).flatMap quoteC).length ≤ 6 * n) ∧ Wr b v1 vk w2 wr) (fun i _ => s.size - (intOf i).toNat)
  case atStart => exact ⟨0, v1, Nat.zero_le _, rfl, by simpa using HB2.out, by simp, Wr.refl _ _ _⟩
  case round =>
    obtain ⟨n, vk, hn, rfl, hB, hq, hW⟩ := hrel
    have HB := Lib.hid hB
    have HW := Lib.hid hW
    clear hB hW
    by_cases hlt : n < s.size
    · have hat : s.toList[n]? = some (s[n]'hlt) := get_eq s n hlt
      have Ht := Lib.hid (take_eq s n hlt)
      obtain ⟨b', o, hA, hcell⟩ := (show Rd wr 1 _ s.toList.length (bytesV s.toList) from by rw [hld]; exact row_kept HR.out HW.out hg.1 hg.2).byteAt hat
      cases hA
      rw [Nat.zero_add] at hcell
      generalize s[n]'hlt = c at hat hcell Ht
      clear hat
      generalize hT : (s.toList.take n).flatMap quoteC = T at *
      have Hstep : Hid ((s.toList.take (n + 1)).flatMap quoteC = T ++ quoteC c) := by show _ = _; rw [Ht.out, List.flatMap_append, hT]; simp
      clear hT Ht
      by_cases h32 : c < 32
      · have hqa : ((c.toNat : Int) == 34) = false ∧ ((c.toNat : Int) == 92) = false := by
          have := UInt8.lt_iff_toNat_lt.1 h32
          have h' : c.toNat < 32 := this
          exact ⟨by rw [beq_eq_false_iff_ne]; omega, by rw [beq_eq_false_iff_ne]; omega⟩
        obtain ⟨q1, q2⟩ := hqa
        have q3 : (c.toNat : Int) < 32 := by have := UInt8.lt_iff_toNat_lt.1 h32; exact Int.ofNat_lt.2 this
        have K2 := Lib.hid (writeString_any b vk (l ++ 34 :: T) ⟨#[92, 117, 48, 48]⟩ wr HB.out (by rw [List.length_append, List.length_cons]; show _ + 4 ≤ _; omega))
        rw [show (⟨#[92, 117, 48, 48]⟩ : ByteArray).toList = [92, 117, 48, 48] from toL_ofL [92, 117, 48, 48]] at K2
        have hl5 : ((l ++ 34 :: T) ++ [92, 117, 48, 48]).length + 1 ≤ 140737488355328 := by simp; omega
        have hl6 : (((l ++ 34 :: T) ++ [92, 117, 48, 48]) ++ [hexc (c.toNat / 16)]).length + 1 ≤ 140737488355328 := by simp; omega
        have HQ := Lib.hid (show quoteC c = [92, 117, 48, 48, hexc (c.toNat / 16), hexc (c.toNat % 16)] by
          rw [quoteC, if_neg (by rintro (rfl | rfl); revert q1; decide; revert q2; decide), if_pos h32])
        have Hl5 := Lib.hid hl5
        have Hl6 := Lib.hid hl6
        clear hl5 hl6
        go_wp2_with (first
          | (go_at_call 84; (with_reducible refine K2.out.mono ?_); rintro e w5 ⟨rfl, v5, hB5, hW5⟩)
          | (go_at_call 88; (with_reducible refine (writeByte_lit b v5 _ (hexc (c.toNat / 16)) _ (by exact hexAt _ _) w5 hB5 Hl5.out).mono ?_); rintro e w6 ⟨rfl, v6, hB6, hW6⟩)
          | (go_at_call 88; (with_reducible refine (writeByte_lit b v6 _ (hexc (c.toNat % 16)) _ (by exact hexAt _ _) w6 hB6 Hl6.out).mono ?_); rintro e w7 ⟨rfl, v7, hB7, hW7⟩))
        refine ⟨⟨n + 1, v7, by omega, by go_num, ?_, ?_, ((HW.out.trans hW5).trans hW6).trans hW7⟩, by simp [intOf]; omega⟩
        · rw [Hstep.out, HQ.out]
          have e : l ++ 34 :: (T ++ [92, 117, 48, 48, hexc (c.toNat / 16), hexc (c.toNat % 16)]) = l ++ 34 :: T ++ [92, 117, 48, 48] ++ [hexc (c.toNat / 16)] ++ [hexc (c.toNat % 16)] := by simp
          rw [e]; exact hB7
        · rw [Hstep.out, HQ.out]; simp; omega
      · have q3 : ¬ (c.toNat : Int) < 32 := by
          intro h; apply h32; rw [UInt8.lt_iff_toNat_lt]; exact Int.ofNat_lt.1 h
        by_cases hsp : c = 34 ∨ c = 92
        · have HQ := Lib.hid (show quoteC c = [92, c] by rw [quoteC, if_pos hsp])
          have hq2 : ((c.toNat : Int) == 34) = true ∨ (((c.toNat : Int) == 34) = false ∧ ((c.toNat : Int) == 92) = true) := by
            rcases hsp with rfl | rfl
            · exact .inl rfl
            · exact .inr ⟨rfl, rfl⟩
          have K2 := Lib.hid (writeByte_lit b vk (l ++ 34 :: T) 92 92 rfl wr HB.out (by rw [List.length_append, List.length_cons]; omega))
          have K3 := Lib.hid (fun v w h => writeByte_any b v ((l ++ 34 :: T) ++ [92]) c w h (by simp; omega))
          clear hsp h32
          rcases hq2 with q1 | ⟨q1, q2⟩
          all_goals
            go_wp2_with (first
              | (go_at_call 88; (with_reducible refine K2.out.mono ?_); rintro e w5 ⟨rfl, v5, hB5, hW5⟩)
              | (go_at_call 88; (with_reducible refine (K3.out _ _ hB5).mono ?_); rintro e w6 ⟨rfl, v6, hB6, hW6⟩))
            refine ⟨⟨n + 1, v6, by omega, by go_num, ?_, ?_, (HW.out.trans hW5).trans hW6⟩, by simp [intOf]; omega⟩
            · rw [Hstep.out, HQ.out]
              have e : l ++ 34 :: (T ++ [92, c]) = l ++ 34 :: T ++ [92] ++ [c] := by simp
              rw [e]; exact hB6
            · rw [Hstep.out, HQ.out]; simp; omega
        · have HQ := Lib.hid (show quoteC c = [c] by rw [quoteC, if_neg hsp, if_neg h32])
          have q1 : ((c.toNat : Int) == 34) = false := by rw [show (34 : Int) = ((34 : Nat) : Int) from rfl, u8_eq c 34 (by decide)]; simpa using fun e => hsp (.inl e)
          have q2 : ((c.toNat : Int) == 92) = false := by rw [show (92 : Int) = ((92 : Nat) : Int) from rfl, u8_eq c 92 (by decide)]; simpa using fun e => hsp (.inr e)
          have K2 := Lib.hid (writeByte_any b vk (l ++ 34 :: T) c wr HB.out (by rw [List.length_append, List.length_cons]; omega))
          clear hsp h32
          go_wp2_with (go_at_call 88; (with_reducible refine K2.out.mono ?_); rintro e w5 ⟨rfl, v5, hB5, hW5⟩)
          refine ⟨⟨n + 1, v5, by omega, by go_num, ?_, ?_, HW.out.trans hW5⟩, by simp [intOf]; omega⟩
          · rw [Hstep.out, HQ.out]
            have e : l ++ 34 :: (T ++ [c]) = l ++ 34 :: T ++ [c] := by simp
            rw [e]; exact hB5
          · rw [Hstep.out, HQ.out]; simp; omega
    · have hns : n = s.size := by omega
      subst hns
      have e1 : s.toList.take s.size = s.toList := List.take_of_length_le (by omega)
      rw [e1] at HB hq
      have K2 := Lib.hid (writeByte_lit b vk (l ++ 34 :: s.toList.flatMap quoteC) 34 34 rfl wr HB.out (by rw [List.length_append, List.length_cons]; omega))
      go_wp2_with (go_at_call 88; (with_reducible refine K2.out.mono ?_); rintro e w5 ⟨rfl, v5, hB5, hW5⟩)
      go_end0
      refine ⟨rfl, v5, ?_, (HW2.out.trans HW.out).trans hW5⟩
      have e : l ++ quoteB s.toList = l ++ 34 :: s.toList.flatMap quoteC ++ [34] := by simp [quoteB]
      rw [e]; exact hB5
end Go.Proofs.YtigdjnfnkjfkmaaGreatDoor
namespace Go.Proofs.YtigdjnfnkjfkmaaGreatDoor
open Go.RowKit
set_option linter.unusedVariables false
set_option linter.unusedSimpArgs false
set_option maxRecDepth 100000

theorem cmp_lt : ∀ a b : B, decide (Lib.compareBytes a b < 0) = ltB a b
  | [], [] => by rw [Lib.compareBytes, ltB]; rfl
  | [], _ :: _ => by rw [Lib.compareBytes, ltB]; rfl
  | _ :: _, [] => by rw [Lib.compareBytes, ltB]; rfl
  | a :: x, b :: y => by
    have ih := cmp_lt x y
    rw [Lib.compareBytes, ltB]
    split
    · rfl
    · split
      · rfl
      · exact ih
theorem cmp_any (bx : Nat) (N : Value) (ns : List B) (i j : Nat) (hi : i < ns.length) (hj : j < ns.length) (w : World) (hb : w.cell? ⟨bx, 0, none⟩ = some N) (hN : Rd w 1 N ns.length (strs ns)) :
    Calls Tryz.prog 120 #[.int .i64 (i : Int), .int .i64 (j : Int), .pointer (some ⟨bx, 0, none⟩)] w fun e w' => e = .returned (.int .i64 (Lib.compareBytes ns[i] ns[j])) ∧ ∃ q, w' = w.drewN q := by
  have hat1 : ns[i]? = some ns[i] := List.getElem?_eq_getElem hi
  have hat2 : ns[j]? = some ns[j] := List.getElem?_eq_getElem hj
  obtain ⟨A, c, rfl⟩ := hN.shape
  obtain ⟨b', o, rfl, h1⟩ := hN.strAt hat1
  obtain ⟨b2, o2, hA2, h2⟩ := hN.strAt hat2
  cases hA2
  have HN := Lib.hid hN
  generalize ns[i] = x at *
  generalize ns[j] = y at *
  have hn1 : 0 ≤ (i : Int) ∧ (i : Int) < (ns.length : Int) := by omega
  have hn2 : 0 ≤ (j : Int) ∧ (j : Int) < (ns.length : Int) := by omega
  have K := Lib.hid (fun w => Tryz.strings_Compare (ofL x) (ofL y) w)
  have e1 : Lib.compareBytes (ofL x).data.toList (ofL y).data.toList = Lib.compareBytes x y := rfl
  rw [e1] at K
  clear hN hat1 hat2
  go_enter Tryz.func120, Tryz.ntmps120
  go_wp2_with fail
  go_quiet ((go_at_call 121; exact Calls.quiet_of_same (K.out _)))
  go_wp2_with fail
  go_ret
  exact ⟨rfl, _, rfl⟩
theorem ltB_ntrans {a b c : B} (h1 : ltB a b = false) (h2 : ltB b c = false) : ltB a c = false := by
  cases h : ltB a c with
  | false => rfl
  | true =>
    cases h3 : ltB b a with
    | false => rw [lt_total h1 h3, h2] at h; cases h
    | true => rw [lt_trans h3 h] at h2; cases h2
def cfN (ns : List B) (m : Nat) (i j : Fin (m + 1)) : Int := Lib.compareBytes (ns.getD i.val []) (ns.getD j.val [])
theorem swoN (ns : List B) (m : Nat) : Sort.SWO (ltOf (cfN ns m)) := by
  have e : ∀ i j : Fin (m + 1), ltOf (cfN ns m) i j = ltB (ns.getD i.val []) (ns.getD j.val []) := fun (i j : Fin (m + 1)) => cmp_lt _ _
  exact ⟨fun x => by rw [e]; exact lt_irrefl _, fun x y z h1 h2 => by rw [e] at *; exact lt_trans h1 h2, fun x y z h1 h2 => by rw [e] at *; exact ltB_ntrans h1 h2⟩
def intsV (l : List Nat) : List Value := l.map fun i : Nat => Value.int .i64 (i : Int)
theorem rowI : Row Tryz.prog 134 3 (.int .i64 0) 1 8 :=
  ⟨Tryz.underlying134, info_parts (by kernel_rfl), rfl, by decide, by decide⟩
theorem touch_sort {α : Type} [Inhabited α] (enc : α → Value) (w : World) (blk off m : Nat) (d : Array α) (os : Array Obj) : Touch (fun k => k = blk) w (sortWorld enc w blk off m d os) := by
  refine ⟨rfl, rfl, rfl, by simp [sortWorld, Sort.ahead], fun k hk hf => ?_⟩
  unfold sortWorld
  rw [Sort.heap_grow_old _ _ (by simpa [Sort.ahead] using hk)]
  simp only [Sort.putRow, Sort.mapBlock, Array.getElem?_modify]
  rw [if_neg (fun e => hf e.symm)]
  rfl
theorem cell_sort {α : Type} [Inhabited α] (enc : α → Value) (w : World) (blk off m : Nat) (d : Array α) (os : Array Obj) (a : Addr) (h1 : a.block ≠ blk) (h2 : a.block < w.heap.size) : (sortWorld enc w blk off m d os).cell? a = w.cell? a :=
  (touch_sort enc w blk off m d os).cell h2 h1
theorem intsV_snoc (l : List Nat) (i : Nat) : intsV (l ++ [i]) = intsV l ++ [.int .i64 (i : Int)] := by simp [intsV]
theorem all_extract {α : Type} (d : Array α) {k : Nat} (h : d.size = k) : d.extract 0 k = d := by
  subst h; exact Array.extract_size
theorem range_fin (n : Nat) : (List.ofFn (n := n) fun i : Fin n => i).map Fin.val = List.range n := by
  apply List.ext_getElem
  · simp
  · intro i h1 h2; simp
set_option maxHeartbeats 2000000 in
theorem sortN_any (bx base : Nat) (N v : Value) (ns : List B) (w : World) (hbx : bx < base) (hbl : base ≤ w.heap.size) (hb : w.cell? ⟨bx, 0, none⟩ = some N) (hN : RdP (fun b => b < base) w 1 N ns.length (strs ns)) (hl : ns.length ≤ 1099511627776)
    (hO : w.ownsRow base 3 1 v ns.length (intsV (List.range ns.length))) :
    Calls Tryz.prog 119 #[v, .func (.func 120) #[] #[.pointer (some ⟨bx, 0, none⟩)]] w fun e w' => e = .returned (.tuple #[]) ∧ ∃ idx, RdP (fun b => base ≤ b) w' 1 v ns.length (intsV idx) ∧ Ordered ns idx ∧ Below base w w' := by
  rcases Nat.eq_zero_or_pos ns.length with h0 | hpos
  · have e0 : ns = [] := List.length_eq_zero_iff.1 h0
    subst e0
    obtain ⟨A, c, rfl⟩ := (rd_of_own hO).shape
    exact (Tryz.slices_SortFunc_none (α := Nat) A c _ w).mono fun e w' ⟨h1, h2⟩ => ⟨h1, [], ⟨⟨_, _, rfl⟩, .inl ⟨rfl, rfl⟩⟩, ⟨.refl _, .nil⟩, by rw [h2]; exact Below.refl _ _⟩
  · rcases hO.2 with ⟨_, hz⟩ | ⟨g, cap, cur, rfl, hg, hh, hc, hm, hs, ht⟩
    · omega
    have hR := rd_of_own hO
    obtain ⟨k1, A, c, k2, k3, k4, k5, k6⟩ := hR
    cases k2
    have hcell := (k6 _ rfl).2
    obtain ⟨m, hmn⟩ : ∃ m, ns.length = m + 1 := ⟨ns.length - 1, by omega⟩
    have hR2 : Rd w 1 N ns.length (strs ns) := by
      rcases hN.2 with ⟨h, _⟩ | h
      · omega
      · exact h.1
    have hRlt : ∀ a n c, N = .slice (some a) n c → a.block < base := by
      rcases hN.2 with ⟨h, _⟩ | h
      · omega
      · exact h.2
    let enc : Fin (m + 1) → Value := fun i => .int .i64 (i.val : Int)
    let d : Array (Fin (m + 1)) := (List.ofFn (n := m + 1) fun i => i).toArray
    have hds : d.size = m + 1 := by simp [d]
    have hlh : g < w.heap.size := (Array.getElem?_eq_some_iff.1 hh).1
    have hH : Sort.Holds enc w g 0 d := by
      intro j hj
      have hj' : j < m + 1 := by omega
      refine ⟨?_, Lib.frozen_of_heap hh _⟩
      have := hcell j (.int .i64 (j : Int)) (by simp [intsV, List.getElem?_map, List.getElem?_range (show j < ns.length by omega)])
      rw [this, getElem!_pos d j hj]
      simp [d, enc]
    have hcmp : CmpLays1 Tryz.prog 120 #[.pointer (some ⟨bx, 0, none⟩)] enc (cfN ns m) g 0 d.size w := by
      refine CmpReads.lays fun mm os dk hdk x y => ?_
      have hsw : ∀ a : Addr, a.block < base → (sortWorld enc w g 0 mm dk os).cell? a = w.cell? a := fun a ha => cell_sort enc w g 0 mm dk os a (by omega) (by omega)
      have hx : x.val < ns.length := by have := x.isLt; omega
      have hy : y.val < ns.length := by have := y.isLt; omega
      have hN2 : Rd (sortWorld enc w g 0 mm dk os) 1 N ns.length (strs ns) := by
        obtain ⟨q1, A, c, rfl, q3, q4, q5, q6⟩ := hR2
        exact ⟨q1, A, c, rfl, q3, q4, q5, fun a ha => ⟨(q6 a ha).1, fun j u hj => (hsw ⟨a.block, a.off + j, none⟩ (hRlt a _ c (by rw [ha]))).trans ((q6 a ha).2 j u hj)⟩⟩
      refine (cmp_any bx N ns x.val y.val hx hy _ (by rw [hsw _ hbx]; exact hb) hN2).mono fun e w' ⟨h1, h2⟩ => ⟨?_, h2⟩
      rw [h1]
      unfold cfN
      rw [List.getD_eq_getElem?_getD, List.getD_eq_getElem?_getD, List.getElem?_eq_getElem hx, List.getElem?_eq_getElem hy]
      rfl
    have hcall := Tryz.slices_SortFunc enc (fun _ => rfl) (cfN ns m) (swoN ns m) 120 #[.pointer (some ⟨bx, 0, none⟩)] g 0 cap d w (fun _ _ => rfl) hcmp hH hlh (by omega)
    rw [show d.size = ns.length from hds.trans hmn.symm] at hcall
    refine hcall.mono fun e w' ⟨h1, d', n, os, hp, hsd, hw⟩ => ⟨h1, d'.toList.map Fin.val, ?_⟩
    have hsz' : d'.size = m + 1 := hp.1.trans hds
    have hH' := holds_sortWorld enc w g 0 n d d' os hlh hH (by omega)
    subst hw
    have htouch := touch_sort enc w g 0 n d' os
    refine ⟨⟨⟨_, _, rfl⟩, .inr ⟨⟨?_, _, _, rfl, hc, hm, (fun h => by cases h), fun a ha => ?_⟩, fun a n' c hv => ?_⟩⟩, ⟨?_, ?_⟩, htouch.below (fun k hk e => by have e' : k = g := e; omega) hbl⟩
    · simp [intsV, hsz', hmn]
    · cases ha
      refine ⟨rfl, fun j u hj => ?_⟩
      have hj2 : j < d'.size := by
        have := (List.getElem?_eq_some_iff.1 hj).1
        simpa [intsV] using this
      rw [(hH' j hj2).1]
      rw [← hj, getElem!_pos d' j hj2]
      simp [intsV, enc, hj2]
    · cases hv; exact hg
    · have hperm := hp.2.2
      rw [hmn] at hperm
      have e1 : d'.extract 0 (m + 1) = d' := all_extract _ hsz'
      have e2 : d.extract 0 (m + 1) = d := all_extract _ hds
      rw [e1, e2] at hperm
      have := hperm.map Fin.val
      rw [show d.toList.map Fin.val = List.range (m + 1) from range_fin _] at this
      rw [hmn]; exact this
    · rw [List.pairwise_iff_getElem]
      intro i j hi hj hij
      have hi2 : i < d'.size := by simpa using hi
      have hj2 : j < d'.size := by simpa using hj
      have h := hsd i j (Nat.zero_le _) hij (by omega)
      have h2 : ltB (ns.getD (d'[j]!).val []) (ns.getD (d'[i]!).val []) = false := by rw [← cmp_lt]; exact h
      rw [getElem!_pos d' i hi2, getElem!_pos d' j hj2] at h2
      simpa using h2
set_option maxHeartbeats 8000000 in
theorem order_any (N : Value) (ns : List B) (w : World) (hN : RdP (fun b => b < w.heap.size) w 1 N ns.length (strs ns)) (hl : ns.length ≤ 1099511627776) :
    Calls Tryz.prog 89 #[N] w fun e w' => ∃ (v' : Value) (idx : List Nat), e = .returned v' ∧ RdP (fun b => w.heap.size ≤ b) w' 1 v' ns.length (intsV idx) ∧ Ordered ns idx ∧ Below w.heap.size w w' := by
  have hmf : ∀ (fn : Fn) (first cap : Array Value) (w : World), (Instr.makeFunc fn first cap).run Tryz.prog w = .ok (.func fn first cap) w := fun _ _ _ _ => rfl
  obtain ⟨AN, cN, rfl⟩ := hN.shape
  have HN := Lib.hid hN
  have hb1 := (Below.refl w.heap.size w).alloc (Nat.le_refl _) (.cells #[.slice AN ns.length cN] 46)
  have hc1 : (w.alloc (.cells #[.slice AN ns.length cN] 46)).heap[w.heap.size]? = some (.cells #[.slice AN ns.length cN] 46 (0, 0)) := heap_alloc_new w _
  clear hN
  go_enter Tryz.func89, Tryz.ntmps89
  go_upto_region 2 with fail
  generalize hw1 : w.alloc (.cells #[.slice AN ns.length cN] 46) = w1 at *
  have c1 : w1.cell? ⟨w.heap.size, 0, none⟩ = some (.slice AN ns.length cN) := by rw [Lib.cell_of_heap hc1]; rfl
  have hz1 : w.heap.size < w1.heap.size := (Array.getElem?_eq_some_iff.1 hc1).1
  have HB1 := Lib.hid hb1
  have HC1 := Lib.hid hc1
  clear hb1 hc1 hw1
  go_wp2_with fail
  have Hc1 := Lib.hid c1
  clear c1
  go_loopw [3, 7] (fun v i wr => ∃ n : Nat, n ≤ ns.length ∧ i = .int .i64 n ∧ wr.ownsRow w1.heap.size 3 1 v n (intsV (List.range n)) ∧ Hid (Below w1.heap.size w1 wr)) (fun _ i _ => ns.length - (intOf i).toNat)
  case atStart => exact ⟨0, Nat.zero_le _, rfl, World.ownsRow_nil _ _ _ _, Below.refl _ _⟩
  case round =>
    obtain ⟨n, hn, rfl, hO, hB⟩ := hrel
    have HO := Lib.hid hO
    clear hO
    by_cases hlt : n < ns.length
    · go_wp2_with (at_builtin; refine wpList_pushL wr (by rfl) _ _ _ (by rfl) w1.heap.size rowI _ n (intsV (List.range n)) (by rfl) HO.out [.int .i64 (n : Int)] _ (by rfl) rfl rfl (by intro u hu; simp at hu; subst hu; rfl) (by omega) hB.out.size ?_; intro v' w' hO' hT' hL')
      refine ⟨⟨n + 1, by omega, by go_num, by rw [List.range_succ, intsV_snoc]; exact hO', ?_⟩, by simp [intOf]; omega⟩
      exact hB.out.trans (hT'.below (fun k hk e => by have := (HO.out.lt k e).1; omega) hB.out.size)
    · obtain rfl : n = ns.length := by omega
      obtain ⟨A3, c3, rfl⟩ := (rd_of_own HO.out).shape
      have hbw : Below w1.heap.size w1 wr := hB.out
      have hNr : RdP (fun b => b < w1.heap.size) wr 1 (.slice AN ns.length cN) ns.length (strs ns) := by
        have h1 := HN.out.keep (P := fun b => b < w.heap.size) (w' := wr) (fun b o u hb hc => by
          have e := (HB1.out.trans (hbw.mono (Nat.le_of_lt hz1))).cell (p := ⟨b, o, none⟩) hb
          rw [e]; exact hc)
        exact h1.mono (by omega) (fun b hb _ => Nat.lt_trans hb hz1)
      have hbr : wr.cell? ⟨w.heap.size, 0, none⟩ = some (.slice AN ns.length cN) := by rw [hbw.cell (p := ⟨w.heap.size, 0, none⟩) hz1]; exact Hc1.out
      have K := Lib.hid (sortN_any w.heap.size w1.heap.size _ _ ns wr hz1 hbw.size hbr hNr hl HO.out)
      have HBW := Lib.hid hbw
      clear hbw hNr hbr hB
      go_wp2_with (fail)
      (with_reducible refine K.out.mono ?_); rintro e w' ⟨rfl, idx, hR, hOrd, hB'⟩
      have HR := Lib.hid hR
      clear hR
      have HOrd := Lib.hid hOrd
      clear hOrd
      go_wp2_with fail
      go_ret
      exact ⟨_, idx, rfl, HR.out.mono (by omega) (fun b hb _ => by have hb' : w1.heap.size ≤ b := hb; show w.heap.size ≤ b; omega), HOrd.out, HB1.out.trans ((HBW.out.trans hB').mono (Nat.le_of_lt hz1))⟩
end Go.Proofs.YtigdjnfnkjfkmaaGreatDoor
