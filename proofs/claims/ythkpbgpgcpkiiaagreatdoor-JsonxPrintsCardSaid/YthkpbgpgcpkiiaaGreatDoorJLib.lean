/- A strings.Builder: what it holds, what a call of its methods may write. Conditions: the texts are short. -/
import Derived.Test.YthkpbgpgcpkiiaaGreatDoorJParM
import Derived.Shelf.Strings.BuilderX
import Derived.Shelf.Strings.BuilderK
namespace Go.Proofs.YthkpbgpgcpkiiaaGreatDoor
open Go.RowKit
set_option linter.unusedVariables false
set_option linter.unusedSimpArgs false
set_option maxRecDepth 100000

def ren167 : Go.Shelf.Ren := ⟨fun | 167 => 35 | 240 => 49 | 276 => 69 | n => n,
  fun | 0 => 0 | 4 => 4 | 5 => 5 | 9 => 9 | 20 => 20 | 37 => 46 | 70 => 45 | 72 => 48 | 75 => 55 | 80 => 51 | 164 => 81 | n => n, fun n => n⟩
theorem lays167 : Go.Proofs.Lays.n167 Tryz.prog ren167 := {
  mixed := by kernel_rfl
  f167 := Tryz.func35.trans (congrArg some (by kernel_rfl))
  f240 := Tryz.func49.trans (congrArg some (by kernel_rfl))
  f276 := Tryz.func69.trans (congrArg some (by kernel_rfl))
  t0 := Tryz.underlying0
  a0 := Tryz.isAgg0
  z0 := Tryz.sizeOf0
  v0 := Tryz.zeroValue0
  t4 := Tryz.underlying4
  a4 := Tryz.isAgg4
  z4 := Tryz.sizeOf4
  v4 := Tryz.zeroValue4
  t5 := Tryz.underlying5
  a5 := Tryz.isAgg5
  z5 := Tryz.sizeOf5
  v5 := Tryz.zeroValue5
  t9 := Tryz.underlying9
  a9 := Tryz.isAgg9
  z9 := Tryz.sizeOf9
  v9 := Tryz.zeroValue9
  t20 := Tryz.underlying20
  a20 := Tryz.isAgg20
  z20 := Tryz.sizeOf20
  v20 := Tryz.zeroValue20
  t37 := Tryz.underlying46
  a37 := Tryz.isAgg46
  z37 := Tryz.sizeOf46
  v37 := Tryz.zeroValue46
  t70 := Tryz.underlying45
  a70 := Tryz.isAgg45
  z70 := Tryz.sizeOf45
  v70 := Tryz.zeroValue45
  t72 := Tryz.underlying48
  a72 := Tryz.isAgg48
  z72 := Tryz.sizeOf48
  v72 := Tryz.zeroValue48
  t75 := Tryz.underlying55
  a75 := Tryz.isAgg55
  z75 := Tryz.sizeOf55
  v75 := Tryz.zeroValue55
  t164 := Tryz.underlying81
  a164 := Tryz.isAgg81
  z164 := Tryz.sizeOf81
  v164 := Tryz.zeroValue81 }
theorem extra167 : Go.Proofs.Builder.Extra Tryz.prog ren167 := {
  sizeBuilder := by kernel_rfl
  liesBuilder := by kernel_rfl
  t5 := Tryz.underlying5
  a5 := Tryz.isAgg5
  z5 := Tryz.sizeOf5
  v5 := Tryz.zeroValue5
  infoByte := by kernel_rfl
  cellsByte := by kernel_rfl
  sizeByte := by kernel_rfl
  neB5 := by decide }

/-- A builder: its block, its row, what it holds. -/
def Bv (w : World) (b : Nat) (v : Value) (l : B) : Prop :=
  ∃ p, (p = .pointer none ∨ p = .pointer (some ⟨b, 0, none⟩)) ∧ w.heap[b]? = some (.cells #[p, v] 48 (0, 0)) ∧ OwnB w (b + 1) v l
/-- What a builder's methods write: its block, its row; its new row is new. -/
def Wr (b : Nat) (v v' : Value) (w w' : World) : Prop := Touch (fun k => k = b ∨ v.ownBlock = some k) w w' ∧ Lies w v v'
theorem Wr.refl (b : Nat) (v : Value) (w : World) : Wr b v v w w := ⟨Touch.refl _ _, fun k hk => .inl hk⟩
theorem Wr.trans {b : Nat} {v v' v'' : Value} {w w' w'' : World} (h : Wr b v v' w w') (h' : Wr b v' v'' w' w'') : Wr b v v'' w w'' := by
  refine ⟨h.1.under h'.1 (fun k hk hf => ?_), fun k hk => ?_⟩
  · rcases hf with hf | hf
    · exact .inl hf
    · rcases h.2 k hf with h2 | h2
      · exact .inr h2
      · omega
  · rcases h'.2 k hk with h2 | h2
    · exact h.2 k h2
    · exact .inr (Nat.le_trans h.1.size h2)
theorem Wr.below {b : Nat} {v v' : Value} {w w' w'' : World} (h : Wr b v v' w w') (h' : Below w'.heap.size w' w'') : Wr b v v' w w'' := ⟨h.1.next h', h.2⟩
theorem Wr.after {b : Nat} {v v' : Value} {w w' w'' : World} (h : Below w.heap.size w w') (h' : Wr b v v' w' w'') : Wr b v v' w w'' :=
  ⟨(Touch.of_below h).under h'.1 (fun k hk hf => hf), fun k hk => (h'.2 k hk).imp id (fun h2 => Nat.le_trans h.size h2)⟩
theorem Bv.lt {w : World} {b : Nat} {v : Value} {l : B} (h : Bv w b v l) : b < w.heap.size := by obtain ⟨p, _, hb, _⟩ := h; exact (Array.getElem?_eq_some_iff.1 hb).1
theorem Bv.own {w : World} {b : Nat} {v : Value} {l : B} (h : Bv w b v l) : OwnB w (b + 1) v l := by obtain ⟨p, _, _, ho⟩ := h; exact ho
theorem Bv.touch {F : Nat → Prop} {w w' : World} {b : Nat} {v : Value} {l : B} (h : Bv w b v l) (ht : Touch F w w') (h1 : ¬ F b) (h2 : ∀ k, v.ownBlock = some k → ¬ F k) : Bv w' b v l := by
  have hlt := h.lt
  obtain ⟨p, hp, hb, ho⟩ := h
  exact ⟨p, hp, by rw [ht.block b hlt h1]; exact hb, ho.touch ht h2⟩
theorem Bv.below {w w' : World} {b : Nat} {v : Value} {l : B} (h : Bv w b v l) (hb : Below w.heap.size w w') : Bv w' b v l := h.touch (.of_below (F := fun _ => False) hb) id (fun _ _ h => h)
theorem Bv.new (w : World) : Bv (w.alloc (.cells #[.pointer none, .slice none 0 0] 48)) w.heap.size (.slice none 0 0) [] :=
  ⟨_, .inl rfl, heap_alloc_new w _, World.ownsRow_nil _ _ _ _⟩
theorem Bv.is {w : World} {b : Nat} {v : Value} {l : B} (h : Bv w b v l) : Lib.IsBuilder 48 5 b b (bytesV l) w := by
  obtain ⟨p, hp, hb, hown⟩ := h
  have hown' : w.ownsRow (b + 1) 5 1 v l.length (bytesV l) := hown
  have hat : Lib.BuilderAt 48 5 b b p (bytesV l) w := ⟨Nat.le_refl _, v, hb, by rw [bytesV_len]; exact hown'.mono (by omega), fun e => by have := (hown'.lt _ e).1; omega⟩
  rcases hp with rfl | rfl
  · exact .inl hat
  · exact .inr hat
theorem append_lies {P : Program} {w : World} {base : Nat} {t u ty e : TypeId} (hrow : Row P t e (.int .u8 0) 1 1) (hu : P.underlying u = some .string) {v : Value} {n : Nat} {xs : List Value} (hown : w.ownsRow base e 1 v n xs) {s : ByteArray}
    (hbytes : n + s.size ≤ 140737488355328) {v' : Value} {w' : World} (hr : (Builtin.append_ #[t, u] ty #[v, .string s]).run P w = .ok v' w') : Lies w v v' := by
  obtain ⟨ht, ⟨i, hi, hz, hsize, hby⟩, hzs, hsz, hbz⟩ := hrow
  have hxl : xs.length = n := by simpa using hown.1
  intro k hk
  rcases hown.2 with ⟨rfl, rfl⟩ | ⟨g, cap, cur, rfl, hbg, hg, hnc, hcm, hcs, htake⟩
  · by_cases hm : s.size = 0
    · have hf := Lib.run_firstCells_string (P := P) w 1 s
      rw [hm] at hf
      simp [Builtin.append_, run_underlying ht, run_underlying hu, sizeOf, typeInfo, hi, hsize, Builtin.lenOf, hm, hf] at hr
      rw [← hr.1] at hk
      cases hk
    · have hr2 := run_append_nil_string (P := P) w t u ty e i (.int .u8 0) ht hu hi hz s (by omega) (by omega) (by rw [hby]; omega)
      rw [hr2] at hr
      cases hr
      cases hk
      exact .inr (Nat.le_refl _)
  · by_cases hroom : n + s.size ≤ cap
    · have hr2 := Lib.run_append_room_string (P := P) w t u ty e i ht hu hi hsize g n cap cur hg s hroom (by rw [hcs]; omega)
      rw [hr2] at hr
      cases hr
      exact .inl hk
    · have holds : ∀ j u, xs[j]? = some u → w.cell? ((⟨g, 0, none⟩ : Addr).add j) = some u := hown.cells (g := g) rfl
      have hr2 := Lib.run_append_grow_string (P := P) w t u ty e i (.int .u8 0) ht hu hi hz ⟨g, 0, none⟩ n cap xs (by rw [hsize]; simpa using hxl) holds s (by omega) (by omega) (by rw [hby]; exact growslice_fits (by omega) (by omega))
      rw [hr2] at hr
      cases hr
      cases hk
      exact .inr (Nat.le_refl _)
theorem wpList_strL {P : Program} (w : World) {ops : Array Oper} {rest : List Oper} {o : Oper} {a : Act} {Q : Exit → Act → World → Prop} (hgd : o.guard = none) (sl x : Operand) (t u : TypeId)
    (ho : o.op = .call { callee := .builtin .append, args := #[sl, x], argTypes := #[t, u] })
    (base : Nat) (hrow : Row P t 5 (.int .u8 0) 1 1) (hu : P.underlying u = some .string)
    (v : Value) (l : B) (hs : a.eval sl = v) (hown : OwnB w base v l) (s : ByteArray) (hx : a.eval x = .string s)
    (hbytes : l.length + s.size ≤ 140737488355328) (hbase : base ≤ w.heap.size)
    (h : ∀ v' w', OwnB w' base v' (l ++ s.toList) → Touch (fun k => v.ownBlock = some k) w w' → Lies w v v' → wpList P ops Q rest (a.put o.dst v') w') : wpList P ops Q (o :: rest) a w := by
  refine wpList_plain hgd fun K hK => ?_
  have hown' : w.ownsRow base 5 1 v l.length (bytesV l) := hown
  obtain ⟨ht, ⟨i, hi, hz, hsize, hby⟩, hzs, hsz, hbz⟩ := hrow
  obtain ⟨v', w', hr, h2, h3, _⟩ := Lib.run_append_own_string (P := P) w base t u o.type 5 i ht hu hi hz hsize hby v l.length (bytesV l) hown' s (by unfold maxLen; omega) hbytes hbase
  have hl := append_lies (P := P) ⟨ht, ⟨i, hi, hz, hsize, hby⟩, hzs, hsz, hbz⟩ hu hown' hbytes hr
  unfold Oper.wp execOp
  simp only [ho, resolve, invoke, builtin, Sem.run_bind, Sem.run_pure, Result.andThen_ok, List.map_toArray, List.map_cons, List.map_nil, hs, hx, hr]
  refine hK _ _ (h v' w' ?_ ((Touch.refl _ w).grown h3 (fun k hk => hk)) hl)
  have hc : Lib.strCells s = bytesV s.toList := by unfold Lib.strCells bytesV; rw [toL_eq]
  unfold OwnB
  rw [List.length_append, len_toL, bytesV_append, ← hc]
  exact h2
theorem copyCheck_any (b : Nat) (v : Value) (l : B) (w : World) (h : Bv w b v l) :
    Calls Tryz.prog 49 #[.pointer (some ⟨b, 0, none⟩)] w fun e w' => e = .returned (.tuple #[]) ∧ w'.heap[b]? = some (.cells #[.pointer (some ⟨b, 0, none⟩), v] 48 (0, 0)) ∧ OwnB w' (b + 1) v l ∧ Touch (fun k => k = b) w w' := by
  obtain ⟨p, hp, hb, hown⟩ := h
  rcases hp with rfl | rfl
  · refine (Any.Builder_copyCheck_fresh { lays167 with } extra167.toX72 b w (by rw [Lib.cell_of_heap hb]; rfl) (by simp [World.shape?, hb]; rfl) (Lib.frozen_of_heap hb 0)).mono ?_
    rintro e w' ⟨rfl, rfl⟩
    have ht := (Touch.refl (fun k => k = b) w).setCell (p := ⟨b, 0, none⟩) rfl (.pointer (some ⟨b, 0, none⟩))
    exact ⟨rfl, by rw [heap_set_own hb]; rfl, hown.touch ht (fun k hk e => by have := (World.ownsRow.lt (show World.ownsRow _ _ _ _ _ _ _ from hown) k hk).1; omega), ht⟩
  · refine (Any.Builder_copyCheck_used { lays167 with } extra167.toX72 b w (by rw [Lib.cell_of_heap hb]; rfl)).mono ?_
    rintro e w' ⟨rfl, rfl⟩
    exact ⟨rfl, hb, hown, Touch.refl _ _⟩
theorem bv_end {w w1 w2 : World} {b : Nat} {v v' : Value} {l l' : B} (hown : OwnB w1 (b + 1) v l) (ht1 : Touch (fun k => k = b) w w1) (hbk : w2.heap[b]? = some (.cells #[.pointer (some ⟨b, 0, none⟩), v] 48 (0, 0)))
    (ht2 : Touch (fun k => v.ownBlock = some k) w1 w2) (hl : Lies w1 v v') (ho : OwnB w2 (b + 1) v' l') : Bv (w2.setCell ⟨b, 1, none⟩ v') b v' l' ∧ Wr b v v' w (w2.setCell ⟨b, 1, none⟩ v') := by
  have hts := (Touch.refl (fun k => k = b) w2).setCell (p := ⟨b, 1, none⟩) rfl v'
  have hne : ∀ k, v'.ownBlock = some k → ¬ k = b := fun k hk e => by have := (World.ownsRow.lt (show World.ownsRow _ _ _ _ _ _ _ from ho) k hk).1; omega
  refine ⟨⟨_, .inr rfl, by rw [heap_set_own hbk]; rfl, ho.touch hts hne⟩, ?_, fun k hk => (hl k hk).imp id (fun h => Nat.le_trans ht1.size h)⟩
  exact ((ht1.mono fun k _ h => .inl h).trans (ht2.mono fun k _ h => .inr h)).trans (hts.mono fun k _ h => .inl h)
set_option maxHeartbeats 2000000 in
theorem writeByte_any (b : Nat) (v : Value) (l : B) (c : UInt8) (w : World) (h : Bv w b v l) (hl : l.length + 1 ≤ 140737488355328) :
    Calls Tryz.prog 35 #[.pointer (some ⟨b, 0, none⟩), .int .u8 c.toNat] w fun e w' => e = .returned .nilIface ∧ ∃ v', Bv w' b v' (l ++ [c]) ∧ Wr b v v' w w' := by
  have Hcc := Lib.hid (copyCheck_any b v l w h)
  clear h
  go_enter Tryz.func35, Tryz.ntmps35
  go_wp2_with (go_at_call 49; refine Hcc.out.mono ?_)
  rintro e w1 ⟨rfl, hbk, hown, ht1⟩
  have hown1 : w1.ownsRow (b + 1) 5 1 v l.length (bytesV l) := hown
  have c0 : w1.cell? ⟨b, 0, none⟩ = some (.pointer (some ⟨b, 0, none⟩)) := by rw [Lib.cell_of_heap hbk]; rfl
  have c1 : w1.cell? ⟨b, 1, none⟩ = some v := by rw [Lib.cell_of_heap hbk]; rfl
  have hlt : b < w1.heap.size := (Array.getElem?_eq_some_iff.1 hbk).1
  have Hone : ∀ u ∈ [Value.int .u8 (c.toNat : Int)], u.oneCell' = true := by intro u hu; simp at hu; subst hu; rfl
  go_wp2_with (at_builtin; refine wpList_pushL w1 (by rfl) _ _ _ (by rfl) (b + 1) rowB v l.length (bytesV l) (by rfl) hown1 [.int .u8 c.toNat] _ (by rfl) rfl rfl Hone (by omega) (by omega) ?_)
  intro v' w2 hown' ht2 hl2
  have hb2 : w2.heap[b]? = some (.cells #[.pointer (some ⟨b, 0, none⟩), v] 48 (0, 0)) := by
    rw [ht2.block b hlt (fun e => by have := (hown1.lt b e).1; omega)]; exact hbk
  have d0 : w2.cell? ⟨b, 0, none⟩ = some (.pointer (some ⟨b, 0, none⟩)) := by rw [Lib.cell_of_heap hb2]; rfl
  have d1 : w2.cell? ⟨b, 1, none⟩ = some v := by rw [Lib.cell_of_heap hb2]; rfl
  have f1 : w2.frozen? ⟨b, 1, none⟩ = false := Lib.frozen_of_heap hb2 1
  have ho2 : OwnB w2 (b + 1) v' (l ++ [c]) := by unfold OwnB; rw [List.length_append, bytesV_append]; exact hown'
  obtain ⟨A, cp, rfl⟩ := (rd_of_own hown').shape
  have hE := bv_end hown ht1 hb2 ht2 hl2 ho2
  clear hown' ho2 hl2 ht2
  go_wp2
  go_ret
  exact ⟨rfl, _, hE.1, hE.2⟩
set_option maxHeartbeats 2000000 in
theorem writeString_any (b : Nat) (v : Value) (l : B) (s : ByteArray) (w : World) (h : Bv w b v l) (hl : l.length + s.size ≤ 140737488355328) :
    Calls Tryz.prog 31 #[.pointer (some ⟨b, 0, none⟩), .string s] w fun e w' => e = .returned (.tuple #[.int .i64 s.size, .nilIface]) ∧ ∃ v', Bv w' b v' (l ++ s.toList) ∧ Wr b v v' w w' := by
  have Hcc := Lib.hid (copyCheck_any b v l w h)
  clear h
  go_enter Tryz.func31, Tryz.ntmps31
  go_wp2_with (go_at_call 49; refine Hcc.out.mono ?_)
  rintro e w1 ⟨rfl, hbk, hown, ht1⟩
  have c0 : w1.cell? ⟨b, 0, none⟩ = some (.pointer (some ⟨b, 0, none⟩)) := by rw [Lib.cell_of_heap hbk]; rfl
  have c1 : w1.cell? ⟨b, 1, none⟩ = some v := by rw [Lib.cell_of_heap hbk]; rfl
  have hlt : b < w1.heap.size := (Array.getElem?_eq_some_iff.1 hbk).1
  go_wp2_with (at_builtin; refine wpList_strL w1 (by rfl) _ _ 46 9 (by rfl) (b + 1) rowB Tryz.underlying9 v l (by rfl) hown s (by rfl) hl (by omega) ?_)
  intro v' w2 ho2 ht2 hl2
  have hb2 : w2.heap[b]? = some (.cells #[.pointer (some ⟨b, 0, none⟩), v] 48 (0, 0)) := by
    rw [ht2.block b hlt (fun e => by have := ((show World.ownsRow _ _ _ _ _ _ _ from hown).lt b e).1; omega)]; exact hbk
  have d0 : w2.cell? ⟨b, 0, none⟩ = some (.pointer (some ⟨b, 0, none⟩)) := by rw [Lib.cell_of_heap hb2]; rfl
  have d1 : w2.cell? ⟨b, 1, none⟩ = some v := by rw [Lib.cell_of_heap hb2]; rfl
  have f1 : w2.frozen? ⟨b, 1, none⟩ = false := Lib.frozen_of_heap hb2 1
  obtain ⟨A, cp, rfl⟩ := (rd_of_own (show World.ownsRow _ _ _ _ _ _ _ from ho2)).shape
  have hE := bv_end hown ht1 hb2 ht2 hl2 ho2
  generalize (l ++ s.toList).length = n2 at hE ⊢
  clear ho2 hl2 ht2
  go_wp2
  go_ret2
  exact ⟨rfl, _, hE.1, hE.2⟩
theorem string_any (b : Nat) (v : Value) (l : B) (w : World) (h : Bv w b v l) :
    Calls Tryz.prog 25 #[.pointer (some ⟨b, 0, none⟩)] w fun e w' => e = .returned (.string (ofL l)) ∧ Below b w w' := by
  have hc : Lib.byteCells l = bytesV l := rfl
  exact Tryz.Builder_String_any b b l w (by rw [hc]; exact h.is) (Nat.le_of_lt h.lt)
theorem len_any (b : Nat) (v : Value) (l : B) (w : World) (h : Bv w b v l) :
    Calls Tryz.prog 24 #[.pointer (some ⟨b, 0, none⟩)] w fun e w' => e = .returned (.int .i64 l.length) ∧ w' = w := by
  refine (Tryz.Builder_Len b b (bytesV l) w h.is).mono ?_
  rintro e w' ⟨rfl, rfl⟩
  exact ⟨by rw [bytesV_len], rfl⟩
end Go.Proofs.YthkpbgpgcpkiiaaGreatDoor
