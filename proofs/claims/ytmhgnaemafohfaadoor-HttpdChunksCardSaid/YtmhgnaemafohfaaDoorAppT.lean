/- append of a text onto the row that '[]byte(s)' made: its mark lies behind the last cell. Conditions: none. -/
import Derived.Test.YtmhgnaemafohfaaDoorMemB
import Derived.Lib.FrozenHead2
namespace Go.Proofs.YtmhgnaemafohfaaDoor
open Go.RowKit
set_option linter.unusedVariables false
set_option linter.unusedSimpArgs false
set_option maxRecDepth 100000

/-- A row of bytes, whose mark, if there is one, lies behind it. -/
def OwnT (w : World) (base : Nat) (e : TypeId) (v : Value) (l : B) : Prop :=
  ∃ (g cap : Nat) (cur : Array Value) (fz : Nat × Nat), v = .slice (some ⟨g, 0, none⟩) l.length cap ∧ base ≤ g ∧ w.heap[g]? = some (.cells cur e fz) ∧ (fz.2 = 0 ∨ cap ≤ fz.1) ∧ l.length ≤ cap ∧ cap ≤ maxLen ∧ cur.size = cap ∧ cur.toList.take l.length = bytesV l
theorem OwnT.touch {G : Nat → Prop} {w w' : World} {base : Nat} {e : TypeId} {v : Value} {l : B} (h : OwnT w base e v l) (ht : Touch G w w') (hG : ∀ k, v.ownBlock = some k → ¬ G k) : OwnT w' base e v l := by
  obtain ⟨g, cap, cur, fz, rfl, h1, h2, h3⟩ := h
  exact ⟨g, cap, cur, fz, rfl, h1, by rw [ht.block g (Array.getElem?_eq_some_iff.1 h2).1 (hG g rfl)]; exact h2, h3⟩
theorem OwnT.below {w w' : World} {base : Nat} {e : TypeId} {v : Value} {l : B} (h : OwnT w base e v l) (hb : Below w.heap.size w w') : OwnT w' base e v l := h.touch (.of_below (F := fun _ => False) hb) (fun _ _ => id)
theorem OwnT.lt {w : World} {base : Nat} {e : TypeId} {v : Value} {l : B} (h : OwnT w base e v l) : ∀ k, v.ownBlock = some k → base ≤ k ∧ k < w.heap.size := by
  obtain ⟨g, cap, cur, fz, rfl, h1, h2, h3⟩ := h
  rintro k hk
  cases hk
  exact ⟨h1, (Array.getElem?_eq_some_iff.1 h2).1⟩
theorem OwnT.rd {w : World} {base : Nat} {e : TypeId} {v : Value} {l : B} (h : OwnT w base e v l) : Rd w 1 v l.length (bytesV l) := by
  obtain ⟨g, cap, cur, fz, rfl, h1, h2, h3, h4, h5, h6, h7⟩ := h
  refine ⟨by rw [bytesV_len]; omega, _, _, rfl, h4, h5, (fun h => by cases h), fun a ha => ?_⟩
  cases ha
  refine ⟨rfl, fun j u hj => ?_⟩
  rw [Nat.zero_add, Lib.cell_of_heap h2]
  have hlt := (List.getElem?_eq_some_iff.1 hj).1
  rw [bytesV_len] at hlt
  rw [← h7, List.getElem?_take_of_lt hlt, Array.getElem?_toList] at hj
  exact hj

theorem run_storeT (P : Program) (g : Nat) (t : TypeId) (fz : Nat × Nat) (cap : Nat) (hfz : fz.2 = 0 ∨ cap ≤ fz.1) : ∀ (vs : List Value) (o i : Nat) (cur : Array Value) (w : World), w.heap[g]? = some (.cells cur t fz) → cur.size = cap → o + i + vs.length ≤ cap → (∀ v ∈ vs, v.oneCell' = true) →
    (storeCells ⟨g, o, none⟩ vs i).run P w = .ok () (w.setRow g (cur.toList.take (o + i) ++ vs ++ cur.toList.drop (o + i + vs.length)).toArray)
  | [], o, i, cur, w, hg, _, _, _ => by
    simp only [storeCells, List.append_nil, List.length_nil, Nat.add_zero, List.take_append_drop, Array.toArray_toList]
    rw [setRow_self w g cur t fz hg]
    rfl
  | v :: rest, o, i, cur, w, hg, hcap, hl, h1 => by
    have hi : o + i < cur.size := by simp at hl; omega
    have hadd : (⟨g, o, none⟩ : Addr).add i = ⟨g, o + i, none⟩ := by unfold Addr.add; split <;> simp_all
    have hcell : w.cell? ⟨g, o + i, none⟩ = some cur[o + i] := by simp [World.cell?, hg, hi]
    have hfro : w.frozen? ⟨g, o + i, none⟩ = false := by
      obtain ⟨lo, hi'⟩ := fz
      simp only [World.frozen?, hg, Bool.and_eq_false_iff, decide_eq_false_iff_not]
      simp only at hfz
      omega
    have hst : (store ((⟨g, o, none⟩ : Addr).add i) v).run P w = .ok () (w.setRow g (cur.setIfInBounds (o + i) v)) := by
      rw [hadd, run_store P w _ v _ (h1 v (by simp)), hcell]
      simp [hfro, setCell_eq_setRow w g (o + i) cur t fz v hg]
    have ih := run_storeT P g t fz cap hfz rest o (i + 1) (cur.setIfInBounds (o + i) v) (w.setRow g (cur.setIfInBounds (o + i) v)) (setRow_heap w g cur _ t _ hg) (by simpa using hcap) (by simp at hl ⊢; omega) (fun x hx => h1 x (by simp [hx]))
    simp only [storeCells, Sem.run_bind, hst, Result.andThen_ok, ih, setRow_setRow]
    congr 3
    have e := list_seg_step cur.toList (o + i) v rest (by simp at hl ⊢; omega)
    simpa [Array.toList_setIfInBounds, Nat.add_assoc] using e

theorem run_appendT {P : Program} (w : World) (base : Nat) (t u ty e : TypeId) (hrow : Row P t e (.int .u8 0) 1 1) (hu : P.underlying u = some .string)
    (v : Value) (l : B) (hown : OwnT w base e v l) (s : ByteArray) (hbytes : l.length + s.size ≤ 140737488355328) (hbase : base ≤ w.heap.size) :
    ∃ v' w', (Builtin.append_ #[t, u] ty #[v, .string s]).run P w = .ok v' w' ∧ OwnT w' base e v' (l ++ s.toList) ∧ w.grownBy w' v.ownBlock ∧ Lies w v v' := by
  obtain ⟨ht, ⟨i, hi, hz, hsize, hby⟩, hzs, hsz, hbz⟩ := hrow
  obtain ⟨g, cap, cur, fz, rfl, hbg, hg, hfz, hnc, hcm, hcs, htake⟩ := hown
  have hc : Lib.strCells s = bytesV s.toList := by unfold Lib.strCells bytesV; rw [toL_eq]
  have hxl : (bytesV l).length = l.length := bytesV_len l
  have hsl : s.toList.length = s.size := len_toL s
  have hlen : (l ++ s.toList).length = l.length + s.size := by rw [List.length_append, hsl]
  by_cases hroom : l.length + s.size ≤ cap
  · have hf := Lib.run_firstCells_string (P := P) w 1 s
    have hst := run_storeT P g e fz cap hfz (Lib.strCells s) l.length 0 cur w hg hcs (by rw [Lib.strCells_length]; omega) (Lib.strCells_oneCell s)
    simp only [Nat.add_zero, Lib.strCells_length] at hst
    have hr : (Builtin.append_ #[t, u] ty #[.slice (some ⟨g, 0, none⟩) l.length cap, .string s]).run P w = .ok (.slice (some ⟨g, 0, none⟩) (l.length + s.size) cap) (w.setRow g (cur.toList.take l.length ++ Lib.strCells s ++ cur.toList.drop (l.length + s.size)).toArray) := by
      simp [Builtin.append_, run_underlying ht, run_underlying hu, sizeOf, typeInfo, hi, hsize, Builtin.lenOf, hroom, hf, Addr.add_lit, hst]
    refine ⟨_, _, hr, ⟨g, cap, _, fz, by rw [hlen], hbg, setRow_heap w g cur _ e _ hg, hfz, by rw [hlen]; exact hroom, hcm, ?_, ?_⟩, ⟨rfl, rfl, rfl, by simp, fun k _ hk => setRow_other w g k _ (fun e => hk (by simp [Value.ownBlock, e]))⟩, fun k hk => .inl hk⟩
    · simp only [List.size_toArray, List.length_append, List.length_take, List.length_drop, Array.length_toList, Lib.strCells_length]
      omega
    · rw [htake, bytesV_append, hc]
      show ((bytesV l ++ bytesV s.toList ++ _).take _) = _
      rw [List.take_left' (by rw [List.length_append, bytesV_len, bytesV_len, hlen, hsl])]
  · have holds : ∀ j u, (bytesV l)[j]? = some u → w.cell? ((⟨g, 0, none⟩ : Addr).add j) = some u := fun j u hj => by
      have hlt := (List.getElem?_eq_some_iff.1 hj).1
      rw [bytesV_len] at hlt
      rw [show (⟨g, 0, none⟩ : Addr).add j = ⟨g, j, none⟩ by unfold Addr.add; split <;> simp_all, Lib.cell_of_heap hg]
      rw [← htake, List.getElem?_take_of_lt hlt, Array.getElem?_toList] at hj
      exact hj
    have h63 : l.length + s.size ≤ maxLen := by unfold maxLen; omega
    have hr := Lib.run_append_grow_string (P := P) w t u ty e i (.int .u8 0) ht hu hi hz ⟨g, 0, none⟩ l.length cap (bytesV l) (by rw [hsize, hxl, Nat.mul_one]) holds s (by omega) (by omega) (by rw [hby]; exact growslice_fits (by omega) (by omega))
    have hge := grownCap_ge w (l.length + s.size) cap e
    have hcm2 : grownCap w (l.length + s.size) cap e ≤ maxLen := grownCap_le_maxLen w (l.length + s.size) cap e h63
    refine ⟨_, _, hr, ⟨w.heap.size, _, _, (0, 0), by rw [hlen], hbase, heap_alloc_new w.drew _, .inl rfl, by rw [hlen]; exact hge, hcm2, ?_, ?_⟩, ⟨rfl, rfl, rfl, by simp, fun k hk _ => heap_alloc_old w.drew _ hk⟩, fun k hk => .inr (by cases hk; exact Nat.le_refl _)⟩
    · have hz1 : (Value.int IntKind.u8 0).cells.size = 1 := rfl
      simp only [Array.size_append, List.size_toArray, size_zeroCells, hz1, hxl, Lib.strCells_length]
      omega
    · simp only [Array.toList_append, List.append_assoc]
      rw [hc, bytesV_append, ← List.append_assoc, List.take_left' (by rw [List.length_append, bytesV_len, bytesV_len, hlen, hsl])]
/-- 'append(b, s...)', s a text. -/
theorem wpList_appendT {P : Program} (w : World) {ops : Array Oper} {rest : List Oper} {o : Oper} {a : Act} {Q : Exit → Act → World → Prop} (hgd : o.guard = none) (sl x : Operand) (t u : TypeId)
    (ho : o.op = .call { callee := .builtin .append, args := #[sl, x], argTypes := #[t, u] })
    (base : Nat) {e : TypeId} (hrow : Row P t e (.int .u8 0) 1 1) (hu : P.underlying u = some .string)
    (v : Value) (l : B) (hs : a.eval sl = v) (hown : OwnT w base e v l) (s : ByteArray) (hx : a.eval x = .string s)
    (hbytes : l.length + s.size ≤ 140737488355328) (hbase : base ≤ w.heap.size)
    (h : ∀ v' w', OwnT w' base e v' (l ++ s.toList) → w.grownBy w' v.ownBlock → Lies w v v' → Below base w w' → wpList P ops Q rest (a.put o.dst v') w') : wpList P ops Q (o :: rest) a w := by
  refine wpList_plain hgd fun K hK => ?_
  obtain ⟨v', w', hr, h2, h3, h4⟩ := run_appendT (P := P) w base t u o.type e hrow hu v l hown s hbytes hbase
  unfold Oper.wp execOp
  simp only [ho, resolve, invoke, builtin, Sem.run_bind, Sem.run_pure, Result.andThen_ok, List.map_toArray, List.map_cons, List.map_nil, hs, hx, hr]
  exact hK _ _ (h v' w' h2 h3 h4 ((Below.refl base w).grown h3 hbase fun k hk => (hown.lt k hk).1))
theorem step_appendT {P : Program} {w : World} {ops : Array Oper} {o : Oper} {a : Act} {K : Act → World → Prop} {Q : Exit → Act → World → Prop} {E : Prop} (hgd : o.guard = none) (sl x : Operand) (t u : TypeId)
    (ho : o.op = .call { callee := .builtin .append, args := #[sl, x], argTypes := #[t, u] })
    (base : Nat) {e : TypeId} (hrow : Row P t e (.int .u8 0) 1 1) (hu : P.underlying u = some .string)
    (v : Value) (l : B) (hs : a.eval sl = v) (hown : OwnT w base e v l) (s : ByteArray) (hx : a.eval x = .string s)
    (hbytes : l.length + s.size ≤ 140737488355328) (hbase : base ≤ w.heap.size)
    (h : ∀ v' w', OwnT w' base e v' (l ++ s.toList) → w.grownBy w' v.ownBlock → Lies w v v' → Below base w w' → K (a.put o.dst v') w') :
    if Region.wanted o (yielded ops a.tmps) = true then Oper.wp P o a w K Q else E := by
  have hw : Region.wanted o (yielded ops a.tmps) = true := by simp [Region.wanted, hgd]
  rw [if_pos hw]
  obtain ⟨v', w', hr, h2, h3, h4⟩ := run_appendT (P := P) w base t u o.type e hrow hu v l hown s hbytes hbase
  unfold Oper.wp execOp
  simp only [ho, resolve, invoke, builtin, Sem.run_bind, Sem.run_pure, Result.andThen_ok, List.map_toArray, List.map_cons, List.map_nil, hs, hx, hr]
  exact h v' w' h2 h3 h4 ((Below.refl base w).grown h3 hbase fun k hk => (hown.lt k hk).1)
/-- What '[]byte(s)' made. -/
theorem ownT_bytes {w wc : World} {s : ByteArray} {n base : Nat} {e : TypeId} (hn : s.size = n) (hm : n ≤ 1099511627776) (hb : base ≤ w.heap.size) :
    OwnT (w.alloc (.cells (bytesRow s (grownCap wc n 0 e)) e ((bytesRow s (grownCap wc n 0 e)).size, (bytesRow s (grownCap wc n 0 e)).size + 1))) base e (.slice (some ⟨w.heap.size, 0, none⟩) n (grownCap wc n 0 e)) s.toList := by
  subst hn
  have hs : (bytesRow s (grownCap wc s.size 0 e)).size = grownCap wc s.size 0 e := by
    have := grownCap_ge wc s.size 0 e
    unfold bytesRow; simp; omega
  refine ⟨w.heap.size, _, _, _, by rw [len_toL], hb, heap_alloc_new w _, .inr (by rw [hs]; exact Nat.le_refl _), by rw [len_toL]; exact grownCap_ge _ _ _ _, grownCap_le_maxLen _ _ _ _ (by unfold maxLen; omega), hs, ?_⟩
  apply List.ext_getElem?
  intro j
  by_cases hj : j < s.toList.length
  · rw [List.getElem?_take_of_lt hj, Array.getElem?_toList, bytesRow_at s _ j (by rw [len_toL] at hj; exact hj)]
    exact (bytesV_at (get_eq s j (by rw [len_toL] at hj; exact hj))).symm
  · rw [List.getElem?_eq_none (by rw [List.length_take]; omega), List.getElem?_eq_none (by rw [bytesV_len]; omega)]
end Go.Proofs.YtmhgnaemafohfaaDoor
