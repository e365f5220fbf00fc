/- append of a text onto the row that '[]byte(s)' made: its mark lies behind the last cell. Conditions: none. append of bytes that lie somewhere onto the row that '[]byte(s)' made. Conditions: none. Answers: their cells, headers cloned, headers as a text, answers that are the same. Conditions: they are few. An answer as bytes (httpd.Write). Conditions: the answer is small; the table of powers of ten. -/
import Derived.Test.YtgdelmkgdfhdpaaGreatDoorMachA
import Derived.Lib.FrozenHead2
import Derived.Test.YtgdelmkgdfhdpaaGreatDoorMachL
import Derived.Laws.AppendOwnNone
import Derived.Test.YtgdelmkgdfhdpaaGreatDoorWrt
import Derived.Lib.ItoaMem
import Derived.Lib.AppendIntMem
namespace Go.Proofs.YtgdelmkgdfhdpaaGreatDoor
open Go.RowKit
set_option linter.unusedVariables false
set_option linter.unusedSimpArgs false
set_option maxRecDepth 100000

/-- A row of bytes, whose mark, if there is one, lies behind it. -/
def OwnT (w : World) (base : Nat) (e : TypeId) (v : Value) (l : B) : Prop :=
  ∃ (g cap : Nat) (cur : Array Value) (fz : Nat × Nat), v = .slice (some ⟨g, 0, none⟩) l.length cap ∧ base ≤ g ∧ w.heap[g]? = some (.cells cur e fz) ∧ (fz.2 = 0 ∨ cap ≤ fz.1) ∧ l.length ≤ cap ∧ cap ≤ maxLen ∧ cur.size = cap ∧ cur.toList.take l.length = bytesV l
theorem OwnT.touch {G : Nat → Prop} {w w' : World} {base : Nat} {e : TypeId} {v : Value} {l : B} (h : OwnT w base e v l) (ht : Touch G w w') (hG : ∀ k, v.ownBlock = some k → ¬ G k) : OwnT w' base e v l := by
  obtain ⟨g, cap, cur, fz, rfl, h1, h2, h3⟩ := h
  exact ⟨g, cap, cur, fz, rfl, h1, by rw [ht.block g (Array.getElem?_eq_some_iff.1 h2).1 (hG g rfl)]; exact h2, h3⟩
theorem OwnT.below {w w' : World} {base : Nat} {e : TypeId} {v : Value} {l : B} (h : OwnT w base e v l) (hb : Below w.heap.size w w') : OwnT w' base e v l := h.touch (.of_below (F := fun _ => False) hb) (fun _ _ => id)
theorem OwnT.lt {w : World} {base : Nat} {e : TypeId} {v : Value} {l : B} (h : OwnT w base e v l) : ∀ k, v.ownBlock = some k → base ≤ k ∧ k < w.heap.size := by
  obtain ⟨g, cap, cur, fz, rfl, h1, h2, h3⟩ := h
  rintro k hk
  cases hk
  exact ⟨h1, (Array.getElem?_eq_some_iff.1 h2).1⟩
theorem OwnT.rd {w : World} {base : Nat} {e : TypeId} {v : Value} {l : B} (h : OwnT w base e v l) : Rd w 1 v l.length (bytesV l) := by
  obtain ⟨g, cap, cur, fz, rfl, h1, h2, h3, h4, h5, h6, h7⟩ := h
  refine ⟨by rw [bytesV_len]; omega, _, _, rfl, h4, h5, (fun h => by cases h), fun a ha => ?_⟩
  cases ha
  refine ⟨rfl, fun j u hj => ?_⟩
  rw [Nat.zero_add, Lib.cell_of_heap h2]
  have hlt := (List.getElem?_eq_some_iff.1 hj).1
  rw [bytesV_len] at hlt
  rw [← h7, List.getElem?_take_of_lt hlt, Array.getElem?_toList] at hj
  exact hj

theorem run_storeT (P : Program) (g : Nat) (t : TypeId) (fz : Nat × Nat) (cap : Nat) (hfz : fz.2 = 0 ∨ cap ≤ fz.1) : ∀ (vs : List Value) (o i : Nat) (cur : Array Value) (w : World), w.heap[g]? = some (.cells cur t fz) → cur.size = cap → o + i + vs.length ≤ cap → (∀ v ∈ vs, v.oneCell' = true) →
    (storeCells ⟨g, o, none⟩ vs i).run P w = .ok () (w.setRow g (cur.toList.take (o + i) ++ vs ++ cur.toList.drop (o + i + vs.length)).toArray)
  | [], o, i, cur, w, hg, _, _, _ => by
    simp only [storeCells, List.append_nil, List.length_nil, Nat.add_zero, List.take_append_drop, Array.toArray_toList]
    rw [setRow_self w g cur t fz hg]
    rfl
  | v :: rest, o, i, cur, w, hg, hcap, hl, h1 => by
    have hi : o + i < cur.size := by simp at hl; omega
    have hadd : (⟨g, o, none⟩ : Addr).add i = ⟨g, o + i, none⟩ := by unfold Addr.add; split <;> simp_all
    have hcell : w.cell? ⟨g, o + i, none⟩ = some cur[o + i] := by simp [World.cell?, hg, hi]
    have hfro : w.frozen? ⟨g, o + i, none⟩ = false := by
      obtain ⟨lo, hi'⟩ := fz
      simp only [World.frozen?, hg, Bool.and_eq_false_iff, decide_eq_false_iff_not]
      simp only at hfz
      omega
    have hst : (store ((⟨g, o, none⟩ : Addr).add i) v).run P w = .ok () (w.setRow g (cur.setIfInBounds (o + i) v)) := by
      rw [hadd, run_store P w _ v _ (h1 v (by simp)), hcell]
      simp [hfro, setCell_eq_setRow w g (o + i) cur t fz v hg]
    have ih := run_storeT P g t fz cap hfz rest o (i + 1) (cur.setIfInBounds (o + i) v) (w.setRow g (cur.setIfInBounds (o + i) v)) (setRow_heap w g cur _ t _ hg) (by simpa using hcap) (by simp at hl ⊢; omega) (fun x hx => h1 x (by simp [hx]))
    simp only [storeCells, Sem.run_bind, hst, Result.andThen_ok, ih, setRow_setRow]
    congr 3
    have e := list_seg_step cur.toList (o + i) v rest (by simp at hl ⊢; omega)
    simpa [Array.toList_setIfInBounds, Nat.add_assoc] using e

theorem run_appendT {P : Program} (w : World) (base : Nat) (t u ty e : TypeId) (hrow : Row P t e (.int .u8 0) 1 1) (hu : P.underlying u = some .string)
    (v : Value) (l : B) (hown : OwnT w base e v l) (s : ByteArray) (hbytes : l.length + s.size ≤ 140737488355328) (hbase : base ≤ w.heap.size) :
    ∃ v' w', (Builtin.append_ #[t, u] ty #[v, .string s]).run P w = .ok v' w' ∧ OwnT w' base e v' (l ++ s.toList) ∧ w.grownBy w' v.ownBlock ∧ Lies w v v' := by
  obtain ⟨ht, ⟨i, hi, hz, hsize, hby⟩, hzs, hsz, hbz⟩ := hrow
  obtain ⟨g, cap, cur, fz, rfl, hbg, hg, hfz, hnc, hcm, hcs, htake⟩ := hown
  have hc : Lib.strCells s = bytesV s.toList := by unfold Lib.strCells bytesV; rw [toL_eq]
  have hxl : (bytesV l).length = l.length := bytesV_len l
  have hsl : s.toList.length = s.size := len_toL s
  have hlen : (l ++ s.toList).length = l.length + s.size := by rw [List.length_append, hsl]
  by_cases hroom : l.length + s.size ≤ cap
  · have hf := Lib.run_firstCells_string (P := P) w 1 s
    have hst := run_storeT P g e fz cap hfz (Lib.strCells s) l.length 0 cur w hg hcs (by rw [Lib.strCells_length]; omega) (Lib.strCells_oneCell s)
    simp only [Nat.add_zero, Lib.strCells_length] at hst
    have hr : (Builtin.append_ #[t, u] ty #[.slice (some ⟨g, 0, none⟩) l.length cap, .string s]).run P w = .ok (.slice (some ⟨g, 0, none⟩) (l.length + s.size) cap) (w.setRow g (cur.toList.take l.length ++ Lib.strCells s ++ cur.toList.drop (l.length + s.size)).toArray) := by
      simp [Builtin.append_, run_underlying ht, run_underlying hu, sizeOf, typeInfo, hi, hsize, Builtin.lenOf, hroom, hf, Addr.add_lit, hst]
    refine ⟨_, _, hr, ⟨g, cap, _, fz, by rw [hlen], hbg, setRow_heap w g cur _ e _ hg, hfz, by rw [hlen]; exact hroom, hcm, ?_, ?_⟩, ⟨rfl, rfl, rfl, by simp, fun k _ hk => setRow_other w g k _ (fun e => hk (by simp [Value.ownBlock, e]))⟩, fun k hk => .inl hk⟩
    · simp only [List.size_toArray, List.length_append, List.length_take, List.length_drop, Array.length_toList, Lib.strCells_length]
      omega
    · rw [htake, bytesV_append, hc]
      show ((bytesV l ++ bytesV s.toList ++ _).take _) = _
      rw [List.take_left' (by rw [List.length_append, bytesV_len, bytesV_len, hlen, hsl])]
  · have holds : ∀ j u, (bytesV l)[j]? = some u → w.cell? ((⟨g, 0, none⟩ : Addr).add j) = some u := fun j u hj => by
      have hlt := (List.getElem?_eq_some_iff.1 hj).1
      rw [bytesV_len] at hlt
      rw [show (⟨g, 0, none⟩ : Addr).add j = ⟨g, j, none⟩ by unfold Addr.add; split <;> simp_all, Lib.cell_of_heap hg]
      rw [← htake, List.getElem?_take_of_lt hlt, Array.getElem?_toList] at hj
      exact hj
    have h63 : l.length + s.size ≤ maxLen := by unfold maxLen; omega
    have hr := Lib.run_append_grow_string (P := P) w t u ty e i (.int .u8 0) ht hu hi hz ⟨g, 0, none⟩ l.length cap (bytesV l) (by rw [hsize, hxl, Nat.mul_one]) holds s (by omega) (by omega) (by rw [hby]; exact growslice_fits (by omega) (by omega))
    have hge := grownCap_ge w (l.length + s.size) cap e
    have hcm2 : grownCap w (l.length + s.size) cap e ≤ maxLen := grownCap_le_maxLen w (l.length + s.size) cap e h63
    refine ⟨_, _, hr, ⟨w.heap.size, _, _, (0, 0), by rw [hlen], hbase, heap_alloc_new w.drew _, .inl rfl, by rw [hlen]; exact hge, hcm2, ?_, ?_⟩, ⟨rfl, rfl, rfl, by simp, fun k hk _ => heap_alloc_old w.drew _ hk⟩, fun k hk => .inr (by cases hk; exact Nat.le_refl _)⟩
    · have hz1 : (Value.int IntKind.u8 0).cells.size = 1 := rfl
      simp only [Array.size_append, List.size_toArray, size_zeroCells, hz1, hxl, Lib.strCells_length]
      omega
    · simp only [Array.toList_append, List.append_assoc]
      rw [hc, bytesV_append, ← List.append_assoc, List.take_left' (by rw [List.length_append, bytesV_len, bytesV_len, hlen, hsl])]
/-- 'append(b, s...)', s a text. -/
theorem wpList_appendT {P : Program} (w : World) {ops : Array Oper} {rest : List Oper} {o : Oper} {a : Act} {Q : Exit → Act → World → Prop} (hgd : o.guard = none) (sl x : Operand) (t u : TypeId)
    (ho : o.op = .call { callee := .builtin .append, args := #[sl, x], argTypes := #[t, u] })
    (base : Nat) {e : TypeId} (hrow : Row P t e (.int .u8 0) 1 1) (hu : P.underlying u = some .string)
    (v : Value) (l : B) (hs : a.eval sl = v) (hown : OwnT w base e v l) (s : ByteArray) (hx : a.eval x = .string s)
    (hbytes : l.length + s.size ≤ 140737488355328) (hbase : base ≤ w.heap.size)
    (h : ∀ v' w', OwnT w' base e v' (l ++ s.toList) → w.grownBy w' v.ownBlock → Lies w v v' → Below base w w' → wpList P ops Q rest (a.put o.dst v') w') : wpList P ops Q (o :: rest) a w := by
  refine wpList_plain hgd fun K hK => ?_
  obtain ⟨v', w', hr, h2, h3, h4⟩ := run_appendT (P := P) w base t u o.type e hrow hu v l hown s hbytes hbase
  unfold Oper.wp execOp
  simp only [ho, resolve, invoke, builtin, Sem.run_bind, Sem.run_pure, Result.andThen_ok, List.map_toArray, List.map_cons, List.map_nil, hs, hx, hr]
  exact hK _ _ (h v' w' h2 h3 h4 ((Below.refl base w).grown h3 hbase fun k hk => (hown.lt k hk).1))
theorem step_appendT {P : Program} {w : World} {ops : Array Oper} {o : Oper} {a : Act} {K : Act → World → Prop} {Q : Exit → Act → World → Prop} {E : Prop} (hgd : o.guard = none) (sl x : Operand) (t u : TypeId)
    (ho : o.op = .call { callee := .builtin .append, args := #[sl, x], argTypes := #[t, u] })
    (base : Nat) {e : TypeId} (hrow : Row P t e (.int .u8 0) 1 1) (hu : P.underlying u = some .string)
    (v : Value) (l : B) (hs : a.eval sl = v) (hown : OwnT w base e v l) (s : ByteArray) (hx : a.eval x = .string s)
    (hbytes : l.length + s.size ≤ 140737488355328) (hbase : base ≤ w.heap.size)
    (h : ∀ v' w', OwnT w' base e v' (l ++ s.toList) → w.grownBy w' v.ownBlock → Lies w v v' → Below base w w' → K (a.put o.dst v') w') :
    if Region.wanted o (yielded ops a.tmps) = true then Oper.wp P o a w K Q else E := by
  have hw : Region.wanted o (yielded ops a.tmps) = true := by simp [Region.wanted, hgd]
  rw [if_pos hw]
  obtain ⟨v', w', hr, h2, h3, h4⟩ := run_appendT (P := P) w base t u o.type e hrow hu v l hown s hbytes hbase
  unfold Oper.wp execOp
  simp only [ho, resolve, invoke, builtin, Sem.run_bind, Sem.run_pure, Result.andThen_ok, List.map_toArray, List.map_cons, List.map_nil, hs, hx, hr]
  exact h v' w' h2 h3 h4 ((Below.refl base w).grown h3 hbase fun k hk => (hown.lt k hk).1)
/-- What '[]byte(s)' made. -/
theorem ownT_bytes {w wc : World} {s : ByteArray} {n base : Nat} {e : TypeId} (hn : s.size = n) (hm : n ≤ 1099511627776) (hb : base ≤ w.heap.size) :
    OwnT (w.alloc (.cells (bytesRow s (grownCap wc n 0 e)) e ((bytesRow s (grownCap wc n 0 e)).size, (bytesRow s (grownCap wc n 0 e)).size + 1))) base e (.slice (some ⟨w.heap.size, 0, none⟩) n (grownCap wc n 0 e)) s.toList := by
  subst hn
  have hs : (bytesRow s (grownCap wc s.size 0 e)).size = grownCap wc s.size 0 e := by
    have := grownCap_ge wc s.size 0 e
    unfold bytesRow; simp; omega
  refine ⟨w.heap.size, _, _, _, by rw [len_toL], hb, heap_alloc_new w _, .inr (by rw [hs]; exact Nat.le_refl _), by rw [len_toL]; exact grownCap_ge _ _ _ _, grownCap_le_maxLen _ _ _ _ (by unfold maxLen; omega), hs, ?_⟩
  apply List.ext_getElem?
  intro j
  by_cases hj : j < s.toList.length
  · rw [List.getElem?_take_of_lt hj, Array.getElem?_toList, bytesRow_at s _ j (by rw [len_toL] at hj; exact hj)]
    exact (bytesV_at (get_eq s j (by rw [len_toL] at hj; exact hj))).symm
  · rw [List.getElem?_eq_none (by rw [List.length_take]; omega), List.getElem?_eq_none (by rw [bytesV_len]; omega)]
end Go.Proofs.YtgdelmkgdfhdpaaGreatDoor
namespace Go.Proofs.YtgdelmkgdfhdpaaGreatDoor
open Go.RowKit
set_option linter.unusedVariables false
set_option linter.unusedSimpArgs false
set_option maxRecDepth 100000

theorem own_partU {w : World} {v : Value} {l : B} (h : Rd w 1 v l.length (bytesV l)) (hN : ∀ n c, v = .slice none n c → c = 0) :
    (v = .slice none 0 0 ∧ l = []) ∨ ∃ b o c, v = .slice (some ⟨b, o, none⟩) l.length c ∧ ∀ j u, (bytesV l)[j]? = some u → w.cell? ⟨b, o + j, none⟩ = some u := by
  obtain ⟨_, A, c, rfl, _, _, h5, h6⟩ := h
  cases A with
  | none =>
    have h0 := h5 rfl
    have hc := hN _ _ rfl
    subst hc
    exact .inl ⟨by rw [h0], List.eq_nil_of_length_eq_zero h0⟩
  | some a =>
    obtain ⟨hsp, hcl⟩ := h6 a rfl
    obtain ⟨b, o, q⟩ := a
    simp only at hsp
    subst hsp
    exact .inr ⟨b, o, c, rfl, hcl⟩
theorem OwnT.part {w : World} {base : Nat} {v : Value} {l : B} (h : OwnT w base 5 v l) : Part w (v, l) := by
  refine ⟨h.rd, fun n c e => ?_⟩
  obtain ⟨g, cap, cur, fz, hv, _⟩ := h
  simp only at e
  rw [hv] at e
  cases e
theorem run_appendTB {P : Program} (w : World) (base : Nat) (t ty : TypeId) (hrow : Row P t 5 (.int .u8 0) 1 1)
    (v : Value) (l : B) (hown : OwnT w base 5 v l) (sv : Value) (m : B) (hS : Part w (sv, m)) (hbytes : l.length + m.length ≤ 140737488355328) (hbase : base ≤ w.heap.size) :
    ∃ v' w', (Builtin.append_ #[t, t] ty #[v, sv]).run P w = .ok v' w' ∧ OwnT w' base 5 v' (l ++ m) ∧ w.grownBy w' v.ownBlock ∧ Lies w v v' := by
  obtain ⟨ht, ⟨i, hi, hz, hsize, hby⟩, hzs, hsz, hbz⟩ := hrow
  obtain ⟨g, cap, cur, fz, rfl, hbg, hg, hfz, hnc, hcm, hcs, htake⟩ := hown
  have hxl : (bytesV l).length = l.length := bytesV_len l
  have hml : (bytesV m).length = m.length := bytesV_len m
  have hlen : (l ++ m).length = l.length + m.length := List.length_append
  rcases own_partU hS.1 hS.2 with ⟨h1, h2⟩ | ⟨b, of, c, h1, hc⟩
  · have h1' : sv = .slice none 0 0 := h1
    have h2' : m = [] := h2
    subst h1' h2'
    refine ⟨.slice (some ⟨g, 0, none⟩) l.length cap, w, ?_, ⟨g, cap, cur, fz, by rw [List.append_nil], hbg, hg, hfz, by rw [List.append_nil]; exact hnc, hcm, hcs, by rw [List.append_nil]; exact htake⟩, ⟨rfl, rfl, rfl, Nat.le_refl _, fun _ _ _ => rfl⟩, fun k hk => .inl hk⟩
    simp [Builtin.append_, run_underlying ht, sizeOf, typeInfo, hi, hsize, Builtin.lenOf, hnc, Builtin.firstCells, storeCells]
  · have h1' : sv = .slice (some ⟨b, of, none⟩) m.length c := h1
    subst h1'
    have hm : ∀ j u, (bytesV m)[j]? = some u → w.cell? ((⟨b, of, none⟩ : Addr).add j) = some u := fun j u hj => by
      rw [show (⟨b, of, none⟩ : Addr).add j = ⟨b, of + j, none⟩ by unfold Addr.add; split <;> simp_all]
      exact hc j u hj
    by_cases hroom : l.length + m.length ≤ cap
    · have hf := run_firstCells_some (P := P) (w := w) 1 m.length ⟨b, of, none⟩ m.length c (bytesV m) (by rw [hml]; simp) hm
      have hst := run_storeT P g 5 fz cap hfz (bytesV m) l.length 0 cur w hg hcs (by rw [hml]; omega) (oneCell_bytes m)
      simp only [Nat.add_zero, hml] at hst
      have hr : (Builtin.append_ #[t, t] ty #[.slice (some ⟨g, 0, none⟩) l.length cap, .slice (some ⟨b, of, none⟩) m.length c]).run P w = .ok (.slice (some ⟨g, 0, none⟩) (l.length + m.length) cap) (w.setRow g (cur.toList.take l.length ++ bytesV m ++ cur.toList.drop (l.length + m.length)).toArray) := by
        simp [Builtin.append_, run_underlying ht, sizeOf, typeInfo, hi, hsize, Builtin.lenOf, hroom, hf, Addr.add_lit, hst]
      refine ⟨_, _, hr, ⟨g, cap, _, fz, by rw [hlen], hbg, setRow_heap w g cur _ _ _ hg, hfz, by rw [hlen]; exact hroom, hcm, ?_, ?_⟩, ⟨rfl, rfl, rfl, by simp, fun k _ hk => setRow_other w g k _ (fun e => hk (by simp [Value.ownBlock, e]))⟩, fun k hk => .inl hk⟩
      · simp only [List.size_toArray, List.length_append, List.length_take, List.length_drop, Array.length_toList, hml]
        omega
      · rw [htake, bytesV_append]
        show ((bytesV l ++ bytesV m ++ _).take _) = _
        rw [List.take_left' (by rw [List.length_append, hxl, hml, hlen])]
    · have holds : ∀ j u, (bytesV l)[j]? = some u → w.cell? ((⟨g, 0, none⟩ : Addr).add j) = some u := fun j u hj => by
        have hlt := (List.getElem?_eq_some_iff.1 hj).1
        rw [hxl] at hlt
        rw [show (⟨g, 0, none⟩ : Addr).add j = ⟨g, j, none⟩ by unfold Addr.add; split <;> simp_all, Lib.cell_of_heap hg]
        rw [← htake, List.getElem?_take_of_lt hlt, Array.getElem?_toList] at hj
        exact hj
      have h63 : l.length + m.length ≤ maxLen := by unfold maxLen; omega
      have hr := run_append_grow (P := P) w t ty 5 i (.int .u8 0) ht hi hz ⟨g, 0, none⟩ l.length cap (bytesV l) (by rw [hsize, hxl, Nat.mul_one]) holds ⟨b, of, none⟩ m.length c (bytesV m) (by rw [hsize, hml, Nat.mul_one]) hm (by omega) (by omega) (by rw [hby]; exact growslice_fits (by omega) (by omega))
      have hge := grownCap_ge w (l.length + m.length) cap 5
      have hcm2 : grownCap w (l.length + m.length) cap 5 ≤ maxLen := grownCap_le_maxLen w (l.length + m.length) cap 5 h63
      refine ⟨_, _, hr, ⟨w.heap.size, _, _, (0, 0), by rw [hlen], hbase, heap_alloc_new w.drew _, .inl rfl, by rw [hlen]; exact hge, hcm2, ?_, ?_⟩, ⟨rfl, rfl, rfl, by simp, fun k hk _ => heap_alloc_old w.drew _ hk⟩, fun k hk => .inr (by cases hk; exact Nat.le_refl _)⟩
      · have hz1 : (Value.int IntKind.u8 0).cells.size = 1 := rfl
        simp only [Array.size_append, List.size_toArray, size_zeroCells, hz1, hxl, hml]
        omega
      · simp only [Array.toList_append, List.append_assoc]
        rw [bytesV_append, ← List.append_assoc, List.take_left' (by rw [List.length_append, hxl, hml, hlen])]
/-- 'append(b, x...)', x bytes that lie somewhere, b what '[]byte(s)' made. -/
theorem wpList_appendTB {P : Program} (w : World) {ops : Array Oper} {rest : List Oper} {o : Oper} {a : Act} {Q : Exit → Act → World → Prop} (hgd : o.guard = none) (sl x : Operand) (t : TypeId)
    (ho : o.op = .call { callee := .builtin .append, args := #[sl, x], argTypes := #[t, t] })
    (base : Nat) (hrow : Row P t 5 (.int .u8 0) 1 1)
    (v : Value) (l : B) (hs : a.eval sl = v) (hown : OwnT w base 5 v l) (sv : Value) (m : B) (hx : a.eval x = sv) (hS : Part w (sv, m))
    (hbytes : l.length + m.length ≤ 140737488355328) (hbase : base ≤ w.heap.size)
    (h : ∀ v' w', OwnT w' base 5 v' (l ++ m) → Below base w w' → wpList P ops Q rest (a.put o.dst v') w') : wpList P ops Q (o :: rest) a w := by
  refine wpList_plain hgd fun K hK => ?_
  obtain ⟨v', w', hr, h2, h3, h4⟩ := run_appendTB (P := P) w base t o.type hrow v l hown sv m hS hbytes hbase
  unfold Oper.wp execOp
  simp only [ho, resolve, invoke, builtin, Sem.run_bind, Sem.run_pure, Result.andThen_ok, List.map_toArray, List.map_cons, List.map_nil, hs, hx, hr]
  exact hK _ _ (h v' w' h2 ((Below.refl base w).grown h3 hbase fun k hk => (hown.lt k hk).1))
theorem step_appendTB {P : Program} {w : World} {ops : Array Oper} {o : Oper} {a : Act} {K : Act → World → Prop} {Q : Exit → Act → World → Prop} {E : Prop} (hgd : o.guard = none) (sl x : Operand) (t : TypeId)
    (ho : o.op = .call { callee := .builtin .append, args := #[sl, x], argTypes := #[t, t] })
    (base : Nat) (hrow : Row P t 5 (.int .u8 0) 1 1)
    (v : Value) (l : B) (hs : a.eval sl = v) (hown : OwnT w base 5 v l) (sv : Value) (m : B) (hx : a.eval x = sv) (hS : Part w (sv, m))
    (hbytes : l.length + m.length ≤ 140737488355328) (hbase : base ≤ w.heap.size)
    (h : ∀ v' w', OwnT w' base 5 v' (l ++ m) → Below base w w' → K (a.put o.dst v') w') :
    if Region.wanted o (yielded ops a.tmps) = true then Oper.wp P o a w K Q else E := by
  have hw : Region.wanted o (yielded ops a.tmps) = true := by simp [Region.wanted, hgd]
  rw [if_pos hw]
  obtain ⟨v', w', hr, h2, h3, h4⟩ := run_appendTB (P := P) w base t o.type hrow v l hown sv m hS hbytes hbase
  unfold Oper.wp execOp
  simp only [ho, resolve, invoke, builtin, Sem.run_bind, Sem.run_pure, Result.andThen_ok, List.map_toArray, List.map_cons, List.map_nil, hs, hx, hr]
  exact h v' w' h2 ((Below.refl base w).grown h3 hbase fun k hk => (hown.lt k hk).1)
end Go.Proofs.YtgdelmkgdfhdpaaGreatDoor
namespace Go.Proofs.YtgdelmkgdfhdpaaGreatDoor
open Go.RowKit
set_option linter.unusedVariables false
set_option linter.unusedSimpArgs false
set_option maxRecDepth 100000

/-- An answer's cells. -/
def AC (w : World) (b : Nat) (s : Int) (Hv Bv : Value) : Prop := w.heap[b]? = some (.cells #[.int .i64 s, Hv, Bv] 25 (0, 0))
theorem AC.cell {w : World} {b : Nat} {s : Int} {Hv Bv : Value} (h : AC w b s Hv Bv) (i : Nat) : w.cell? ⟨b, i, none⟩ = #[Value.int .i64 s, Hv, Bv][i]? := by rw [Lib.cell_of_heap h]
theorem AC.c0 {w : World} {b : Nat} {s : Int} {Hv Bv : Value} (h : AC w b s Hv Bv) : w.cell? ⟨b, 0, none⟩ = some (.int .i64 s) := h.cell 0
theorem AC.c1 {w : World} {b : Nat} {s : Int} {Hv Bv : Value} (h : AC w b s Hv Bv) : w.cell? ⟨b, 1, none⟩ = some Hv := h.cell 1
theorem AC.c2 {w : World} {b : Nat} {s : Int} {Hv Bv : Value} (h : AC w b s Hv Bv) : w.cell? ⟨b, 2, none⟩ = some Bv := h.cell 2
theorem AC.lt {w : World} {b : Nat} {s : Int} {Hv Bv : Value} (h : AC w b s Hv Bv) : b < w.heap.size := (Array.getElem?_eq_some_iff.1 h).1
theorem AC.touch {F : Nat → Prop} {w w' : World} {b : Nat} {s : Int} {Hv Bv : Value} (h : AC w b s Hv Bv) (ht : Touch F w w') (hf : ¬ F b) : AC w' b s Hv Bv := by unfold AC; rw [ht.block b h.lt hf]; exact h
theorem AC.below {w w' : World} {b : Nat} {s : Int} {Hv Bv : Value} (h : AC w b s Hv Bv) (hb : Below w.heap.size w w') : AC w' b s Hv Bv := h.touch (.of_below (F := fun _ => False) hb) id
theorem AC.fz {w : World} {b : Nat} {s : Int} {Hv Bv : Value} (h : AC w b s Hv Bv) (i : Nat) : w.frozen? ⟨b, i, none⟩ = false := Lib.frozen_of_heap h i
theorem AC.set1 {w : World} {b : Nat} {s : Int} {Hv Bv : Value} (h : AC w b s Hv Bv) (u : Value) : AC (w.setCell ⟨b, 1, none⟩ u) b s u Bv := heap_set_own h 1 _
theorem AC.set2 {w : World} {b : Nat} {s : Int} {Hv Bv : Value} (h : AC w b s Hv Bv) (u : Value) : AC (w.setCell ⟨b, 2, none⟩ u) b s Hv u := heap_set_own h 2 _
theorem AC.set0 {w : World} {b : Nat} {s : Int} {Hv Bv : Value} (h : AC w b s Hv Bv) (u : Int) : AC (w.setCell ⟨b, 0, none⟩ (.int .i64 u)) b u Hv Bv := heap_set_own h 0 _
theorem AC.under {n : Nat} {w w' : World} {b : Nat} {s : Int} {Hv Bv : Value} (h : AC w b s Hv Bv) (hb : Below n w w') (hlt : b < n) : AC w' b s Hv Bv := by unfold AC; rw [hb.block b hlt]; exact h
/-- An answer that came in. -/
def AnsP (w : World) (s : Int) (hs : List (B × B)) (b : B) (v : Value) : Prop := ∃ Hv Bv, v = .agg #[.int .i64 s, Hv, Bv] ∧ Rd w 2 Hv hs.length (pairs hs) ∧ Part w (Bv, b)
theorem AnsP.below {w w' : World} {s : Int} {hs : List (B × B)} {b : B} {v : Value} (h : AnsP w s hs b v) (hb : Below w.heap.size w w') : AnsP w' s hs b v := by
  obtain ⟨Hv, Bv, rfl, h1, h2⟩ := h
  exact ⟨_, _, rfl, h1.below hb, h2.below hb⟩
theorem AnsP.agg {w : World} {s : Int} {hs : List (B × B)} {b : B} {v : Value} (h : AnsP w s hs b v) : ∃ A n C d, v = .agg #[.int .i64 s, .slice A hs.length n, .slice C b.length d] ∧ Rd w 2 (.slice A hs.length n) hs.length (pairs hs) ∧ Part w (.slice C b.length d, b) := by
  obtain ⟨Hv, Bv, rfl, h1, h2⟩ := h
  obtain ⟨A, n, rfl⟩ := h1.shape
  obtain ⟨C, d, hv⟩ := h2.1.shape
  have hv' : Bv = .slice C b.length d := hv
  subst hv'
  exact ⟨_, _, _, _, rfl, h1, h2⟩

theorem cloneH_any (hs : List (B × B)) (v : Value) (w : World) (hR : Rd w 2 v hs.length (pairs hs)) (hl : hs.length ≤ 4398046511104) :
    Calls Tryz.prog 8 #[v] w fun e w' => ∃ v', e = .returned v' ∧ w'.ownsRow w.heap.size 30 2 v' hs.length (pairs hs) ∧ Below w.heap.size w w' := by
  obtain ⟨hlen, A, c, rfl, hcap, hmax, hnone, hsome⟩ := hR
  have q22 : ∀ (w : World) (a : Option Addr) (n c n' c' : Nat), (binOp .eql 22 (.slice a n c) (.slice none n' c')).run Tryz.prog w = .ok (.bool a.isNone) w := fun w a n c n' c' => Lib.run_eql_slice_nil w _ _ a n c n' c' Tryz.underlying22
  cases A with
  | none =>
    have h0 := hnone rfl
    have hl0 := List.eq_nil_of_length_eq_zero h0
    subst hl0
    go_enter Tryz.func8, Tryz.ntmps8
    go_wp2
    go_ret
    exact ⟨_, rfl, World.ownsRow_nil _ _ _ _, Below.refl _ _⟩
  | some a =>
    obtain ⟨hsp, hc⟩ := hsome a rfl
    obtain ⟨b, o, q⟩ := a
    simp only at hsp
    subst hsp
    have Hc := Lib.hid hc
    have hpl : (pairs hs).length = hs.length * 2 := pairs_len hs
    have hone : ∀ u ∈ pairs hs, u.oneCell' = true := by
      intro u hu
      simp [pairs] at hu
      obtain ⟨a, b, _, rfl | rfl⟩ := hu <;> rfl
    obtain ⟨htu, ⟨i0, hi, hz, hsize, hby⟩, hzs, hsz, hbz⟩ := rowH
    have HPL := Lib.hid hpl
    clear hc hpl
    go_enter Tryz.func8, Tryz.ntmps8
    go_wp2_with (at_builtin; refine wpList_append_own _ rfl _ _ 22 rfl w.heap.size 30 i0 _ 2 32 htu hi hz hsize hby hzs hsz _ _ _ rfl (World.ownsRow_made w #[] 0 (Nat.le_refl _) (Nat.zero_le _) (by simp)) ⟨b, o, none⟩ hs.length c (pairs hs) rfl HPL.out ?qc2 hone ?qc4 ?qc5 ?qc6 ?_)
    case qc2 =>
      intro j u hj
      exact keeps_alloc (Hc.out j u hj) _
    case qc4 => unfold maxLen; omega
    case qc5 => omega
    intro v' w1 hown hgrow hnil
    go_wp2
    go_ret
    refine ⟨v', rfl, by simpa using hown, ?_⟩
    exact ((Below.refl _ w).alloc (Nat.le_refl _) _).grown hgrow (by simp) (by intro k hk; simp [Value.ownBlock] at hk; omega)

set_option maxHeartbeats 4000000 in
theorem sent_any (hs : List (B × B)) (v : Value) (w : World) (hR : Rd w 2 v hs.length (pairs hs)) (hl : (linesH hs).length ≤ 1099511627776) :
    Calls Tryz.prog 27 #[v] w fun e w' => e = .returned (.string (ofL (linesH hs))) ∧ BL w w' := by
  have HR := Lib.hid hR
  obtain ⟨A, c, rfl⟩ := hR.shape
  have hm := linesH_many hs
  clear hR
  go_enter Tryz.func27, Tryz.ntmps27
  go_wp2_with fail
  go_loopw [8, 3] (fun i o wr => ∃ (k : Nat) (C : B), k ≤ hs.length ∧ i = .int .i64 k ∧ o = .string (ofL C) ∧ Hid (C = linesH (hs.take k)) ∧ BL w wr) (fun i _ _ => hs.length - (intOf i).toNat)
  case atStart => exact ⟨0, [], Nat.zero_le _, rfl, rfl, (rfl : ([] : B) = linesH []), bl_refl _⟩
  case round =>
    obtain ⟨k, C, hk, rfl, rfl, HC, hr⟩ := hrel
    have Hr := Lib.hid hr
    by_cases hlt : k < hs.length
    · obtain ⟨h, hh⟩ : ∃ h, hs[k]? = some h := ⟨hs[k], List.getElem?_eq_getElem hlt⟩
      obtain ⟨b, o, rfl, hc1, hc2⟩ := (HR.out.below hr).pairAt hh
      have Hs := Lib.hid (linesH_snoc hh)
      have hle := linesH_le hs (k + 1)
      rw [Hs.out, List.length_append, ← HC.out] at hle
      have hlen : (lineH h).length = h.1.length + h.2.length + 4 := by simp [lineH]; omega
      have hz0 : (ofL C).size ≤ 1099511627776 := by rw [size_ofL]; omega
      have hz1 : (ofL h.1).size ≤ 1099511627776 := by rw [size_ofL]; omega
      have hz2 : (ofL h.2).size ≤ 1099511627776 := by rw [size_ofL]; omega
      have HE := Lib.hid (show ofL C ++ ofL h.1 ++ ⟨#[58, 32]⟩ ++ ofL h.2 ++ ⟨#[13, 10]⟩ = ofL (linesH (hs.take (k + 1))) by
        rw [Hs.out, ← HC.out]
        have e1 : (⟨#[58, 32]⟩ : ByteArray) = ofL [58, 32] := rfl
        have e2 : (⟨#[13, 10]⟩ : ByteArray) = ofL [13, 10] := rfl
        rw [e1, e2, ← ofL_append, ← ofL_append, ← ofL_append, ← ofL_append]
        simp [lineH])
      clear hh hle hlen hr
      go_wp2_with fail
      go_roundw
      case rel => exact ⟨k + 1, linesH (hs.take (k + 1)), by omega, by go_num, congrArg Value.string HE.out, (rfl : linesH (hs.take (k + 1)) = _), bl_alloc Hr.out _⟩
      case measure => simp [intOf]; omega
    · have hke : hs.length ≤ k := by omega
      have Hf := Lib.hid (show C = linesH hs by rw [HC.out, List.take_of_length_le hke])
      clear hr
      go_wp2_with fail
      go_ret
      exact ⟨by rw [Hf.out]; rfl, Hr.out⟩

set_option maxHeartbeats 4000000 in
theorem sameAns_any (s : Int) (hs : List (B × B)) (b : B) (v u : Value) (w : World) (hv : AnsP w s hs b v) (hu : AnsP w s hs b u) (hh : hs.length ≤ 1099511627776) :
    Calls Tryz.prog 13 #[v, u] w fun e w' => e = .returned (.bool true) ∧ BL w w' := by
  obtain ⟨A1, c1, B1, d1, rfl, hR1, hS1⟩ := hv.agg
  obtain ⟨A2, c2, B2, d2, rfl, hR2, hS2⟩ := hu.agg
  have HR1 := Lib.hid hR1
  have HR2 := Lib.hid hR2
  have HS1 := Lib.hid hS1
  have HS2 := Lib.hid hS2
  clear hR1 hR2 hS1 hS2 hv hu
  have e1 : (s == s) = true := by simp
  have e3 : ((ofL b).toList == (ofL b).toList) = true := by simp
  have hb2 : ∀ o o', Below w.heap.size w ((w.alloc o).alloc o') := fun o o' => ((Below.refl _ w).alloc (Nat.le_refl _) o).alloc (by simp) o'
  have HB2 := Lib.hid hb2
  have C := Lib.hid (fun o o' => sameHdr_any hs hs (.slice A1 hs.length c1) (.slice A2 hs.length c2) ((w.alloc o).alloc o') ((HR1.out.alloc o).alloc o') ((HR2.out.alloc o).alloc o') (by unfold maxLen; omega) (by unfold maxLen; omega))
  have kc1 := fun o o' => conv_rd (P := Tryz.prog) 23 9 5 Tryz.underlying23 Tryz.underlying5 Tryz.underlying9 ((HS1.out.1.alloc o).alloc o')
  have kc2 := fun o o' => conv_rd (P := Tryz.prog) 23 9 5 Tryz.underlying23 Tryz.underlying5 Tryz.underlying9 ((HS2.out.1.alloc o).alloc o')
  clear hb2
  go_enter Tryz.func13, Tryz.ntmps13
  go_wp2_with fail
  refine (C.out _ _).mono ?_
  rintro e w4 ⟨rfl, hb4⟩
  go_wp2_with fail
  go_ret
  exact ⟨by simp, (HB2.out _ _).next hb4⟩
end Go.Proofs.YtgdelmkgdfhdpaaGreatDoor
namespace Go.Proofs.YtgdelmkgdfhdpaaGreatDoor
open Go.RowKit
set_option linter.unusedVariables false
set_option linter.unusedSimpArgs false
set_option maxRecDepth 100000

/-- The table that strconv.Itoa reads. -/
def Tab10 (w : World) : Prop := Lib.TabIs Tryz.prog w "internal/strconv.uint64pow10" .u64 Lib.pow10Tab
theorem Tab10.next {w w' : World} (h : Tab10 w) (hb : Below w.heap.size w w') : Tab10 w' := by
  unfold Tab10 Lib.TabIs World.var? at *
  cases hg : Tryz.prog.globalNamed "internal/strconv.uint64pow10" with
  | none => simp [hg] at h
  | some g =>
    simp only [hg, Option.bind_some] at h ⊢
    have hlt : g < w.heap.size := by
      rcases Nat.lt_or_ge g w.heap.size with h' | h'
      · exact h'
      · rw [Array.getElem?_eq_none h'] at h; simp at h
    rw [hb.block g hlt]
    exact h
theorem itoa_any (n : Nat) (hn : n < 4611686018427387904) (w : World) (hT : Tab10 w) :
    Calls Tryz.prog 22 #[.int .i64 n] w fun e w' => e = .returned (.string (ofL (Lib.decDigits n))) ∧ BL w w' := by
  have CI := Tryz.strconv_Itoa (n : Int) (by omega) (by omega) w hT
  rw [Lib.itoa_nonneg] at CI
  refine CI.mono ?_
  rintro e w1 ⟨rfl, kn, os, hw1⟩
  exact ⟨rfl, by rw [hw1]; exact Lib.below_grow _ _ (Nat.le_refl _) _ _⟩
theorem bodiless_any (s : Int) (w : World) : Calls Tryz.prog 21 #[.int .i64 s] w fun e w' => e = .returned (.bool (s == 101)) ∧ w = w' := by
  go_enter Tryz.func21, Tryz.ntmps21
  go_wp2_with fail
  go_ret
  exact ⟨rfl, rfl⟩

/-- The headers that are sent, an answer's head. -/
def moreH (s : Int) (hs : List (B × B)) (n : Nat) : List (B × B) := if s = 101 then hs else hs ++ [(clN, Lib.decDigits n)]
def headA (s : Int) (hs : List (B × B)) (n : Nat) : B := firstA s.toNat ++ [13, 10] ++ linesH (moreH s hs n)
def okH (hs : List (B × B)) : Bool := hs.all fun h => writtenL h.1 h.2
/-- What Write tells. -/
def writeE (s : Int) (hs : List (B × B)) (b : B) : Nat × B :=
  if reasonL s = [] then (1, [])
  else if okH hs = false then (80, [])
  else if 32 ≤ hs.length then (80, [])
  else if 32768 < b.length ∨ (s = 101 ∧ 0 < b.length) then (81, [])
  else if 8194 < (headA s hs b.length).length then (4, [])
  else (0, headA s hs b.length ++ [13, 10] ++ b)
def WroteIs (x : Nat × B) (e : Ending) (w : World) : Prop := ∃ v, e = .returned (.tuple #[v, .int .i64 x.1]) ∧ Part w (v, x.2)
theorem part_nil (w : World) : Part w (.slice none 0 0, []) := ⟨⟨rfl, none, 0, rfl, Nat.le_refl _, Nat.zero_le _, fun _ => rfl, fun a ha => by cases ha⟩, fun n c h => by cases h; rfl⟩
theorem wrote_nil (w : World) (n : Nat) : WroteIs (n, []) (.returned (.tuple #[.slice none 0 0, .int .i64 n])) w := ⟨_, rfl, part_nil w⟩
theorem reason_some {s : Int} (h : reasonL s ≠ []) : ∃ n : Nat, s = n ∧ 101 ≤ n ∧ n ≤ 507 := by
  unfold reasonL at h
  cases hf : wordsT.find? (fun p => p.1 == s) with
  | none => rw [hf] at h; exact absurd rfl h
  | some p =>
    have hm := List.mem_of_find?_eq_some hf
    have hs := List.find?_some hf
    simp only [beq_iff_eq] at hs
    have : ∀ p ∈ wordsT, 101 ≤ p.1 ∧ p.1 ≤ 507 := by decide +kernel
    have := this p hm
    rw [hs] at this
    exact ⟨s.toNat, by omega, by omega, by omega⟩
theorem ok_take {hs : List (B × B)} {k : Nat} {h : B × B} (hk : hs[k]? = some h) (ho : okH (hs.take k) = true) : okH (hs.take (k + 1)) = writtenL h.1 h.2 := by
  unfold okH at *
  rw [List.take_add_one, hk, List.all_append, ho]
  simp
theorem ok_not {hs : List (B × B)} {k : Nat} {h : B × B} (hk : hs[k]? = some h) (hf : writtenL h.1 h.2 = false) : okH hs = false := by
  unfold okH
  rw [List.all_eq_false]
  exact ⟨h, List.mem_of_getElem? hk, by rw [hf]; simp⟩
theorem linesH_app (a b : List (B × B)) : linesH (a ++ b) = linesH a ++ linesH b := by unfold linesH; rw [List.flatMap_append]
theorem linesH_one (h : B × B) : linesH [h] = lineH h := by simp [linesH]
theorem linesH_len {hs : List (B × B)} {k : Nat} {h : B × B} (hk : hs[k]? = some h) : h.1.length + h.2.length + 4 ≤ (linesH hs).length := by
  have h1 := linesH_snoc hk
  have h2 := linesH_le hs (k + 1)
  rw [h1, List.length_append] at h2
  have : (lineH h).length = h.1.length + h.2.length + 4 := by simp [lineH]; omega
  omega
theorem first_len (n : Nat) (hn : n < 1000000000) : (firstA n).length ≤ 60 := by
  unfold firstA
  have h1 := dec_lenC n 8 (by omega)
  have h2 := reason_len n
  have h3 : httpL.length = 9 := rfl
  simp only [List.length_append, List.length_singleton, h3]
  omega
theorem moreH_len (s : Int) (hs : List (B × B)) (n : Nat) (hn : n < 1000000000) : (linesH (moreH s hs n)).length ≤ (linesH hs).length + 40 := by
  unfold moreH
  split
  · omega
  · have h1 := dec_lenC n 8 (by omega)
    rw [linesH_app, linesH_one, List.length_append]
    have : clN.length = 14 := rfl
    simp [lineH]; omega

/-- The head's text, as the program makes it. -/
theorem head_text (s : Nat) (r : B) (hr : reasonL s = r) : ((⟨#[72, 84, 84, 80, 47, 49, 46, 49, 32]⟩ ++ ofL (Lib.decDigits s) ++ ⟨#[32]⟩ ++ ofL r ++ ⟨#[13, 10]⟩ : ByteArray)).toList = firstA s ++ [13, 10] := by
  have e1 : (⟨#[72, 84, 84, 80, 47, 49, 46, 49, 32]⟩ : ByteArray) = ofL httpL := rfl
  have e2 : (⟨#[32]⟩ : ByteArray) = ofL [32] := rfl
  have e3 : (⟨#[13, 10]⟩ : ByteArray) = ofL [13, 10] := rfl
  rw [e1, e2, e3, ← ofL_append, ← ofL_append, ← ofL_append, ← ofL_append, toL_ofL]
  unfold firstA
  rw [hr]
theorem concat3 (W : World) (e1 e2 e3 : Value) (l1 l2 l3 : B) (g : Nat) (hg : g = W.heap.size) (h1 : Part (W.alloc (.cells #[e1, e2, e3] 23)) (e1, l1)) (h2 : Part (W.alloc (.cells #[e1, e2, e3] 23)) (e2, l2))
    (h3 : Part (W.alloc (.cells #[e1, e2, e3] 23)) (e3, l3)) (hl : (l1 ++ l2 ++ l3).length ≤ 140737488355328) :
    Calls Tryz.prog 17 #[.slice (some ⟨g, 0, none⟩) 3 3] (W.alloc (.cells #[e1, e2, e3] 23)) fun e w' => ∃ v, e = .returned v ∧ OwnB w' (W.alloc (.cells #[e1, e2, e3] 23)).heap.size v (l1 ++ l2 ++ l3) ∧ Below (W.alloc (.cells #[e1, e2, e3] 23)).heap.size (W.alloc (.cells #[e1, e2, e3] 23)) w' := by
  subst hg
  have hf : flatP [(e1, l1), (e2, l2), (e3, l3)] = l1 ++ l2 ++ l3 := by simp [flatP]
  refine (concat_any W.heap.size 3 [(e1, l1), (e2, l2), (e3, l3)] _ ?_ (by rw [hf]; exact hl) (by simp)).mono ?_
  · intro j p hj
    match j with
    | 0 => simp at hj; subst hj; exact ⟨by simp, h1⟩
    | 1 => simp at hj; subst hj; exact ⟨by simp, h2⟩
    | 2 => simp at hj; subst hj; exact ⟨by simp, h3⟩
    | j + 3 => simp at hj
  · rintro e w' ⟨v, rfl, ho, hb⟩
    rw [hf] at ho
    exact ⟨v, rfl, ho, hb⟩
end Go.Proofs.YtgdelmkgdfhdpaaGreatDoor
