/- What read (blotterlaw08) keeps between its calls. Conditions: none. -/
import Derived.Test.YtmhgnaemafohfaaGreatDoorPieB
namespace Go.Proofs.YtmhgnaemafohfaaGreatDoor
open Go.RowKit
set_option linter.unusedVariables false
set_option linter.unusedSimpArgs false
set_option maxRecDepth 100000

theorem seq_nil : seqL [] = ([], 1, []) := by
  have h : progParse [] = (noReq, 0, 1) := rfl
  rw [seqL, dif_neg (by rw [h]; decide), h]
theorem seq_stop {l : B} (h : (progParse l).2.2 ≠ 0) : seqL l = ([], (progParse l).2.2, l) := by rw [seqL, dif_neg h]
theorem seq_take {l : B} (h : (progParse l).2.2 = 0) : seqL l = ((progParse l).1 :: (seqL (l.drop (progParse l).2.1)).1, (seqL (l.drop (progParse l).2.1)).2) := by rw [seqL, dif_pos h]
/-- What is told. -/
def TC (w : World) (bt : Nat) (Lv : Value) (s : Int) : Prop := w.heap[bt]? = some (.cells #[Lv, .int .i64 s] 42 (0, 0))
theorem TC.cell {w : World} {bt : Nat} {Lv : Value} {s : Int} (h : TC w bt Lv s) (i : Nat) : w.cell? ⟨bt, i, none⟩ = #[Lv, .int .i64 s][i]? := by rw [Lib.cell_of_heap h]
theorem TC.c0 {w : World} {bt : Nat} {Lv : Value} {s : Int} (h : TC w bt Lv s) : w.cell? ⟨bt, 0, none⟩ = some Lv := h.cell 0
theorem TC.c1 {w : World} {bt : Nat} {Lv : Value} {s : Int} (h : TC w bt Lv s) : w.cell? ⟨bt, 1, none⟩ = some (.int .i64 s) := h.cell 1
theorem TC.fz {w : World} {bt : Nat} {Lv : Value} {s : Int} (h : TC w bt Lv s) (i : Nat) : w.frozen? ⟨bt, i, none⟩ = false := Lib.frozen_of_heap h i
theorem TC.lt {w : World} {bt : Nat} {Lv : Value} {s : Int} (h : TC w bt Lv s) : bt < w.heap.size := (Array.getElem?_eq_some_iff.1 h).1
theorem TC.touch {G : Nat → Prop} {w w' : World} {bt : Nat} {Lv : Value} {s : Int} (h : TC w bt Lv s) (ht : Touch G w w') (hf : ¬ G bt) : TC w' bt Lv s := by unfold TC; rw [ht.block bt h.lt hf]; exact h
theorem TC.set0 {w : World} {bt : Nat} {Lv : Value} {s : Int} (h : TC w bt Lv s) (u : Value) : TC (w.setCell ⟨bt, 0, none⟩ u) bt u s := heap_set_own h 0 _
theorem TC.set1 {w : World} {bt : Nat} {Lv : Value} {s : Int} (h : TC w bt Lv s) (u : Int) : TC (w.setCell ⟨bt, 1, none⟩ (.int .i64 u)) bt Lv u := heap_set_own h 1 _
theorem TC.not_own {w : World} {bt : Nat} {Lv : Value} {s : Int} (h : TC w bt Lv s) {base : Nat} {e : TypeId} {size : Nat} {v : Value} {n : Nat} {xs : List Value} (ho : w.ownsRow base e size v n xs)
    (he : e ≠ 42) : ∀ j, v.ownBlock = some j → j ≠ bt := by
  rintro j hj rfl
  obtain ⟨cs, hcs⟩ := own_elem ho hj
  unfold TC at h
  rw [h] at hcs
  simp only [Option.some.injEq, Obj.cells.injEq] at hcs
  exact he hcs.2.1.symm
/-- Requests and where their headers and bodies lie. -/
abbrev Told := List (Req × Value × Value)
def toldV (x : Req × Value × Value) : Value := .agg #[.string (ofL x.1.m), .string (ofL x.1.p), x.2.1, x.2.2]
def toldC (q : Told) : List Value := q.flatMap fun x => [.string (ofL x.1.m), .string (ofL x.1.p), x.2.1, x.2.2]
theorem toldC_snoc (q : Told) (x : Req × Value × Value) : toldC (q ++ [x]) = toldC q ++ [.string (ofL x.1.m), .string (ofL x.1.p), x.2.1, x.2.2] := by simp [toldC]
theorem toldC_len (q : Told) : (toldC q).length = q.length * 4 := by
  induction q with
  | nil => rfl
  | cons x q ih => have : toldC (x :: q) = [.string (ofL x.1.m), .string (ofL x.1.p), x.2.1, x.2.2] ++ toldC q := by simp [toldC]
                   rw [this, List.length_append, ih]; simp; omega
theorem toldC_at {q : Told} {i : Nat} {x : Req × Value × Value} (h : q[i]? = some x) : (toldC q)[i * 4]? = some (.string (ofL x.1.m)) ∧ (toldC q)[i * 4 + 1]? = some (.string (ofL x.1.p)) ∧ (toldC q)[i * 4 + 2]? = some x.2.1 ∧ (toldC q)[i * 4 + 3]? = some x.2.2 := by
  induction q generalizing i with
  | nil => simp at h
  | cons y q ih =>
    have e : toldC (y :: q) = .string (ofL y.1.m) :: .string (ofL y.1.p) :: y.2.1 :: y.2.2 :: toldC q := by simp [toldC]
    rw [e]
    cases i with
    | zero => simp at h; subst h; exact ⟨rfl, rfl, rfl, rfl⟩
    | succ i =>
      rw [List.getElem?_cons_succ] at h
      obtain ⟨a, b, c, d⟩ := ih h
      have k : (i + 1) * 4 = i * 4 + 4 := by omega
      rw [k]
      exact ⟨a, b, c, d⟩
/-- The parser, what it has told: all of one's own. -/
structure RS (w : World) (bp bt base : Nat) (q : Told) (Lv : Value) (s : Nat) (D : Nat → Prop) : Prop where
  tc : TC w bt Lv s
  ntc : ¬ D bt
  own : w.ownsRow base 27 4 Lv q.length (toldC q)
  nown : ∀ k, Lv.ownBlock = some k → ¬ D k
  free : ∀ x ∈ q, FreeReq w D x.1 (toldV x)
theorem FreeReq.grow {w w' : World} {D D' : Nat → Prop} {r : Req} {v : Value} (h : FreeReq w D r v) (hD : ∀ k, D' k → D k ∨ w.heap.size ≤ k) : FreeReq w D' r v := h.touch (Touch.refl (fun _ => False) w) (fun _ h => h.elim) hD
theorem RS.touch {w w' : World} {bp bt base s : Nat} {q : Told} {Lv : Value} {D D' : Nat → Prop} (h : RS w bp bt base q Lv s D) (ht : Touch D w w') (hD : ∀ k, D' k → D k ∨ w.heap.size ≤ k) : RS w' bp bt base q Lv s D' :=
  ⟨h.tc.touch ht h.ntc, fun e => (hD _ e).elim h.ntc (fun e => by have := h.tc.lt; omega), own_touch h.own ht h.nown, fun k hk e => (hD k e).elim (h.nown k hk) (fun e => by have := (h.own.lt k hk).2; omega), fun x hx => (h.free x hx).touch ht (fun _ h => h) hD⟩
theorem RS.row {w : World} {bp bt base s : Nat} {q : Told} {Lv : Value} {D : Nat → Prop} (h : RS w bp bt base q Lv s D) : ReqRow w Lv (q.map (·.1)) := by
  obtain ⟨_, A, c, h2, _, _, _, h6⟩ := rd_of_own h.own
  refine ⟨A, c, by rw [List.length_map]; exact h2, fun i r hi => ?_⟩
  rw [List.getElem?_map] at hi
  obtain ⟨x, hx, rfl⟩ := Option.map_eq_some_iff.1 hi
  obtain ⟨a, b, c', d⟩ := toldC_at hx
  obtain ⟨k, hk⟩ : ∃ k, A = some k := by
    cases A with
    | none =>
      rcases h.own.2 with ⟨h1, h0⟩ | ⟨g, cap, cur, h1, _⟩
      · have := (List.getElem?_eq_some_iff.1 hx).1; omega
      · rw [h1] at h2; cases h2
    | some k => exact ⟨k, rfl⟩
  obtain ⟨hsp, hc⟩ := h6 k hk
  obtain ⟨kb, ko, ks⟩ := k
  simp only at hsp
  subst hsp
  exact ⟨kb, ko, _, _, _, _, hk, hc _ _ a, by have := hc _ _ b; rwa [← Nat.add_assoc] at this, by have := hc _ _ c'; rwa [← Nat.add_assoc] at this, by have := hc _ _ d; rwa [← Nat.add_assoc] at this, (h.free x (List.mem_of_getElem? hx)).req⟩
end Go.Proofs.YtmhgnaemafohfaaGreatDoor
