/- A sharp frame (what a call may write), and WriteByte with it. Conditions: none. -/
import Derived.Test.YtmhgnaemafohfaaGreatDoorLibA
import Derived.Deep.Onto
import Derived.Deep.Heap
namespace Go.Proofs.YtmhgnaemafohfaaGreatDoor
open Go.RowKit
set_option linter.unusedVariables false
set_option linter.unusedSimpArgs false
set_option maxRecDepth 100000

/-- Only blocks of F are written, or new ones. -/
structure Touch (F : Nat → Prop) (w w' : World) : Prop where
  os : w'.os = w.os
  tape : w'.tape = w.tape
  output : w'.output = w.output
  size : w.heap.size ≤ w'.heap.size
  block : ∀ k, k < w.heap.size → ¬ F k → w'.heap[k]? = w.heap[k]?

theorem Touch.refl (F : Nat → Prop) (w : World) : Touch F w w := ⟨rfl, rfl, rfl, Nat.le_refl _, fun _ _ _ => rfl⟩
theorem Touch.trans {F : Nat → Prop} {a b c : World} (h : Touch F a b) (k : Touch F b c) : Touch F a c :=
  ⟨k.os.trans h.os, k.tape.trans h.tape, k.output.trans h.output, Nat.le_trans h.size k.size, fun i hi hf => (k.block i (Nat.lt_of_lt_of_le hi h.size) hf).trans (h.block i hi hf)⟩
theorem Touch.mono {F G : Nat → Prop} {a b : World} (h : Touch F a b) (hg : ∀ k, k < a.heap.size → F k → G k) : Touch G a b :=
  ⟨h.os, h.tape, h.output, h.size, fun i hi hf => h.block i hi (fun k => hf (hg i hi k))⟩
theorem Touch.of_below {F : Nat → Prop} {a b : World} (h : Below a.heap.size a b) : Touch F a b := ⟨h.os, h.tape, h.output, h.size, fun i hi _ => h.block i hi⟩
theorem Touch.below {F : Nat → Prop} {B : Nat} {a b : World} (h : Touch F a b) (hB : ∀ k, k < B → ¬ F k) (hs : B ≤ a.heap.size) : Below B a b :=
  ⟨h.os, h.tape, h.output, h.size, fun k hk => h.block k (Nat.lt_of_lt_of_le hk hs) (hB k hk)⟩
theorem Touch.next {F : Nat → Prop} {a b c : World} (h : Touch F a b) (k : Below b.heap.size b c) : Touch F a c := h.trans (.of_below k)
theorem Touch.setCell {F : Nat → Prop} {a w : World} (h : Touch F a w) {p : Addr} (hp : F p.block) (u : Value) : Touch F a (w.setCell p u) := by
  refine h.trans ?_
  have hb := (Below.refl p.block w).setCell (p := p) (Nat.le_refl _) u
  refine ⟨hb.os, hb.tape, hb.output, hb.size, fun k hk hf => ?_⟩
  have hne : k ≠ p.block := fun e => hf (e ▸ hp)
  exact Go.Deep.blk_setCell_other w p u k hne
theorem Touch.grown {F : Nat → Prop} {a w w' : World} {row : Option Nat} (h : Touch F a w) (hg : w.grownBy w' row) (hr : ∀ k, row = some k → F k) : Touch F a w' :=
  h.trans ⟨hg.os, hg.tape, hg.output, hg.size, fun k hk hf => hg.block k hk (fun e => hf (hr k e.symm))⟩
theorem Touch.cell {F : Nat → Prop} {a b : World} (h : Touch F a b) {p : Addr} (hp : p.block < a.heap.size) (hf : ¬ F p.block) : b.cell? p = a.cell? p := World.cell?_of_block (h.block _ hp hf)
theorem own_touch {F : Nat → Prop} {w w' : World} {base : Nat} {e : TypeId} {size : Nat} {v : Value} {n : Nat} {xs : List Value} (h : w.ownsRow base e size v n xs) (ht : Touch F w w')
    (hf : ∀ k, v.ownBlock = some k → ¬ F k) : w'.ownsRow base e size v n xs := by
  rcases h.2 with ⟨rfl, rfl⟩ | ⟨g, cap, cur, rfl, hb, hg, hc, hm, hs, htk⟩
  · exact ⟨h.1, .inl ⟨rfl, rfl⟩⟩
  · refine ⟨h.1, .inr ⟨g, cap, cur, rfl, hb, ?_, hc, hm, hs, htk⟩⟩
    rw [ht.block g (by exact (Array.getElem?_eq_some_iff.1 hg).1) (hf g rfl)]; exact hg
theorem rd_touch {F : Nat → Prop} {w w' : World} {size : Nat} {v : Value} {n : Nat} {cs : List Value} (h : Rd w size v n cs) (ht : Touch F w w')
    (hf : ∀ a n c, v = .slice (some a) n c → ¬ F a.block) : Rd w' size v n cs := by
  obtain ⟨h1, A, c, rfl, h3, h4, h5, h6⟩ := h
  refine ⟨h1, A, c, rfl, h3, h4, h5, fun a ha => ⟨(h6 a ha).1, fun j u hj => ?_⟩⟩
  subst ha
  have hc := (h6 a rfl).2 j u hj
  rw [ht.cell (p := ⟨a.block, a.off + j, none⟩) (lt_of_cell hc) (hf a n c rfl)]; exact hc

/-- A builder: its block, what it holds, where its row may lie. -/
def Bld (w : World) (b B : Nat) (l : List Value) : Prop :=
  ∃ p v, (p = .pointer none ∨ p = .pointer (some ⟨b, 0, none⟩)) ∧ w.heap[b]? = some (.cells #[p, v] 140 (0, 0)) ∧ w.ownsRow B 5 1 v l.length l
theorem Bld.is {w : World} {b B B0 : Nat} {l : List Value} (h : Bld w b B l) (h0 : B0 ≤ b) (hB : b < B) : Lib.IsBuilder 140 5 B0 b l w := by
  obtain ⟨p, v, hp, hb, hown⟩ := h
  have hat : Lib.BuilderAt 140 5 B0 b p l w := ⟨h0, v, hb, hown.mono (by omega), fun e => by have := (hown.lt _ e).1; omega⟩
  rcases hp with rfl | rfl
  · exact .inl hat
  · exact .inr hat
theorem Bld.new (w : World) (B : Nat) : Bld (w.alloc (.cells #[.pointer none, .slice none 0 0] 140)) w.heap.size B [] :=
  ⟨_, _, .inl rfl, heap_alloc_new w _, World.ownsRow_nil _ _ _ _⟩
theorem Bld.below {w w' : World} {b B : Nat} {l : List Value} (h : Bld w b B l) (hb : Below w.heap.size w w') : Bld w' b B l := by
  obtain ⟨p, v, hp, hk, hown⟩ := h
  exact ⟨p, v, hp, by rw [hb.block b (Array.getElem?_eq_some_iff.1 hk).1]; exact hk, own_below hown hb⟩

theorem heap_set_own {w : World} {b : Nat} {cs : Array Value} {t : TypeId} {fz : Nat × Nat} (h : w.heap[b]? = some (.cells cs t fz)) (i : Nat) (u : Value) :
    (w.setCell ⟨b, i, none⟩ u).heap[b]? = some (.cells (cs.set! i u) t fz) := by
  simp only [World.setCell, Array.getElem?_modify, h, if_true, Option.map_some]; rfl

set_option maxHeartbeats 2000000 in
theorem writeByte_sharp (b B : Nat) (l : List Value) (c : Int) (w : World) (h : Bld w b B l) (hB : b < B) (hl : l.length + 1 ≤ 140737488355328) (hBw : B ≤ w.heap.size) :
    Calls Tryz.prog 100 #[.pointer (some ⟨b, 0, none⟩), .int .u8 c] w fun e w' => e = .returned .nilIface ∧ Bld w' b B (l ++ [.int .u8 c]) ∧ Touch (fun k => k = b ∨ B ≤ k) w w' := by
  have hcc : Calls Tryz.prog 117 #[.pointer (some ⟨b, 0, none⟩)] w fun e w' => e = .returned (.tuple #[]) ∧ (∃ v, w'.heap[b]? = some (.cells #[.pointer (some ⟨b, 0, none⟩), v] 140 (0, 0)) ∧ w'.ownsRow B 5 1 v l.length l) ∧ Touch (fun k => k = b ∨ B ≤ k) w w' := by
    obtain ⟨p, v, hp, hb, hown⟩ := h
    rcases hp with rfl | rfl
    · refine (Any.Builder_copyCheck_fresh { lays167 with } extra167.toX72 b w (by rw [Lib.cell_of_heap hb]; rfl) (by simp [World.shape?, hb]; rfl) (Lib.frozen_of_heap hb 0)).mono ?_
      rintro e w' ⟨rfl, rfl⟩
      have ht := (Touch.refl (fun k => k = b ∨ B ≤ k) w).setCell (p := ⟨b, 0, none⟩) (.inl rfl) (.pointer (some ⟨b, 0, none⟩))
      refine ⟨rfl, ⟨v, by rw [heap_set_own hb]; rfl, ?_⟩, ht⟩
      exact own_touch hown ((Touch.refl (fun k => k = b) w).setCell (p := ⟨b, 0, none⟩) rfl _) fun k hk e => by have := (hown.lt _ hk).1; omega
    · refine (Any.Builder_copyCheck_used { lays167 with } extra167.toX72 b w (by rw [Lib.cell_of_heap hb]; rfl)).mono ?_
      rintro e w' ⟨rfl, rfl⟩
      exact ⟨rfl, ⟨v, hb, hown⟩, Touch.refl _ _⟩
  have Hcc := Lib.hid hcc
  clear hcc h
  obtain ⟨i0, hi, hz0, hz1, hz2⟩ := info_parts extra167.infoByte
  go_enter Tryz.func100, Tryz.ntmps100
  go_wp2_with (go_at_call 117; refine Hcc.out.mono ?_)
  rintro e w1 ⟨rfl, ⟨v, hbk, hown⟩, ht1⟩
  have c0 : w1.cell? ⟨b, 0, none⟩ = some (.pointer (some ⟨b, 0, none⟩)) := by rw [Lib.cell_of_heap hbk]; rfl
  have c1 : w1.cell? ⟨b, 1, none⟩ = some v := by rw [Lib.cell_of_heap hbk]; rfl
  have hsz1 := ht1.size
  have Hone : ∀ u ∈ [Value.int .u8 c], u.oneCell' = true := by intro u hu; simp at hu; subst hu; rfl
  go_wp2_with (at_builtin; refine wpList_push _ rfl _ _ 22 rfl B rowB _ _ _ rfl hown [.int .u8 c] w1.heap.size rfl rfl rfl Hone (by omega) (by omega) ?_)
  intro v' w2 hown' hgrow _ _
  have hlt : b < w1.heap.size := (Array.getElem?_eq_some_iff.1 hbk).1
  have hb2 : w2.heap[b]? = some (.cells #[.pointer (some ⟨b, 0, none⟩), v] 140 (0, 0)) := by
    rw [hgrow.block b (by simp; omega) (fun e => by have := (hown.lt b e.symm).1; omega), Lib.alloc_old w1 _ b hlt]
    exact hbk
  have d0 : w2.cell? ⟨b, 0, none⟩ = some (.pointer (some ⟨b, 0, none⟩)) := by rw [Lib.cell_of_heap hb2]; rfl
  have d1 : w2.cell? ⟨b, 1, none⟩ = some v := by rw [Lib.cell_of_heap hb2]; rfl
  have f1 : w2.frozen? ⟨b, 1, none⟩ = false := Lib.frozen_of_heap hb2 1
  obtain ⟨g, cap, rfl⟩ : ∃ g cap, v' = .slice (some ⟨g, 0, none⟩) (l.length + 1) cap := by
    rcases hown'.2 with ⟨_, h0⟩ | ⟨g, cap, cur, hv, _⟩
    · omega
    · exact ⟨g, cap, hv⟩
  go_wp2
  go_ret
  have hta := ((ht1.next ((Below.refl w1.heap.size w1).alloc (Nat.le_refl _) _)).grown hgrow (fun k hk => .inr (hown.lt k hk).1)).setCell (p := ⟨b, 1, none⟩) (.inl rfl) (.slice (some ⟨g, 0, none⟩) (l.length + 1) cap)
  refine ⟨rfl, ⟨_, _, .inr rfl, by rw [heap_set_own hb2]; rfl, ?_⟩, hta⟩
  rw [List.length_append]
  exact own_touch hown' ((Touch.refl (fun k => k = b) w2).setCell (p := ⟨b, 1, none⟩) rfl _) fun k hk e => by have := (hown'.lt _ hk).1; omega
end Go.Proofs.YtmhgnaemafohfaaGreatDoor
