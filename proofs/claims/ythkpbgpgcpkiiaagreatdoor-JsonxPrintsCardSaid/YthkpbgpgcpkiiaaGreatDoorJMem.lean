/- A sharp frame (what a call may write); bytes of a text. Conditions: none. -/
import Derived.Test.YthkpbgpgcpkiiaaGreatDoorShelf
import Derived.Test.YthkpbgpgcpkiiaaGreatDoorMem
import Derived.Deep.Onto
import Derived.Deep.Heap
namespace Go.Proofs.YthkpbgpgcpkiiaaGreatDoor
open Go.RowKit
set_option linter.unusedVariables false
set_option linter.unusedSimpArgs false
set_option maxRecDepth 100000

/-- Only blocks of F are written, or new ones. -/
structure Touch (F : Nat → Prop) (w w' : World) : Prop where
  os : w'.os = w.os
  tape : w'.tape = w.tape
  output : w'.output = w.output
  size : w.heap.size ≤ w'.heap.size
  block : ∀ k, k < w.heap.size → ¬ F k → w'.heap[k]? = w.heap[k]?

theorem Touch.refl (F : Nat → Prop) (w : World) : Touch F w w := ⟨rfl, rfl, rfl, Nat.le_refl _, fun _ _ _ => rfl⟩
theorem Touch.trans {F : Nat → Prop} {a b c : World} (h : Touch F a b) (k : Touch F b c) : Touch F a c :=
  ⟨k.os.trans h.os, k.tape.trans h.tape, k.output.trans h.output, Nat.le_trans h.size k.size, fun i hi hf => (k.block i (Nat.lt_of_lt_of_le hi h.size) hf).trans (h.block i hi hf)⟩
theorem Touch.mono {F G : Nat → Prop} {a b : World} (h : Touch F a b) (hg : ∀ k, k < a.heap.size → F k → G k) : Touch G a b :=
  ⟨h.os, h.tape, h.output, h.size, fun i hi hf => h.block i hi (fun k => hf (hg i hi k))⟩
theorem Touch.of_below {F : Nat → Prop} {a b : World} (h : Below a.heap.size a b) : Touch F a b := ⟨h.os, h.tape, h.output, h.size, fun i hi _ => h.block i hi⟩
theorem Touch.below {F : Nat → Prop} {B : Nat} {a b : World} (h : Touch F a b) (hB : ∀ k, k < B → ¬ F k) (hs : B ≤ a.heap.size) : Below B a b :=
  ⟨h.os, h.tape, h.output, h.size, fun k hk => h.block k (Nat.lt_of_lt_of_le hk hs) (hB k hk)⟩
theorem Touch.next {F : Nat → Prop} {a b c : World} (h : Touch F a b) (k : Below b.heap.size b c) : Touch F a c := h.trans (.of_below k)
theorem Touch.setCell {F : Nat → Prop} {a w : World} (h : Touch F a w) {p : Addr} (hp : F p.block) (u : Value) : Touch F a (w.setCell p u) := by
  refine h.trans ?_
  have hb := (Below.refl p.block w).setCell (p := p) (Nat.le_refl _) u
  refine ⟨hb.os, hb.tape, hb.output, hb.size, fun k hk hf => ?_⟩
  have hne : k ≠ p.block := fun e => hf (e ▸ hp)
  exact Go.Deep.blk_setCell_other w p u k hne
theorem Touch.grown {F : Nat → Prop} {a w w' : World} {row : Option Nat} (h : Touch F a w) (hg : w.grownBy w' row) (hr : ∀ k, row = some k → F k) : Touch F a w' :=
  h.trans ⟨hg.os, hg.tape, hg.output, hg.size, fun k hk hf => hg.block k hk (fun e => hf (hr k e.symm))⟩
theorem Touch.cell {F : Nat → Prop} {a b : World} (h : Touch F a b) {p : Addr} (hp : p.block < a.heap.size) (hf : ¬ F p.block) : b.cell? p = a.cell? p := World.cell?_of_block (h.block _ hp hf)
theorem own_touch {F : Nat → Prop} {w w' : World} {base : Nat} {e : TypeId} {size : Nat} {v : Value} {n : Nat} {xs : List Value} (h : w.ownsRow base e size v n xs) (ht : Touch F w w')
    (hf : ∀ k, v.ownBlock = some k → ¬ F k) : w'.ownsRow base e size v n xs := by
  rcases h.2 with ⟨rfl, rfl⟩ | ⟨g, cap, cur, rfl, hb, hg, hc, hm, hs, htk⟩
  · exact ⟨h.1, .inl ⟨rfl, rfl⟩⟩
  · refine ⟨h.1, .inr ⟨g, cap, cur, rfl, hb, ?_, hc, hm, hs, htk⟩⟩
    rw [ht.block g (by exact (Array.getElem?_eq_some_iff.1 hg).1) (hf g rfl)]; exact hg
theorem rd_touch {F : Nat → Prop} {w w' : World} {size : Nat} {v : Value} {n : Nat} {cs : List Value} (h : Rd w size v n cs) (ht : Touch F w w')
    (hf : ∀ a n c, v = .slice (some a) n c → ¬ F a.block) : Rd w' size v n cs := by
  obtain ⟨h1, A, c, rfl, h3, h4, h5, h6⟩ := h
  refine ⟨h1, A, c, rfl, h3, h4, h5, fun a ha => ⟨(h6 a ha).1, fun j u hj => ?_⟩⟩
  subst ha
  have hc := (h6 a rfl).2 j u hj
  rw [ht.cell (p := ⟨a.block, a.off + j, none⟩) (lt_of_cell hc) (hf a n c rfl)]; exact hc

theorem heap_set_own {w : World} {b : Nat} {cs : Array Value} {t : TypeId} {fz : Nat × Nat} (h : w.heap[b]? = some (.cells cs t fz)) (i : Nat) (u : Value) :
    (w.setCell ⟨b, i, none⟩ u).heap[b]? = some (.cells (cs.set! i u) t fz) := by
  simp only [World.setCell, Array.getElem?_modify, h, if_true, Option.map_some]; rfl
theorem getI (l : B) (i : Nat) (h : i < (ofL l).size) : (ofL l)[i] = l.getD i 0 := by
  have := get_eq (ofL l) i h
  rw [toL_ofL] at this; rw [List.getD_eq_getElem?_getD, this]; rfl
theorem idx_neg (c : UInt8) : ∀ l : B, Lib.indexByte l c < 0 ↔ l.contains c = false
  | [] => by simp [Lib.indexByte]
  | d :: r => by
    have ih := idx_neg c r
    unfold Lib.indexByte
    by_cases h : d = c
    · subst h; simp
    · have h1 : (d == c) = false := by simpa using h
      rw [h1]
      have h2 : (d :: r).contains c = r.contains c := by
        rw [List.contains_cons]; have : (c == d) = false := by rw [beq_eq_false_iff_ne]; exact fun e => h e.symm
        rw [this, Bool.false_or]
      rw [h2, ← ih]
      simp only [Bool.false_eq_true, if_false]
      have := Lib.indexByte_ge r c
      split
      · rename_i e; have e' : Lib.indexByte r c = -1 := by simpa using e
        omega
      · rename_i e; have e' : ¬ Lib.indexByte r c = -1 := by simpa using e
        omega
theorem ibyte_any (c : UInt8) (s : ByteArray) (w : World) :
    Calls Tryz.prog 64 #[.string s, .int .u8 c.toNat] w fun e w' => e = .returned (.int .i64 (Lib.indexByte s.toList c)) ∧ w' = w := by
  refine (Tryz.strings_IndexByte s c.toNat w).mono ?_
  rintro e w' ⟨rfl, rfl⟩
  refine ⟨?_, rfl⟩
  rw [← toL_eq]
  simp
end Go.Proofs.YthkpbgpgcpkiiaaGreatDoor
