/- A parser (httpd.Parser) as it stands between two calls: New, begin, Feed, Waiting. Conditions: what waits is no longer than 65536 bytes. -/
import Derived.Test.YtmhgnaemafohfaaGreatDoorMachO
import Derived.Test.YtmhgnaemafohfaaGreatDoorLawE
import Derived.Laws.AppendOwnNone
namespace Go.Proofs.YtmhgnaemafohfaaGreatDoor
open Go.RowKit
set_option linter.unusedVariables false
set_option linter.unusedSimpArgs false
set_option maxRecDepth 100000

/-- The parser's cells. -/
def PC (w : World) (bp bm : Nat) (Wv : Value) (t s : Int) : Prop := w.heap[bp]? = some (.cells #[.pointer (some ⟨bm, 0, none⟩), Wv, .int .i64 t, .int .i64 s] 52 (0, 0))
theorem PC.cell {w : World} {bp bm : Nat} {Wv : Value} {t s : Int} (h : PC w bp bm Wv t s) (i : Nat) : w.cell? ⟨bp, i, none⟩ = #[Value.pointer (some ⟨bm, 0, none⟩), Wv, .int .i64 t, .int .i64 s][i]? := by rw [Lib.cell_of_heap h]
theorem PC.c0 {w : World} {bp bm : Nat} {Wv : Value} {t s : Int} (h : PC w bp bm Wv t s) : w.cell? ⟨bp, 0, none⟩ = some (.pointer (some ⟨bm, 0, none⟩)) := h.cell 0
theorem PC.c1 {w : World} {bp bm : Nat} {Wv : Value} {t s : Int} (h : PC w bp bm Wv t s) : w.cell? ⟨bp, 1, none⟩ = some Wv := h.cell 1
theorem PC.c2 {w : World} {bp bm : Nat} {Wv : Value} {t s : Int} (h : PC w bp bm Wv t s) : w.cell? ⟨bp, 2, none⟩ = some (.int .i64 t) := h.cell 2
theorem PC.c3 {w : World} {bp bm : Nat} {Wv : Value} {t s : Int} (h : PC w bp bm Wv t s) : w.cell? ⟨bp, 3, none⟩ = some (.int .i64 s) := h.cell 3
theorem PC.fz {w : World} {bp bm : Nat} {Wv : Value} {t s : Int} (h : PC w bp bm Wv t s) (i : Nat) : w.frozen? ⟨bp, i, none⟩ = false := Lib.frozen_of_heap h i
theorem PC.lt {w : World} {bp bm : Nat} {Wv : Value} {t s : Int} (h : PC w bp bm Wv t s) : bp < w.heap.size := (Array.getElem?_eq_some_iff.1 h).1
theorem PC.touch {G : Nat → Prop} {w w' : World} {bp bm : Nat} {Wv : Value} {t s : Int} (h : PC w bp bm Wv t s) (ht : Touch G w w') (hf : ¬ G bp) : PC w' bp bm Wv t s := by unfold PC; rw [ht.block bp h.lt hf]; exact h
theorem PC.below {w w' : World} {bp bm : Nat} {Wv : Value} {t s : Int} (h : PC w bp bm Wv t s) (hb : Below w.heap.size w w') : PC w' bp bm Wv t s := h.touch (.of_below (F := fun _ => False) hb) id
theorem PC.set0 {w : World} {bp bm : Nat} {Wv : Value} {t s : Int} (h : PC w bp bm Wv t s) (b : Nat) : PC (w.setCell ⟨bp, 0, none⟩ (.pointer (some ⟨b, 0, none⟩))) bp b Wv t s := heap_set_own h 0 _
theorem PC.set1 {w : World} {bp bm : Nat} {Wv : Value} {t s : Int} (h : PC w bp bm Wv t s) (u : Value) : PC (w.setCell ⟨bp, 1, none⟩ u) bp bm u t s := heap_set_own h 1 _
theorem PC.set2 {w : World} {bp bm : Nat} {Wv : Value} {t s : Int} (h : PC w bp bm Wv t s) (u : Int) : PC (w.setCell ⟨bp, 2, none⟩ (.int .i64 u)) bp bm Wv u s := heap_set_own h 2 _
theorem PC.set3 {w : World} {bp bm : Nat} {Wv : Value} {t s : Int} (h : PC w bp bm Wv t s) (u : Int) : PC (w.setCell ⟨bp, 3, none⟩ (.int .i64 u)) bp bm Wv t u := heap_set_own h 3 _
theorem PC.not_own {w : World} {bp bm : Nat} {Wv : Value} {t s : Int} (h : PC w bp bm Wv t s) {base : Nat} {e : TypeId} {size : Nat} {v : Value} {n : Nat} {xs : List Value} (ho : w.ownsRow base e size v n xs)
    (he : e ≠ 52) : ∀ j, v.ownBlock = some j → j ≠ bp := by
  rintro j hj rfl
  obtain ⟨cs, hcs⟩ := own_elem ho hj
  unfold PC at h
  rw [h] at hcs
  simp only [Option.some.injEq, Obj.cells.injEq] at hcs
  exact he hcs.2.1.symm
theorem touch_lt {G : Nat → Prop} {w w' : World} (ht : Touch G w w') {F : Nat → Prop} (h : ∀ k, F k → k < w.heap.size) : ∀ k, F k → k < w'.heap.size := fun k hk => Nat.lt_of_lt_of_le (h k hk) ht.size
/-- The machine is left alone. -/
theorem MI.touch {G F : Nat → Prop} {w w' : World} {bm : Nat} {x : Mc} (h : MI w bm F x) (ht : Touch G w w') (hG : ∀ k, F k → ¬ G k) : MI w' bm F x := by
  obtain ⟨nx, hv, ⟨hF, Hv, Bv, hM, hH, hB, hz⟩, hN, hh⟩ := h
  refine ⟨nx, hv, ⟨⟨hF.1, touch_lt ht hF.2⟩, Hv, Bv, hM.touch ht (hG _ hF.1), ⟨own_touch hH.1 ht (fun k hk => hG k (hH.2 k hk)), hH.2⟩, ⟨own_touch hB.1 ht (fun k hk => hG k (hB.2 k hk)), hB.2⟩, hz⟩, ?_, fun e => ⟨⟨own_touch (hh e).1.1 ht (fun k hk => hG k ((hh e).1.2 k hk)), (hh e).1.2⟩, (hh e).2⟩⟩
  have hC : ∀ {a b : Nat}, Clo w F nx a b → Clo w' F nx a b := by
    rintro a b ⟨k, h1, h2, h3⟩
    exact ⟨k, h1, h2, by rw [ht.block k (Array.getElem?_eq_some_iff.1 h3).1 (hG k h2)]; exact h3⟩
  revert hN
  cases x.st <;> intro hN <;> first | exact hN | exact hC hN
/-- A parser: what waits, the status that refused. -/
def Prs (w : World) (bp : Nat) (wait : B) (st : Nat) (D : Nat → Prop) : Prop :=
  ∃ (bm : Nat) (F : Nat → Prop) (m : Mc) (Wv : Value) (t : Nat), PC w bp bm Wv t st ∧ MI w bm F m ∧ Bound m ∧ ¬ F bp ∧
    (w.ownsRow 0 5 1 Wv wait.length (bytesV wait) ∧ ∀ k, Wv.ownBlock = some k → ¬ F k ∧ D k) ∧ (D bp ∧ (∀ k, F k → D k) ∧ ∀ k, D k → k < w.heap.size) ∧
    t ≤ wait.length ∧ (runM mc0 (wait.take t)).2 = (1, m) ∧ wait.length ≤ 65536
theorem Prs.touch {G D : Nat → Prop} {w w' : World} {bp st : Nat} {wait : B} (h : Prs w bp wait st D) (ht : Touch G w w') (hG : ∀ k, D k → ¬ G k) : Prs w' bp wait st D := by
  obtain ⟨bm, F, m, Wv, t, h1, h2, h3, h4, h5, h6, h7⟩ := h
  exact ⟨bm, F, m, Wv, t, h1.touch ht (hG _ h6.1), h2.touch ht (fun k hk => hG k (h6.2.1 k hk)), h3, h4, ⟨own_touch h5.1 ht (fun k hk => hG k (h5.2 k hk).2), h5.2⟩, ⟨h6.1, h6.2.1, touch_lt ht h6.2.2⟩, h7⟩
theorem Prs.below {D : Nat → Prop} {w w' : World} {bp st : Nat} {wait : B} (h : Prs w bp wait st D) (hb : Below w.heap.size w w') : Prs w' bp wait st D := h.touch (.of_below (F := fun _ => False) hb) (fun _ _ => id)

theorem new_any (w : World) :
    Calls Tryz.prog 29 #[] w fun e w' => ∃ bp D, e = .returned (.pointer (some ⟨bp, 0, none⟩)) ∧ Prs w' bp [] 0 D ∧ (∀ k, D k → w.heap.size ≤ k) ∧ Below w.heap.size w w' := by
  go_enter Tryz.func29, Tryz.ntmps29
  go_wp2_with fail
  refine (fresh_any w).mono ?_
  rintro e w1 ⟨rfl, hb1, hs1, hI⟩
  go_wp2_with fail
  go_ret
  have hb2 := (Below.refl w1.heap.size w1).alloc (Nat.le_refl _) (.cells #[.pointer (some ⟨w.heap.size, 0, none⟩), .slice none 0 0, .int .i64 0, .int .i64 0] 52)
  have hP : PC (w1.alloc (.cells #[.pointer (some ⟨w.heap.size, 0, none⟩), .slice none 0 0, .int .i64 0, .int .i64 0] 52)) (w.heap.size + 1) w.heap.size (.slice none 0 0) 0 0 := by rw [← hs1]; exact heap_alloc_new _ _
  refine ⟨w.heap.size + 1, fun k => w.heap.size ≤ k ∧ k ≤ w.heap.size + 1, rfl, ⟨w.heap.size, fun k => k = w.heap.size, mc0, .slice none 0 0, 0, hP, hI.touch (.of_below (F := fun _ => False) hb2) (fun _ _ => id), bound0, by omega, ⟨World.ownsRow_nil _ _ _ _, fun k hk => by cases hk⟩, ⟨⟨by omega, Nat.le_refl _⟩, fun k hk => by omega, fun k hk => by simp; omega⟩, Nat.zero_le _, rfl, by simp⟩, fun k hk => hk.1, hb1.next hb2⟩

theorem begin_any (bp bm : Nat) (Wv : Value) (t s : Int) (l : B) (v : Value) (w : World) (hP : PC w bp bm Wv t s) (hR : Rd w 1 v l.length (bytesV l)) (hl : l.length ≤ 65536) (st : Nat) (hs : s = st) :
    Calls Tryz.prog 52 #[.pointer (some ⟨bp, 0, none⟩), v] w fun e w' => e = .returned (.tuple #[]) ∧ ∃ D, Prs w' bp l st D ∧ (∀ k, D k → k = bp ∨ w.heap.size ≤ k) ∧ Touch (fun k => k = bp) w w' := by
  obtain ⟨A, c, rfl⟩ := hR.shape
  have HR := Lib.hid hR
  have HP := Lib.hid hP
  subst hs
  clear hR hP
  go_enter Tryz.func52, Tryz.ntmps52
  go_wp2_with fail
  refine (fresh_any w).mono ?_
  rintro e w1 ⟨rfl, hb1, hs1, hI⟩
  go_wp2_with fail
  refine (clone_any l _ w1 (HR.out.below hb1) (by omega)).mono ?_
  rintro e w2 ⟨v2, rfl, hown, hb2⟩
  have hr2 := hb1.next hb2
  have hP2 := HP.out.below hr2
  have hI2 := hI.touch (.of_below (F := fun _ => False) hb2) (fun _ _ => id)
  obtain ⟨A2, c2, rfl⟩ := (rd_of_own hown).shape
  have HO := Lib.hid hown
  have f0 := hP2.fz 0
  have f1 := hP2.fz 1
  have f2 := hP2.fz 2
  have k0 := hP2.c0
  have k1 := hP2.c1
  have k2 := hP2.c2
  have HI2 := Lib.hid hI2
  have HP2 := Lib.hid hP2
  have hs2 := hb2.size
  have hlt := HP.out.lt
  clear hI hI2 hown hP2
  go_wp2_with fail
  go_end0
  have hP3 := ((HP2.out.set0 w.heap.size).set1 (.slice A2 l.length c2)).set2 0
  have ht3 := (((Touch.refl (fun k => k = bp) w2).setCell (p := ⟨bp, 0, none⟩) rfl (.pointer (some ⟨w.heap.size, 0, none⟩))).setCell (p := ⟨bp, 1, none⟩) rfl (.slice A2 l.length c2)).setCell (p := ⟨bp, 2, none⟩) rfl (.int .i64 0)
  have hblk := fun k hk => (HO.out.lt k hk)
  refine ⟨rfl, fun k => k = bp ∨ (w.heap.size ≤ k ∧ k < w2.heap.size), ⟨w.heap.size, fun k => k = w.heap.size, mc0, .slice A2 l.length c2, 0, hP3, HI2.out.touch ht3 (fun k hk => by omega), bound0, by omega, ⟨own_touch (HO.out.mono (Nat.zero_le _)) ht3 (fun k hk => by have := (hblk k hk).1; omega), fun k hk => by have := hblk k hk; omega⟩, ⟨.inl rfl, fun k hk => .inr (by omega), fun k hk => ?_⟩, Nat.zero_le _, rfl, hl⟩, fun k hk => hk.elim .inl (fun h => .inr h.1), (Touch.of_below hr2).trans (ht3.mono (fun k _ h => h))⟩
  have := ht3.size
  rcases hk with rfl | ⟨_, h⟩ <;> omega
end Go.Proofs.YtmhgnaemafohfaaGreatDoor
