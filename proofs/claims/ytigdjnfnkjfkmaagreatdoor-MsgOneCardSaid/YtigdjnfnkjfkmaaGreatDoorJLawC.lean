/- The law's own functions: Equal, small, can, own. Conditions: the value is small, or its lists are no longer than memory. The reference's Print, Check and what they call; the law JsonxPrints. Conditions: the values are small. -/
import Derived.Test.YtigdjnfnkjfkmaaGreatDoorJParQ
import Derived.Test.YtigdjnfnkjfkmaaGreatDoorJsonH
import Derived.Test.YtigdjnfnkjfkmaaGreatDoorJChkC
import Derived.Deep.RegionHeld3
import Derived.IntWalk
import Derived.StillTailTactics
import Derived.OwnWalk
import Derived.Laws.OwnMore
namespace Go.Proofs.YtigdjnfnkjfkmaaGreatDoor
open Go.RowKit
set_option linter.unusedVariables false
set_option linter.unusedSimpArgs false
set_option maxRecDepth 100000

end Go.Proofs.YtigdjnfnkjfkmaaGreatDoor
namespace Go.Proofs.YtigdjnfnkjfkmaaGreatDoor
open Go.RowKit
set_option linter.unusedVariables false
set_option linter.unusedSimpArgs false
set_option maxRecDepth 100000

theorem box5b {w : World} {b : Nat} {v0 v1 v2 v3 v4 : Value} {ty : TypeId} (h : w.heap[b]? = some (.cells #[v0, v1, v2, v3, v4] ty (0, 0))) :
    w.cell? ⟨b, 0, none⟩ = some v0 ∧ w.cell? ⟨b, 1, none⟩ = some v1 ∧ w.cell? ⟨b, 2, none⟩ = some v2 ∧ w.cell? ⟨b, 3, none⟩ = some v3 ∧ w.cell? ⟨b, 4, none⟩ = some v4 ∧ b < w.heap.size :=
  ⟨by rw [Lib.cell_of_heap h]; rfl, by rw [Lib.cell_of_heap h]; rfl, by rw [Lib.cell_of_heap h]; rfl, by rw [Lib.cell_of_heap h]; rfl, by rw [Lib.cell_of_heap h]; rfl, (Array.getElem?_eq_some_iff.1 h).1⟩
/-- The counter's cell. -/
def CC (w : World) (lb : Nat) (L : Int) : Prop := w.heap[lb]? = some (.cells #[.int .i64 L] 3 (0, 0))
theorem CC.c {w : World} {lb : Nat} {L : Int} (h : CC w lb L) : w.cell? ⟨lb, 0, none⟩ = some (.int .i64 L) := by rw [Lib.cell_of_heap h]; rfl
theorem CC.f {w : World} {lb : Nat} {L : Int} (h : CC w lb L) : w.frozen? ⟨lb, 0, none⟩ = false := Lib.frozen_of_heap h 0
theorem CC.lt {w : World} {lb : Nat} {L : Int} (h : CC w lb L) : lb < w.heap.size := (Array.getElem?_eq_some_iff.1 h).1
theorem CC.set {w : World} {lb : Nat} {L : Int} (h : CC w lb L) (M : Int) : CC (w.setCell ⟨lb, 0, none⟩ (.int .i64 M)) lb M := by unfold CC; rw [heap_set_own h]; rfl
theorem CC.touch {F : Nat → Prop} {w w' : World} {lb : Nat} {L : Int} (h : CC w lb L) (ht : Touch F w w') (hf : ¬ F lb) : CC w' lb L := by unfold CC; rw [ht.block lb h.lt hf]; exact h
theorem CC.below {w w' : World} {lb : Nat} {L : Int} (h : CC w lb L) (hb : Below w.heap.size w w') : CC w' lb L := h.touch (.of_below (F := fun _ => False) hb) id
def SmlP (w : World) (lb : Nat) (L : Int) (x : J) (e : Ending) (w' : World) : Prop := ∃ (b : Bool) (M : Int), e = .returned (.bool b) ∧ CC w' lb M ∧ M ≤ L ∧ (b = true → 0 ≤ M ∧ (wtJ x : Int) ≤ 16 * (L - M)) ∧ Touch (fun k => k = lb) w w'
theorem SmlP.no {w w' : World} {lb : Nat} {L M : Int} {x : J} {e : Ending} (h0 : e = .returned (.bool false)) (h1 : CC w' lb M) (h2 : M ≤ L) (h3 : Touch (fun k => k = lb) w w') : SmlP w lb L x e w' := ⟨false, M, h0, h1, h2, (fun h => by cases h), h3⟩
end Go.Proofs.YtigdjnfnkjfkmaaGreatDoor
namespace Go.Proofs.YtigdjnfnkjfkmaaGreatDoor
open Go.RowKit
set_option linter.unusedVariables false
set_option linter.unusedSimpArgs false
set_option maxRecDepth 100000

theorem cloneN_any (N : Value) (ns : List B) (w : World) (hN : RdP (fun b => b < w.heap.size) w 1 N ns.length (strs ns)) (hl : ns.length ≤ 1048576) :
    Calls Tryz.prog 90 #[N] w fun e w' => ∃ A c, e = .returned (.slice A ns.length c) ∧ w'.ownsRow w.heap.size 9 1 (.slice A ns.length c) ns.length (strs ns) ∧ Below w.heap.size w w' := by
  obtain ⟨A, c, rfl⟩ := hN.shape
  cases A with
  | none =>
    have h0 : ns.length = 0 := by
      rcases hN.2 with h | ⟨⟨_, A, c', e, _, _, h5, _⟩, _⟩
      · exact h.1
      · cases e; exact h5 rfl
    have e0 := List.length_eq_zero_iff.1 h0
    subst e0
    refine (Tryz.slices_Clone_nil _ c w).mono fun e w' ⟨h1, h2⟩ => ⟨none, 0, h1, World.ownsRow_nil _ _ _ _, ?_⟩
    rw [h2]; exact Below.refl _ _
  | some a =>
    rcases hN.2 with ⟨h0, _⟩ | ⟨hR, _⟩
    · have e0 := List.length_eq_zero_iff.1 h0
      subst e0
      have hz : Calls Tryz.prog 90 #[.slice (some a) 0 c] w fun e w' => ∃ v', e = .returned v' ∧ w'.ownsRow w.heap.size 9 1 v' 0 [] ∧ Below w.heap.size w w' := by
        have q22 : ∀ (w : World) (a : Option Addr) (n c n' c' : Nat), (binOp .eql 46 (.slice a n c) (.slice none n' c')).run Tryz.prog w = .ok (.bool a.isNone) w := fun w a n c n' c' => Lib.run_eql_slice_nil w _ _ a n c n' c' Tryz.underlying46
        obtain ⟨htu, ⟨i0, hi, hz, hsize, hby⟩, hzs, hsz, hbz⟩ := rowS
        go_enter Tryz.func90, Tryz.ntmps90
        go_wp2_with (at_builtin; refine wpList_append_own _ rfl _ _ 46 rfl w.heap.size 9 i0 _ 1 16 htu hi hz hsize hby hzs hsz _ _ _ rfl (World.ownsRow_made w #[] 0 (Nat.le_refl _) (Nat.zero_le _) (by simp)) a 0 c [] rfl (by simp) ?qc2 (fun u hu => by cases hu) ?qc4 ?qc5 ?qc6 ?_)
        case qc2 =>
          intro j u hj
          simp at hj
        case qc4 => unfold maxLen; omega
        case qc5 => omega
        case qc6 => exact ((Below.refl w.heap.size w).alloc (Nat.le_refl _) _).size
        intro v' w1 hown hgrow hnil
        go_wp2
        go_ret
        refine ⟨v', rfl, by simpa [strs] using hown, ?_⟩
        exact ((Below.refl _ w).alloc (Nat.le_refl _) _).grown hgrow (by simp) (by intro k hk; simp [Value.ownBlock] at hk; omega)
      refine hz.mono ?_
      rintro e w' ⟨v', rfl, hO, hb⟩
      obtain ⟨A', c', rfl⟩ := (rd_of_own hO).shape
      exact ⟨A', c', rfl, hO, hb⟩
    · obtain ⟨k1, A', c', e, k3, k4, k5, k6⟩ := hR
      cases e
      obtain ⟨htu, ⟨i0, hi, hz, hsize, hby⟩, hzs, hsz, hbz⟩ := rowS
      obtain ⟨hsp, hat⟩ := k6 a rfl
      obtain ⟨b, o, sp⟩ := a
      simp only at hsp
      subst hsp
      refine (Tryz.slices_Clone i0 _ 1 16 hi hz hsize hby hzs hsz (fun _ => rfl) b o ns.length c (strs ns) w (by rw [strs_len, Nat.mul_one]) (by unfold maxLen; omega) (by omega) hat (by intro u hu; unfold strs at hu; obtain ⟨s, _, rfl⟩ := List.mem_map.1 hu; rfl)).mono ?_
      rintro e w' ⟨v', rfl, hO, _, hb⟩
      obtain ⟨A', c', rfl⟩ := (rd_of_own hO).shape
      exact ⟨A', c', rfl, hO, hb⟩
theorem rj_mk {P : Nat → Prop} {w : World} {k n : Int} {t : B} {ns : List B} {is : List J} {N I : Value} {xs : List Value} {nn nm : Nat} (hn : nn = ns.length) (hm : nm = is.length) (h1 : RdP P w 1 N nn (strs ns)) (h2 : RdP P w 5 I nm xs) (h3 : RJs P w is xs) : RJ P w (.mk k n t ns is) [.int .i64 k, .int .i64 n, .string (ofL t), N, I] := by
  subst hn; subst hm; rw [RJ]; exact ⟨_, _, rfl, h1, xs, h2, h3⟩
def OwnP (x : J) (w : World) (e : Ending) (w' : World) : Prop := ∃ A1 m1 c1 A2 m2 c2, e = .returned (.agg #[.int .i64 x.kind, .int .i64 x.int, .string (ofL x.text), .slice A1 m1 c1, .slice A2 m2 c2]) ∧
  RJ (fun b => w.heap.size ≤ b) w' x [.int .i64 x.kind, .int .i64 x.int, .string (ofL x.text), .slice A1 m1 c1, .slice A2 m2 c2] ∧ Below w.heap.size w w'
end Go.Proofs.YtigdjnfnkjfkmaaGreatDoor
namespace Go.Proofs.YtigdjnfnkjfkmaaGreatDoor
set_option linter.unusedVariables false
set_option linter.unusedSimpArgs false
set_option maxRecDepth 100000

end Go.Proofs.YtigdjnfnkjfkmaaGreatDoor
namespace Go.Proofs.YtigdjnfnkjfkmaaGreatDoor
set_option linter.unusedVariables false
set_option linter.unusedSimpArgs false
set_option maxRecDepth 100000

/-- Has the place been taken? -/
def doneB (idx : List Nat) (r i : Nat) : Bool := (idx.take r).contains i
/-- The least place so far of those that are not taken; -1: none. -/
def Lst (ns : List B) (idx : List Nat) (r q : Nat) (m : Int) : Prop :=
  (m = -1 ∧ ∀ i, i < q → doneB idx r i = true) ∨ ∃ j : Nat, m = j ∧ j < q ∧ doneB idx r j = false ∧ ∀ i, i < q → doneB idx r i = false → i ≠ j → ltB (ns.getD j []) (ns.getD i []) = true
theorem Lst.first {ns : List B} {idx : List Nat} {r q : Nat} (h : Lst ns idx r q (-1)) (hd : doneB idx r q = false) : Lst ns idx r (q + 1) q := by
  rcases h with ⟨_, h⟩ | ⟨j, e, _⟩
  · refine .inr ⟨q, rfl, by omega, hd, fun i hi hn hne => ?_⟩
    rw [h i (by omega)] at hn; cases hn
  · omega
theorem getD_ne {ns : List B} (hn : ns.Nodup) {i j : Nat} (hi : i < ns.length) (hj : j < ns.length) (h : i ≠ j) : ns.getD i [] ≠ ns.getD j [] := fun e => by
  rw [List.getD_eq_getElem?_getD, List.getD_eq_getElem?_getD, List.getElem?_eq_getElem hi, List.getElem?_eq_getElem hj] at e
  exact h ((List.getElem_inj hn).1 e)
theorem Lst.keep {ns : List B} {idx : List Nat} {r q j : Nat} (h : Lst ns idx r q j) (hn : ns.Nodup) (hq : q < ns.length) (hl : ltB (ns.getD q []) (ns.getD j []) = false) : Lst ns idx r (q + 1) j := by
  rcases h with ⟨e, _⟩ | ⟨j', e, h1, h2, h3⟩
  · omega
  · have ej : j = j' := by omega
    subst ej
    refine .inr ⟨j, rfl, by omega, h2, fun i hi hd hne => ?_⟩
    by_cases e : i = q
    · subst e
      cases h4 : ltB (ns.getD j []) (ns.getD i []) with
      | true => rfl
      | false => exact absurd (lt_total h4 hl).symm (getD_ne hn hq (by omega) hne)
    · exact h3 i (by omega) hd hne
end Go.Proofs.YtigdjnfnkjfkmaaGreatDoor
namespace Go.Proofs.YtigdjnfnkjfkmaaGreatDoor
open Go.RowKit
set_option linter.unusedVariables false
set_option linter.unusedSimpArgs false
set_option maxRecDepth 100000

/-- Bytes that a slice literal lays. -/
theorem rd_lit (w : World) (l : B) (vs : Array Value) (k : Nat) (hv : vs = (bytesV l).toArray) (hk : k = l.length) (hl : l.length ≤ 1048576) : Rd (w.alloc (.cells vs 5)) 1 (.slice (some ⟨w.heap.size, 0, none⟩) k k) l.length (bytesV l) := by
  subst hv; subst hk
  have h := World.ownsRow_lit (base := w.heap.size) (e := 5) (size := 1) w (bytesV l).toArray l.length (Nat.le_refl _) (by unfold maxLen; omega) (by simp [bytesV_len])
  exact rd_of_own h
def CharP (n : Nat) (w : World) (e : Ending) (w' : World) : Prop := ∃ A c, e = .returned (.slice A (utf8B n).length c) ∧ Rd w' 1 (.slice A (utf8B n).length c) (utf8B n).length (bytesV (utf8B n)) ∧ Below w.heap.size w w'
theorem CharP.lit {n : Nat} {w : World} {l : B} {vs : Array Value} {k : Nat} (hl : utf8B n = l) (hv : vs = (bytesV l).toArray) (hk : k = l.length) (h4 : l.length ≤ 4) :
    CharP n w (.returned (.slice (some ⟨w.heap.size, 0, none⟩) k k)) (w.alloc (.cells vs 5)) := by
  have h := rd_lit w l vs k hv hk (by omega)
  subst hk
  unfold CharP
  rw [hl]
  exact ⟨_, _, rfl, h, (Below.refl _ w).alloc (Nat.le_refl _) _⟩
end Go.Proofs.YtigdjnfnkjfkmaaGreatDoor
namespace Go.Proofs.YtigdjnfnkjfkmaaGreatDoor
open Go.RowKit
set_option linter.unusedVariables false
set_option linter.unusedSimpArgs false
set_option maxRecDepth 100000

def CharsP (b : B) (w : World) (e : Ending) (w' : World) : Prop := ∃ r : Int, e = .returned (.int .i64 r) ∧ decide (r < 0) = wholeL b ∧ Below w.heap.size w w'
theorem CharsP.at {b : B} {w w' : World} {e : Ending} {k : Nat} (he : e = .returned (.int .i64 (k : Int))) (h : wholeL b = false) (hb : Below w.heap.size w w') : CharsP b w e w' := ⟨k, he, by rw [h]; exact decide_eq_false (by omega), hb⟩
theorem CharsP.all {b : B} {w w' : World} {e : Ending} (he : e = .returned (.int .i64 (-1))) (h : wholeL b = true) (hb : Below w.heap.size w w') : CharsP b w e w' := ⟨-1, he, by rw [h]; rfl, hb⟩
end Go.Proofs.YtigdjnfnkjfkmaaGreatDoor
namespace Go.Proofs.YtigdjnfnkjfkmaaGreatDoor
open Go.RowKit
set_option linter.unusedVariables false
set_option linter.unusedSimpArgs false
set_option maxRecDepth 100000

end Go.Proofs.YtigdjnfnkjfkmaaGreatDoor
namespace Go.Proofs.YtigdjnfnkjfkmaaGreatDoor
open Go.RowKit
set_option linter.unusedVariables false
set_option linter.unusedSimpArgs false
set_option maxRecDepth 100000

end Go.Proofs.YtigdjnfnkjfkmaaGreatDoor
namespace Go.Proofs.YtigdjnfnkjfkmaaGreatDoor
open Go.RowKit
set_option linter.unusedVariables false
set_option linter.unusedSimpArgs false
set_option maxRecDepth 100000

end Go.Proofs.YtigdjnfnkjfkmaaGreatDoor
namespace Go.Proofs.YtigdjnfnkjfkmaaGreatDoor
open Go.RowKit
set_option linter.unusedVariables false
set_option linter.unusedSimpArgs false
set_option maxRecDepth 100000

end Go.Proofs.YtigdjnfnkjfkmaaGreatDoor
namespace Go.Proofs.YtigdjnfnkjfkmaaGreatDoor
open Go.RowKit
set_option linter.unusedVariables false
set_option linter.unusedSimpArgs false
set_option maxRecDepth 100000

end Go.Proofs.YtigdjnfnkjfkmaaGreatDoor
namespace Go.Proofs.YtigdjnfnkjfkmaaGreatDoor
open Go.RowKit
set_option linter.unusedVariables false
set_option linter.unusedSimpArgs false
set_option maxRecDepth 100000

end Go.Proofs.YtigdjnfnkjfkmaaGreatDoor
