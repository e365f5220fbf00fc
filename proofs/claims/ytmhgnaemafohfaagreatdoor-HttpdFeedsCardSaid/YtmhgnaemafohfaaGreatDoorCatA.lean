/- Lists of bytes one behind the other (slices.Concat). Conditions: they are no longer than 2^40 bytes. -/
import Derived.Test.YtmhgnaemafohfaaGreatDoorMachO
import Derived.Lib.AppendZerosOnto
import Derived.Lib.AppendZeros
import Derived.Laws.AppendOwnNone
namespace Go.Proofs.YtmhgnaemafohfaaGreatDoor
open Go.RowKit
set_option linter.unusedVariables false
set_option linter.unusedSimpArgs false
set_option maxRecDepth 100000

theorem grow_any (n : Nat) (w : World) (hn : n ≤ 140737488355328) :
    Calls Tryz.prog 51 #[.slice none 0 0, .int .i64 n] w fun e w' => ∃ v, e = .returned v ∧ w'.ownsRow w.heap.size 5 1 v 0 [] ∧ Below w.heap.size w w' := by
  by_cases h0 : n = 0
  · subst h0
    go_enter Tryz.func51, Tryz.ntmps51
    go_wp2
    go_ret
    exact ⟨_, rfl, World.ownsRow_nil _ _ _ _, Below.refl _ _⟩
  · obtain ⟨htu, ⟨i0, hi, hz, hsize, hby⟩, hzs, hsz, hbz⟩ := rowB
    have h1 : ¬ ((n : Int) < 0) := by omega
    have h2 : (0 : Int) < n := by omega
    have hold : (Builtin.firstCells i0.size 0 (.slice none 0 0)).run Tryz.prog w.drew = .ok #[] w.drew := run_firstCells_none w.drew i0.size 0 0 0
    have hrz : ∀ ty, (Builtin.append_ #[22, 3] ty #[.slice none 0 0, .int .i64 (n : Int)]).run Tryz.prog w =
        .ok (.slice (some ⟨w.heap.size, 0, none⟩) n (grownCap w n 0 5)) (w.drew.alloc (.cells (#[] ++ Builtin.zeroCells (Value.int .u8 0).cells n ++ Builtin.zeroCells (Value.int .u8 0).cells (grownCap w n 0 5 - n)) 5)) := fun ty => by
      have h := Lib.run_append_grow_zeros w 22 3 ty 5 i0 _ .i64 .i64 htu Tryz.underlying3 hi hz none 0 0 [] hold n (by omega) (by omega) (by omega) (by omega) (by rw [hby]; omega)
        (by rw [hby]; exact growslice_fits (by omega) (by omega))
      simpa using h
    have hG := grownCap_ge w n 0 5
    have hG2 := grownCap_le_maxLen w n 0 5 (by unfold maxLen; omega)
    generalize grownCap w n 0 5 = G at hrz hG hG2
    have hG63 : G ≤ 9223372036854775807 := by unfold maxLen at hG2; omega
    go_enter Tryz.func51, Tryz.ntmps51
    go_wp2_with (at_builtin; refine Lib.wpList_append_run _ rfl _ _ _ _ rfl _ _ rfl rfl _ _ (hrz _) ?_)
    all_goals go_ret
    refine ⟨_, rfl, ⟨by simp, .inr ⟨w.heap.size, G, Builtin.zeroCells #[.int .u8 0] n ++ Builtin.zeroCells #[.int .u8 0] (G - n), rfl, Nat.le_refl _, heap_alloc_new w _, Nat.zero_le _, hG2, ?_, by simp⟩⟩, ((Below.refl _ w).alloc (Nat.le_refl _) _).drew⟩
    rw [Array.size_append, size_zeroCells, size_zeroCells]; simp; omega

/-- The parts' bytes. -/
def flatP (ps : List (Value × B)) : B := ps.flatMap (·.2)
theorem flatP_snoc {ps : List (Value × B)} {k : Nat} {p : Value × B} (h : ps[k]? = some p) : flatP (ps.take (k + 1)) = flatP (ps.take k) ++ p.2 := by
  rw [take_snoc' h]; simp [flatP]
theorem flatP_le (ps : List (Value × B)) (k : Nat) : (flatP (ps.take k)).length ≤ (flatP ps).length := by
  have e : flatP ps = flatP (ps.take k) ++ flatP (ps.drop k) := by unfold flatP; rw [← List.flatMap_append, List.take_append_drop]
  rw [e, List.length_append]; omega
/-- A part that is read; of no address, it has no room. -/
def Part (w : World) (p : Value × B) : Prop := Rd w 1 p.1 p.2.length (bytesV p.2) ∧ ∀ n c, p.1 = .slice none n c → c = 0
theorem Part.below {w w' : World} {p : Value × B} (h : Part w p) (hb : Below w.heap.size w w') : Part w' p := ⟨h.1.below hb, h.2⟩
theorem Part.own {w : World} {base : Nat} {v : Value} {l : B} (h : w.ownsRow base 5 1 v l.length (bytesV l)) : Part w (v, l) := by
  refine ⟨rd_of_own h, fun n c e => ?_⟩
  simp only at e
  rcases h.2 with ⟨h1, _⟩ | ⟨g, cap, cur, h1, _⟩
  · rw [h1] at e; cases e; rfl
  · rw [h1] at e; cases e

set_option maxHeartbeats 4000000 in
theorem concat_any (g c0 : Nat) (ps : List (Value × B)) (w : World) (hc : ∀ j p, ps[j]? = some p → w.cell? ⟨g, j, none⟩ = some p.1 ∧ Part w p) (hL : (flatP ps).length ≤ 140737488355328) (hn : ps.length ≤ 1000) :
    Calls Tryz.prog 20 #[.slice (some ⟨g, 0, none⟩) ps.length c0] w fun e w' => ∃ v, e = .returned v ∧ w'.ownsRow w.heap.size 5 1 v (flatP ps).length (bytesV (flatP ps)) ∧ Below w.heap.size w w' := by
  have HC := Lib.hid hc
  clear hc
  have hle := fun k => flatP_le ps k
  have HLe := Lib.hid hle
  clear hle
  obtain ⟨htu, ⟨i0, hi, hz, hsize, hby⟩, hzs, hsz, hbz⟩ := rowB
  go_enter Tryz.func20, Tryz.ntmps20
  go_wp2_with fail
  go_loopw [3, 11] (fun s i wr => ∃ k : Nat, k ≤ ps.length ∧ i = .int .i64 k ∧ s = .int .i64 (flatP (ps.take k)).length ∧ w = wr) (fun _ i _ => ps.length - (intOf i).toNat)
  case atStart => exact ⟨0, Nat.zero_le _, rfl, rfl, rfl⟩
  case round =>
    obtain ⟨k, hk, rfl, rfl, rfl⟩ := hrel
    by_cases hlt : k < ps.length
    · obtain ⟨p, hp⟩ : ∃ p, ps[k]? = some p := ⟨ps[k], List.getElem?_eq_getElem hlt⟩
      obtain ⟨hcell, hR, _⟩ := HC.out k p hp
      have Hf := Lib.hid (flatP_snoc hp)
      have hle1 := HLe.out (k + 1)
      rw [Hf.out, List.length_append] at hle1
      have Hle1 := Lib.hid hle1
      clear hp
      obtain ⟨p1, p2⟩ := p
      obtain ⟨A, c, hA⟩ := hR.shape
      simp only at hA hcell hle1
      subst hA
      clear hR
      have y1 : IntKind.i64.wrap (((flatP (ps.take k)).length : Int) + (p2.length : Int)) = ((flatP (ps.take k)).length : Int) + p2.length := IntWalk.i64_in _ (by omega)
      have y2 : ¬ (((flatP (ps.take k)).length : Int) + (p2.length : Int) < 0) := by omega
      go_wp2_with fail
      go_roundw
      case rel => exact ⟨k + 1, by omega, by go_num, by rw [Hf.out, List.length_append]; go_num, by trivial⟩
      case measure => simp [intOf]; omega
    · have hke : ps.take k = ps := List.take_of_length_le (by omega)
      rw [hke]
      clear hke
      go_wp2_with fail
      refine (grow_any (flatP ps).length _ hL).mono ?_
      rintro e w1 ⟨v1, rfl, hown, hr⟩
      have HO := Lib.hid hown
      clear hown
      go_wp2_with fail
      go_loopw [6, 27] (fun s i wr => ∃ k : Nat, k ≤ ps.length ∧ i = .int .i64 k ∧ Hid (wr.ownsRow w.heap.size 5 1 s (flatP (ps.take k)).length (bytesV (flatP (ps.take k)))) ∧ Below w.heap.size w wr) (fun _ i _ => ps.length - (intOf i).toNat)
      case atStart => exact ⟨0, Nat.zero_le _, rfl, HO.out, hr⟩
      case round =>
        obtain ⟨k, hk, rfl, Hown, hr⟩ := hrel
        by_cases hlt : k < ps.length
        · obtain ⟨p, hp⟩ : ∃ p, ps[k]? = some p := ⟨ps[k], List.getElem?_eq_getElem hlt⟩
          obtain ⟨hcell0, hP⟩ := HC.out k p hp
          have hcell := Below.keeps hr hcell0
          have hP' := hP.below hr
          have Hf := Lib.hid (flatP_snoc hp)
          have hle1 := HLe.out (k + 1)
          rw [Hf.out, List.length_append] at hle1
          clear hp hcell0 hP
          obtain ⟨p1, p2⟩ := p
          obtain ⟨hR, hN⟩ := hP'
          simp only at hR hN hcell hle1
          obtain ⟨A, c, rfl⟩ := hR.shape
          have hwl := hr.size
          cases A with
          | none =>
            have hc0 := hN _ _ rfl
            subst hc0
            have h20 : p2 = [] := by obtain ⟨_, A', c', h2, _, _, h5, _⟩ := hR; cases h2; exact List.eq_nil_of_length_eq_zero (h5 rfl)
            subst h20
            clear hN hR
            have HO := Lib.hid Hown.out
            go_wp2_with (at_builtin; refine wpList_append_own_none rfl _ _ 22 rfl w.heap.size 5 i0 1 htu hi _ _ _ rfl HO.out rfl ?_)
            go_roundw
            case rel => exact ⟨k + 1, by omega, by go_num, (by show World.ownsRow _ _ _ _ _ _ _; rw [Hf.out]; simpa using HO.out), hr⟩
            case measure => simp [intOf]; omega
          | some a =>
            obtain ⟨_, A', c', h2, _, _, _, h6⟩ := hR
            cases h2
            obtain ⟨hsp, hcl⟩ := h6 a rfl
            obtain ⟨b, o, q⟩ := a
            simp only at hsp
            subst hsp
            have hone : ∀ u ∈ bytesV p2, u.oneCell' = true := oneCell_bytes p2
            have HO := Lib.hid Hown.out
            have Hcl := Lib.hid hcl
            clear hN hcl h6
            go_wp2_with (at_builtin; refine wpList_append_own _ rfl _ _ 22 rfl w.heap.size 5 i0 _ 1 1 htu hi hz hsize hby hzs hsz _ _ _ rfl HO.out ⟨b, o, none⟩ p2.length c (bytesV p2) rfl ?qc1 ?qc2 hone ?qc4 ?qc5 ?qc6 ?_)
            case qc2 => exact Hcl.out
            case qc4 => unfold maxLen; omega
            case qc5 => omega
            intro v' w' hown' hgrow _
            have hb' := hr.grown hgrow hr.size (fun j hj => (HO.out.lt j hj).1)
            have HO' := Lib.hid hown'
            clear hown' hgrow Hown HO hr Hcl
            go_wp2_with fail
            go_roundw
            case rel => exact ⟨k + 1, by omega, by go_num, (by show World.ownsRow _ _ _ _ _ _ _; rw [Hf.out, List.length_append, bytesV_append]; exact HO'.out), hb'⟩
            case measure => simp [intOf]; omega
        · have hke : ps.take k = ps := List.take_of_length_le (by omega)
          rw [hke] at Hown
          have HO := Lib.hid Hown.out
          clear Hown hke
          go_wp2_with fail
          go_ret
          exact ⟨_, rfl, HO.out, hr⟩
end Go.Proofs.YtmhgnaemafohfaaGreatDoor
