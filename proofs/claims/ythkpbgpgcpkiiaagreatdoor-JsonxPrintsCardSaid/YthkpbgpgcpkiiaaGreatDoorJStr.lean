/- (*strings.Builder).String: what it writes. Conditions: the builder holds a byte. -/
import Derived.Test.YthkpbgpgcpkiiaaGreatDoorJPriC
import Derived.Lib.UnsafeStr
namespace Go.Proofs.YthkpbgpgcpkiiaaGreatDoor
open Go.RowKit
set_option linter.unusedVariables false
set_option linter.unusedSimpArgs false
set_option maxRecDepth 100000

theorem touch_freeze {F : Nat → Prop} {w w' : World} (h : Touch F w w') (p : Addr) (hp : F p.block) (n : Nat) : Touch F w (w'.freeze p n) := by
  unfold World.freeze
  split
  · exact h
  · refine h.trans ⟨rfl, rfl, rfl, by simp, fun i hi hf => ?_⟩
    show (Array.modify _ _ _)[i]? = _
    rw [Array.getElem?_modify, if_neg (fun e => hf (by rw [← e]; exact hp))]
set_option maxHeartbeats 2000000 in
theorem stringT_any (b : Nat) (v : Value) (l : B) (w : World) (h : Bv w b v l) (h0 : l ≠ []) :
    Calls Tryz.prog 25 #[.pointer (some ⟨b, 0, none⟩)] w fun e w' => e = .returned (.string (ofL l)) ∧ Touch (fun k => v.ownBlock = some k) w w' := by
  obtain ⟨p, -, hbk, hown0⟩ := h
  have hown : w.ownsRow (b + 1) 5 1 v l.length (bytesV l) := hown0
  have hl0 : l.length ≠ 0 := by simpa using h0
  obtain ⟨g, cap, cur, rfl, hg, hnc, hcm, hcs⟩ : ∃ g cap cur, v = .slice (some ⟨g, 0, none⟩) l.length cap ∧ w.heap[g]? = some (.cells cur 5 (0, 0)) ∧ l.length ≤ cap ∧ cap ≤ maxLen ∧ cur.size = cap * 1 := by
    rcases hown.2 with ⟨_, hz⟩ | ⟨g, cap, cur, hv, _, r1, r2, r3, r4, _⟩
    · exact absurd hz hl0
    · exact ⟨g, cap, cur, hv, r1, r2, r3, r4⟩
  have c1 : w.drew.cell? ⟨b, 1, none⟩ = some (.slice (some ⟨g, 0, none⟩) l.length cap) := by
    have : w.drew.heap[b]? = some (.cells #[p, .slice (some ⟨g, 0, none⟩) l.length cap] 48 (0, 0)) := hbk
    rw [Lib.cell_of_heap this]; rfl
  have hSD : (Builtin.unsafeSliceData_ #[46] 70 #[.slice (some ⟨g, 0, none⟩) l.length cap]).run Tryz.prog w.drew = .ok (.pointer (some ⟨g, 0, none⟩)) w.drew :=
    Lib.run_unsafeSliceData_row _ _ _ _ _ _ (by omega)
  have hUS : (Builtin.unsafeString_ #[70, 3] 9 #[.pointer (some ⟨g, 0, none⟩), .int .i64 l.length]).run Tryz.prog w.drew = .ok (.string ⟨l.toArray⟩) (w.drew.freeze ⟨g, 0, none⟩ l.length) := by
    refine Lib.run_unsafeString_row w.drew 70 3 9 5 Tryz.underlying70 (by kernel_rfl) g cur.size (by have hg' : w.drew.heap[g]? = some (.cells cur 5 (0, 0)) := hg; simp [World.shape?, hg']) l h0 (by omega) (by unfold maxLen at hcm; omega) ?_
    intro j x hx
    exact hown.cells (g := g) rfl j (.int .u8 x.toNat) (bytesV_at hx)
  have mixed : Tryz.prog.follows Departure.mixedOrders = true := by kernel_rfl
  have hT : Touch (fun k => (Value.slice (some ⟨g, 0, none⟩) l.length cap).ownBlock = some k) w (w.drew.freeze ⟨g, 0, none⟩ l.length) := touch_freeze (F := fun k => (Value.slice (some ⟨g, 0, none⟩) l.length cap).ownBlock = some k) (Touch.of_below (Below.refl w.heap.size w).drew) ⟨g, 0, none⟩ rfl _
  clear hbk hown0 hown hg hcs hnc hcm
  go_enter Tryz.func25, Tryz.ntmps25
  go_wp2
  go_region_o
  all_goals (go_wp2; go_ret; exact ⟨rfl, hT⟩)
end Go.Proofs.YthkpbgpgcpkiiaaGreatDoor
