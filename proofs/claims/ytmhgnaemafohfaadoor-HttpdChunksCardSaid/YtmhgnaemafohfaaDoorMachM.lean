/- Requests that are the same, lists of bytes that are equal, a clone; the law's 'awake'. Conditions: the bytes are few. -/
import Derived.Test.YtmhgnaemafohfaaDoorMachL
namespace Go.Proofs.YtmhgnaemafohfaaDoor
open Go.RowKit
set_option linter.unusedVariables false
set_option linter.unusedSimpArgs false
set_option maxRecDepth 100000

set_option maxHeartbeats 4000000 in
/-- The same request. -/
theorem same_any (x : Req) (v u : Value) (w : World) (hv : ReqV w x v) (hu : ReqV w x u) (hb : x.b.length ≤ 1099511627776) (hh : x.h.length ≤ 1000000) :
    Calls Tryd.prog 10 #[v, u] w fun e w' => e = .returned (.bool true) ∧ Below w.heap.size w w' := by
  obtain ⟨hv1, bv1, rfl, hR1, hS1⟩ := hv
  obtain ⟨hv2, bv2, rfl, hR2, hS2⟩ := hu
  have HR1 := Lib.hid hR1
  have HR2 := Lib.hid hR2
  have HS1 := Lib.hid hS1
  have HS2 := Lib.hid hS2
  obtain ⟨A1, c1, rfl⟩ := hR1.shape
  obtain ⟨A2, c2, rfl⟩ := hR2.shape
  obtain ⟨B1, d1, rfl⟩ := hS1.shape
  obtain ⟨B2, d2, rfl⟩ := hS2.shape
  clear hR1 hR2 hS1 hS2
  have e1 : ((ofL x.m).toList == (ofL x.m).toList) = true := by simp
  have e2 : ((ofL x.p).toList == (ofL x.p).toList) = true := by simp
  have e3 : ((ofL x.b).toList == (ofL x.b).toList) = true := by simp
  have hb2 : ∀ o o', Below w.heap.size w ((w.alloc o).alloc o') := fun o o' => ((Below.refl _ w).alloc (Nat.le_refl _) o).alloc (by simp) o'
  have HB2 := Lib.hid hb2
  have C := Lib.hid (fun o o' => sameHdr_any x.h x.h (.slice A1 x.h.length c1) (.slice A2 x.h.length c2) ((w.alloc o).alloc o') ((HR1.out.alloc o).alloc o') ((HR2.out.alloc o).alloc o') (by unfold maxLen; omega) (by unfold maxLen; omega))
  have kc1 := fun o o' => conv_rd (P := Tryd.prog) 22 9 5 Tryd.underlying22 Tryd.underlying5 Tryd.underlying9 ((HS1.out.alloc o).alloc o')
  have kc2 := fun o o' => conv_rd (P := Tryd.prog) 22 9 5 Tryd.underlying22 Tryd.underlying5 Tryd.underlying9 ((HS2.out.alloc o).alloc o')
  clear hb2
  go_enter Tryd.func10, Tryd.ntmps10
  go_wp2_with (go_at_call 22; refine (C.out _ _).mono ?_; rintro e w4 ⟨rfl, hb4⟩)
  go_ret
  exact ⟨rfl, (HB2.out _ _).next hb4⟩
end Go.Proofs.YtmhgnaemafohfaaDoor
