/- A fresh machine, and the program's Parse (httpd). Conditions: the bytes are short. -/
import Derived.Test.YtmhgnaemafohfaaGreatDoorMachJ
namespace Go.Proofs.YtmhgnaemafohfaaGreatDoor
open Go.RowKit
set_option linter.unusedVariables false
set_option linter.unusedSimpArgs false
set_option maxRecDepth 100000

def mc0 : Mc := ⟨.heads, [], [], [], [], [], 0, 0⟩
theorem bound0 : Bound mc0 := ⟨by decide, rfl, rfl, rfl⟩
theorem fresh_any (w : World) :
    Calls Tryz.prog 40 #[] w fun e w' => e = .returned (.pointer (some ⟨w.heap.size, 0, none⟩)) ∧ Below w.heap.size w w' ∧ w'.heap.size = w.heap.size + 1 ∧ MI w' w.heap.size (fun k => k = w.heap.size) mc0 := by
  go_enter Tryz.func40, Tryz.ntmps40
  go_wp2
  go_ret
  refine ⟨rfl, (Below.refl _ _).alloc (Nat.le_refl _) _, by simp, .func (.func 68) #[] #[], .slice none 0 0, ⟨⟨rfl, fun k hk => by subst hk; simp⟩, .slice none 0 0, .slice none 0 0, heap_alloc_new w _, ⟨World.ownsRow_nil _ _ _ _, fun k hk => by cases hk⟩, ⟨World.ownsRow_nil _ _ _ _, fun k hk => by cases hk⟩, fun _ => rfl⟩, rfl, fun _ => ⟨⟨World.ownsRow_nil _ _ _ _, fun k hk => by cases hk⟩, rfl, rfl⟩⟩
end Go.Proofs.YtmhgnaemafohfaaGreatDoor
