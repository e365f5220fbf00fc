/- A map that counts names. Conditions: the names are short. -/
import Derived.Test.YthkpbgpgcpkiiaaGreatDoorJParL
import Derived.Maps.Own
import Derived.Maps.OwnOps
import Derived.Maps.Views
namespace Go.Proofs.YthkpbgpgcpkiiaaGreatDoor
open Go.RowKit Go.Maps Go.WideMaps
set_option linter.unusedVariables false
set_option linter.unusedSimpArgs false
set_option maxRecDepth 100000

theorem keyedS : Keyed Tryz.prog 9 := string_keyed Tryz.underlying9
theorem zeroI (w : World) : (zeroValue 3).run Tryz.prog w = .ok (.int .i64 0) w := by kernel_rfl
abbrev num1 (n : Int) : DataW Unit := .lit (.int .i64 n)
abbrev mapIs (w : World) (mb n : Nat) (D : DataW Unit) : Prop := w.ownsMap Tryz.prog 9 (plainElem Tryz.prog 3) mb n D
/-- Of these names each counts one. -/
def Tells (D : DataW Unit) (ns : List B) : Prop := ∀ s : B, D.atKey (.string s) (num1 0) = num1 (if ns.contains s then 1 else 0)
def Seen (w : World) (mb : Nat) (ns : List B) : Prop := ∃ (n : Nat) (D : DataW Unit), mapIs w mb n D ∧ n ≤ ns.length ∧ Tells D ns
theorem Seen.made (w : World) : Seen (w.alloc (.map #[] 0)) w.heap.size [] := ⟨0, .map [], World.ownsMap_made _ _ _ _, Nat.le_refl _, fun s => rfl⟩
theorem mapIs.touch {F : Nat → Prop} {w w' : World} {mb n : Nat} {D : DataW Unit} (h : mapIs w mb n D) (ht : Touch F w w') (hf : ¬ F mb) : mapIs w' mb n D := by
  have hlt := World.ownsMap.lt h
  obtain ⟨es, clock, hb, hF, hs, hD⟩ := h
  exact ⟨es, clock, by rw [ht.block mb hlt hf]; exact hb, hF, hs, hD⟩
theorem Seen.touch {F : Nat → Prop} {w w' : World} {mb : Nat} {ns : List B} (h : Seen w mb ns) (ht : Touch F w w') (hf : ¬ F mb) : Seen w' mb ns := by
  obtain ⟨n, D, h1, h2, h3⟩ := h
  exact ⟨n, D, h1.touch ht hf, h2, h3⟩
theorem key_of (s : B) (hs : s.length ≤ 1048576) : keyOf Tryz.prog 9 (.string (ofL s)) = some (.string s) := by
  have h := keyOf_string_mk (P := Tryz.prog) (k := 9) Tryz.underlying9 (s := ofL s) (by rw [size_ofL]; unfold maxLen; omega)
  rw [h]; rfl
theorem tells_at {D : DataW Unit} {ns : List B} {s : B} {c : Int} (h : Tells D ns) (hat : D.atKey (.string s) (.lit (.int .i64 0)) = .lit (.int .i64 c)) : c = if ns.contains s then 1 else 0 := by
  have := h s
  rw [hat] at this
  simpa [num1] using this
theorem tells_put {w : World} {mb n : Nat} {D : DataW Unit} {ns : List B} {s : B} (hm : mapIs w mb n D) (h : Tells D ns) (hn : ns.contains s = false) : Tells (D.put (.string s) (num1 1)) (ns ++ [s]) := by
  have hI : IsMap D := by obtain ⟨es, clock, hb, hF, hs, hD⟩ := hm; exact ⟨_, hD⟩
  intro t
  by_cases ht : t = s
  · subst ht
    rw [atKey_put_same hI (show WideAt.IsKeyLit (.string _) by trivial)]
    simp
  · rw [atKey_put_other (by intro e; cases e; exact ht rfl), h t]
    simp [ht]
theorem put_at {w : World} {mb n : Nat} {D : DataW Unit} {s : B} {x c : Int} (hm : mapIs w mb n D) (hat : (D.put (.string s) (num1 x)).atKey (.string s) (.lit (.int .i64 0)) = .lit (.int .i64 c)) : c = x := by
  have hI : IsMap D := by obtain ⟨es, clock, hb, hF, hs, hD⟩ := hm; exact ⟨_, hD⟩
  rw [atKey_put_same hI (show WideAt.IsKeyLit (.string _) by trivial)] at hat
  simpa [num1] using hat.symm
end Go.Proofs.YthkpbgpgcpkiiaaGreatDoor
