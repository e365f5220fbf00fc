/- strconv's two errors are laid. Conditions: none. -/
import Derived.Test.YtgdelmkgdfhdpaaGreatDoorRowX
import Derived.Test.YtgdelmkgdfhdpaaGreatDoorReadA
import Derived.LaidSub
namespace Go.Proofs.YtgdelmkgdfhdpaaGreatDoor.Rowk
open Go.ChangeShapes Go.WideShapes Go.ChangeAt Go.RowKit
set_option linter.unusedVariables false
set_option maxRecDepth 100000

theorem iface_trod {H : Type} {enc : TypeId × Value → H} {P : Program} {w : World} {base fuel : Nat} {sp : Nat → Bool} {held : Bool} {t : TypeId} {m} {cs : List Value} {x : DataW H × List MemPlace} (ht : P.underlying t = some (.interface m))
    (h : DataW.trod enc P w base sp held fuel t cs = some x) : ∃ ev, cs = [ev] ∧ (ev = .nilIface ∨ ∃ te pe, ev = .iface te pe) := by
  cases fuel with
  | zero => cases h
  | succ fuel =>
    unfold DataW.trod at h
    rw [ht] at h
    split at h <;> first | (rename_i h1; cases h1; done) | skip
    all_goals first
      | exact ⟨_, rfl, .inl rfl⟩
      | exact ⟨_, rfl, .inr ⟨_, _, rfl⟩⟩
      | (simp_all; done)
theorem err_of_head {P : Program} {W : World} {name : String} {d : DataW Unit} {rest : List (String × DataW Unit)} {g : Nat} {t : TypeId} {m} (hg : P.globalNamed name = some g) (hty : (P.globals[g]?).map (·.type) = some t) (ht : P.underlying t = some (.interface m))
    (h : laidMet P ((name, d) :: rest) W) : ErrCell W g := by
  obtain ⟨ps, ⟨g', t', cs, fuel, p, q, hg', ht', hvar, hd, _, _⟩, _⟩ := h
  obtain rfl := Option.some.inj (hg.symm.trans hg')
  obtain rfl := Option.some.inj (hty.symm.trans ht')
  obtain ⟨ev, hcs, hev⟩ := iface_trod ht hd
  refine ⟨ev, ?_, hev⟩
  have := World.var?_cell hg hvar 0
  obtain ⟨l⟩ := cs
  simp only at hcs
  subst hcs
  simpa using this
end Go.Proofs.YtgdelmkgdfhdpaaGreatDoor.Rowk
