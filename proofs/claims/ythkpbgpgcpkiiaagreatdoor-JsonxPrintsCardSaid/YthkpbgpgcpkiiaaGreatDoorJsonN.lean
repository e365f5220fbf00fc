/- JSON: three texts. Plain. Conditions: none. -/
import Derived.Test.YthkpbgpgcpkiiaaGreatDoorJsonM
namespace Go.Proofs.YthkpbgpgcpkiiaaGreatDoor
set_option linter.unusedVariables false
set_option linter.unusedSimpArgs false
set_option maxRecDepth 100000

def wakeV : J := .mk 5 0 [] [[98], [97]] [.mk 2 1 [] [] [], .mk 4 0 [] [] [.mk 1 1 [] [] [], .mk 0 0 [] [] []]]
def wakeB : B := [123, 34, 98, 34, 58, 49, 44, 34, 97, 34, 58, 91, 116, 114, 117, 101, 44, 110, 117, 108, 108, 93, 125]
def wakeT : B := [123, 34, 97, 34, 58, 91, 116, 114, 117, 101, 44, 110, 117, 108, 108, 93, 44, 34, 98, 34, 58, 49, 125]
theorem wake_parse : parseJ wakeB = (wakeV, 0, 0) := by rfl
theorem wake_fail : parseJ [91, 49, 44, 93] = (J0, 3, 40) := by rfl
theorem itoa_1 : Lib.itoa 1 = [49] := by
  unfold Lib.itoa
  rw [if_neg (by decide), show (1 : Int).toNat = 1 from rfl, Lib.decDigits]
  rfl
theorem wake_text : textJ wakeV = wakeT := by
  unfold wakeV
  simp only [textJ, textsJ, itoa_1]
  rfl
theorem wake_print : printJ wakeV = (wakeT, 0) := by
  unfold printJ
  rw [wake_text]; rfl
theorem wake_wf : wfJ wakeV = true := by rfl
theorem wake_wt : wtJ wakeV = 9 := by rfl
end Go.Proofs.YthkpbgpgcpkiiaaGreatDoor
