/- The machine takes bytes: run (httpd). Conditions: the bytes are short. -/
import Derived.Test.YtmhgnaemafohfaaGreatDoorMachI
namespace Go.Proofs.YtmhgnaemafohfaaGreatDoor
open Go.RowKit
set_option linter.unusedVariables false
set_option linter.unusedSimpArgs false
set_option maxRecDepth 100000

/-- How many bytes it takes, the status, and how it stands then. -/
def runM (x : Mc) : B → Nat × Nat × Mc
  | [] => (0, 1, x)
  | c :: l => if stepSt x c = 1 then ((runM (stepX x c) l).1 + 1, (runM (stepX x c) l).2) else (1, stepSt x c, stepX x c)
def RunRel (x : Mc) (l : B) (k : Nat) (y : Mc) : Prop := runM x l = ((runM y (l.drop k)).1 + k, (runM y (l.drop k)).2)
theorem runRel_go {x y : Mc} {l : B} {k : Nat} {c : UInt8} (h : RunRel x l k y) (hd : l.drop k = c :: l.drop (k + 1)) (h1 : stepSt y c = 1) : RunRel x l (k + 1) (stepX y c) := by
  unfold RunRel at *; rw [h, hd, runM, if_pos h1]; simp only [Prod.mk.injEq, and_true]; omega
theorem runRel_stop {x y : Mc} {l : B} {k : Nat} {c : UInt8} (h : RunRel x l k y) (hd : l.drop k = c :: l.drop (k + 1)) (h1 : ¬ stepSt y c = 1) : runM x l = (k + 1, stepSt y c, stepX y c) := by
  unfold RunRel at *; rw [h, hd, runM, if_neg h1]; simp only [Prod.mk.injEq, and_true]; omega
theorem runRel_end {x y : Mc} {l : B} (h : RunRel x l l.length y) : runM x l = (l.length, 1, y) := by
  unfold RunRel at *; rw [h, List.drop_length, runM]; simp

set_option maxHeartbeats 4000000 in
theorem run_any (bm : Nat) (F : Nat → Prop) (x : Mc) (l : B) (v : Value) (w : World) (hI : MI w bm F x) (hx : Bound x) (hg : Glob w) (hgF : ¬ F 0) (hR : Rd w 1 v l.length (bytesV l)) (hl : l.length ≤ 140737488355328)
    (hv : l ≠ [] → ∀ a n c, v = .slice (some a) n c → ¬ F a.block) :
    Calls Tryz.prog 41 #[.pointer (some ⟨bm, 0, none⟩), v] w fun e w' => e = .returned (.tuple #[.int .i64 (runM x l).1, .int .i64 (runM x l).2.1]) ∧ StepOut w bm F (runM x l).2.1 (runM x l).2.2 w' := by
  obtain ⟨A, cp, rfl⟩ := hR.shape
  have HF := Lib.hid (show F bm ∧ ∀ k, F k → k < w.heap.size from by obtain ⟨nx, hv, hB, _⟩ := hI; exact hB.1)
  have HR := Lib.hid hR
  have HV := Lib.hid hv
  have HI := Lib.hid hI
  clear hR hv hI
  go_enter Tryz.func41, Tryz.ntmps41
  go_wp2
  go_loopw [11] (fun i wr => ∃ (k : Nat) (y : Mc), k ≤ l.length ∧ i = .int .i64 k ∧ Hid (RunRel x l k y) ∧ Hid (Bound y) ∧ Hid (MI wr bm (Grow F w wr) y) ∧ Hid (Touch F w wr)) (fun i _ => l.length - (intOf i).toNat)
  case atStart => exact ⟨0, x, Nat.zero_le _, rfl, (by show RunRel x l 0 x; unfold RunRel; simp), hx, HI.out.mono (fun k h => .inl h) (fun k h => h.elim (HF.out.2 k) (·.2)), Touch.refl _ _⟩
  case round =>
    obtain ⟨k, y, hk, rfl, Hr, Hb, Hy, Ht⟩ := hrel
    by_cases hlt : k < l.length
    · obtain ⟨c, hh⟩ : ∃ c, l[k]? = some c := ⟨l[k], List.getElem?_eq_getElem hlt⟩
      have Hd := Lib.hid (show l.drop k = c :: l.drop (k + 1) by rw [List.drop_eq_getElem_cons hlt]; rw [List.getElem?_eq_getElem hlt] at hh; rw [Option.some.inj hh])
      obtain ⟨b, o, rfl, hc⟩ := (rd_touch HR.out Ht.out (HV.out (fun e => by rw [e] at hlt; exact absurd hlt (Nat.not_lt_zero _)))).byteAt hh
      clear hh
      obtain ⟨nx, hnx, htk⟩ := next_any bm (Grow F w wr) y c wr Hy.out (bound_fits Hb.out) (hg.touch Ht.out hgF) (fun h => h.elim hgF fun h => by have := hg; obtain ⟨m, hm⟩ := this; have := lt_of_cell hm; omega)
      by_cases h1 : stepSt y c = 1
      · have H1 := Lib.hid h1
        have h2 : ((stepSt y c : Int) != 1) = false := by simp [h1]
        rcases htk with ⟨f, rfl, hrun, hcall⟩ | ⟨f, bx, rfl, hrun, hcall⟩
        all_goals
          have HC := Lib.hid hcall
          clear hcall h1
          go_wp2_with fail
          refine HC.out.mono ?_
          rintro e w6 ⟨rfl, hso⟩
          have HS := Lib.hid hso
          clear hso
          go_wp2_with fail
          go_roundw
          case rel =>
            have hso := StepOut.after HF.out.2 Ht.out HS.out
            exact ⟨k + 1, stepX y c, by omega, by go_num, runRel_go Hr.out Hd.out H1.out, bound_step Hb.out H1.out, hso.2.1 H1.out, hso.1⟩
          case measure => simp [intOf]; omega
      · have H1 := Lib.hid h1
        have h2 : ((stepSt y c : Int) != 1) = true := by simp; omega
        have Hz := Lib.hid (runRel_stop Hr.out Hd.out h1)
        rcases htk with ⟨f, rfl, hrun, hcall⟩ | ⟨f, bx, rfl, hrun, hcall⟩
        all_goals
          have HC := Lib.hid hcall
          clear hcall h1
          go_wp2_with fail
          refine HC.out.mono ?_
          rintro e w6 ⟨rfl, hso⟩
          have HS := Lib.hid hso
          clear hso
          go_wp2_with fail
          refine bodyPost_ret (results_tmp2 rfl _ _ _) rfl ?_
          rw [Hz.out]
          exact ⟨ret_ii (by omega) rfl, StepOut.after HF.out.2 Ht.out HS.out⟩
    · have hke : k = l.length := by omega
      have Hz := Lib.hid (runRel_end (by rw [← hke]; exact Hr.out))
      clear hke
      go_wp2_with fail
      refine bodyPost_ret (results_tmp2 rfl _ _ _) rfl ?_
      rw [Hz.out]
      exact ⟨ret_ii rfl rfl, Ht.out, fun _ => Hy.out, fun h => by cases h⟩
end Go.Proofs.YtmhgnaemafohfaaGreatDoor
