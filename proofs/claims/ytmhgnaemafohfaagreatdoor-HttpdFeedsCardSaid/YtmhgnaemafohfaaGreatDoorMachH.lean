/- One byte for the machine, whatever it waits for (httpd). Conditions: the machine is within its bounds. -/
import Derived.Test.YtmhgnaemafohfaaGreatDoorMachG
namespace Go.Proofs.YtmhgnaemafohfaaGreatDoor
open Go.RowKit
set_option linter.unusedVariables false
set_option linter.unusedSimpArgs false
set_option maxRecDepth 100000

def stepSt (x : Mc) (c : UInt8) : Nat := match x.st with
  | .heads => headsSt x c
  | .sizes => sizesSt x c
  | .plain => plainSt x
  | .chunk => 1
  | .endS => if c = 10 then sizedSt x else 400
  | .lineC => if c = 13 then 1 else 400
  | .endC => if c = 10 then 1 else 400
  | .lineE => if c = 13 then 1 else 400
  | .endE => if c = 10 then 0 else 400
def stepX (x : Mc) (c : UInt8) : Mc := match x.st with
  | .heads => headsStep x c
  | .sizes => sizesStep x c
  | .plain => plainStep x c
  | .chunk => chunkStep x c
  | .endS => sized x
  | .lineC => { x with st := .endC }
  | .endC => { x with st := .sizes }
  | .lineE => { x with st := .endE }
  | .endE => x
/-- Its bounds. -/
def Fits (x : Mc) : Prop :=
  (x.st = .heads → x.head.length ≤ 8195 ∧ x.left = 0 ∧ x.many = 0) ∧ x.b.length ≤ 65536 ∧ x.left ≤ 1099511627776 ∧ x.many ≤ 8 ∧
    ((x.st = .plain ∨ x.st = .chunk) → 1 ≤ x.left ∧ x.left ≤ 1048576)
/-- A function value that takes a byte as the machine's next state. -/
def Takes (bm : Nat) (c : UInt8) (w : World) (nx : Value) (Q : Ending → World → Prop) : Prop :=
  (∃ f, nx = .func (.func f) #[] #[] ∧ (∀ args w, (callFunc f args).run Tryz.prog w = .ok (.enter f args) w) ∧ Calls Tryz.prog f #[.pointer (some ⟨bm, 0, none⟩), .int .u8 c.toNat] w Q) ∨
  (∃ f b, nx = .func (.func f) #[] #[.pointer (some ⟨b, 0, none⟩)] ∧ (∀ args w, (callFunc f args).run Tryz.prog w = .ok (.enter f args) w) ∧ Calls Tryz.prog f #[.pointer (some ⟨bm, 0, none⟩), .int .u8 c.toNat, .pointer (some ⟨b, 0, none⟩)] w Q)
theorem next_any (bm : Nat) (F : Nat → Prop) (x : Mc) (c : UInt8) (w : World) (hI : MI w bm F x) (hx : Fits x) (hg : Glob w) (hgF : ¬ F 0) :
    ∃ nx, w.cell? ⟨bm, 0, none⟩ = some nx ∧ Takes bm c w nx fun e w' => e = .returned (.int .i64 (stepSt x c)) ∧ StepOut w bm F (stepSt x c) (stepX x c) w' := by
  have hI' := hI
  obtain ⟨nx, hv, hB, hN, hhd⟩ := hI
  have hB' := hB
  obtain ⟨hF, Hv, Bv, hM, _⟩ := hB
  obtain ⟨f1, f2, f3, f4, f5⟩ := hx
  refine ⟨nx, hM.c0, ?_⟩
  unfold stepSt stepX
  cases hst : x.st
  all_goals (rw [hst] at hN)
  case heads => exact .inl ⟨_, hN, fun _ _ => by rfl, heads_any bm F x c w hI' hst (f1 hst).1 hg hgF⟩
  case sizes => exact .inl ⟨_, hN, fun _ _ => by rfl, sizes_any bm F x c w hI' hst f3 f4⟩
  case plain => exact .inl ⟨_, hN, fun _ _ => by rfl, plain_any bm F x c w hI' hst (f5 (.inl hst)).1 (f5 (.inl hst)).2 (by omega)⟩
  case chunk => exact .inl ⟨_, hN, fun _ _ => by rfl, chunk_any bm F x c w hI' hst (f5 (.inr hst)).1 (f5 (.inr hst)).2 (by omega)⟩
  case endS =>
    obtain ⟨b, h1, h2, h3⟩ := hN
    exact .inr ⟨_, b, h1, fun _ _ => by rfl, end1_any _ _ _ bm b F c w (fun _ _ => by rfl) (sizes1_any bm F nx hv x w hB' f3 (by omega)) h3⟩
  case lineC =>
    obtain ⟨b, h1, h2, h3⟩ := hN
    exact .inr ⟨_, b, h1, fun _ _ => by rfl, line1_any _ .endC (fun _ _ _ => rfl) (fun h => by cases h) bm b F nx hv x c w hB' h3⟩
  case endC =>
    obtain ⟨b, h1, h2, h3⟩ := hN
    exact .inr ⟨_, b, h1, fun _ _ => by rfl, end1_any _ _ _ bm b F c w (fun _ _ => by rfl) (chunk1_any bm F nx hv x w hB') h3⟩
  case lineE =>
    obtain ⟨b, h1, h2, h3⟩ := hN
    exact .inr ⟨_, b, h1, fun _ _ => by rfl, line1_any _ .endE (fun _ _ _ => rfl) (fun h => by cases h) bm b F nx hv x c w hB' h3⟩
  case endE =>
    obtain ⟨b, h1, h2, h3⟩ := hN
    exact .inr ⟨_, b, h1, fun _ _ => by rfl, end1_any _ _ _ bm b F c w (fun _ _ => by rfl) (stop_any bm F nx hv x w hB') h3⟩
end Go.Proofs.YtmhgnaemafohfaaGreatDoor
