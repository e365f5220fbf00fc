/- Own bytes: append, Clone. Conditions: the texts are short. -/
import Derived.Test.YthkpbgpgcpkiiaaGreatDoorJParH
import Derived.Maps.AppendAt
namespace Go.Proofs.YthkpbgpgcpkiiaaGreatDoor
open Go.RowKit
set_option linter.unusedVariables false
set_option linter.unusedSimpArgs false
set_option maxRecDepth 100000

theorem rowB : Row Tryz.prog 46 5 (.int .u8 0) 1 1 :=
  ⟨Tryz.underlying46, info_parts (by kernel_rfl), rfl, by decide, by decide⟩

def OwnB (w : World) (base : Nat) (v : Value) (l : B) : Prop := w.ownsRow base 5 1 v l.length (bytesV l)
theorem OwnB.touch {G : Nat → Prop} {w w' : World} {base : Nat} {v : Value} {l : B} (h : OwnB w base v l) (ht : Touch G w w') (hG : ∀ k, v.ownBlock = some k → ¬ G k) : OwnB w' base v l := own_touch h ht hG
theorem OwnB.below {w w' : World} {base : Nat} {v : Value} {l : B} (h : OwnB w base v l) (hb : Below w.heap.size w w') : OwnB w' base v l := own_below h hb
theorem wpList_strB {P : Program} (w : World) {ops : Array Oper} {rest : List Oper} {o : Oper} {a : Act} {Q : Exit → Act → World → Prop} (hgd : o.guard = none) (sl x : Operand) (t u : TypeId)
    (ho : o.op = .call { callee := .builtin .append, args := #[sl, x], argTypes := #[t, u] })
    (base : Nat) (hrow : Row P t 5 (.int .u8 0) 1 1) (hu : P.underlying u = some .string)
    (v : Value) (l : B) (hs : a.eval sl = v) (hown : OwnB w base v l) (s : ByteArray) (hx : a.eval x = .string s)
    (hbytes : l.length + s.size ≤ 140737488355328) (hbase : base ≤ w.heap.size)
    (h : ∀ v' w', OwnB w' base v' (l ++ s.toList) → Touch (fun k => v.ownBlock = some k) w w' → Below base w w' → wpList P ops Q rest (a.put o.dst v') w') : wpList P ops Q (o :: rest) a w :=
  wpList_pushStr w hgd sl x t u ho base hrow hu v l hs hown s hx hbytes hbase fun v' w' h1 h2 h3 => h v' w' h1 ((Touch.refl _ w).grown h2 (fun k hk => hk)) h3
/-- 'append(b, s...)', s bytes that are read. -/
theorem wpList_catR {P : Program} (w : World) {ops : Array Oper} {rest : List Oper} {o : Oper} {a : Act} {Q : Exit → Act → World → Prop} (hgd : o.guard = none) (sl x : Operand) (t : TypeId)
    (ho : o.op = .call { callee := .builtin .append, args := #[sl, x], argTypes := #[t, t] })
    (base : Nat) (hrow : Row P t 5 (.int .u8 0) 1 1)
    (v : Value) (l : B) (hs : a.eval sl = v) (hown : OwnB w base v l) (p : Addr) (k c : Nat) (m : B) (hx : a.eval x = .slice (some p) k c) (hS : Rd w 1 (.slice (some p) k c) m.length (bytesV m))
    (hbytes : l.length + m.length ≤ 140737488355328) (hbase : base ≤ w.heap.size)
    (h : ∀ v' w', OwnB w' base v' (l ++ m) → Touch (fun k => v.ownBlock = some k) w w' → Below base w w' → wpList P ops Q rest (a.put o.dst v') w') :
    wpList P ops Q (o :: rest) a w := by
  obtain ⟨ht, ⟨i, hi, hz, hsize, hby⟩, hzs, hsz, hbz⟩ := hrow
  have hown' : w.ownsRow base 5 1 v l.length (bytesV l) := hown
  obtain ⟨hlen, A', c', he, hcap, hmax, hnone, hsome⟩ := hS
  simp only [Value.slice.injEq] at he
  obtain ⟨rfl, rfl, rfl⟩ := he
  obtain ⟨hsp, hc⟩ := hsome p rfl
  obtain ⟨b, of, q⟩ := p
  simp only at hsp
  subst hsp
  refine wpList_append_own_at w hgd sl x t ho base 5 i _ 1 1 ht hi hz hsize hby hzs hsz v l.length (bytesV l) hs hown' ⟨b, of, none⟩ m.length c (bytesV m) hx (by rw [bytesV_len, Nat.mul_one]) ?_ (oneCell_bytes m) (by unfold maxLen; omega) (by omega) hbase fun v' w' h2 h3 h4 h5 => ?_
  · intro j u hj
    rw [show (⟨b, of, none⟩ : Addr).add j = ⟨b, of + j, none⟩ by unfold Addr.add; split <;> simp_all]
    exact hc j u hj
  · refine h v' w' ?_ ((Touch.refl _ w).grown h3 (fun k hk => hk)) ((Below.refl base w).grown h3 hbase fun k hk => (hown'.lt k hk).1)
    show w'.ownsRow _ _ _ _ _ _
    rw [List.length_append, bytesV_append]; exact h2

theorem clone_any (l : B) (v : Value) (w : World) (hR : Rd w 1 v l.length (bytesV l)) (hl : l.length ≤ 140737488351232) :
    Calls Tryz.prog 105 #[v] w fun e w' => ∃ v', e = .returned v' ∧ w'.ownsRow w.heap.size 5 1 v' l.length (bytesV l) ∧ Below w.heap.size w w' := by
  obtain ⟨hlen, A, c, rfl, hcap, hmax, hnone, hsome⟩ := hR
  have q22 : ∀ (w : World) (a : Option Addr) (n c n' c' : Nat), (binOp .eql 46 (.slice a n c) (.slice none n' c')).run Tryz.prog w = .ok (.bool a.isNone) w := fun w a n c n' c' => Lib.run_eql_slice_nil w _ _ a n c n' c' Tryz.underlying46
  cases A with
  | none =>
    have h0 := hnone rfl
    have hl0 := List.eq_nil_of_length_eq_zero h0
    subst hl0
    go_enter Tryz.func105, Tryz.ntmps105
    go_wp2
    go_ret
    exact ⟨_, rfl, World.ownsRow_nil _ _ _ _, Below.refl _ _⟩
  | some a =>
    obtain ⟨hsp, hc⟩ := hsome a rfl
    obtain ⟨b, o, q⟩ := a
    simp only at hsp
    subst hsp
    have Hc := Lib.hid hc
    have hone : ∀ u ∈ bytesV l, u.oneCell' = true := oneCell_bytes l
    obtain ⟨htu, ⟨i0, hi, hz, hsize, hby⟩, hzs, hsz, hbz⟩ := rowB
    clear hc
    go_enter Tryz.func105, Tryz.ntmps105
    go_wp2_with (at_builtin; refine wpList_append_own _ rfl _ _ 46 rfl w.heap.size 5 i0 _ 1 1 htu hi hz hsize hby hzs hsz _ _ _ rfl (World.ownsRow_made w #[] 0 (Nat.le_refl _) (Nat.zero_le _) (by simp)) ⟨b, o, none⟩ l.length c (bytesV l) rfl ?qc1 ?qc2 hone ?qc4 ?qc5 ?qc6 ?_)
    case qc2 =>
      intro j u hj
      exact keeps_alloc (Hc.out j u hj) _
    case qc4 => unfold maxLen; omega
    case qc5 => omega
    intro v' w1 hown hgrow hnil
    go_wp2
    go_ret
    refine ⟨v', rfl, by simpa using hown, ?_⟩
    exact ((Below.refl _ w).alloc (Nat.le_refl _) _).grown hgrow (by simp) (by intro k hk; simp [Value.ownBlock] at hk; omega)

end Go.Proofs.YthkpbgpgcpkiiaaGreatDoor
