/- How a value lies in memory. Conditions: none. -/
import Derived.Test.YthkpbgpgcpkiiaaGreatDoorJParK
import Derived.Test.YthkpbgpgcpkiiaaGreatDoorJsonK
namespace Go.Proofs.YthkpbgpgcpkiiaaGreatDoor
open Go.RowKit
set_option linter.unusedVariables false
set_option linter.unusedSimpArgs false
set_option maxRecDepth 100000

/-- A slice value reads as n elements; where there is none its address may be any; P holds of the block where it lies. -/
def RdP (P : Nat → Prop) (w : World) (size : Nat) (v : Value) (n : Nat) (cs : List Value) : Prop :=
  (∃ A c, v = .slice A n c) ∧ ((n = 0 ∧ cs = []) ∨ (Rd w size v n cs ∧ ∀ a n c, v = .slice (some a) n c → P a.block))
theorem RdP.shape {P : Nat → Prop} {w : World} {size n : Nat} {v : Value} {cs : List Value} (h : RdP P w size v n cs) : ∃ A c, v = .slice A n c := h.1
theorem RdP.keep {P : Nat → Prop} {w w' : World} {size n : Nat} {v : Value} {cs : List Value} (h : RdP P w size v n cs) (hk : ∀ b o u, P b → w.cell? ⟨b, o, none⟩ = some u → w'.cell? ⟨b, o, none⟩ = some u) : RdP P w' size v n cs := by
  obtain ⟨h1, h2⟩ := h
  refine ⟨h1, h2.imp id fun ⟨h3, h4⟩ => ⟨?_, h4⟩⟩
  obtain ⟨k1, A, c, rfl, k3, k4, k5, k6⟩ := h3
  exact ⟨k1, A, c, rfl, k3, k4, k5, fun a ha => ⟨(k6 a ha).1, fun j u hj => hk _ _ _ (h4 a n c (by rw [ha])) ((k6 a ha).2 j u hj)⟩⟩
theorem RdP.mono {P Q : Nat → Prop} {w : World} {size n : Nat} {v : Value} {cs : List Value} (h : RdP P w size v n cs) (hs : 0 < size) (hk : ∀ b, P b → b < w.heap.size → Q b) : RdP Q w size v n cs := by
  obtain ⟨h1, h2⟩ := h
  refine ⟨h1, ?_⟩
  rcases h2 with h2 | ⟨h3, h4⟩
  · exact .inl h2
  · by_cases hn : n = 0
    · refine .inl ⟨hn, ?_⟩
      have := h3.1
      rw [hn, Nat.zero_mul] at this
      exact List.eq_nil_of_length_eq_zero this
    · refine .inr ⟨h3, fun a m c e => hk _ (h4 a m c e) ?_⟩
      obtain ⟨k1, A, c', e', k3, k4, k5, k6⟩ := h3
      rw [e] at e'
      cases e'
      have hl : 0 < cs.length := by rw [k1]; exact Nat.mul_pos (by omega) hs
      exact lt_of_cell ((k6 a rfl).2 0 cs[0] (List.getElem?_eq_getElem hl))
theorem RdP.of_rd {P : Nat → Prop} {w : World} {size n : Nat} {v : Value} {cs : List Value} (h : Rd w size v n cs) (hp : ∀ a n c, v = .slice (some a) n c → P a.block) : RdP P w size v n cs :=
  ⟨h.shape, .inr ⟨h, hp⟩⟩
theorem RdP.nil {P : Nat → Prop} {w : World} {size : Nat} : RdP P w size (.slice none 0 0) 0 [] := ⟨⟨_, _, rfl⟩, .inl ⟨rfl, rfl⟩⟩
theorem RdP.rd {P : Nat → Prop} {w : World} {size n : Nat} {v : Value} {cs : List Value} (h : RdP P w size v n cs) (hn : n ≠ 0) : Rd w size v n cs := by
  rcases h.2 with h | h
  · exact absurd h.1 hn
  · exact h.1
theorem RdP.len {P : Nat → Prop} {w : World} {size n : Nat} {v : Value} {cs : List Value} (h : RdP P w size v n cs) : cs.length = n * size := by
  rcases h.2 with ⟨rfl, rfl⟩ | h
  · simp
  · exact h.1.1
mutual
/-- Five cells read as a value. -/
def RJ (P : Nat → Prop) (w : World) : J → List Value → Prop
  | .mk k n t ns is, cs => ∃ N I, cs = [.int .i64 k, .int .i64 n, .string (ofL t), N, I] ∧ RdP P w 1 N ns.length (strs ns) ∧ ∃ xs, RdP P w 5 I is.length xs ∧ RJs P w is xs
/-- Cells read as values. -/
def RJs (P : Nat → Prop) (w : World) : List J → List Value → Prop
  | [], cs => cs = []
  | v :: l, cs => ∃ a b, cs = a ++ b ∧ RJ P w v a ∧ RJs P w l b
end
theorem RJ.len {P : Nat → Prop} {w : World} {v : J} {cs : List Value} (h : RJ P w v cs) : cs.length = 5 := by
  cases v with
  | mk k n t ns is => rw [RJ] at h; obtain ⟨N, I, rfl, _⟩ := h; rfl
theorem RJs.len {P : Nat → Prop} {w : World} : ∀ {l : List J} {cs : List Value}, RJs P w l cs → cs.length = l.length * 5
  | [], cs, h => by rw [RJs] at h; rw [h]; rfl
  | v :: l, cs, h => by
    rw [RJs] at h
    obtain ⟨a, b, rfl, h1, h2⟩ := h
    rw [List.length_append, h1.len, RJs.len h2, List.length_cons]; omega
theorem RJs.all {P : Nat → Prop} {w : World} : ∀ {l : List J} {cs : List Value}, RJs P w l cs ↔ (cs.length = l.length * 5 ∧ ∀ i v, l[i]? = some v → RJ P w v ((cs.drop (i * 5)).take 5))
  | [], cs => by
    rw [RJs]
    constructor
    · intro h; subst h; exact ⟨rfl, fun i v h => by simp at h⟩
    · intro h; exact List.eq_nil_of_length_eq_zero (by simpa using h.1)
  | v :: l, cs => by
    constructor
    · intro h
      refine ⟨h.len, ?_⟩
      rw [RJs] at h
      obtain ⟨a, b, rfl, h1, h2⟩ := h
      have hal := h1.len
      intro i u hu
      cases i with
      | zero =>
        simp only [List.getElem?_cons_zero, Option.some.injEq] at hu
        subst hu
        rw [Nat.zero_mul, List.drop_zero, List.take_append_of_le_length (by omega), List.take_of_length_le (by omega)]; exact h1
      | succ i =>
        rw [List.getElem?_cons_succ] at hu
        have := (RJs.all.1 h2).2 i u hu
        rw [show (i + 1) * 5 = a.length + i * 5 by omega, ← List.drop_drop, List.drop_left]; exact this
    · intro ⟨h1, h2⟩
      rw [RJs]
      refine ⟨cs.take 5, cs.drop 5, (List.take_append_drop 5 cs).symm, by simpa using h2 0 v rfl, RJs.all.2 ⟨?_, fun i u hu => ?_⟩⟩
      · rw [List.length_drop, h1, List.length_cons]; omega
      · have := h2 (i + 1) u hu
        rw [List.drop_drop, show 5 + i * 5 = (i + 1) * 5 by omega]; exact this
theorem RJ.keep {P : Nat → Prop} {w w' : World} (hk : ∀ b o u, P b → w.cell? ⟨b, o, none⟩ = some u → w'.cell? ⟨b, o, none⟩ = some u) : ∀ (v : J) (cs : List Value), RJ P w v cs → RJ P w' v cs := by
  intro v
  induction v using J.ind with
  | h k n t ns is ih =>
    intro cs h
    rw [RJ] at h ⊢
    obtain ⟨N, I, rfl, h1, xs, h2, h3⟩ := h
    refine ⟨N, I, rfl, h1.keep hk, xs, h2.keep hk, RJs.all.2 ⟨h3.len, fun i u hu => ?_⟩⟩
    exact ih u (List.mem_of_getElem? hu) _ ((RJs.all.1 h3).2 i u hu)
theorem RJ.mono {P Q : Nat → Prop} {w : World} (hk : ∀ b, P b → b < w.heap.size → Q b) : ∀ (v : J) (cs : List Value), RJ P w v cs → RJ Q w v cs := by
  intro v
  induction v using J.ind with
  | h k n t ns is ih =>
    intro cs h
    rw [RJ] at h ⊢
    obtain ⟨N, I, rfl, h1, xs, h2, h3⟩ := h
    refine ⟨N, I, rfl, h1.mono (by decide) hk, xs, h2.mono (by decide) hk, RJs.all.2 ⟨h3.len, fun i u hu => ?_⟩⟩
    exact ih u (List.mem_of_getElem? hu) _ ((RJs.all.1 h3).2 i u hu)
theorem RJs.keep {P : Nat → Prop} {w w' : World} (hk : ∀ b o u, P b → w.cell? ⟨b, o, none⟩ = some u → w'.cell? ⟨b, o, none⟩ = some u) {l : List J} {cs : List Value} (h : RJs P w l cs) : RJs P w' l cs :=
  RJs.all.2 ⟨h.len, fun i u hu => RJ.keep hk _ _ ((RJs.all.1 h).2 i u hu)⟩
theorem RJs.mono {P Q : Nat → Prop} {w : World} (hk : ∀ b, P b → b < w.heap.size → Q b) {l : List J} {cs : List Value} (h : RJs P w l cs) : RJs Q w l cs :=
  RJs.all.2 ⟨h.len, fun i u hu => RJ.mono hk _ _ ((RJs.all.1 h).2 i u hu)⟩
theorem RJs.snoc {P : Nat → Prop} {w : World} {v : J} {c : List Value} (hv : RJ P w v c) : ∀ {l : List J} {cs : List Value}, RJs P w l cs → RJs P w (l ++ [v]) (cs ++ c)
  | [], cs, h => by rw [RJs] at h; subst h; rw [List.nil_append, List.nil_append, RJs]; exact ⟨c, [], by simp, hv, by rw [RJs]⟩
  | u :: l, cs, h => by
    rw [RJs] at h
    obtain ⟨a, b, rfl, h1, h2⟩ := h
    rw [List.cons_append, RJs, List.append_assoc]
    exact ⟨a, b ++ c, rfl, h1, RJs.snoc hv h2⟩
/-- What a frame keeps. -/
theorem touch_keeps {F P : Nat → Prop} {w w' : World} (ht : Touch F w w') (hp : ∀ b, P b → ¬ F b) : ∀ b o u, P b → w.cell? ⟨b, o, none⟩ = some u → w'.cell? ⟨b, o, none⟩ = some u := by
  intro b o u hb h
  rw [ht.cell (p := ⟨b, o, none⟩) (lt_of_cell h) (hp b hb)]; exact h
theorem below_keeps {P : Nat → Prop} {w w' : World} (hb : Below w.heap.size w w') : ∀ b o u, P b → w.cell? ⟨b, o, none⟩ = some u → w'.cell? ⟨b, o, none⟩ = some u := fun _ _ _ _ h => Below.keeps hb h
theorem RJ.below {P : Nat → Prop} {w w' : World} {v : J} {cs : List Value} (h : RJ P w v cs) (hb : Below w.heap.size w w') : RJ P w' v cs := RJ.keep (below_keeps hb) _ _ h
theorem RJs.below {P : Nat → Prop} {w w' : World} {v : List J} {cs : List Value} (h : RJs P w v cs) (hb : Below w.heap.size w w') : RJs P w' v cs := RJs.keep (below_keeps hb) h
/-- A value that is told: its memory is new. -/
def valV (H : Nat) (v : J) (e : Ending) (w : World) : Prop := ∃ N I, e = .returned (.agg #[.int .i64 v.kind, .int .i64 v.int, .string (ofL v.text), N, I]) ∧ RJ (fun b => H ≤ b) w v [.int .i64 v.kind, .int .i64 v.int, .string (ofL v.text), N, I]
theorem rj_plain {P : Nat → Prop} {w : World} (k n : Int) (t : B) : RJ P w (.mk k n t [] []) [.int .i64 k, .int .i64 n, .string (ofL t), .slice none 0 0, .slice none 0 0] := by
  rw [RJ]
  exact ⟨_, _, rfl, RdP.nil, [], RdP.nil, by rw [RJs]⟩
theorem valV_plain (H : Nat) (k n : Int) (t : B) (w : World) : valV H (.mk k n t [] []) (.returned (.agg #[.int .i64 k, .int .i64 n, .string (ofL t), .slice none 0 0, .slice none 0 0])) w := ⟨_, _, rfl, rj_plain k n t⟩
end Go.Proofs.YthkpbgpgcpkiiaaGreatDoor
