/- JSON: how long a print is, by how much the value holds. Plain. Conditions: none. -/
import Derived.Test.YthkpbgpgcpkiiaaGreatDoorJsonL
import Derived.Lib.ItoaLen
namespace Go.Proofs.YthkpbgpgcpkiiaaGreatDoor
set_option linter.unusedVariables false
set_option linter.unusedSimpArgs false
set_option maxRecDepth 100000

theorem quote_len : ∀ s : B, (quoteB s).length ≤ 6 * s.length + 2 := by
  have h : ∀ s : B, (s.flatMap quoteC).length ≤ 6 * s.length := by
    intro s
    induction s with
    | nil => simp
    | cons c s ih =>
      rw [List.flatMap_cons, List.length_append, List.length_cons]
      have : (quoteC c).length ≤ 6 := by unfold quoteC; split; · simp
                                         split <;> simp
      omega
  intro s
  unfold quoteB
  rw [List.length_cons, List.length_append]
  have := h s
  simp only [List.length_cons, List.length_nil]
  omega
theorem join_len : ∀ l : List B, (joinB l).length ≤ (l.map fun x => x.length + 1).sum
  | [] => by simp [joinB]
  | [x] => by simp [joinB]
  | x :: y :: l => by
    have ih := join_len (y :: l)
    rw [joinB, List.length_append, List.length_cons, List.map_cons, List.sum_cons]
    omega
theorem sum_perm {α : Type} (f : α → Nat) {l m : List α} (h : l.Perm m) : (l.map f).sum = (m.map f).sum := (h.map f).sum_nat
theorem zip_sum : ∀ (ns : List B) (ts : List B), ((ns.zip ts).map fun p => 6 * p.1.length + p.2.length + 4).sum ≤ 6 * (ns.map List.length).sum + 4 * ns.length + (ts.map List.length).sum
  | [], _ => by simp
  | _ :: _, [] => by simp
  | a :: ns, b :: ts => by
    have ih := zip_sum ns ts
    simp only [List.zip_cons_cons, List.map_cons, List.sum_cons, List.length_cons]
    omega
theorem mem_sum_le {α : Type} {f g : α → Nat} : ∀ {l : List α}, (∀ x ∈ l, f x ≤ g x) → (l.map f).sum ≤ (l.map g).sum
  | [], _ => by simp
  | x :: l, h => by
    have h1 := h x (by simp)
    have h2 := mem_sum_le (l := l) fun y hy => h y (by simp [hy])
    simp only [List.map_cons, List.sum_cons]; omega
theorem wts_sum : ∀ l : List J, wtsJ l = (l.map wtJ).sum
  | [] => by rw [wtsJ]; rfl
  | v :: l => by rw [wtsJ, wts_sum l]; rfl
theorem sum_30 (l : List J) : (l.map fun x => 30 * wtJ x).sum = 30 * (l.map wtJ).sum := by
  induction l with
  | nil => rfl
  | cons x l ih => simp only [List.map_cons, List.sum_cons, ih]; omega
theorem text_wt : ∀ v : J, wfJ v = true → (textJ v).length + 1 ≤ 30 * wtJ v := by
  intro v
  induction v using J.ind with
  | h k n t ns is ih =>
    intro hw
    rw [wfJ] at hw
    simp only [Bool.and_eq_true, decide_eq_true_eq] at hw
    obtain ⟨⟨q1, q2⟩, q3⟩ := hw
    have hi := Lib.itoa_length_le n q1 q2
    have hq := quote_len t
    have ih' : ((is.map textJ).map fun x : B => x.length + 1).sum ≤ 30 * wtsJ is := by
      rw [List.map_map, wts_sum, ← sum_30]
      exact mem_sum_le (fun x hx => ih x hx (wfs_all.1 q3 x hx))
    have ih2 : ((is.map textJ).map List.length).sum ≤ 30 * wtsJ is :=
      Nat.le_trans (mem_sum_le (fun x _ => Nat.le_succ _)) ih'
    rw [textJ, wtJ]
    split
    · simp; omega
    · split
      · split <;> (simp; omega)
      · split
        · omega
        · split
          · omega
          · split
            · rw [texts_map]
              have := join_len (is.map textJ)
              simp only [List.length_cons, List.length_append, List.length_nil]; omega
            · rw [texts_map]
              have h1 := join_len ((sortP (ns.zip (is.map textJ))).map memB)
              have h2 : (((sortP (ns.zip (is.map textJ))).map memB).map fun x => x.length + 1).sum ≤ ((sortP (ns.zip (is.map textJ))).map fun p => 6 * p.1.length + p.2.length + 4).sum := by
                rw [List.map_map]
                refine mem_sum_le fun p _ => ?_
                have := quote_len p.1
                simp only [Function.comp, memB, List.length_append, List.length_cons]; omega
              rw [sum_perm _ (sort_perm _)] at h2
              have h3 := zip_sum ns (is.map textJ)
              simp only [List.length_cons, List.length_append, List.length_nil]; omega
end Go.Proofs.YthkpbgpgcpkiiaaGreatDoor
