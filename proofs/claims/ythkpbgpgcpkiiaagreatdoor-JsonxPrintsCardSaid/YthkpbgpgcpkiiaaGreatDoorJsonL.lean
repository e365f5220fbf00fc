/- JSON: how a print grows, member by member; how long it is. Plain. Conditions: none. -/
import Derived.Test.YthkpbgpgcpkiiaaGreatDoorJsonK
namespace Go.Proofs.YthkpbgpgcpkiiaaGreatDoor
set_option linter.unusedVariables false
set_option linter.unusedSimpArgs false
set_option maxRecDepth 100000

/-- Parts behind one another: the first has one byte ahead, each other a comma. -/
def runB (c : UInt8) : List B → B
  | [] => []
  | x :: l => c :: (x ++ l.flatMap fun y => 44 :: y)
theorem runB_snoc (c : UInt8) (x : B) : ∀ xs : List B, runB c (xs ++ [x]) = runB c xs ++ ((if xs.length = 0 then c else 44) :: x)
  | [] => by simp [runB]
  | y :: l => by simp [runB]
theorem runB_le (c : UInt8) (b : List B) : ∀ a : List B, (runB c a).length ≤ (runB c (a ++ b)).length
  | [] => by simp [runB]
  | y :: l => by simp [runB]
theorem runB_take_le (c : UInt8) (xs : List B) (n : Nat) : (runB c (xs.take n)).length ≤ (runB c xs).length := by
  conv => rhs; rw [← List.take_append_drop n xs]
  exact runB_le c _ _
theorem join_run : ∀ (x : B) (l : List B), joinB (x :: l) = x ++ l.flatMap fun y => 44 :: y
  | x, [] => by simp [joinB]
  | x, y :: l => by rw [joinB, join_run y l]; simp
theorem runB_join (c : UInt8) (xs : List B) : runB c xs ++ (if xs.length = 0 then [c] else []) = c :: joinB xs := by
  cases xs with
  | nil => simp [runB, joinB]
  | cons x l => rw [join_run]; simp [runB]
theorem runB_step (c : UInt8) (xs : List B) (n : Nat) (x : B) (h : xs[n]? = some x) : runB c (xs.take (n + 1)) = runB c (xs.take n) ++ ((if n = 0 then c else 44) :: x) := by
  have hn := (List.getElem?_eq_some_iff.1 h).1
  rw [List.take_add_one, h, Option.toList_some, runB_snoc, List.length_take, Nat.min_eq_left (by omega)]
theorem runB_step_le (c : UInt8) (xs : List B) (n : Nat) (x : B) (h : xs[n]? = some x) : (runB c (xs.take n)).length + 1 + x.length ≤ 1 + (joinB xs).length := by
  have h1 := runB_take_le c xs (n + 1)
  rw [runB_step c xs n x h] at h1
  have h2 := congrArg List.length (runB_join c xs)
  have hn := (List.getElem?_eq_some_iff.1 h).1
  rw [if_neg (by omega)] at h2
  simp only [List.length_append, List.length_cons, List.length_nil] at h1 h2
  omega
mutual
/-- How much a value holds. -/
def wtJ : J → Nat
  | .mk k n t ns is => 1 + t.length + ns.length + (ns.map List.length).sum + wtsJ is
def wtsJ : List J → Nat
  | [] => 0
  | v :: l => wtJ v + wtsJ l
end
theorem wt_pos : ∀ v : J, 1 ≤ wtJ v
  | .mk k n t ns is => by rw [wtJ]; omega
theorem wts_len : ∀ l : List J, l.length ≤ wtsJ l
  | [] => by simp
  | v :: l => by rw [wtsJ, List.length_cons]; have := wts_len l; have := wt_pos v; omega
theorem wts_mem : ∀ {l : List J} {v : J}, v ∈ l → wtJ v ≤ wtsJ l
  | u :: l, v, h => by
    rw [wtsJ]
    rcases List.mem_cons.1 h with rfl | h
    · omega
    · have := wts_mem h; omega
theorem sum_mem : ∀ {l : List B} {s : B}, s ∈ l → s.length ≤ (l.map List.length).sum
  | u :: l, v, h => by
    rw [List.map_cons, List.sum_cons]
    rcases List.mem_cons.1 h with rfl | h
    · omega
    · have := sum_mem h; omega
/-- Ordered places tell the sorted members. -/
def Ordered (ns : List B) (idx : List Nat) : Prop := idx.Perm (List.range ns.length) ∧ idx.Pairwise fun i j => ltB (ns.getD j []) (ns.getD i []) = false
theorem zip_range {α : Type} (d : α) (ns : List B) (is : List α) (hl : ns.length = is.length) : (List.range ns.length).map (fun i => (ns.getD i [], is.getD i d)) = ns.zip is := by
  apply List.ext_getElem
  · simp [hl]
  · intro i h1 h2
    simp at h1
    simp [List.getElem?_eq_getElem h1, List.getElem?_eq_getElem (hl ▸ h1)]
theorem ordered_sort {α : Type} (d : α) {ns : List B} {idx : List Nat} (is : List α) (h : Ordered ns idx) (hl : ns.length = is.length) (hn : ns.Nodup) : idx.map (fun i => (ns.getD i [], is.getD i d)) = sortP (ns.zip is) := by
  have hz : ((ns.zip is).map (·.1)) = ns := by rw [List.map_fst_zip]; omega
  refine rising_unique ?_ (sort_rising (by rw [hz]; exact hn)) ?_
  · unfold Rising
    rw [List.pairwise_map]
    have hnd : idx.Pairwise (· ≠ ·) := (h.1.nodup_iff.2 List.nodup_range)
    have hm : ∀ i ∈ idx, i < ns.length := fun i hi => List.mem_range.1 ((h.1.mem_iff).1 hi)
    refine (List.Pairwise.and_mem.1 (h.2.and hnd)).imp ?_
    intro i j ⟨hi, hj, h1, h2⟩
    show ltB (ns.getD i []) (ns.getD j []) = true
    cases hc : ltB (ns.getD i []) (ns.getD j []) with
    | true => rfl
    | false =>
      have e := lt_total hc h1
      have hi' := hm i hi
      have hj' := hm j hj
      rw [List.getD_eq_getElem?_getD, List.getD_eq_getElem?_getD, List.getElem?_eq_getElem hi', List.getElem?_eq_getElem hj'] at e
      exact absurd ((List.getElem_inj hn).1 e) h2
  · refine (h.1.map _).trans ?_
    rw [zip_range d ns is hl]
    exact (sort_perm _).symm
end Go.Proofs.YthkpbgpgcpkiiaaGreatDoor
