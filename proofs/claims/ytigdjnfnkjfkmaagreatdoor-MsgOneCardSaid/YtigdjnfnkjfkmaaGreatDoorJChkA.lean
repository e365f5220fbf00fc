/- Are names whole characters (jsonx.named), joined names. Conditions: the names are short. -/
import Derived.Test.YtigdjnfnkjfkmaaGreatDoorJPriC
import Derived.Lib.Join
namespace Go.Proofs.YtigdjnfnkjfkmaaGreatDoor
open Go.RowKit
set_option linter.unusedVariables false
set_option linter.unusedSimpArgs false
set_option maxRecDepth 100000

/-- []byte(s), then wire.Chars: only the sign is told. -/
theorem charsOf (s : ByteArray) (hs : s.size ≤ 1048576) (w wc : World) : Calls Tryz.prog 128 #[.slice (some ⟨w.heap.size, 0, none⟩) s.size (grownCap wc s.size 0 5)]
    (w.alloc (.cells (bytesRow s (grownCap wc s.size 0 5)) 5 ((bytesRow s (grownCap wc s.size 0 5)).size, (bytesRow s (grownCap wc s.size 0 5)).size + 1))).drew fun e w' => signI (wholeL s.toList) e ∧ Below w.heap.size w w' := by
  have hR := rd_bytes' (w := w) (wc := wc) (s := s) (n := s.size) (e := 5) (fr := ((bytesRow s (grownCap wc s.size 0 5)).size, (bytesRow s (grownCap wc s.size 0 5)).size + 1)) rfl (by omega)
  have hb := ((Below.refl w.heap.size w).alloc (Nat.le_refl _) (.cells (bytesRow s (grownCap wc s.size 0 5)) 5 ((bytesRow s (grownCap wc s.size 0 5)).size, (bytesRow s (grownCap wc s.size 0 5)).size + 1))).drew
  refine (chars_any s.toList _ _ hR (by rw [len_toL]; exact hs)).mono fun e w' ⟨h1, h2⟩ => ⟨h1, ?_⟩
  rw [← h2]; exact hb
set_option maxHeartbeats 2000000 in
theorem named1_any (s : ByteArray) (hs : s.size ≤ 1048576) (w : World) :
    Calls Tryz.prog 151 #[.string s] w fun e w' => e = .returned (.bool (!wholeL s.toList)) ∧ Below w.heap.size w w' := by
  have kb := fun wx => run_bytes_of_string (P := Tryz.prog) wx 9 89 5 s Tryz.underlying9 Tryz.underlying89 Tryz.underlying5
  have K := (fun wc => charsOf s hs w wc)
  generalize wholeL s.toList = bw at K ⊢
  have K := Lib.hid K
  go_enter Tryz.func151, Tryz.ntmps151
  go_wp2_with fail
  (with_reducible refine (K.out _).mono ?_); rintro e w1 ⟨⟨x, rfl, hx⟩, hb⟩
  have HB := Lib.hid hb
  clear hb K kb
  cases bw with
  | true =>
    have hx1 : x < 0 := by simpa using hx
    clear hx
    have hx2 : ¬ x ≥ 0 := by omega
    go_wp2_with fail
    go_ret
    exact ⟨ret_bool (by simp; try omega), HB.out⟩
  | false =>
    have hx1 : 0 ≤ x := by simpa using hx
    clear hx
    have hx2 : x ≥ 0 := by omega
    go_wp2_with fail
    go_ret
    exact ⟨ret_bool (by simp; try omega), HB.out⟩
set_option maxHeartbeats 2000000 in
theorem index_any (N : Value) (ns : List B) (w : World) (hN : RdP (fun b => b < w.heap.size) w 1 N ns.length (strs ns)) (hl : ns.length ≤ 1099511627776) (hsl : ∀ s ∈ ns, s.length ≤ 1048576) :
    Calls Tryz.prog 171 #[N, .func (.func 151) #[] #[]] w fun e w' => signI (ns.all wholeL) e ∧ Below w.heap.size w w' := by
  obtain ⟨AN, cN, rfl⟩ := hN.shape
  obtain ⟨nn, hnn⟩ : ∃ nn, nn = ns.length := ⟨_, rfl⟩
  rw [← hnn] at hN ⊢
  have hnb : nn ≤ 1099511627776 := by omega
  have HN := Lib.hid hN
  have HNN := Lib.hid hnn
  have HSL := Lib.hid hsl
  clear hN hnn hl hsl
  go_enter Tryz.func171, Tryz.ntmps171
  go_upto_region 2 with fail
  go_loopw [8] (fun i wr => ∃ n : Nat, n ≤ nn ∧ i = .int .i64 n ∧ Hid ((ns.take n).all wholeL = true) ∧ Hid (Below w.heap.size w wr)) (fun i _ => nn - (intOf i).toNat)
  case atStart => exact ⟨0, Nat.zero_le _, rfl, rfl, Below.refl _ _⟩
  case round =>
    obtain ⟨n, hn, rfl, hA, hB⟩ := hrel
    by_cases hlt : n < nn
    · have hlt' : n < ns.length := by rw [← HNN.out]; exact hlt
      have hs : ns[n]? = some ns[n] := List.getElem?_eq_getElem hlt'
      have hsm : ns[n] ∈ ns := List.getElem_mem hlt'
      obtain ⟨bn, on, rfl, _, hcn⟩ := (show RdP (fun b => b < w.heap.size) w 1 (.slice AN nn cN) ns.length (strs ns) by have := HN.out; rw [HNN.out] at this ⊢; exact this).strAt hs
      have hcr : wr.cell? ⟨bn, on + n, none⟩ = some (.string (ofL ns[n])) := Below.keeps hB.out hcn
      have hA2 : (ns.take (n + 1)).all wholeL = ((ns.take n).all wholeL && wholeL ns[n]) := by rw [List.take_add_one, hs, List.all_append]; simp
      have K := named1_any (ofL ns[n]) (by rw [size_ofL]; exact HSL.out _ hsm) wr
      rw [toL_ofL] at K
      have hall : wholeL ns[n] = false → ns.all wholeL = false := fun h => by
        cases h2 : ns.all wholeL with
        | false => rfl
        | true => rw [List.all_eq_true.1 h2 _ hsm] at h; cases h
      rw [hA.out, Bool.true_and] at hA2
      generalize ns[n] = s at *
      have K := Lib.hid K
      have Hall := Lib.hid hall
      have HA2 := Lib.hid hA2
      clear hcn hs hsm hall hA2 hlt'
      generalize wholeL s = bw at *
      cases bw with
      | true =>
        go_wp2_with fail
        (with_reducible refine K.out.mono ?_); rintro e w1 ⟨rfl, hb⟩
        have HB1 := Lib.hid (hB.out.next hb)
        clear hb K
        go_wp2_with fail
        exact ⟨⟨n + 1, by omega, by go_num, HA2.out, HB1⟩, by simp [intOf]; omega⟩
      | false =>
        go_wp2_with fail
        (with_reducible refine K.out.mono ?_); rintro e w1 ⟨rfl, hb⟩
        have HB1 := Lib.hid (hB.out.next hb)
        clear hb K
        go_wp2_with fail
        go_ret
        exact ⟨⟨_, rfl, by rw [Hall.out trivial]; simp⟩, HB1.out⟩
    · have hall : ns.all wholeL = true := by have := hA.out; rw [List.take_of_length_le (by rw [← HNN.out]; omega)] at this; exact this
      have Hall := Lib.hid hall
      clear hall
      go_wp2_with fail
      go_ret
      exact ⟨⟨_, rfl, by rw [Hall.out]; decide⟩, hB.out⟩
set_option maxHeartbeats 2000000 in
theorem named_any (N : Value) (ns : List B) (w : World) (hN : RdP (fun b => b < w.heap.size) w 1 N ns.length (strs ns)) (hl : ns.length ≤ 1099511627776) (hsl : ∀ s ∈ ns, s.length ≤ 1048576) :
    Calls Tryz.prog 134 #[N] w fun e w' => e = .returned (.bool (ns.all wholeL)) ∧ Below w.heap.size w w' := by
  have K := index_any N ns w hN hl hsl
  clear hN hl hsl
  generalize ns.all wholeL = bw at K ⊢
  have K := Lib.hid K
  have K2 : Calls Tryz.prog 150 #[N, .func (.func 151) #[] #[]] w fun e w' => e = .returned (.bool (!bw)) ∧ Below w.heap.size w w' := by
    go_enter Tryz.func150, Tryz.ntmps150
    go_wp2_with fail
    (with_reducible refine K.out.mono ?_); rintro e w1 ⟨⟨x, rfl, hx⟩, hb⟩
    have HB := Lib.hid hb
    clear hb K
    cases bw with
    | true =>
      have hx1 : x < 0 := by simpa using hx
      clear hx
      have hx2 : ¬ x ≥ 0 := by omega
      go_wp2_with fail
      go_ret
      exact ⟨ret_bool (by simp; try omega), HB.out⟩
    | false =>
      have hx1 : 0 ≤ x := by simpa using hx
      clear hx
      have hx2 : x ≥ 0 := by omega
      go_wp2_with fail
      go_ret
      exact ⟨ret_bool (by simp; try omega), HB.out⟩
  have K2 := Lib.hid K2
  go_enter Tryz.func134, Tryz.ntmps134
  go_wp2_with fail
  (with_reducible refine K2.out.mono ?_); rintro e w1 ⟨rfl, hb⟩
  have HB := Lib.hid hb
  clear hb K K2
  go_wp2_with fail
  go_ret
  exact ⟨ret_bool (by simp), HB.out⟩
/-- Joined names. -/
theorem tail_flat : ∀ ns : List B, Lib.joinTail [] ns = ns.flatten := by
  intro ns; unfold Lib.joinTail; congr 1; induction ns with
  | nil => rfl
  | cons x l ih => rw [List.map_cons, ih]; rfl
theorem join_flat : ∀ ns : List B, Lib.join ns [] = ns.flatten
  | [] => rfl
  | x :: l => by rw [Lib.join_cons, tail_flat]; rfl
theorem join_any (N : Value) (ns : List B) (w : World) (hN : RdP (fun b => b < w.heap.size) w 1 N ns.length (strs ns)) (hl : ns.length ≤ 1099511627776) (hsl : ns.flatten.length ≤ 1048576) :
    Calls Tryz.prog 133 #[N, .string ⟨#[]⟩] w fun e w' => e = .returned (.string (ofL ns.flatten)) ∧ Below w.heap.size w w' := by
  obtain ⟨AN, cN, rfl⟩ := hN.shape
  cases hns : ns with
  | nil =>
    refine (Tryz.strings_Join_none AN cN ⟨#[]⟩ w).mono fun e w' ⟨h1, h2⟩ => ⟨h1, ?_⟩
    rw [h2]; exact Below.refl _ _
  | cons x l =>
    rw [← hns]
    have h0 : ns[0]? = some x := by rw [hns]; rfl
    obtain ⟨b, o, rfl, hb, _⟩ := hN.strAt h0
    have hR := hN.rd (by rw [hns]; simp)
    obtain ⟨k1, A', c', e, k3, k4, k5, k6⟩ := hR
    cases e
    have hm : (ns.map ofL).map (fun s : ByteArray => s.data.toList) = ns := by
      rw [List.map_map]; conv => rhs; rw [← List.map_id ns]
      exact List.map_congr_left (fun s _ => by simp [ofL])
    have h := Tryz.strings_Join b o cN (ns.map ofL) ⟨#[]⟩ w (fun j y hy => by
      rw [List.getElem?_map] at hy
      cases hj : ns[j]? with
      | none => rw [hj] at hy; cases hy
      | some s => rw [hj] at hy; cases hy; exact (k6 _ rfl).2 j _ (strs_at hj)) hb (by rw [List.length_map]; omega) (by rw [List.length_map]; exact k3) (by rw [hm, show (⟨#[]⟩ : ByteArray).data.toList = [] from rfl, join_flat]; omega)
    rw [hm, show (⟨#[]⟩ : ByteArray).data.toList = [] from rfl, join_flat, List.length_map] at h
    exact h
end Go.Proofs.YtigdjnfnkjfkmaaGreatDoor
