/- The order of names (jsonx.order): slices.SortFunc. Conditions: the lists are short. -/
import Derived.Test.YthkpbgpgcpkiiaaGreatDoorJPriA
import Derived.Test.YthkpbgpgcpkiiaaGreatDoorJsonL
import Derived.Shelf.SlSortCmp.Whole1
namespace Go.Proofs.YthkpbgpgcpkiiaaGreatDoor
open Go.RowKit
set_option linter.unusedVariables false
set_option linter.unusedSimpArgs false
set_option maxRecDepth 100000

theorem cmp_lt : ∀ a b : B, decide (Lib.compareBytes a b < 0) = ltB a b
  | [], [] => by rw [Lib.compareBytes, ltB]; rfl
  | [], _ :: _ => by rw [Lib.compareBytes, ltB]; rfl
  | _ :: _, [] => by rw [Lib.compareBytes, ltB]; rfl
  | a :: x, b :: y => by
    have ih := cmp_lt x y
    rw [Lib.compareBytes, ltB]
    split
    · rfl
    · split
      · rfl
      · exact ih
theorem cmp_any (bx : Nat) (N : Value) (ns : List B) (i j : Nat) (hi : i < ns.length) (hj : j < ns.length) (w : World) (hb : w.cell? ⟨bx, 0, none⟩ = some N) (hN : Rd w 1 N ns.length (strs ns)) :
    Calls Tryz.prog 53 #[.int .i64 (i : Int), .int .i64 (j : Int), .pointer (some ⟨bx, 0, none⟩)] w fun e w' => e = .returned (.int .i64 (Lib.compareBytes ns[i] ns[j])) ∧ ∃ q, w' = w.drewN q := by
  have hat1 : ns[i]? = some ns[i] := List.getElem?_eq_getElem hi
  have hat2 : ns[j]? = some ns[j] := List.getElem?_eq_getElem hj
  obtain ⟨A, c, rfl⟩ := hN.shape
  obtain ⟨b', o, rfl, h1⟩ := hN.strAt hat1
  obtain ⟨b2, o2, hA2, h2⟩ := hN.strAt hat2
  cases hA2
  have HN := Lib.hid hN
  generalize ns[i] = x at *
  generalize ns[j] = y at *
  have hn1 : 0 ≤ (i : Int) ∧ (i : Int) < (ns.length : Int) := by omega
  have hn2 : 0 ≤ (j : Int) ∧ (j : Int) < (ns.length : Int) := by omega
  have K := Lib.hid (fun w => Tryz.strings_Compare (ofL x) (ofL y) w)
  have e1 : Lib.compareBytes (ofL x).data.toList (ofL y).data.toList = Lib.compareBytes x y := rfl
  rw [e1] at K
  clear hN hat1 hat2
  go_enter Tryz.func53, Tryz.ntmps53
  go_wp2_with fail
  go_quiet ((go_at_call 54; exact Calls.quiet_of_same (K.out _)))
  go_wp2_with fail
  go_ret
  exact ⟨rfl, _, rfl⟩
theorem ltB_ntrans {a b c : B} (h1 : ltB a b = false) (h2 : ltB b c = false) : ltB a c = false := by
  cases h : ltB a c with
  | false => rfl
  | true =>
    cases h3 : ltB b a with
    | false => rw [lt_total h1 h3, h2] at h; cases h
    | true => rw [lt_trans h3 h] at h2; cases h2
def cfN (ns : List B) (m : Nat) (i j : Fin (m + 1)) : Int := Lib.compareBytes (ns.getD i.val []) (ns.getD j.val [])
theorem swoN (ns : List B) (m : Nat) : Sort.SWO (ltOf (cfN ns m)) := by
  have e : ∀ i j : Fin (m + 1), ltOf (cfN ns m) i j = ltB (ns.getD i.val []) (ns.getD j.val []) := fun (i j : Fin (m + 1)) => cmp_lt _ _
  exact ⟨fun x => by rw [e]; exact lt_irrefl _, fun x y z h1 h2 => by rw [e] at *; exact lt_trans h1 h2, fun x y z h1 h2 => by rw [e] at *; exact ltB_ntrans h1 h2⟩
def intsV (l : List Nat) : List Value := l.map fun i : Nat => Value.int .i64 (i : Int)
theorem rowI : Row Tryz.prog 68 3 (.int .i64 0) 1 8 :=
  ⟨Tryz.underlying68, info_parts (by kernel_rfl), rfl, by decide, by decide⟩
theorem touch_sort {α : Type} [Inhabited α] (enc : α → Value) (w : World) (blk off m : Nat) (d : Array α) (os : Array Obj) : Touch (fun k => k = blk) w (sortWorld enc w blk off m d os) := by
  refine ⟨rfl, rfl, rfl, by simp [sortWorld, Sort.ahead], fun k hk hf => ?_⟩
  unfold sortWorld
  rw [Sort.heap_grow_old _ _ (by simpa [Sort.ahead] using hk)]
  simp only [Sort.putRow, Sort.mapBlock, Array.getElem?_modify]
  rw [if_neg (fun e => hf e.symm)]
  rfl
theorem cell_sort {α : Type} [Inhabited α] (enc : α → Value) (w : World) (blk off m : Nat) (d : Array α) (os : Array Obj) (a : Addr) (h1 : a.block ≠ blk) (h2 : a.block < w.heap.size) : (sortWorld enc w blk off m d os).cell? a = w.cell? a :=
  (touch_sort enc w blk off m d os).cell h2 h1
theorem intsV_len (l : List Nat) : (intsV l).length = l.length := by simp [intsV]
theorem intsV_snoc (l : List Nat) (i : Nat) : intsV (l ++ [i]) = intsV l ++ [.int .i64 (i : Int)] := by simp [intsV]
theorem all_extract {α : Type} (d : Array α) {k : Nat} (h : d.size = k) : d.extract 0 k = d := by
  subst h; exact Array.extract_size
theorem range_fin (n : Nat) : (List.ofFn (n := n) fun i : Fin n => i).map Fin.val = List.range n := by
  apply List.ext_getElem
  · simp
  · intro i h1 h2; simp
set_option maxHeartbeats 2000000 in
theorem sortN_any (bx base : Nat) (N v : Value) (ns : List B) (w : World) (hbx : bx < base) (hbl : base ≤ w.heap.size) (hb : w.cell? ⟨bx, 0, none⟩ = some N) (hN : RdP (fun b => b < base) w 1 N ns.length (strs ns)) (hl : ns.length ≤ 1099511627776)
    (hO : w.ownsRow base 3 1 v ns.length (intsV (List.range ns.length))) :
    Calls Tryz.prog 52 #[v, .func (.func 53) #[] #[.pointer (some ⟨bx, 0, none⟩)]] w fun e w' => e = .returned (.tuple #[]) ∧ ∃ idx, RdP (fun b => base ≤ b) w' 1 v ns.length (intsV idx) ∧ Ordered ns idx ∧ Below base w w' := by
  rcases Nat.eq_zero_or_pos ns.length with h0 | hpos
  · have e0 : ns = [] := List.length_eq_zero_iff.1 h0
    subst e0
    obtain ⟨A, c, rfl⟩ := (rd_of_own hO).shape
    exact (Tryz.slices_SortFunc_none (α := Nat) A c _ w).mono fun e w' ⟨h1, h2⟩ => ⟨h1, [], ⟨⟨_, _, rfl⟩, .inl ⟨rfl, rfl⟩⟩, ⟨.refl _, .nil⟩, by rw [h2]; exact Below.refl _ _⟩
  · rcases hO.2 with ⟨_, hz⟩ | ⟨g, cap, cur, rfl, hg, hh, hc, hm, hs, ht⟩
    · omega
    have hR := rd_of_own hO
    obtain ⟨k1, A, c, k2, k3, k4, k5, k6⟩ := hR
    cases k2
    have hcell := (k6 _ rfl).2
    obtain ⟨m, hmn⟩ : ∃ m, ns.length = m + 1 := ⟨ns.length - 1, by omega⟩
    have hR2 : Rd w 1 N ns.length (strs ns) := by
      rcases hN.2 with ⟨h, _⟩ | h
      · omega
      · exact h.1
    have hRlt : ∀ a n c, N = .slice (some a) n c → a.block < base := by
      rcases hN.2 with ⟨h, _⟩ | h
      · omega
      · exact h.2
    let enc : Fin (m + 1) → Value := fun i => .int .i64 (i.val : Int)
    let d : Array (Fin (m + 1)) := (List.ofFn (n := m + 1) fun i => i).toArray
    have hds : d.size = m + 1 := by simp [d]
    have hlh : g < w.heap.size := (Array.getElem?_eq_some_iff.1 hh).1
    have hH : Sort.Holds enc w g 0 d := by
      intro j hj
      have hj' : j < m + 1 := by omega
      refine ⟨?_, Lib.frozen_of_heap hh _⟩
      have := hcell j (.int .i64 (j : Int)) (by simp [intsV, List.getElem?_map, List.getElem?_range (show j < ns.length by omega)])
      rw [this, getElem!_pos d j hj]
      simp [d, enc]
    have hcmp : CmpLays1 Tryz.prog 53 #[.pointer (some ⟨bx, 0, none⟩)] enc (cfN ns m) g 0 d.size w := by
      refine CmpReads.lays fun mm os dk hdk x y => ?_
      have hsw : ∀ a : Addr, a.block < base → (sortWorld enc w g 0 mm dk os).cell? a = w.cell? a := fun a ha => cell_sort enc w g 0 mm dk os a (by omega) (by omega)
      have hx : x.val < ns.length := by have := x.isLt; omega
      have hy : y.val < ns.length := by have := y.isLt; omega
      have hN2 : Rd (sortWorld enc w g 0 mm dk os) 1 N ns.length (strs ns) := by
        obtain ⟨q1, A, c, rfl, q3, q4, q5, q6⟩ := hR2
        exact ⟨q1, A, c, rfl, q3, q4, q5, fun a ha => ⟨(q6 a ha).1, fun j u hj => (hsw ⟨a.block, a.off + j, none⟩ (hRlt a _ c (by rw [ha]))).trans ((q6 a ha).2 j u hj)⟩⟩
      refine (cmp_any bx N ns x.val y.val hx hy _ (by rw [hsw _ hbx]; exact hb) hN2).mono fun e w' ⟨h1, h2⟩ => ⟨?_, h2⟩
      rw [h1]
      unfold cfN
      rw [List.getD_eq_getElem?_getD, List.getD_eq_getElem?_getD, List.getElem?_eq_getElem hx, List.getElem?_eq_getElem hy]
      rfl
    have hcall := Tryz.slices_SortFunc enc (fun _ => rfl) (cfN ns m) (swoN ns m) 53 #[.pointer (some ⟨bx, 0, none⟩)] g 0 cap d w (fun _ _ => rfl) hcmp hH hlh (by omega)
    rw [show d.size = ns.length from hds.trans hmn.symm] at hcall
    refine hcall.mono fun e w' ⟨h1, d', n, os, hp, hsd, hw⟩ => ⟨h1, d'.toList.map Fin.val, ?_⟩
    have hsz' : d'.size = m + 1 := hp.1.trans hds
    have hH' := holds_sortWorld enc w g 0 n d d' os hlh hH (by omega)
    subst hw
    have htouch := touch_sort enc w g 0 n d' os
    refine ⟨⟨⟨_, _, rfl⟩, .inr ⟨⟨?_, _, _, rfl, hc, hm, (fun h => by cases h), fun a ha => ?_⟩, fun a n' c hv => ?_⟩⟩, ⟨?_, ?_⟩, htouch.below (fun k hk e => by have e' : k = g := e; omega) hbl⟩
    · simp [intsV, hsz', hmn]
    · cases ha
      refine ⟨rfl, fun j u hj => ?_⟩
      have hj2 : j < d'.size := by
        have := (List.getElem?_eq_some_iff.1 hj).1
        simpa [intsV] using this
      rw [(hH' j hj2).1]
      rw [← hj, getElem!_pos d' j hj2]
      simp [intsV, enc, hj2]
    · cases hv; exact hg
    · have hperm := hp.2.2
      rw [hmn] at hperm
      have e1 : d'.extract 0 (m + 1) = d' := all_extract _ hsz'
      have e2 : d.extract 0 (m + 1) = d := all_extract _ hds
      rw [e1, e2] at hperm
      have := hperm.map Fin.val
      rw [show d.toList.map Fin.val = List.range (m + 1) from range_fin _] at this
      rw [hmn]; exact this
    · rw [List.pairwise_iff_getElem]
      intro i j hi hj hij
      have hi2 : i < d'.size := by simpa using hi
      have hj2 : j < d'.size := by simpa using hj
      have h := hsd i j (Nat.zero_le _) hij (by omega)
      have h2 : ltB (ns.getD (d'[j]!).val []) (ns.getD (d'[i]!).val []) = false := by rw [← cmp_lt]; exact h
      rw [getElem!_pos d' i hi2, getElem!_pos d' j hj2] at h2
      simpa using h2
set_option maxHeartbeats 8000000 in
theorem order_any (N : Value) (ns : List B) (w : World) (hN : RdP (fun b => b < w.heap.size) w 1 N ns.length (strs ns)) (hl : ns.length ≤ 1099511627776) :
    Calls Tryz.prog 36 #[N] w fun e w' => ∃ (v' : Value) (idx : List Nat), e = .returned v' ∧ RdP (fun b => w.heap.size ≤ b) w' 1 v' ns.length (intsV idx) ∧ Ordered ns idx ∧ Below w.heap.size w w' := by
  have hmf : ∀ (fn : Fn) (first cap : Array Value) (w : World), (Instr.makeFunc fn first cap).run Tryz.prog w = .ok (.func fn first cap) w := fun _ _ _ _ => rfl
  obtain ⟨AN, cN, rfl⟩ := hN.shape
  have HN := Lib.hid hN
  have hb1 := (Below.refl w.heap.size w).alloc (Nat.le_refl _) (.cells #[.slice AN ns.length cN] 22)
  have hc1 : (w.alloc (.cells #[.slice AN ns.length cN] 22)).heap[w.heap.size]? = some (.cells #[.slice AN ns.length cN] 22 (0, 0)) := heap_alloc_new w _
  clear hN
  go_enter Tryz.func36, Tryz.ntmps36
  go_upto_region 2 with fail
  generalize hw1 : w.alloc (.cells #[.slice AN ns.length cN] 22) = w1 at *
  have c1 : w1.cell? ⟨w.heap.size, 0, none⟩ = some (.slice AN ns.length cN) := by rw [Lib.cell_of_heap hc1]; rfl
  have hz1 : w.heap.size < w1.heap.size := (Array.getElem?_eq_some_iff.1 hc1).1
  have HB1 := Lib.hid hb1
  have HC1 := Lib.hid hc1
  clear hb1 hc1 hw1
  go_wp2_with fail
  have Hc1 := Lib.hid c1
  clear c1
  go_loopw [3, 7] (fun v i wr => ∃ n : Nat, n ≤ ns.length ∧ i = .int .i64 n ∧ wr.ownsRow w1.heap.size 3 1 v n (intsV (List.range n)) ∧ Hid (Below w1.heap.size w1 wr)) (fun _ i _ => ns.length - (intOf i).toNat)
  case atStart => exact ⟨0, Nat.zero_le _, rfl, World.ownsRow_nil _ _ _ _, Below.refl _ _⟩
  case round =>
    obtain ⟨n, hn, rfl, hO, hB⟩ := hrel
    have HO := Lib.hid hO
    clear hO
    by_cases hlt : n < ns.length
    · go_wp2_with (at_builtin; refine wpList_pushL wr (by rfl) _ _ _ (by rfl) w1.heap.size rowI _ n (intsV (List.range n)) (by rfl) HO.out [.int .i64 (n : Int)] _ (by rfl) rfl rfl (by intro u hu; simp at hu; subst hu; rfl) (by omega) hB.out.size ?_; intro v' w' hO' hT' hL')
      refine ⟨⟨n + 1, by omega, by go_num, by rw [List.range_succ, intsV_snoc]; exact hO', ?_⟩, by simp [intOf]; omega⟩
      exact hB.out.trans (hT'.below (fun k hk e => by have := (HO.out.lt k e).1; omega) hB.out.size)
    · obtain rfl : n = ns.length := by omega
      obtain ⟨A3, c3, rfl⟩ := (rd_of_own HO.out).shape
      have hbw : Below w1.heap.size w1 wr := hB.out
      have hNr : RdP (fun b => b < w1.heap.size) wr 1 (.slice AN ns.length cN) ns.length (strs ns) := by
        have h1 := HN.out.keep (P := fun b => b < w.heap.size) (w' := wr) (fun b o u hb hc => by
          have e := (HB1.out.trans (hbw.mono (Nat.le_of_lt hz1))).cell (p := ⟨b, o, none⟩) hb
          rw [e]; exact hc)
        exact h1.mono (by omega) (fun b hb _ => Nat.lt_trans hb hz1)
      have hbr : wr.cell? ⟨w.heap.size, 0, none⟩ = some (.slice AN ns.length cN) := by rw [hbw.cell (p := ⟨w.heap.size, 0, none⟩) hz1]; exact Hc1.out
      have K := Lib.hid (sortN_any w.heap.size w1.heap.size _ _ ns wr hz1 hbw.size hbr hNr hl HO.out)
      have HBW := Lib.hid hbw
      clear hbw hNr hbr hB
      go_wp2_with (fail)
      (with_reducible refine K.out.mono ?_); rintro e w' ⟨rfl, idx, hR, hOrd, hB'⟩
      have HR := Lib.hid hR
      clear hR
      have HOrd := Lib.hid hOrd
      clear hOrd
      go_wp2_with fail
      go_ret
      exact ⟨_, idx, rfl, HR.out.mono (by omega) (fun b hb _ => by have hb' : w1.heap.size ≤ b := hb; show w.heap.size ≤ b; omega), HOrd.out, HB1.out.trans ((HBW.out.trans hB').mono (Nat.le_of_lt hz1))⟩
end Go.Proofs.YthkpbgpgcpkiiaaGreatDoor
