/- A value as bytes behind what a builder holds (jsonx.lay). Conditions: the value is small; the table of powers of ten. -/
import Derived.Test.YtigdjnfnkjfkmaaGreatDoorJLib
import Derived.Lib.ItoaMem
import Derived.Lib.AppendIntMem
namespace Go.Proofs.YtigdjnfnkjfkmaaGreatDoor
open Go.RowKit
set_option linter.unusedVariables false
set_option linter.unusedSimpArgs false
set_option maxRecDepth 100000

/-- The table that strconv.FormatInt reads. -/
def Tab10 (w : World) : Prop := Lib.TabIs Tryz.prog w "internal/strconv.uint64pow10" .u64 Lib.pow10Tab
theorem tab_global : Tryz.prog.globalNamed "internal/strconv.uint64pow10" = some 1 := by kernel_rfl
theorem Tab10.touch {F : Nat → Prop} {w w' : World} (h : Tab10 w) (ht : Touch F w w') (hF : ¬ F 1) : Tab10 w' := by
  unfold Tab10 Lib.TabIs World.var? at *
  rw [tab_global] at h ⊢
  simp only [Option.bind_some] at h ⊢
  have hlt : 1 < w.heap.size := by
    rcases Nat.lt_or_ge 1 w.heap.size with h' | h'
    · exact h'
    · rw [Array.getElem?_eq_none h'] at h; simp at h
  rw [ht.block _ hlt hF]
  exact h
theorem Tab10.below {w w' : World} (h : Tab10 w) (hb : Below w.heap.size w w') : Tab10 w' := h.touch (.of_below (F := fun _ => False) hb) id
theorem int_any (n : Int) (h0 : -9223372036854775808 ≤ n) (h1 : n ≤ 9223372036854775807) (w : World) (hT : Tab10 w) :
    Calls Tryz.prog 86 #[.int .i64 n, .int .i64 10] w fun e w' => e = .returned (.string (ofL (Lib.itoa n))) ∧ Below w.heap.size w w' := by
  refine (Tryz.strconv_FormatInt_10 n h0 h1 w hT).mono ?_
  rintro e w1 ⟨rfl, kn, os, hw1⟩
  exact ⟨rfl, by rw [hw1]; exact Lib.below_grow _ _ (Nat.le_refl _) _ _⟩
theorem RdP.jsonAt {P : Nat → Prop} {w : World} {I : Value} {is : List J} {xs : List Value} (h : RdP P w 5 I is.length xs) (hR : RJs P w is xs) {k : Nat} {x : J} (hk : is[k]? = some x) :
    ∃ b o c N Q, I = .slice (some ⟨b, o, none⟩) is.length c ∧ P b ∧ RJ P w x [.int .i64 x.kind, .int .i64 x.int, .string (ofL x.text), N, Q] ∧
      w.cell? ⟨b, o + k * 5, none⟩ = some (.int .i64 x.kind) ∧ w.cell? ⟨b, o + k * 5 + 1, none⟩ = some (.int .i64 x.int) ∧ w.cell? ⟨b, o + k * 5 + 2, none⟩ = some (.string (ofL x.text)) ∧
      w.cell? ⟨b, o + k * 5 + 3, none⟩ = some N ∧ w.cell? ⟨b, o + k * 5 + 4, none⟩ = some Q := by
  have hlt := (List.getElem?_eq_some_iff.1 hk).1
  rcases h.2 with ⟨h0, _⟩ | ⟨⟨k1, A, c, rfl, k3, k4, k5, k6⟩, hP⟩
  · omega
  obtain ⟨k7, k8⟩ := RJs.all.1 hR
  have hx := k8 k x hk
  cases A with
  | none => have := k5 rfl; omega
  | some a =>
    obtain ⟨s1, s2⟩ := k6 a rfl
    obtain ⟨b, o, s⟩ := a
    cases s1
    cases x with
    | mk kk n t ns is' =>
      rw [RJ] at hx
      obtain ⟨N, Q, e, r1, r2⟩ := hx
      have hat : ∀ j u, j < 5 → ([Value.int .i64 kk, .int .i64 n, .string (ofL t), N, Q])[j]? = some u → w.cell? ⟨b, o + (k * 5 + j), none⟩ = some u := by
        intro j u hj hu
        rw [← e, List.getElem?_take, if_pos hj, List.getElem?_drop] at hu
        exact s2 _ _ hu
      refine ⟨b, o, c, N, Q, rfl, hP _ _ _ rfl, ?_, hat 0 _ (by omega) rfl, ?_, ?_, ?_, ?_⟩
      · rw [RJ]; exact ⟨N, Q, rfl, r1, r2⟩
      · rw [Nat.add_assoc]; exact hat 1 _ (by omega) rfl
      · rw [Nat.add_assoc]; exact hat 2 _ (by omega) rfl
      · rw [Nat.add_assoc]; exact hat 3 _ (by omega) rfl
      · rw [Nat.add_assoc]; exact hat 4 _ (by omega) rfl
theorem RdP.at1 {P : Nat → Prop} {w : World} {A : Option Addr} {n c : Nat} {cs : List Value} (h : RdP P w 1 (.slice A n c) n cs) {k : Nat} {u : Value} (hk : cs[k]? = some u) :
    ∃ b o, A = some ⟨b, o, none⟩ ∧ P b ∧ w.cell? ⟨b, o + k, none⟩ = some u := by
  have hlt := (List.getElem?_eq_some_iff.1 hk).1
  rcases h.2 with ⟨h0, rfl⟩ | ⟨⟨k1, A', c', e, k3, k4, k5, k6⟩, hP⟩
  · simp at hk
  cases e
  cases A with
  | none => have := k5 rfl; omega
  | some a =>
    obtain ⟨s1, s2⟩ := k6 a rfl
    obtain ⟨b, o, s⟩ := a
    cases s1
    exact ⟨b, o, rfl, hP _ _ _ rfl, s2 _ _ hk⟩
theorem RdP.len1 {P : Nat → Prop} {w : World} {A : Option Addr} {m n c : Nat} {cs : List Value} (h : RdP P w 1 (.slice A m c) n cs) : n = 0 ∨ m = n := by
  rcases h.2 with ⟨h0, rfl⟩ | ⟨⟨k1, A', c', e, _⟩, hP⟩
  · exact .inl h0
  · cases e; exact .inr rfl
theorem RdP.strAt {P : Nat → Prop} {w : World} {A : Option Addr} {m c : Nat} {l : List B} (h : RdP P w 1 (.slice A m c) l.length (strs l)) {k : Nat} {s : B} (hk : l[k]? = some s) :
    ∃ b o, A = some ⟨b, o, none⟩ ∧ P b ∧ w.cell? ⟨b, o + k, none⟩ = some (.string (ofL s)) := by
  have hlt := (List.getElem?_eq_some_iff.1 hk).1
  have e : m = l.length := by rcases h.len1 with h1 | h1 <;> omega
  subst e
  exact h.at1 (strs_at hk)
theorem RdP.intAt {P : Nat → Prop} {w : World} {A : Option Addr} {m c : Nat} {l : List Nat} (h : RdP P w 1 (.slice A m c) l.length (intsV l)) {k i : Nat} (hk : l[k]? = some i) :
    ∃ b o, A = some ⟨b, o, none⟩ ∧ P b ∧ w.cell? ⟨b, o + k, none⟩ = some (.int .i64 i) := by
  have hlt := (List.getElem?_eq_some_iff.1 hk).1
  have e : m = l.length := by rcases h.len1 with h1 | h1 <;> omega
  subst e
  exact h.at1 (by simp [intsV, hk])
/-- What lay does. -/
def Lay (J : J) : Prop := ∀ (deep : Nat) (b : Nat) (v : Value) (l : B) (N I : Value) (P : Nat → Prop) (w : World), Can deep J → wtJ J ≤ 1099511627776 → l.length + (textJ J).length ≤ 70368744177664 → 7 ≤ b → Tab10 w → Bv w b v l →
  RJ P w J [.int .i64 J.kind, .int .i64 J.int, .string (ofL J.text), N, I] → (∀ k, P k → k < w.heap.size ∧ k ≠ b ∧ v.ownBlock ≠ some k) →
  Calls Tryz.prog 57 #[.pointer (some ⟨b, 0, none⟩), .agg #[.int .i64 J.kind, .int .i64 J.int, .string (ofL J.text), N, I]] w fun e w' => e = .returned (.tuple #[]) ∧ ∃ v', Bv w' b v' (l ++ textJ J) ∧ Wr b v v' w w'
theorem wr_cell {w w1 wr : World} {b : Nat} {v vb : Value} {l : B} (hB : Bv w b v l) (hlt : w.heap.size < w1.heap.size) (hW : Wr b v vb w1 wr) (j : Nat) : wr.cell? ⟨w.heap.size, j, none⟩ = w1.cell? ⟨w.heap.size, j, none⟩ := by
  have hown : ∀ k, v.ownBlock = some k → k < w.heap.size := fun k hk => (World.ownsRow.lt (show World.ownsRow _ _ _ _ _ _ _ from hB.own) k hk).2
  have hbl := hB.lt
  refine hW.1.cell (p := ⟨w.heap.size, j, none⟩) hlt fun e => ?_
  rcases e with e | e
  · have e' : w.heap.size = b := e
    omega
  · have := hown _ e
    exact Nat.lt_irrefl _ this
theorem minAt (a c : UInt8) (m : Nat) (h : (min (m : Int) 1).toNat < (⟨#[a, c]⟩ : ByteArray).size) : ((if m = 0 then a else c).toNat : Int) = (((⟨#[a, c]⟩ : ByteArray)[(min (m : Int) 1).toNat]'h).toNat : Int) := by
  rcases Nat.eq_zero_or_pos m with rfl | hm
  · rfl
  · have e : (min (m : Int) 1).toNat = 1 := by omega
    rw [if_neg (by omega)]
    generalize (min (m : Int) 1).toNat = q at h e
    subst e
    rfl
theorem wr_block {w w1 wr : World} {b : Nat} {v vb : Value} {l : B} (hB : Bv w b v l) (hlt : w.heap.size < w1.heap.size) (hW : Wr b v vb w1 wr) : wr.heap[w.heap.size]? = w1.heap[w.heap.size]? := by
  have hown : ∀ k, v.ownBlock = some k → k < w.heap.size := fun k hk => (World.ownsRow.lt (show World.ownsRow _ _ _ _ _ _ _ from hB.own) k hk).2
  have hbl := hB.lt
  refine hW.1.block _ hlt fun e => ?_
  rcases e with e | e
  · omega
  · have := hown _ e
    exact Nat.lt_irrefl _ this
theorem wr_free {P : Nat → Prop} {w w1 wr : World} {b : Nat} {v vb : Value} (hP : ∀ k, P k → k < w.heap.size ∧ k ≠ b ∧ v.ownBlock ≠ some k) (hs : w.heap.size ≤ w1.heap.size) (hW : Wr b v vb w1 wr) : ∀ k, P k → k < wr.heap.size ∧ k ≠ b ∧ vb.ownBlock ≠ some k := by
  intro k hk
  obtain ⟨g1, g2, g3⟩ := hP k hk
  have hz := hW.1.size
  refine ⟨by omega, g2, fun e => ?_⟩
  rcases hW.2 k e with h | h
  · exact g3 h
  · omega
theorem Tab10.wr {w w' : World} {b : Nat} {v v' : Value} {l : B} (h : Tab10 w) (hB : Bv w b v l) (hNG : 7 ≤ b) (hW : Wr b v v' w w') : Tab10 w' := by
  refine h.touch hW.1 (fun e => ?_)
  rcases e with e | e
  · omega
  · have := (World.ownsRow.lt (show World.ownsRow _ _ _ _ _ _ _ from hB.own) _ e).1
    omega
theorem wr_keep {P : Nat → Prop} {w w1 wr : World} {b : Nat} {v vb : Value} (hP : ∀ k, P k → k < w.heap.size ∧ k ≠ b ∧ v.ownBlock ≠ some k) (hlt : w.heap.size < w1.heap.size) (hBe : Below w.heap.size w w1) (hW : Wr b v vb w1 wr) :
    ∀ (q o : Nat) (u : Value), P q → w.cell? ⟨q, o, none⟩ = some u → wr.cell? ⟨q, o, none⟩ = some u := by
  intro q o u hq hc
  obtain ⟨g1, g2, g3⟩ := hP q hq
  have hc1 : w1.cell? ⟨q, o, none⟩ = some u := Below.keeps hBe hc
  rw [hW.1.cell (p := ⟨q, o, none⟩) (Nat.lt_trans g1 hlt) (fun e => by
    rcases e with e | e
    · exact g2 e
    · exact g3 e)]
  exact hc1
set_option maxHeartbeats 16000000 in
theorem lay_step (k n : Int) (t : B) (ns : List B) (is : List J) (ih : ∀ x ∈ is, Lay x) : Lay (.mk k n t ns is) := by
  intro deep b v l N I P w hC hwt hl hNG hT hB hR hP
  rw [RJ] at hR
  obtain ⟨N', I', e, hN, xs, hI, hxs⟩ := hR
  have e1 : N = N' ∧ I = I' := by simp at e; exact e.2.2.2
  obtain ⟨rfl, rfl⟩ := e1
  clear e
  obtain ⟨A1, c1, rfl⟩ := hN.shape
  obtain ⟨A2, c2, rfl⟩ := hI.shape
  obtain ⟨p1, p2, p3, p4⟩ := check_parts hC.1
  have hwf := hC.2
  rw [wfJ] at hwf
  simp only [Bool.and_eq_true, decide_eq_true_eq] at hwf
  obtain ⟨⟨q1, q2⟩, q3⟩ := hwf
  have hCs : ∀ x ∈ is, Can (deeper k deep) x := fun x hx => ⟨p4 x hx, wfs_all.1 q3 x hx⟩
  have hws : ∀ x ∈ is, wtJ x ≤ 1099511627776 := fun x hx => by rw [wtJ] at hwt; have := wts_mem hx; omega
  have hil : is.length ≤ 1099511627776 := by rw [wtJ] at hwt; have := wts_len is; omega
  have hnl : ns.length ≤ 1099511627776 := by rw [wtJ] at hwt; omega
  have htl : t.length ≤ 1099511627776 := by rw [wtJ] at hwt; omega
  have hsl : ∀ s ∈ ns, s.length ≤ 1099511627776 := fun s hs => by rw [wtJ] at hwt; have := sum_mem hs; omega
  obtain ⟨nn, hnn⟩ : ∃ nn, nn = ns.length := ⟨_, rfl⟩
  obtain ⟨nm, hnm⟩ : ∃ nm, nm = is.length := ⟨_, rfl⟩
  rw [← hnn] at hN ⊢
  rw [← hnm] at hI ⊢
  simp only [J.kind, J.int, J.text]
  have HNN := Lib.hid hnn
  have HNM := Lib.hid hnm
  clear hnn hnm hC hwt
  have hb1 := (Below.refl w.heap.size w).alloc (Nat.le_refl _) (.cells #[.int .i64 k, .int .i64 n, .string (ofL t), .slice A1 nn c1, .slice A2 nm c2] 49)
  have hk1 : (w.alloc (.cells #[.int .i64 k, .int .i64 n, .string (ofL t), .slice A1 nn c1, .slice A2 nm c2] 49)).heap[w.heap.size]? = some (.cells #[.int .i64 k, .int .i64 n, .string (ofL t), .slice A1 nn c1, .slice A2 nm c2] 49 (0, 0)) := heap_alloc_new w _
  have HBv := Lib.hid hB
  have HT := Lib.hid hT
  have HN := Lib.hid hN
  have HI := Lib.hid hI
  have HX := Lib.hid hxs
  have HP := Lib.hid hP
  clear hB hT hN hI hxs hP
  go_enter Tryz.func57, Tryz.ntmps57
  go_upto_region 1 with fail
  generalize w.alloc (.cells #[.int .i64 k, .int .i64 n, .string (ofL t), .slice A1 nn c1, .slice A2 nm c2] 49) = w1 at *
  have hB1 := HBv.out.below hb1
  have c0 : w1.cell? ⟨w.heap.size, 0, none⟩ = some (.int .i64 k) := by rw [Lib.cell_of_heap hk1]; rfl
  have c1' : w1.cell? ⟨w.heap.size, 1, none⟩ = some (.int .i64 n) := by rw [Lib.cell_of_heap hk1]; rfl
  have c2' : w1.cell? ⟨w.heap.size, 2, none⟩ = some (.string (ofL t)) := by rw [Lib.cell_of_heap hk1]; rfl
  have hlt1 : w.heap.size < w1.heap.size := (Array.getElem?_eq_some_iff.1 hk1).1
  have HBe := Lib.hid hb1
  have HK1 := Lib.hid hk1
  have HT1 := Lib.hid (HT.out.below hb1)
  have HB1 := Lib.hid hB1
  clear hb1 hk1 hB1
  rcases blank_kinds p2 with ⟨rfl, rfl, rfl, rfl, rfl⟩ | ⟨rfl, hn, rfl, rfl, rfl⟩ | ⟨rfl, rfl, rfl, rfl⟩ | ⟨rfl, rfl, rfl, rfl, ht⟩ | ⟨rfl, rfl, rfl, rfl⟩ | ⟨rfl, rfl, rfl, hlen, hwf, hwsn⟩
  · have hb : l.length + (ofL [110, 117, 108, 108]).size ≤ 140737488355328 := by
      have : (ofL [110, 117, 108, 108]).size = 4 := rfl
      omega
    have hW := Lib.hid (writeString_any b v l ⟨#[110, 117, 108, 108]⟩ w1 HB1.out hb)
    clear hl p1 p3 p4 hCs hws
    go_wp2_with fail
    (with_reducible refine hW.out.mono ?_); rintro e w2 ⟨rfl, v', hB2, hW2⟩
    go_wp2_with fail
    go_end0
    exact ⟨rfl, v', by rw [textJ, if_pos rfl]; rw [toL_eq] at hB2; exact hB2, Wr.after HBe.out hW2⟩
  · have hF := Lib.hid (fun w => Tryz.strconv_FormatBool (n == 1) w)
    have hb : l.length + (ofL (Lib.formatBool (n == 1))).size ≤ 140737488355328 := by
      have : (ofL (Lib.formatBool (n == 1))).size ≤ 5 := by rcases hn with rfl | rfl <;> decide
      have := HB1.out.own
      omega
    have hW := Lib.hid (writeString_any b v l ⟨(Lib.formatBool (n == 1)).toArray⟩ w1 HB1.out hb)
    have htx : textJ (.mk 1 n [] [] []) = (ofL (Lib.formatBool (n == 1))).toList := by
      rw [textJ, if_neg (by decide), if_pos rfl, toL_ofL]; rcases hn with rfl | rfl <;> decide
    clear hl p1 p3 p4 hCs hws
    go_wp2_with fail
    (with_reducible refine (hF.out _).mono ?_); rintro e w2 ⟨rfl, rfl⟩
    go_wp2_with fail
    (with_reducible refine hW.out.mono ?_); rintro e w2 ⟨rfl, v', hB2, hW2⟩
    go_wp2_with fail
    go_end0
    exact ⟨rfl, v', by first | (rw [htx]; exact hB2) | (rw [htx]; rw [toL_eq] at hB2 ⊢; exact hB2), Wr.after HBe.out hW2⟩
  · have htx : textJ (.mk 2 n [] [] []) = Lib.itoa n := by rw [textJ, if_neg (by decide), if_neg (by decide), if_pos rfl]
    rw [htx] at hl
    have hF := Lib.hid (int_any n q1 q2 w1 HT1.out)
    have hsz : (ofL (Lib.itoa n)).size = (Lib.itoa n).length := by rw [size_eq, toL_ofL]
    have hb : l.length + (ofL (Lib.itoa n)).size ≤ 140737488355328 := by omega
    have hW := Lib.hid (fun w2 (h2 : Below w1.heap.size w1 w2) => writeString_any b v l (ofL (Lib.itoa n)) w2 (HB1.out.below h2) hb)
    clear hl hb hsz p1 p3 p4 hCs hws
    go_wp2_with fail
    (with_reducible refine hF.out.mono ?_); rintro e w2 ⟨rfl, hb2⟩
    have HB2 := Lib.hid hb2
    clear hb2
    go_wp2_with fail
    (with_reducible refine (hW.out _ HB2.out).mono ?_); rintro e w3 ⟨rfl, v', hB2, hW2⟩
    go_wp2_with fail
    go_end0
    rw [toL_ofL] at hB2
    exact ⟨rfl, v', by rw [htx]; exact hB2, Wr.after (HBe.out.next HB2.out) hW2⟩
  · have htx : textJ (.mk 3 0 t [] []) = quoteB t := by rw [textJ, if_neg (by decide), if_neg (by decide), if_neg (by decide), if_pos rfl]
    rw [htx] at hl
    have hsz : (ofL t).size = t.length := by rw [size_eq, toL_ofL]
    have hW := Lib.hid (quoted_any b v l (ofL t) w1 HB1.out (by rw [hsz]; omega) (by rw [hsz]; omega))
    rw [toL_ofL] at hW
    clear hl hsz p1 p3 p4 hCs hws htl
    go_wp2_with fail
    (with_reducible refine hW.out.mono ?_); rintro e w2 ⟨rfl, v', hB2, hW2⟩
    go_wp2_with fail
    go_end0
    exact ⟨rfl, v', by first | (rw [htx]; exact hB2) | (rw [htx]; rw [toL_eq] at hB2 ⊢; exact hB2), Wr.after HBe.out hW2⟩
  · have htx : textJ (.mk 4 0 [] [] is) = 91 :: (joinB (is.map textJ) ++ [93]) := by rw [textJ, if_neg (by decide), if_neg (by decide), if_neg (by decide), if_neg (by decide), if_pos rfl, texts_map]
    rw [htx] at hl
    have c4 : w1.cell? ⟨w.heap.size, 4, none⟩ = some (.slice A2 nm c2) := by rw [Lib.cell_of_heap HK1.out]; rfl
    have HL := Lib.hid hl
    have hnb : nm ≤ 1099511627776 := by rw [HNM.out]; exact hil
    have hd : deeper 4 deep = deep + 1 := by rw [deeper, if_pos (by decide)]
    rw [hd] at hCs p1
    have HC := Lib.hid hCs
    have HWt := Lib.hid hws
    clear hl p3 p4 hCs hws htx c1' c2' htl hsl hnl hd
    go_upto_region 23 with fail
    go_loopw [79] (fun i wr => ∃ m : Nat, m ≤ nm ∧ i = .int .i64 m ∧ Hid (∃ vb, Bv wr b vb (l ++ runB 91 ((is.map textJ).take m)) ∧ Wr b v vb w1 wr)) (fun i _ => nm - (intOf i).toNat)
    case atStart => exact ⟨0, Nat.zero_le _, rfl, v, by rw [List.take_zero, runB, List.append_nil]; exact HB1.out, Wr.refl _ _ _⟩
    case round =>
      obtain ⟨m, hm, rfl, hH⟩ := hrel
      by_cases hlt : m < nm
      · obtain ⟨vb, hBr, hWr⟩ := hH
        obtain ⟨x, hx⟩ : ∃ x, is[m]? = some x := ⟨_, List.getElem?_eq_getElem (by rw [← HNM.out]; exact hlt)⟩
        have hxm : x ∈ is := List.mem_of_getElem? hx
        have hkeep := wr_keep HP.out hlt1 HBe.out hWr
        have hIr : RdP P wr 5 (.slice A2 is.length c2) is.length xs := by have := HI.out.keep hkeep; rw [HNM.out] at this; exact this
        obtain ⟨ba, oa, ca, Nx, Qx, eI, hPa, hRx, e0, e1, e2, e3, e4⟩ := hIr.jsonAt (RJs.keep hkeep HX.out) hx
        simp only [Value.slice.injEq] at eI
        obtain ⟨rfl, _, rfl⟩ := eI
        have hJ := hRx
        obtain ⟨xk, xn, xt, xns, xis⟩ := x
        rw [RJ] at hJ
        obtain ⟨_, _, ex, r1, _, r2, _⟩ := hJ
        have ex1 := ex
        simp only [List.cons.injEq] at ex1
        obtain ⟨_, _, _, rfl, rfl, _⟩ := ex1
        obtain ⟨A5, c5, rfl⟩ := r1.shape
        obtain ⟨A6, c6, rfl⟩ := r2.shape
        clear ex r1 r2
        simp only [J.kind, J.int, J.text] at e0 e1 e2 hRx
        have HBr := Lib.hid hBr
        have HWr := Lib.hid hWr
        have HRx := Lib.hid hRx
        have hb3 := (Below.refl wr.heap.size wr).alloc (Nat.le_refl _) (.cells #[.int .i64 xk, .int .i64 xn, .string (ofL xt), .slice A5 xns.length c5, .slice A6 xis.length c6] 49)
        have hk3 : (wr.alloc (.cells #[.int .i64 xk, .int .i64 xn, .string (ofL xt), .slice A5 xns.length c5, .slice A6 xis.length c6] 49)).heap[wr.heap.size]? = some (.cells #[.int .i64 xk, .int .i64 xn, .string (ofL xt), .slice A5 xns.length c5, .slice A6 xis.length c6] 49 (0, 0)) := heap_alloc_new wr _
        clear hBr hWr hRx hkeep hIr
        go_upto_region 25 with fail
        generalize wr.alloc (.cells #[.int .i64 xk, .int .i64 xn, .string (ofL xt), .slice A5 xns.length c5, .slice A6 xis.length c6] 49) = w3 at *
        have hz3 : wr.heap.size < w3.heap.size := (Array.getElem?_eq_some_iff.1 hk3).1
        have HB3 := Lib.hid hb3
        have HK3 := Lib.hid hk3
        have HBv3 := Lib.hid (HBr.out.below hb3)
        clear hb3 hk3
        go_wp2_with fail
        have hlm : (is.map textJ)[m]? = some (textJ (.mk xk xn xt xns xis)) := by rw [List.getElem?_map, hx]; rfl
        have hs1 := runB_step 91 _ m _ hlm
        have hs2 := runB_step_le 91 _ m _ hlm
        have hl2 := HL.out
        simp only [List.length_append, List.length_cons, List.length_nil] at hl2
        (with_reducible refine (writeByte_lit b vb _ (if m = 0 then 91 else 44) _ (by exact minAt 91 44 m _) w3 HBv3.out (by simp only [List.length_append]; omega)).mono ?_); rintro e w4 ⟨rfl, v4, hB4, hW4⟩
        have hfr4 : ∀ k, vb.ownBlock = some k → k < wr.heap.size := fun k hk => (World.ownsRow.lt (show World.ownsRow _ _ _ _ _ _ _ from HBr.out.own) k hk).2
        have hk4 := (wr_block HBr.out hz3 hW4).trans HK3.out
        have hfree := wr_free HP.out (Nat.le_of_lt hlt1) HWr.out
        have hb4 := wr_keep hfree hz3 HB3.out hW4
        have hR4 := RJ.keep hb4 _ _ HRx.out
        have d0 : w4.cell? ⟨wr.heap.size, 0, none⟩ = some (.int .i64 xk) := by rw [Lib.cell_of_heap hk4]; rfl
        have d1 : w4.cell? ⟨wr.heap.size, 1, none⟩ = some (.int .i64 xn) := by rw [Lib.cell_of_heap hk4]; rfl
        have d2 : w4.cell? ⟨wr.heap.size, 2, none⟩ = some (.string (ofL xt)) := by rw [Lib.cell_of_heap hk4]; rfl
        have d3 : w4.cell? ⟨wr.heap.size, 3, none⟩ = some (.slice A5 xns.length c5) := by rw [Lib.cell_of_heap hk4]; rfl
        have d4 : w4.cell? ⟨wr.heap.size, 4, none⟩ = some (.slice A6 xis.length c6) := by rw [Lib.cell_of_heap hk4]; rfl
        have hT4 : Tab10 w4 := ((HT1.out.wr HB1.out hNG HWr.out).below HB3.out).wr HBv3.out hNG hW4
        have hP4 := wr_free hfree (Nat.le_of_lt hz3) hW4
        have K := Lib.hid (ih _ hxm (deep + 1) b v4 _ _ _ P w4 (HC.out _ hxm) (HWt.out _ hxm) (by simp only [List.length_append, List.length_cons, List.length_nil]; omega) hNG hT4 hB4 hR4 hP4)
        clear hlm hl2 hs2 hR4 hb4 hk4 hfr4 hP4 hT4 hfree e0 e1 e2 e3 e4
        have HB4 := Lib.hid hB4
        clear hB4
        simp only [J.kind, J.int, J.text] at K
        have HW4 := Lib.hid hW4
        have Hs1 := Lib.hid hs1
        clear hW4 hs1
        go_wp2_with fail
        (with_reducible refine K.out.mono ?_); rintro e w5 ⟨rfl, v5, hB5, hW5⟩
        go_wp2_with fail
        refine ⟨⟨m + 1, by omega, by go_num, ⟨v5, ?_, HWr.out.trans (Wr.after HB3.out (HW4.out.trans hW5))⟩⟩, by simp [intOf]; omega⟩
        rw [Hs1.out]
        simpa using hB5
      · obtain rfl : m = nm := by omega
        obtain ⟨vb, hBr, hWr⟩ := hH
        have cr : wr.cell? ⟨w.heap.size, 4, none⟩ = some (.slice A2 m c2) := (wr_cell HBv.out hlt1 hWr 4).trans c4
        have hlen : (is.map textJ).length = m := by rw [List.length_map]; exact HNM.out.symm
        rw [List.take_of_length_le (by omega)] at hBr
        have hrun := runB_join 91 (is.map textJ)
        rw [hlen] at hrun
        have hl2 := HL.out
        have htx0 : textJ (.mk 4 0 [] [] is) = 91 :: (joinB (is.map textJ) ++ [93]) := by rw [textJ, if_neg (by decide), if_neg (by decide), if_neg (by decide), if_neg (by decide), if_pos rfl, texts_map]
        generalize runB 91 (is.map textJ) = R at *
        generalize joinB (is.map textJ) = T at *
        have hl3 := congrArg List.length hrun
        simp only [List.length_append, List.length_cons, List.length_nil] at hl2 hl3
        by_cases hz : m = 0
        · subst hz
          rw [if_pos rfl] at hrun hl3
          have K1 := Lib.hid (writeByte_lit b vb _ 91 91 rfl wr hBr (by simp only [List.length_append]; simp only [List.length_cons, List.length_nil] at hl3; omega))
          have htx : l ++ R ++ [91] ++ [93] = l ++ textJ (.mk 4 0 [] [] is) := by
            rw [htx0]
            have := congrArg (fun x => l ++ (x ++ [93])) hrun
            simpa using this
          have hn : (l ++ R ++ [91]).length + 1 ≤ 140737488355328 := by simp only [List.length_append, List.length_cons, List.length_nil] at hl3 ⊢; omega
          have Htx := Lib.hid htx
          have HWr := Lib.hid hWr
          have Hn := Lib.hid hn
          clear htx0 hBr hWr hrun hlen hl2 hl3 HL htx hn
          go_wp2_with fail
          (with_reducible refine K1.out.mono ?_); rintro e w5 ⟨rfl, v5, hB5, hW5⟩
          have K2 := Lib.hid (writeByte_lit b v5 _ 93 93 rfl w5 hB5 Hn.out)
          go_wp2_with fail
          (with_reducible refine K2.out.mono ?_); rintro e w6 ⟨rfl, v6, hB6, hW6⟩
          go_wp2_with fail
          go_end0
          exact ⟨rfl, v6, by rw [← Htx.out]; exact hB6, Wr.after HBe.out ((HWr.out.trans hW5).trans hW6)⟩
        · rw [if_neg hz] at hrun hl3
          rw [List.append_nil] at hrun
          rw [List.length_nil] at hl3
          have K1 := Lib.hid (writeByte_lit b vb _ 93 93 rfl wr hBr (by simp only [List.length_append]; omega))
          have htx : l ++ R ++ [93] = l ++ textJ (.mk 4 0 [] [] is) := by
            rw [htx0]
            have := congrArg (fun x => l ++ (x ++ [93])) hrun
            simpa using this
          have Htx := Lib.hid htx
          have HWr := Lib.hid hWr
          have hzi : ¬ (m : Int) = 0 := by omega
          clear htx0 hBr hWr hrun hlen hl2 hl3 HL htx
          go_wp2_with fail
          (with_reducible refine K1.out.mono ?_); rintro e w6 ⟨rfl, v6, hB6, hW6⟩
          go_wp2_with fail
          go_end0
          exact ⟨rfl, v6, by rw [← Htx.out]; exact hB6, Wr.after HBe.out (HWr.out.trans hW6)⟩
  · have htx : textJ (.mk 5 0 [] ns is) = 123 :: (joinB ((sortP (ns.zip (is.map textJ))).map memB) ++ [125]) := by
      rw [textJ, if_neg (by decide), if_neg (by decide), if_neg (by decide), if_neg (by decide), if_neg (by decide), texts_map]
    rw [htx] at hl
    have c3 : w1.cell? ⟨w.heap.size, 3, none⟩ = some (.slice A1 nn c1) := by rw [Lib.cell_of_heap HK1.out]; rfl
    have c4 : w1.cell? ⟨w.heap.size, 4, none⟩ = some (.slice A2 nm c2) := by rw [Lib.cell_of_heap HK1.out]; rfl
    have HL := Lib.hid hl
    have hmn : nm = nn := by rw [HNN.out, HNM.out, hlen]
    subst hmn
    have hnb : nm ≤ 1099511627776 := by rw [HNM.out]; exact hil
    have hd : deeper 5 deep = deep + 1 := by rw [deeper, if_pos (by decide)]
    rw [hd] at hCs p1
    have HC := Lib.hid hCs
    have HWt := Lib.hid hws
    have hN1 : RdP (fun q => q < w1.heap.size) w1 1 (.slice A1 nm c1) ns.length (strs ns) := by
      have h1 := HN.out.keep (P := P) (w' := w1) (fun q o u hq hc => Below.keeps HBe.out hc)
      have h2 := h1.mono (Q := fun q => q < w1.heap.size) (by omega) (fun q hq _ => Nat.lt_trans (HP.out q hq).1 hlt1)
      rw [HNN.out] at h2 ⊢; exact h2
    have K0 := Lib.hid (order_any (.slice A1 nm c1) ns w1 hN1 hnl)
    have HSL := Lib.hid hsl
    have HLen := Lib.hid hlen
    have HND := Lib.hid p3
    have Htx := Lib.hid htx
    have Hil := Lib.hid hil
    clear hl p2 p3 p4 hCs hws htx c1' c2' htl hsl hnl hd hN1 hwf hwsn hlen q3 hil
    go_wp2_with fail
    (with_reducible refine K0.out.mono ?_); rintro e w2 ⟨vi, idx, rfl, hRi, hOrd, hB2⟩
    obtain ⟨A7, c7, rfl⟩ := hRi.shape
    rw [← HNN.out] at hRi ⊢
    have HRi := Lib.hid hRi
    have HOrd := Lib.hid hOrd
    have HB2 := Lib.hid hB2
    have hz2 : w1.heap.size ≤ w2.heap.size := hB2.size
    have c3 : w2.cell? ⟨w.heap.size, 3, none⟩ = some (.slice A1 nm c1) := by rw [hB2.cell (p := ⟨w.heap.size, 3, none⟩) hlt1]; exact c3
    have c4 : w2.cell? ⟨w.heap.size, 4, none⟩ = some (.slice A2 nm c2) := by rw [hB2.cell (p := ⟨w.heap.size, 4, none⟩) hlt1]; exact c4
    clear hRi hOrd hB2 K0
    go_upto_region 3 with fail
    have hlt2 : w.heap.size < w2.heap.size := Nat.lt_of_lt_of_le hlt1 hz2
    have hBe2 : Below w.heap.size w w2 := HBe.out.trans (HB2.out.mono (Nat.le_of_lt hlt1))
    have HBe2 := Lib.hid hBe2
    have HBw2 := Lib.hid (HBv.out.below hBe2)
    have HT2 := Lib.hid (HT.out.below hBe2)
    have hms : (idx.map fun i => memB (ns.getD i [], (is.map textJ).getD i [])) = (sortP (ns.zip (is.map textJ))).map memB := by
      rw [← ordered_sort [] (is.map textJ) HOrd.out (by rw [List.length_map]; exact HLen.out) HND.out, List.map_map]; rfl
    have hml : (idx.map fun i => memB (ns.getD i [], (is.map textJ).getD i [])).length = nm := by rw [List.length_map, HOrd.out.1.length_eq, List.length_range]; exact HNN.out.symm
    have Hms := Lib.hid hms
    have Hml := Lib.hid hml
    clear hBe2 hms hml
    go_loopw [14] (fun i wr => ∃ m : Nat, m ≤ nm ∧ i = .int .i64 m ∧ Hid (∃ vb, Bv wr b vb (l ++ runB 123 ((idx.map fun i => memB (ns.getD i [], (is.map textJ).getD i [])).take m)) ∧ Wr b v vb w2 wr)) (fun i _ => nm - (intOf i).toNat)
    case atStart => exact ⟨0, Nat.zero_le _, rfl, v, by rw [List.take_zero, runB, List.append_nil]; exact HBw2.out, Wr.refl _ _ _⟩
    case round =>
      obtain ⟨m, hm, rfl, hH⟩ := hrel
      by_cases hlt : m < nm
      · obtain ⟨vb, hBr, hWr⟩ := hH
        obtain ⟨i, hi⟩ : ∃ i, idx[m]? = some i := ⟨_, List.getElem?_eq_getElem (by have := Hml.out; rw [List.length_map] at this; rw [this]; exact hlt)⟩
        have him : i < ns.length := List.mem_range.1 ((HOrd.out.1.mem_iff).1 (List.mem_of_getElem? hi))
        have him2 : i < is.length := by rw [← HLen.out]; exact him
        obtain ⟨s, hs⟩ : ∃ s, ns[i]? = some s := ⟨_, List.getElem?_eq_getElem him⟩
        obtain ⟨x, hx⟩ : ∃ x, is[i]? = some x := ⟨_, List.getElem?_eq_getElem him2⟩
        have hxm : x ∈ is := List.mem_of_getElem? hx
        have hsm : s ∈ ns := List.mem_of_getElem? hs
        have hfm : (idx.map fun i => memB (ns.getD i [], (is.map textJ).getD i []))[m]? = some (memB (s, textJ x)) := by
          rw [List.getElem?_map, hi]
          simp only [Option.map_some]
          rw [List.getD_eq_getElem?_getD, List.getD_eq_getElem?_getD, hs, List.getElem?_map, hx]; rfl
        have hs1 := runB_step 123 _ m _ hfm
        have hs2 := runB_step_le 123 _ m _ hfm
        have hl2 := HL.out
        rw [← Hms.out] at hl2
        generalize (idx.map fun i => memB (ns.getD i [], (is.map textJ).getD i [])) = ms at *
        simp only [memB, List.length_append, List.length_cons, List.length_nil] at hl2 hs2
        obtain ⟨bn, on, hA1, hPn, hcn⟩ := (show RdP P w 1 (.slice A1 nm c1) ns.length (strs ns) by have := HN.out; rw [HNN.out] at this ⊢; exact this).strAt hs
        obtain ⟨bi, oi, hA7, hPi, hci⟩ := (show RdP (fun b => w1.heap.size ≤ b) w2 1 (.slice A7 nm c7) idx.length (intsV idx) by
          have := HRi.out; have e := HOrd.out.1.length_eq; rw [List.length_range, ← HNN.out] at e; rw [e]; exact this).intAt hi
        obtain ⟨ba, oa, ca, Nx, Qx, eI, hPa, hRx, e0, e1, e2, e3, e4⟩ := (show RdP P w 5 (.slice A2 nm c2) is.length xs by have := HI.out; rw [HNM.out] at this ⊢; exact this).jsonAt HX.out hx
        simp only [Value.slice.injEq] at eI
        obtain ⟨rfl, hjunk, rfl⟩ := eI
        clear hjunk
        subst hA1
        subst hA7
        have hJ := hRx
        obtain ⟨xk, xn, xt, xns, xis⟩ := x
        rw [RJ] at hJ
        obtain ⟨_, _, ex, r1, _, r2, _⟩ := hJ
        have ex1 := ex
        simp only [List.cons.injEq] at ex1
        obtain ⟨_, _, _, rfl, rfl, _⟩ := ex1
        obtain ⟨A5, c5, rfl⟩ := r1.shape
        obtain ⟨A6, c6, rfl⟩ := r2.shape
        clear ex r1 r2
        simp only [J.kind, J.int, J.text] at e0 e1 e2 hRx
        have facts : ∀ (vx : Value) (wx : World), Wr b v vx w2 wx →
            (wx.cell? ⟨w.heap.size, 3, none⟩ = some (.slice (some ⟨bn, on, none⟩) nm c1) ∧ wx.cell? ⟨bn, on + i, none⟩ = some (.string (ofL s))) ∧
            (wx.cell? ⟨w.heap.size, 4, none⟩ = some (.slice (some ⟨ba, oa, none⟩) nm c2) ∧ wx.cell? ⟨ba, oa + i * 5, none⟩ = some (.int .i64 xk) ∧ wx.cell? ⟨ba, oa + i * 5 + 1, none⟩ = some (.int .i64 xn) ∧
              wx.cell? ⟨ba, oa + i * 5 + 2, none⟩ = some (.string (ofL xt)) ∧ wx.cell? ⟨ba, oa + i * 5 + 3, none⟩ = some (.slice A5 xns.length c5) ∧ wx.cell? ⟨ba, oa + i * 5 + 4, none⟩ = some (.slice A6 xis.length c6)) ∧
            RJ P wx (.mk xk xn xt xns xis) [.int .i64 xk, .int .i64 xn, .string (ofL xt), .slice A5 xns.length c5, .slice A6 xis.length c6] ∧ (∀ k, P k → k < wx.heap.size ∧ k ≠ b ∧ vx.ownBlock ≠ some k) ∧ Tab10 wx := by
          intro vx wx hW
          have hk := wr_keep HP.out hlt2 HBe2.out hW
          exact ⟨⟨(wr_cell HBv.out hlt2 hW 3).trans c3, hk _ _ _ hPn hcn⟩, ⟨(wr_cell HBv.out hlt2 hW 4).trans c4, hk _ _ _ hPa e0, hk _ _ _ hPa e1, hk _ _ _ hPa e2, hk _ _ _ hPa e3, hk _ _ _ hPa e4⟩, RJ.keep hk _ _ hRx, wr_free HP.out (Nat.le_of_lt hlt2) hW, HT2.out.wr HBw2.out hNG hW⟩
        have hci' : wr.cell? ⟨bi, oi + m, none⟩ = some (.int .i64 i) := by
          have hbl := HBv.out.lt
          have hown : ∀ k, v.ownBlock = some k → k < w.heap.size := fun k hk => (World.ownsRow.lt (show World.ownsRow _ _ _ _ _ _ _ from HBv.out.own) k hk).2
          rw [hWr.1.cell (p := ⟨bi, oi + m, none⟩) (lt_of_cell hci) (fun e => by
            rcases e with e | e
            · have e' : bi = b := e
              omega
            · have := hown _ e
              have e' : bi < w.heap.size := this
              omega)]
          exact hci
        have hin : i < nm := by rw [HNN.out]; exact him
        have Hfacts := Lib.hid facts
        have HBr := Lib.hid hBr
        have HWr := Lib.hid hWr
        have hqs : (ofL s).size = s.length := by rw [size_eq, toL_ofL]
        have hsl := HSL.out s hsm
        have Hl2 := Lib.hid (show l.length + (runB 123 (ms.take m)).length + 1 + (quoteB s).length + 1 + (textJ (.mk xk xn xt xns xis)).length ≤ 70368744177664 by omega)
        have Hqs := Lib.hid hqs
        have Hsl := Lib.hid hsl
        have Hs1 := Lib.hid hs1
        clear hBr hWr facts hcn hPn hPa hPi hci e0 e1 e2 e3 e4 hRx hl2 hs1 hs2 hfm him him2 hsm hqs hsl
        have K1 := Lib.hid (fun h => writeByte_lit b vb _ (if m = 0 then 123 else 44) _ (minAt 123 44 m h) wr HBr.out (by have := Hl2.out; simp only [List.length_append]; omega))
        go_wp2_with fail
        (with_reducible refine (K1.out _).mono ?_); rintro e w4 ⟨rfl, v4, hB4, hW4⟩
        have HW4 := Lib.hid (HWr.out.trans hW4)
        have HB4 := Lib.hid hB4
        obtain ⟨⟨f1, f2⟩, _⟩ := Hfacts.out v4 w4 HW4.out
        have K2 := Lib.hid (quoted_any b v4 _ (ofL s) w4 hB4 (by have := Hl2.out; rw [Hqs.out]; have := Hsl.out; simp only [List.length_append, List.length_cons, List.length_nil]; omega) (by rw [Hqs.out]; exact Hsl.out))
        clear hB4 hW4 K1
        go_wp2_with fail
        (with_reducible refine K2.out.mono ?_); rintro e w5 ⟨rfl, v5, hB5, hW5⟩
        rw [toL_ofL] at hB5
        have HW5 := Lib.hid (HW4.out.trans hW5)
        have HB5 := Lib.hid hB5
        have K3 := Lib.hid (writeByte_lit b v5 _ 58 58 rfl w5 hB5 (by have := Hl2.out; simp only [List.length_append, List.length_cons, List.length_nil]; omega))
        clear hB5 hW5 K2 f1 f2
        go_wp2_with fail
        (with_reducible refine K3.out.mono ?_); rintro e w6 ⟨rfl, v6, hB6, hW6⟩
        have HW6 := Lib.hid (HW5.out.trans hW6)
        have HB6 := Lib.hid hB6
        obtain ⟨_, ⟨f0, f1, f2, f3, f4, f5⟩, f6, f7, f8⟩ := Hfacts.out v6 w6 HW6.out
        have K4 := Lib.hid (ih _ hxm (deep + 1) b v6 _ _ _ P w6 (HC.out _ hxm) (HWt.out _ hxm) (by have := Hl2.out; simp only [List.length_append, List.length_cons, List.length_nil]; omega) hNG f8 hB6 f6 f7)
        simp only [J.kind, J.int, J.text] at K4
        clear hB6 hW6 K3 f6 f7 f8
        go_wp2_with fail
        (with_reducible refine K4.out.mono ?_); rintro e w7 ⟨rfl, v7, hB7, hW7⟩
        go_wp2_with fail
        refine ⟨⟨m + 1, by omega, by go_num, ⟨v7, ?_, HW6.out.trans hW7⟩⟩, by simp [intOf]; omega⟩
        rw [Hs1.out]
        simpa [memB] using hB7
      · obtain rfl : m = nm := by omega
        obtain ⟨vb, hBr, hWr⟩ := hH
        have cr : wr.cell? ⟨w.heap.size, 4, none⟩ = some (.slice A2 m c2) := (wr_cell HBv.out hlt2 hWr 4).trans c4
        rw [List.take_of_length_le (by rw [Hml.out]; omega)] at hBr
        have hrun := runB_join 123 (idx.map fun i => memB (ns.getD i [], (is.map textJ).getD i []))
        rw [Hml.out] at hrun
        have hl2 := HL.out
        have htx0 := Htx.out
        rw [← Hms.out] at hl2 htx0
        generalize runB 123 (idx.map fun i => memB (ns.getD i [], (is.map textJ).getD i [])) = R at *
        generalize joinB (idx.map fun i => memB (ns.getD i [], (is.map textJ).getD i [])) = T at *
        have hl3 := congrArg List.length hrun
        simp only [List.length_append, List.length_cons, List.length_nil] at hl2 hl3
        by_cases hz : m = 0
        · subst hz
          rw [if_pos rfl] at hrun hl3
          have K1 := Lib.hid (writeByte_lit b vb _ 123 123 rfl wr hBr (by simp only [List.length_append]; simp only [List.length_cons, List.length_nil] at hl3; omega))
          have htx : l ++ R ++ [123] ++ [125] = l ++ textJ (.mk 5 0 [] ns is) := by
            rw [htx0]
            have := congrArg (fun x => l ++ (x ++ [125])) hrun
            simpa using this
          have hn : (l ++ R ++ [123]).length + 1 ≤ 140737488355328 := by simp only [List.length_append, List.length_cons, List.length_nil] at hl3 ⊢; omega
          have Htx := Lib.hid htx
          have HWr := Lib.hid hWr
          have Hn := Lib.hid hn
          clear htx0 hBr hWr hrun hl2 hl3 HL htx hn
          go_wp2_with fail
          (with_reducible refine K1.out.mono ?_); rintro e w5 ⟨rfl, v5, hB5, hW5⟩
          have K2 := Lib.hid (writeByte_lit b v5 _ 125 125 rfl w5 hB5 Hn.out)
          go_wp2_with fail
          (with_reducible refine K2.out.mono ?_); rintro e w6 ⟨rfl, v6, hB6, hW6⟩
          go_wp2_with fail
          go_end0
          exact ⟨rfl, v6, by rw [← Htx.out]; exact hB6, Wr.after HBe2.out ((HWr.out.trans hW5).trans hW6)⟩
        · rw [if_neg hz] at hrun hl3
          rw [List.append_nil] at hrun
          rw [List.length_nil] at hl3
          have K1 := Lib.hid (writeByte_lit b vb _ 125 125 rfl wr hBr (by simp only [List.length_append]; omega))
          have htx : l ++ R ++ [125] = l ++ textJ (.mk 5 0 [] ns is) := by
            rw [htx0]
            have := congrArg (fun x => l ++ (x ++ [125])) hrun
            simpa using this
          have Htx := Lib.hid htx
          have HWr := Lib.hid hWr
          have hzi : ¬ (m : Int) = 0 := by omega
          clear htx0 hBr hWr hrun hl2 hl3 HL htx
          go_wp2_with fail
          (with_reducible refine K1.out.mono ?_); rintro e w6 ⟨rfl, v6, hB6, hW6⟩
          go_wp2_with fail
          go_end0
          exact ⟨rfl, v6, by rw [← Htx.out]; exact hB6, Wr.after HBe2.out (HWr.out.trans hW6)⟩
theorem lay_any (x : J) : Lay x := J.ind (P := Lay) (fun k n t ns is ih => lay_step k n t ns is ih) x
end Go.Proofs.YtigdjnfnkjfkmaaGreatDoor
