/- The text of a value (jsonx.Print), are two values the same (jsonx.Same). Conditions: the values are small; the table of powers of ten. -/
import Derived.Test.YthkpbgpgcpkiiaaGreatDoorJChkC
import Derived.Test.YthkpbgpgcpkiiaaGreatDoorJsonM
import Derived.Test.YthkpbgpgcpkiiaaGreatDoorJStr
namespace Go.Proofs.YthkpbgpgcpkiiaaGreatDoor
open Go.RowKit
set_option linter.unusedVariables false
set_option linter.unusedSimpArgs false
set_option maxRecDepth 100000

theorem rj_slices {P : Nat → Prop} {w : World} {x : J} {k n t N I : Value} (hR : RJ P w x [k, n, t, N, I]) : (∃ A m c, N = .slice A m c) ∧ ∃ A m c, I = .slice A m c := by
  cases x with
  | mk k n t ns is =>
    rw [RJ] at hR
    obtain ⟨N', I', e, hN, xs, hI, _⟩ := hR
    simp only [List.cons.injEq] at e
    obtain ⟨_, _, _, rfl, rfl, _⟩ := e
    obtain ⟨A, c, h⟩ := hN.shape
    obtain ⟨A', c', h'⟩ := hI.shape
    exact ⟨⟨A, _, c, h⟩, A', _, c', h'⟩
theorem RJ.grow {w w' : World} {x : J} {cs : List Value} (hR : RJ (fun b => b < w.heap.size) w x cs) (hb : Below w.heap.size w w') : RJ (fun b => b < w'.heap.size) w' x cs :=
  RJ.mono (fun b h _ => Nat.lt_of_lt_of_le h hb.size) _ _ (hR.below hb)
theorem RJ.within {w w' : World} {x : J} {cs : List Value} (hR : RJ (fun b => b < w.heap.size) w x cs) (hb : Below w.heap.size w w') : RJ (fun b => b < w.heap.size) w' x cs := hR.below hb
/-- A builder that is new: what lay writes into it. -/
theorem layNew (x : J) (N I : Value) (w w1 : World) (b : Nat) (hb1 : Below w.heap.size w w1) (hbz : w.heap.size ≤ b) (hB : Bv w1 b (.slice none 0 0) []) (hR : RJ (fun b => b < w.heap.size) w x [.int .i64 x.kind, .int .i64 x.int, .string (ofL x.text), N, I])
    (hC : Can 0 x) (hwt : wtJ x ≤ 1048576) (hNG : 7 ≤ w.heap.size) (hT : Tab10 w) :
    Calls Tryz.prog 23 #[.pointer (some ⟨b, 0, none⟩), .agg #[.int .i64 x.kind, .int .i64 x.int, .string (ofL x.text), N, I]] w1 fun e w' => e = .returned (.tuple #[]) ∧ ∃ v', Bv w' b v' (textJ x) ∧ Wr b (.slice none 0 0) v' w1 w' := by
  have htx := text_wt x hC.2
  exact lay_any x 0 b (.slice none 0 0) [] N I (fun k => k < w.heap.size) w1 hC (by omega) (by simp only [List.length_nil]; omega) (by omega) (hT.below hb1) hB (hR.below hb1) (fun k hk => ⟨Nat.lt_of_lt_of_le hk hb1.size, by have hk' : k < w.heap.size := hk; omega, fun e => by cases e⟩)
set_option maxHeartbeats 4000000 in
theorem Print_any (x : J) (N I : Value) (w : World) (hR : RJ (fun b => b < w.heap.size) w x [.int .i64 x.kind, .int .i64 x.int, .string (ofL x.text), N, I]) (hwf : wfJ x = true) (hwt : wtJ x ≤ 1048576) (hNG : 7 ≤ w.heap.size) (hT : Tab10 w) :
    Calls Tryz.prog 13 #[.agg #[.int .i64 x.kind, .int .i64 x.int, .string (ofL x.text), N, I]] w fun e w' => e = .returned (.tuple #[.string (ofL (printJ x).1), .int .i64 ((printJ x).2 : Nat)]) ∧ Below w.heap.size w w' := by
  obtain ⟨⟨A1, m1, c1, rfl⟩, A2, m2, c2, rfl⟩ := rj_slices hR
  have htx := text_wt x hwf
  have hb := (Below.refl w.heap.size w).alloc (Nat.le_refl _) (.cells #[.int .i64 x.kind, .int .i64 x.int, .string (ofL x.text), .slice A1 m1 c1, .slice A2 m2 c2] 25)
  have hk : (w.alloc (.cells #[.int .i64 x.kind, .int .i64 x.int, .string (ofL x.text), .slice A1 m1 c1, .slice A2 m2 c2] 25)).heap[w.heap.size]? = some (.cells #[.int .i64 x.kind, .int .i64 x.int, .string (ofL x.text), .slice A1 m1 c1, .slice A2 m2 c2] 25 (0, 0)) := heap_alloc_new w _
  have K := Lib.hid (fun (w1 : World) (hb : Below w.heap.size w w1) => Check_any x _ _ w1 (hR.grow hb) hwt)
  have KL := Lib.hid (fun (w1 : World) (b : Nat) (hb1 : Below w.heap.size w w1) (hbz : w.heap.size ≤ b) (hB : Bv w1 b (.slice none 0 0) []) (hz : checkJ 0 x = 0) => layNew x _ _ w w1 b hb1 hbz hB hR ⟨hz, hwf⟩ hwt hNG hT)
  have hpj : printJ x = if checkJ 0 x ≠ 0 then ([], checkJ 0 x) else if 65536 < (textJ x).length then ([], 4) else (textJ x, 0) := rfl
  have htl : (textJ x).length ≤ 1099511627776 := by omega
  have HPJ := Lib.hid hpj
  clear hR hpj htx hwt hwf hT
  generalize x.kind = xk at *
  generalize x.int = xn at *
  generalize x.text = xt at *
  generalize checkJ 0 x = cd at *
  generalize textJ x = tx at *
  generalize printJ x = pj at *
  go_enter Tryz.func13, Tryz.ntmps13
  go_upto_region 1 with fail
  generalize w.alloc (.cells #[.int .i64 xk, .int .i64 xn, .string (ofL xt), .slice A1 m1 c1, .slice A2 m2 c2] 25) = w1 at *
  have d0 : w1.cell? ⟨w.heap.size, 0, none⟩ = some (.int .i64 xk) := by rw [Lib.cell_of_heap hk]; rfl
  have d1 : w1.cell? ⟨w.heap.size, 1, none⟩ = some (.int .i64 xn) := by rw [Lib.cell_of_heap hk]; rfl
  have d2 : w1.cell? ⟨w.heap.size, 2, none⟩ = some (.string (ofL xt)) := by rw [Lib.cell_of_heap hk]; rfl
  have d3 : w1.cell? ⟨w.heap.size, 3, none⟩ = some (.slice A1 m1 c1) := by rw [Lib.cell_of_heap hk]; rfl
  have d4 : w1.cell? ⟨w.heap.size, 4, none⟩ = some (.slice A2 m2 c2) := by rw [Lib.cell_of_heap hk]; rfl
  have hz1 : w.heap.size < w1.heap.size := (Array.getElem?_eq_some_iff.1 hk).1
  have HB := Lib.hid hb
  have K := Lib.hid (K.out _ hb)
  clear hb hk
  by_cases hz : cd = 0
  · have KL2 := Lib.hid (fun (w1 : World) (b : Nat) (hb1 : Below w.heap.size w w1) (hbz : w.heap.size ≤ b) (hB : Bv w1 b (.slice none 0 0) []) => KL.out w1 b hb1 hbz hB hz)
    clear KL
    have hpj := HPJ.out
    rw [if_neg (by omega)] at hpj
    have HPJ2 := Lib.hid hpj
    clear HPJ
    subst hz
    clear hpj
    go_wp2_with fail
    (with_reducible refine K.out.mono ?_); rintro e w2 ⟨rfl, hb2⟩
    have HB2 := Lib.hid (HB.out.next hb2)
    have e0 := Below.keeps hb2 d0
    have e1 := Below.keeps hb2 d1
    have e2 := Below.keeps hb2 d2
    have e3 := Below.keeps hb2 d3
    have e4 := Below.keeps hb2 d4
    have hz2 : w1.heap.size ≤ w2.heap.size := hb2.size
    clear hb2 K d0 d1 d2 d3 d4
    have hB3 := Bv.new w2
    have hb3 := (Below.refl w2.heap.size w2).alloc (Nat.le_refl _) (.cells #[.pointer none, .slice none 0 0] 48)
    go_upto_region 5 with fail
    generalize w2.alloc (.cells #[.pointer none, .slice none 0 0] 48) = w3 at *
    have f0 := Below.keeps hb3 e0
    have f1 := Below.keeps hb3 e1
    have f2 := Below.keeps hb3 e2
    have f3 := Below.keeps hb3 e3
    have f4 := Below.keeps hb3 e4
    have HB3 := Lib.hid (HB2.out.next hb3)
    have KL := Lib.hid (KL2.out w3 w2.heap.size HB3.out (by omega) hB3)
    have hz3 : w2.heap.size < w3.heap.size := hB3.lt
    clear hb3 hB3 e0 e1 e2 e3 e4
    go_wp2_with fail
    (with_reducible refine KL.out.mono ?_); rintro e w4 ⟨rfl, v4, hB4, hW4⟩
    have HB4 := Lib.hid (HB3.out.trans (hW4.1.below (B := w.heap.size) (fun k hk e => by
      rcases e with e | e
      · omega
      · cases e) HB3.out.size))
    have KN := Lib.hid (len_any _ _ _ _ hB4)
    have KS := Lib.hid (string_any _ _ _ _ hB4)
    clear hB4 hW4 KL f0 f1 f2 f3 f4
    go_wp2_with fail
    (with_reducible refine KN.out.mono ?_); rintro e w5 ⟨rfl, rfl⟩
    by_cases hl : 65536 < tx.length
    · have hl2 : (tx.length : Int) > 65536 := by omega
      have hpj := HPJ2.out
      rw [if_pos hl] at hpj
      clear HPJ2
      go_wp2_with fail
      go_ret2
      exact ⟨by rw [hpj]; rfl, HB4.out⟩
    · have hl2 : ¬ (tx.length : Int) > 65536 := by omega
      have hpj := HPJ2.out
      rw [if_neg hl] at hpj
      clear HPJ2
      go_wp2_with fail
      (with_reducible refine KS.out.mono ?_); rintro e w6 ⟨rfl, hb6⟩
      have HB6 := Lib.hid (HB4.out.trans (hb6.mono (by omega)))
      clear hb6
      go_wp2_with fail
      go_ret2
      exact ⟨by rw [hpj]; rfl, HB6.out⟩
  · have hpj := HPJ.out
    rw [if_pos hz] at hpj
    have hzi : ¬ (cd : Int) = 0 := by omega
    clear HPJ KL
    go_wp2_with fail
    (with_reducible refine K.out.mono ?_); rintro e w2 ⟨rfl, hb2⟩
    have HB2 := Lib.hid (HB.out.next hb2)
    clear hb2 K
    go_wp2_with fail
    go_ret2
    exact ⟨by rw [hpj]; rfl, HB2.out⟩
theorem text_ne : ∀ v : J, wfJ v = true → textJ v ≠ [] := by
  intro v hw
  cases v with
  | mk k n t ns is =>
    rw [textJ]
    split
    · simp
    · split
      · split <;> simp
      · split
        · unfold Lib.itoa
          split
          · simp
          · intro e
            have h1 := congrArg List.length e
            rw [Lib.decDigits_length] at h1
            unfold Lib.nDigits at h1
            split at h1 <;> simp at h1
        · split
          · unfold quoteB; simp
          · split <;> simp
set_option maxHeartbeats 8000000 in
theorem Same_any (x y : J) (N I M Q : Value) (w : World) (hR : RJ (fun b => b < w.heap.size) w x [.int .i64 x.kind, .int .i64 x.int, .string (ofL x.text), N, I]) (hR' : RJ (fun b => b < w.heap.size) w y [.int .i64 y.kind, .int .i64 y.int, .string (ofL y.text), M, Q])
    (hwf : wfJ x = true) (hwt : wtJ x ≤ 1048576) (hwf' : wfJ y = true) (hwt' : wtJ y ≤ 1048576) (hNG : 7 ≤ w.heap.size) (hT : Tab10 w) :
    Calls Tryz.prog 20 #[.agg #[.int .i64 x.kind, .int .i64 x.int, .string (ofL x.text), N, I], .agg #[.int .i64 y.kind, .int .i64 y.int, .string (ofL y.text), M, Q]] w fun e w' => e = .returned (.bool (sameJ x y)) ∧ Below w.heap.size w w' := by
  obtain ⟨⟨A1, m1, c1, rfl⟩, A2, m2, c2, rfl⟩ := rj_slices hR
  obtain ⟨⟨A3, m3, c3, rfl⟩, A4, m4, c4, rfl⟩ := rj_slices hR'
  have hb := ((Below.refl w.heap.size w).alloc (Nat.le_refl _) (.cells #[.int .i64 x.kind, .int .i64 x.int, .string (ofL x.text), .slice A1 m1 c1, .slice A2 m2 c2] 25)).alloc (by simp) (.cells #[.int .i64 y.kind, .int .i64 y.int, .string (ofL y.text), .slice A3 m3 c3, .slice A4 m4 c4] 25)
  have hk : ((w.alloc (.cells #[.int .i64 x.kind, .int .i64 x.int, .string (ofL x.text), .slice A1 m1 c1, .slice A2 m2 c2] 25)).alloc (.cells #[.int .i64 y.kind, .int .i64 y.int, .string (ofL y.text), .slice A3 m3 c3, .slice A4 m4 c4] 25)).heap[w.heap.size]? = some (.cells #[.int .i64 x.kind, .int .i64 x.int, .string (ofL x.text), .slice A1 m1 c1, .slice A2 m2 c2] 25 (0, 0)) := by
    have h1 := heap_alloc_new w (.cells #[.int .i64 x.kind, .int .i64 x.int, .string (ofL x.text), .slice A1 m1 c1, .slice A2 m2 c2] 25)
    have h2 := (Below.refl (w.alloc (.cells #[.int .i64 x.kind, .int .i64 x.int, .string (ofL x.text), .slice A1 m1 c1, .slice A2 m2 c2] 25)).heap.size (w.alloc (.cells #[.int .i64 x.kind, .int .i64 x.int, .string (ofL x.text), .slice A1 m1 c1, .slice A2 m2 c2] 25))).alloc (Nat.le_refl _) (.cells #[.int .i64 y.kind, .int .i64 y.int, .string (ofL y.text), .slice A3 m3 c3, .slice A4 m4 c4] 25)
    rw [h2.block _ (by simp)]; exact h1
  have hk' : ((w.alloc (.cells #[.int .i64 x.kind, .int .i64 x.int, .string (ofL x.text), .slice A1 m1 c1, .slice A2 m2 c2] 25)).alloc (.cells #[.int .i64 y.kind, .int .i64 y.int, .string (ofL y.text), .slice A3 m3 c3, .slice A4 m4 c4] 25)).heap[w.heap.size + 1]? = some (.cells #[.int .i64 y.kind, .int .i64 y.int, .string (ofL y.text), .slice A3 m3 c3, .slice A4 m4 c4] 25 (0, 0)) := by
    have h1 := heap_alloc_new (w.alloc (.cells #[.int .i64 x.kind, .int .i64 x.int, .string (ofL x.text), .slice A1 m1 c1, .slice A2 m2 c2] 25)) (.cells #[.int .i64 y.kind, .int .i64 y.int, .string (ofL y.text), .slice A3 m3 c3, .slice A4 m4 c4] 25)
    rw [World.size_alloc] at h1; exact h1
  have K := Lib.hid (fun (w1 : World) (hb : Below w.heap.size w w1) => Check_any x _ _ w1 (hR.grow hb) hwt)
  have K' := Lib.hid (fun (w1 : World) (hb : Below w.heap.size w w1) => Check_any y _ _ w1 (hR'.grow hb) hwt')
  have KL := Lib.hid (fun (w1 : World) (b : Nat) (hb1 : Below w.heap.size w w1) (hbz : w.heap.size ≤ b) (hB : Bv w1 b (.slice none 0 0) []) (hz : checkJ 0 x = 0) => layNew x _ _ w w1 b hb1 hbz hB hR ⟨hz, hwf⟩ hwt hNG hT)
  have KL' := Lib.hid (fun (w1 : World) (b : Nat) (hb1 : Below w.heap.size w w1) (hbz : w.heap.size ≤ b) (hB : Bv w1 b (.slice none 0 0) []) (hz : checkJ 0 y = 0) => layNew y _ _ w w1 b hb1 hbz hB hR' ⟨hz, hwf'⟩ hwt' hNG hT)
  have hne := text_ne x hwf
  have hsj : sameJ x y = (checkJ 0 x == 0 && checkJ 0 y == 0 && textJ x == textJ y) := rfl
  rw [hsj]
  clear hR hR' hwt hwf hwt' hwf' hT hsj
  generalize x.kind = xk at *
  generalize x.int = xn at *
  generalize x.text = xt at *
  generalize checkJ 0 x = cx at *
  generalize textJ x = tx at *
  generalize y.kind = yk at *
  generalize y.int = yn at *
  generalize y.text = yt at *
  generalize checkJ 0 y = cy at *
  generalize textJ y = ty at *
  go_enter Tryz.func20, Tryz.ntmps20
  go_upto_region 1 with fail
  generalize (w.alloc (.cells #[.int .i64 xk, .int .i64 xn, .string (ofL xt), .slice A1 m1 c1, .slice A2 m2 c2] 25)).alloc (.cells #[.int .i64 yk, .int .i64 yn, .string (ofL yt), .slice A3 m3 c3, .slice A4 m4 c4] 25) = w1 at *
  have d0 : w1.cell? ⟨w.heap.size, 0, none⟩ = some (.int .i64 xk) := by rw [Lib.cell_of_heap hk]; rfl
  have d1 : w1.cell? ⟨w.heap.size, 1, none⟩ = some (.int .i64 xn) := by rw [Lib.cell_of_heap hk]; rfl
  have d2 : w1.cell? ⟨w.heap.size, 2, none⟩ = some (.string (ofL xt)) := by rw [Lib.cell_of_heap hk]; rfl
  have d3 : w1.cell? ⟨w.heap.size, 3, none⟩ = some (.slice A1 m1 c1) := by rw [Lib.cell_of_heap hk]; rfl
  have d4 : w1.cell? ⟨w.heap.size, 4, none⟩ = some (.slice A2 m2 c2) := by rw [Lib.cell_of_heap hk]; rfl
  have g0 : w1.cell? ⟨w.heap.size + 1, 0, none⟩ = some (.int .i64 yk) := by rw [Lib.cell_of_heap hk']; rfl
  have g1 : w1.cell? ⟨w.heap.size + 1, 1, none⟩ = some (.int .i64 yn) := by rw [Lib.cell_of_heap hk']; rfl
  have g2 : w1.cell? ⟨w.heap.size + 1, 2, none⟩ = some (.string (ofL yt)) := by rw [Lib.cell_of_heap hk']; rfl
  have g3 : w1.cell? ⟨w.heap.size + 1, 3, none⟩ = some (.slice A3 m3 c3) := by rw [Lib.cell_of_heap hk']; rfl
  have g4 : w1.cell? ⟨w.heap.size + 1, 4, none⟩ = some (.slice A4 m4 c4) := by rw [Lib.cell_of_heap hk']; rfl
  have hz1 : w.heap.size + 1 < w1.heap.size := (Array.getElem?_eq_some_iff.1 hk').1
  have HB := Lib.hid hb
  have K := Lib.hid (K.out _ hb)
  clear hb hk hk'
  by_cases hz : cx = 0
  · have KL2 := Lib.hid (fun (w1 : World) (b : Nat) (hb1 : Below w.heap.size w w1) (hbz : w.heap.size ≤ b) (hB : Bv w1 b (.slice none 0 0) []) => KL.out w1 b hb1 hbz hB hz)
    clear KL
    subst hz
    go_wp2_with fail
    (with_reducible refine K.out.mono ?_); rintro e w2 ⟨rfl, hb2⟩
    have HB2 := Lib.hid (HB.out.next hb2)
    have d0 := Below.keeps hb2 d0
    have d1 := Below.keeps hb2 d1
    have d2 := Below.keeps hb2 d2
    have d3 := Below.keeps hb2 d3
    have d4 := Below.keeps hb2 d4
    have g0 := Below.keeps hb2 g0
    have g1 := Below.keeps hb2 g1
    have g2 := Below.keeps hb2 g2
    have g3 := Below.keeps hb2 g3
    have g4 := Below.keeps hb2 g4
    have hz2 : w1.heap.size ≤ w2.heap.size := hb2.size
    have K' := Lib.hid (K'.out _ HB2.out)
    clear hb2 K
    by_cases hy : cy = 0
    · have KL3 := Lib.hid (fun (w1 : World) (b : Nat) (hb1 : Below w.heap.size w w1) (hbz : w.heap.size ≤ b) (hB : Bv w1 b (.slice none 0 0) []) => KL'.out w1 b hb1 hbz hB hy)
      clear KL'
      subst hy
      go_wp2_with fail
      (with_reducible refine K'.out.mono ?_); rintro e w3 ⟨rfl, hb3⟩
      have HB3 := Lib.hid (HB2.out.next hb3)
      have d0 := Below.keeps hb3 d0
      have d1 := Below.keeps hb3 d1
      have d2 := Below.keeps hb3 d2
      have d3 := Below.keeps hb3 d3
      have d4 := Below.keeps hb3 d4
      have g0 := Below.keeps hb3 g0
      have g1 := Below.keeps hb3 g1
      have g2 := Below.keeps hb3 g2
      have g3 := Below.keeps hb3 g3
      have g4 := Below.keeps hb3 g4
      have hz3 : w2.heap.size ≤ w3.heap.size := hb3.size
      clear hb3 K'
      have hBa := Bv.new w3
      have hBb := Bv.new (w3.alloc (.cells #[.pointer none, .slice none 0 0] 48))
      have hba := (Below.refl w3.heap.size w3).alloc (Nat.le_refl _) (.cells #[.pointer none, .slice none 0 0] 48)
      have hbb := (Below.refl (w3.alloc (.cells #[.pointer none, .slice none 0 0] 48)).heap.size (w3.alloc (.cells #[.pointer none, .slice none 0 0] 48))).alloc (Nat.le_refl _) (.cells #[.pointer none, .slice none 0 0] 48)
      have hBa := hBa.below hbb
      have hbc := hba.next hbb
      rw [World.size_alloc] at hBb
      clear hba hbb
      go_upto_region 4 with fail
      generalize (w3.alloc (.cells #[.pointer none, .slice none 0 0] 48)).alloc (.cells #[.pointer none, .slice none 0 0] 48) = w4 at *
      have d0 := Below.keeps hbc d0
      have d1 := Below.keeps hbc d1
      have d2 := Below.keeps hbc d2
      have d3 := Below.keeps hbc d3
      have d4 := Below.keeps hbc d4
      have g0 := Below.keeps hbc g0
      have g1 := Below.keeps hbc g1
      have g2 := Below.keeps hbc g2
      have g3 := Below.keeps hbc g3
      have g4 := Below.keeps hbc g4
      have HB4 := Lib.hid (HB3.out.next hbc)
      have hz4 : w3.heap.size + 1 < w4.heap.size := hBb.lt
      have KA := Lib.hid (KL2.out w4 w3.heap.size HB4.out (by omega) hBa)
      clear hbc KL2 hBa
      go_wp2_with fail
      (with_reducible refine KA.out.mono ?_); rintro e w5 ⟨rfl, v5, hB5, hW5⟩
      have hfr : ∀ k, k < w3.heap.size → ¬ (k = w3.heap.size ∨ (Value.slice none 0 0).ownBlock = some k) := fun k hk e => by
        rcases e with e | e
        · omega
        · cases e
      have hT5 := hW5.1.below (B := w3.heap.size) hfr (by omega)
      have g0 := (hT5.cell (p := ⟨w.heap.size + 1, 0, none⟩) (by show w.heap.size + 1 < _; omega)).trans g0
      have g1 := (hT5.cell (p := ⟨w.heap.size + 1, 1, none⟩) (by show w.heap.size + 1 < _; omega)).trans g1
      have g2 := (hT5.cell (p := ⟨w.heap.size + 1, 2, none⟩) (by show w.heap.size + 1 < _; omega)).trans g2
      have g3 := (hT5.cell (p := ⟨w.heap.size + 1, 3, none⟩) (by show w.heap.size + 1 < _; omega)).trans g3
      have g4 := (hT5.cell (p := ⟨w.heap.size + 1, 4, none⟩) (by show w.heap.size + 1 < _; omega)).trans g4
      have HB5 := Lib.hid (HB4.out.trans (hT5.mono (by omega)))
      have hBb5 := hBb.touch hW5.1 (fun e => by
        rcases e with e | e
        · omega
        · cases e) (fun k hk => by cases hk)
      have hz5 : w4.heap.size ≤ w5.heap.size := hW5.1.size
      have KC := Lib.hid (KL3.out w5 (w3.heap.size + 1) HB5.out (by omega) hBb5)
      have HB5v := Lib.hid hB5
      have HL5 := Lib.hid hW5.2
      clear KA hW5 hT5 hB5 hBb hBb5 KL3
      go_wp2_with fail
      (with_reducible refine KC.out.mono ?_); rintro e w6 ⟨rfl, v6, hB6, hW6⟩
      have hown5 : ∀ k, v5.ownBlock = some k → ¬ (k = w3.heap.size + 1 ∨ (Value.slice none 0 0).ownBlock = some k) := fun k hk e => by
        rcases e with e | e
        · rcases HL5.out k hk with h | h
          · cases h
          · omega
        · cases e
      have hB5' := HB5v.out.touch hW6.1 (fun e => by
        rcases e with e | e
        · omega
        · cases e) hown5
      have hT6 := hW6.1.below (B := w.heap.size) (fun k hk e => by
        rcases e with e | e
        · omega
        · cases e) (by have := HB5.out.size; omega)
      have HB6 := Lib.hid (HB5.out.trans hT6)
      have hz6 : w5.heap.size ≤ w6.heap.size := hW6.1.size
      have KS := Lib.hid (stringT_any _ _ _ _ hB5' hne)
      have hown56 : ∀ k, v5.ownBlock = some k → k < w5.heap.size ∧ w4.heap.size ≤ k := fun k hk => by
        have h1 := (World.ownsRow.lt (show World.ownsRow _ _ _ _ _ _ _ from HB5v.out.own) k hk).2
        rcases HL5.out k hk with h | h
        · cases h
        · exact ⟨h1, h⟩
      have hown6 : ∀ k, v6.ownBlock = some k → w5.heap.size ≤ k := fun k hk => by
        rcases hW6.2 k hk with h | h
        · cases h
        · exact h
      have HB6v := Lib.hid hB6
      clear KC hW6 hT6 hB5' hB6 hown5
      go_wp2_with fail
      (with_reducible refine KS.out.mono ?_); rintro e w7 ⟨rfl, hT7⟩
      have hB7 := HB6v.out.touch hT7 (fun e => by have := hown56 _ e; omega) (fun k hk e => by have h1 := hown56 _ e; have h2 := hown6 _ hk; omega)
      have hb7 := hT7.below (B := w.heap.size) (fun k hk e => by have := hown56 _ e; omega) (by omega)
      have HB7 := Lib.hid (HB6.out.trans hb7)
      have hz7 : w6.heap.size ≤ w7.heap.size := hT7.size
      have KT := Lib.hid (string_any _ _ _ _ hB7)
      clear KS hB7 hb7 hT7 hown56 hown6
      go_wp2_with fail
      (with_reducible refine KT.out.mono ?_); rintro e w8 ⟨rfl, hb8⟩
      have HB8 := Lib.hid (HB7.out.trans (hb8.mono (by omega)))
      clear hb8
      go_wp2_with fail
      go_ret
      exact ⟨ret_bool (by simp [toL_ofL]), HB8.out⟩
    · have hyi : ¬ (cy : Int) = 0 := by omega
      go_wp2_with fail
      (with_reducible refine K'.out.mono ?_); rintro e w3 ⟨rfl, hb3⟩
      have HB3 := Lib.hid (HB2.out.next hb3)
      clear hb3 K'
      go_wp2_with fail
      go_ret
      exact ⟨ret_bool (by simp [hy]), HB3.out⟩
  · have hzi : ¬ (cx : Int) = 0 := by omega
    go_wp2_with fail
    (with_reducible refine K.out.mono ?_); rintro e w2 ⟨rfl, hb2⟩
    have HB2 := Lib.hid (HB.out.next hb2)
    clear hb2 K
    go_wp2_with fail
    go_ret
    exact ⟨ret_bool (by simp [hz]), HB2.out⟩
end Go.Proofs.YthkpbgpgcpkiiaaGreatDoor
