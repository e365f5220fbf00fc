/- The parser's whole numbers (jsonx). Conditions: the text is short. -/
import Derived.Test.YtigdjnfnkjfkmaaGreatDoorJParA
import Derived.Deep.DeepCutAuto
namespace Go.Proofs.YtigdjnfnkjfkmaaGreatDoor
open Go.RowKit
set_option linter.unusedVariables false
set_option linter.unusedSimpArgs false
set_option maxRecDepth 100000

/-- A number's beginning was seen, its sign passed. -/
def numR (ng : Bool) (m : B) : PR Int := match oneB digitsL m with
  | .fail r e => .fail r e
  | .ok c _ => numB ng (c == 48) 0 m
theorem dig_in (c : UInt8) : digitsL.contains c = digB c := by
  have : ∀ n : Nat, n < 256 → digitsL.contains (UInt8.ofNat n) = digB (UInt8.ofNat n) := by decide
  have := this c.toNat c.toNat_lt; rwa [UInt8.ofNat_toNat] at this
theorem dig_le {c : UInt8} (h : digB c = true) : 48 ≤ c.toNat ∧ c.toNat ≤ 57 := by
  simp only [digB, Bool.and_eq_true, decide_eq_true_eq] at h
  exact ⟨UInt8.le_iff_toNat_le.1 h.1, UInt8.le_iff_toNat_le.1 h.2⟩
def ovB (ng : Bool) (N : Int) (d : UInt8) : Prop := if ng then N < (-9223372036854775808 + ((d.toNat : Int) - 48)).tdiv 10 else N > (9223372036854775807 - ((d.toNat : Int) - 48)) / 10
def nextB (ng : Bool) (N : Int) (d : UInt8) : Int := if ng then 10 * N - ((d.toNat : Int) - 48) else 10 * N + ((d.toNat : Int) - 48)
def dotL : B := [46, 101, 69]
theorem ov_iff (ng : Bool) (N : Int) (d : UInt8) : ovB ng N d ↔ (ng = false ∧ N > (9223372036854775807 - ((d.toNat : Int) - 48)) / 10) ∨ (ng = true ∧ N < (-9223372036854775808 + ((d.toNat : Int) - 48)).tdiv 10) := by
  cases ng <;> simp [ovB]
theorem numB_ov {ng : Bool} {N : Int} {d : UInt8} (z : Bool) (r : B) (h : ovB ng N d) : numB ng z N (d :: r) = .fail (d :: r) 42 := by
  rw [numB.eq_def]; simp only []; rw [if_pos ((ov_iff ng N d).1 h)]
theorem numB_nil {ng : Bool} {N : Int} {d : UInt8} (z : Bool) (h : ¬ ovB ng N d) : numB ng z N [d] = .ok (nextB ng N d) [] := by
  rw [numB.eq_def]; simp only []; rw [if_neg (fun k => h ((ov_iff ng N d).2 k))]; rfl
theorem numB_dig {ng z : Bool} {N : Int} {d d2 : UInt8} {r : B} (h : ¬ ovB ng N d) (h2 : digB d2 = true) (hz : z = false) : numB ng z N (d :: d2 :: r) = numB ng z (nextB ng N d) (d2 :: r) := by
  subst hz
  rw [numB.eq_def]; simp only []; rw [if_neg (fun k => h ((ov_iff ng N d).2 k)), h2]; rfl
theorem dot_in (d : UInt8) : (d == 46 || d == 101 || d == 69) = dotL.contains d := by simp only [dotL, List.contains_cons, List.contains_nil, Bool.or_false, Bool.or_assoc]
theorem numB_dot {ng z : Bool} {N : Int} {d d2 : UInt8} {r : B} (h : ¬ ovB ng N d) (h2 : (digB d2 && !z) = false) (hd : dotL.contains d2 = true) : numB ng z N (d :: d2 :: r) = .fail (d2 :: r) 42 := by
  rw [numB.eq_def]; simp only []; rw [if_neg (fun k => h ((ov_iff ng N d).2 k)), h2, dot_in, hd]; rfl
theorem numB_end {ng z : Bool} {N : Int} {d d2 : UInt8} {r : B} (h : ¬ ovB ng N d) (h2 : (digB d2 && !z) = false) (hd : dotL.contains d2 = false) : numB ng z N (d :: d2 :: r) = .ok (nextB ng N d) (d2 :: r) := by
  rw [numB.eq_def]; simp only []; rw [if_neg (fun k => h ((ov_iff ng N d).2 k)), h2, dot_in, hd]; rfl
theorem nextB_in {ng : Bool} {N : Int} {d : UInt8} (h : ¬ ovB ng N d) (hd : 48 ≤ d.toNat ∧ d.toNat ≤ 57) (h1 : -9223372036854775808 ≤ N) (h2 : N ≤ 9223372036854775807) (h3 : ng = true → N ≤ 0) (h4 : ng = false → 0 ≤ N) :
    -9223372036854775808 ≤ nextB ng N d ∧ nextB ng N d ≤ 9223372036854775807 ∧ (ng = true → nextB ng N d ≤ 0) ∧ (ng = false → 0 ≤ nextB ng N d) := by
  cases ng with
  | false =>
    have := h4 rfl
    simp only [ovB, nextB, Bool.false_eq_true, if_false] at h ⊢
    refine ⟨by omega, by omega, fun e => (by cases e), fun _ => by omega⟩
  | true =>
    have := h3 rfl
    simp only [ovB, nextB, if_true] at h ⊢
    have e : (-9223372036854775808 + ((d.toNat : Int) - 48)).tdiv 10 = -((9223372036854775808 - ((d.toNat : Int) - 48)) / 10) := by
      rw [show (-9223372036854775808 + ((d.toNat : Int) - 48)) = -(9223372036854775808 - ((d.toNat : Int) - 48)) by omega, Int.neg_tdiv, Int.tdiv_eq_ediv_of_nonneg (by omega)]
    rw [e] at h
    refine ⟨by omega, by omega, fun _ => by omega, fun e => (by cases e)⟩
theorem notgo {c d : UInt8} (h : (digB d && !(c == 48)) = false) : (d.toNat : Int) < 48 ∨ (¬ (d.toNat : Int) < 48 ∧ (d.toNat : Int) > 57) ∨ (¬ (d.toNat : Int) < 48 ∧ ¬ (d.toNat : Int) > 57 ∧ ((c.toNat : Int) == 48) = true) := by
  by_cases h1 : (d.toNat : Int) < 48
  · exact .inl h1
  · by_cases h2 : (d.toNat : Int) > 57
    · exact .inr (.inl ⟨h1, h2⟩)
    · have hd : digB d = true := by
        simp only [digB, Bool.and_eq_true, decide_eq_true_eq]
        refine ⟨UInt8.le_iff_toNat_le.2 ?_, UInt8.le_iff_toNat_le.2 ?_⟩
        · show 48 ≤ d.toNat; omega
        · show d.toNat ≤ 57; omega
      rw [hd] at h
      have hc : c = 48 := by simpa using h
      subst hc
      exact .inr (.inr ⟨h1, h2, rfl⟩)
theorem go2 {c d : UInt8} (h : (digB d && !(c == 48)) = true) : digB d = true ∧ (c == 48) = false ∧ ¬ (d.toNat : Int) < 48 ∧ ¬ (d.toNat : Int) > 57 ∧ ((c.toNat : Int) == 48) = false := by
  have hd : digB d = true := by simp only [Bool.and_eq_true] at h; exact h.1
  have hc : ¬ c = 48 := by simp only [Bool.and_eq_true] at h; simpa using h.2
  have := dig_le hd
  refine ⟨hd, by simpa using hc, by omega, by omega, ?_⟩
  rw [beq_eq_false_iff_ne]
  intro e; apply hc; apply UInt8.toNat.inj; show c.toNat = 48; omega
/-- The loop's state. -/
def NumAt (bp : Nat) (s : ByteArray) (R : PR Int) (w0 : World) (ng z : Bool) (n c : Value) (wx : World) : Prop :=
  ∃ N : Int, n = .int .i64 N ∧ ∃ d : UInt8, c = .int .u8 d.toNat ∧ digB d = true ∧ (-9223372036854775808 ≤ N ∧ N ≤ 9223372036854775807 ∧ (ng = true → N ≤ 0) ∧ (ng = false → 0 ≤ N)) ∧
    ∃ j r, PC wx bp s (j + 1) ∧ At s j (d :: r) ∧ numB ng z N (d :: r) = R ∧ Touch (fun k => k = bp) w0 wx
def NumIn (bp : Nat) (s : ByteArray) (l : B) (w0 : World) (neg : Value) (wx : World) : Prop :=
  ∃ ng : Bool, neg = .bool ng ∧ ∃ j m, PC wx bp s j ∧ At s j m ∧ numR ng m = numberB l ∧ Touch (fun k => k = bp) w0 wx
theorem numR_neg (l : B) : numR true l = numberB (45 :: l) := by simp only [numberB, numR, if_true]; rfl
theorem numR_pos (m : UInt8) (l : B) (h : m ≠ 45) : numR false (m :: l) = numberB (m :: l) := by simp only [numberB, numR, if_neg h]; rfl
/-- A number's value. -/
def numV (n : Int) (e : Ending) (_ : World) : Prop := e = .returned (.agg #[.int .i64 2, .int .i64 n, .string (ofL []), .slice none 0 0, .slice none 0 0])
set_option maxHeartbeats 4000000 in
theorem number_any (bp : Nat) (s : ByteArray) (k : Nat) (l : B) (w : World) (hP : PC w bp s k) (hl : At s k l) (hs : s.size ≤ 65536) :
    Calls Tryz.prog 111 #[.pointer (some ⟨bp, 0, none⟩)] w fun e w' => OutU bp s numV e w' (numberB l) ∧ Touch (fun j => j = bp) w w' := by
  have HP := Lib.hid hP
  have HL := Lib.hid hl
  have hm : s.size ≤ 9223372036854775807 := by omega
  have hal := (Below.refl w.heap.size w).alloc (Nat.le_refl _) (.cells #[.int .i64 0, .int .i64 0, .string ⟨#[]⟩, .slice none 0 0, .slice none 0 0] 49)
  have hJ := JC.new w
  have HN := Lib.hid HP.out.lt
  clear hP hl
  cases l with
  | nil =>
    have K1 := Lib.hid (fun w hP => peek_nil bp s k w hP HL.out hs)
    go_enter Tryz.func111, Tryz.ntmps111
    go_wp2_with (go_at_call 105; with_reducible refine (K1.out _ (HP.out.below hal)).mono ?_; rintro e w4 ⟨rfl, hp4, hb4⟩)
    exact ⟨rfl, rfl, Touch.of_below (hal.next hb4)⟩
  | cons m l =>
    have K1 := Lib.hid (fun w hP => peek_cons bp s k m l w hP HL.out hs)
    go_enter Tryz.func111, Tryz.ntmps111
    go_upto_if 11 with (go_at_call 105; with_reducible refine (K1.out _ (HP.out.below hal)).mono ?_; rintro e w4 ⟨rfl, hp4, hb4⟩)
    generalize w.alloc (.cells #[.int .i64 0, .int .i64 0, .string ⟨#[]⟩, .slice none 0 0, .slice none 0 0] 49) = w0 at *
    have HJ := Lib.hid hJ
    have HAl := Lib.hid hal
    have HB4 := Lib.hid hb4
    have c1 := hp4.c1
    have f1 := hp4.fz 1
    have HP4 := Lib.hid hp4
    obtain ⟨hk, -, ha⟩ := HL.out.cons
    clear hJ hal hb4 hp4 K1
    go_cut [0, 2, 3] (fun s0 s2 s3 wx => s0 = .pointer (some ⟨bp, 0, none⟩) ∧ s2 = .pointer (some ⟨w.heap.size, 0, none⟩) ∧ NumIn bp s (m :: l) w0 s3 wx)
    case first =>
      by_cases h45 : m = 45
      · subst h45
        have hq : ((((45 : UInt8).toNat : Nat) : Int) == 45) = true := rfl
        go_wp2_with fail
        go_meet
        exact ⟨rfl, rfl, true, rfl, k + 1, l, HP4.out.set (k + 1), ha, numR_neg l, (Touch.of_below (F := fun k => k = bp) HB4.out).setCell (p := ⟨bp, 1, none⟩) rfl _⟩
      · have hq : ((m.toNat : Int) == 45) = false := by
          rw [beq_eq_false_iff_ne]; intro e; apply h45; apply UInt8.toNat.inj; have : m.toNat = 45 := by omega
          exact this
        go_wp2_with fail
        go_meet
        exact ⟨rfl, rfl, false, congrArg Value.bool hq, k, m :: l, HP4.out, HL.out, numR_pos m l h45, Touch.of_below (F := fun k => k = bp) HB4.out⟩
    case rest =>
      obtain ⟨rfl, rfl, ng, rfl, j, q, hP5, hl5, hR5, ht5⟩ := hcut
      have K2 := Lib.hid (fun w hP => one_lit bp s ⟨#[48, 49, 50, 51, 52, 53, 54, 55, 56, 57]⟩ digitsL rfl j q w hP hl5 hs)
      have HT5 := Lib.hid ht5
      have HP5 := Lib.hid hP5
      have HL5 := Lib.hid hl5
      clear ht5 hP5 hl5 HP HP4 c1 f1 HB4 ha
      unfold numR at hR5
      rcases ho : oneB digitsL q with ⟨c, r⟩ | ⟨r, e⟩
      · rw [ho] at K2 hR5
        unfold OutU byteV at K2
        obtain ⟨rfl, hc⟩ := oneB_ok ho
        rw [dig_in] at hc
        have HR5 := Lib.hid hR5
        clear ho hR5
        go_wp2_with (go_at_call 129; with_reducible refine (K2.out _ HP5.out).mono ?_; rintro e w6 ⟨⟨rfl, j6, hP6, hl6⟩, ht6⟩)
        have e6 : j6 = j + 1 := by have := hl6.size; have := HL5.out.size; simp at this; omega
        subst e6
        go_loopw [4, 6] (fun n c' wr => NumAt bp s (numberB (m :: l)) w0 ng (c == 48) n c' wr) (fun n c' wr => s.size - (intOf ((wr.cell? ⟨bp, 1, none⟩).getD undef)).toNat)
        case atStart => exact ⟨0, rfl, c, rfl, hc, by simp, j, r, hP6, HL5.out, HR5.out, HT5.out.trans ht6⟩
        case round =>
          obtain ⟨N, rfl, d, rfl, hd, hN, i, r, hP7, hl7, hR7, ht7⟩ := hrel
          have hdl := dig_le hd
          have c1 := hP7.c1
          have f1 := hP7.fz 1
          have HP7 := Lib.hid hP7
          have HL7 := Lib.hid hl7
          have HR7 := Lib.hid hR7
          have HT7 := Lib.hid ht7
          have HD := Lib.hid hd
          clear hP7 hl7 hR7 ht7 hd HR5 K2 ht6 hP6 hl6
          obtain ⟨hN1, hN2, hN3, hN4⟩ := hN
          have hi : i < s.size := by have := HL7.out.size; simp at this; omega
          by_cases hov : ovB ng N d
          · have HX := Lib.hid (numB_ov (c == 48) r hov)
            cases ng
            all_goals
              simp only [ovB, if_true, Bool.false_eq_true, if_false] at hov
              go_wp2_with (go_at_call 78; with_reducible refine (fail_any bp s i 42 _ (HP7.out.set i)).mono ?_; rintro e w6 ⟨rfl, rfl⟩)
              refine ⟨rfl, ?_, ((Touch.of_below HAl.out).trans HT7.out).setCell (p := ⟨bp, 1, none⟩) rfl _⟩
              rw [← HR7.out, HX.out]
              exact OutU.giveup HL7.out numV 42 _
          · have HO := Lib.hid hov
            have hx := nextB_in hov hdl hN1 hN2 hN3 hN4
            cases ng
            all_goals
              simp only [ovB, if_true, Bool.false_eq_true, if_false] at hov
              first
                | have hNs : N ≤ 0 := hN3 rfl
                | have hNs : 0 ≤ N := hN4 rfl
              have hx2 := And.intro hx.1 hx.2.1
              simp only [nextB, if_true, Bool.false_eq_true, if_false] at hx2
              have hb1 : -9223372036854775808 ≤ 10 * N ∧ 10 * N ≤ 9223372036854775807 := by omega
              go_upto_region 16 with fail
              clear hx2 hb1 hNs
              first
                | (rw [show 10 * N - ((d.toNat : Int) - 48) = nextB true N d from rfl]; generalize hx4 : nextB true N d = N' at hx ⊢)
                | (rw [show 10 * N + ((d.toNat : Int) - 48) = nextB false N d from rfl]; generalize hx4 : nextB false N d = N' at hx ⊢)
              have HNX := Lib.hid hx4
              have hp8 := (HP7.out.set i).set (i + 1)
              have ht8 := (HT7.out.setCell (p := ⟨bp, 1, none⟩) rfl (.int .i64 (i : Int))).setCell (p := ⟨bp, 1, none⟩) rfl (.int .i64 ((i + 1 : Nat) : Int))
              rw [Int.natCast_add, Int.natCast_one] at hp8 ht8
              obtain ⟨-, -, hl8⟩ := HL7.out.cons
              clear hx4 c1 f1 hov hN1 hN2 hN3 hN4 hdl
              generalize (wr.setCell ⟨bp, 1, none⟩ (.int .i64 (i : Int))).setCell ⟨bp, 1, none⟩ (.int .i64 ((i : Int) + 1)) = w8 at hp8 ht8 ⊢
              have HI := Lib.hid (rfl : i + 1 = i + 1)
              have HP7c := Lib.hid HP7.out.c1
              generalize hi1 : i + 1 = t at hp8 hl8 HI HP7c
              have HI1 := Lib.hid hi1
              clear hi1
              have c0 := hp8.c0
              have c1 := hp8.c1
              have HP8 := Lib.hid hp8
              have HL8 := Lib.hid hl8
              have HT8 := Lib.hid ht8
              clear hp8 hl8 ht8 HP7 HT7 HI
              cases r with
              | nil =>
                have ht := HL8.out.nil
                subst ht
                have hq : ((s.size : Int) == (s.size : Int)) = true := by simp
                have hq2 : ¬ (s.size : Int) < s.size := by omega
                have HX := Lib.hid (show numberB (m :: l) = .ok N' [] by rw [← HR7.out, numB_nil _ HO.out, HNX.out])
                go_quiet (fail)
                go_upto_region 20 with fail
                (have hb9 := below_drewN w8.heap.size w8 nq); (have hp9 := HP8.out.below hb9); (have ht9 := HT8.out.next hb9); (clear HP8 HT8 c0 c1); (generalize w8.drewN nq = w8 at hb9 hp9 ht9 ⊢); (have c0 := hp9.c0); (have c1 := hp9.c1); (have HP8 := Lib.hid hp9); (have HT8 := Lib.hid ht9); (clear hb9 hp9 ht9 nq)
                go_quiet (fail)
                (have hb9 := below_drewN w8.heap.size w8 nq); (have hp9 := HP8.out.below hb9); (have ht9 := HT8.out.next hb9); (clear HP8 HT8 c0 c1); (generalize w8.drewN nq = w10 at hb9 hp9 ht9 ⊢); (have hne : ¬ w.heap.size = bp := by have := HN.out; omega); (have hj10 := JC.touch HJ.out ht9 hne); (have c0 := hj10.c0); (have c1 := hj10.c1); (have c2 := hj10.c2); (have c3 := hj10.c3); (have c4 := hj10.c4); (have f0 := hj10.fz 0); (have f1 := hj10.fz 1); (have f2 := hj10.fz 2); (have f3 := hj10.fz 3); (have f4 := hj10.fz 4); (have hx10 := hj10.put 2 N' ⟨#[]⟩ (.slice none 0 0) (.slice none 0 0)); (have HPX := Lib.hid (hp9.putJ (fun e => hne e.symm) 2 N' ⟨#[]⟩ (.slice none 0 0) (.slice none 0 0))); (have HTX := Lib.hid (((Touch.of_below HAl.out).trans ht9).putJ (Nat.le_refl _) 2 N' ⟨#[]⟩ (.slice none 0 0) (.slice none 0 0))); (go_wp2_with fail); (have hc0 := hx10.c0); (have hc1 := hx10.c1); (have hc2 := hx10.c2); (have hc3 := hx10.c3); (have hc4 := hx10.c4); (refine bodyPost_ret (v := .agg #[.int .i64 2, .int .i64 N', .string ⟨#[]⟩, .slice none 0 0, .slice none 0 0]) (by simp [results, Tryz.results111, go_sem, hc0, hc1, hc2, hc3, hc4]) rfl ⟨?_, HTX.out⟩); (rw [HX.out]); (exact ⟨rfl, _, HPX.out, HL8.out⟩)
              | cons d2 r =>
                obtain ⟨hkt, hct, hat⟩ := HL8.out.cons
                have hq : ((t : Int) == (s.size : Int)) = false := by rw [beq_eq_false_iff_ne]; omega
                have hq2 : (t : Int) < s.size := by omega
                have hqi : 0 ≤ (t : Int) ∧ (t : Int) < s.size := by omega
                have hct' := atI hkt hct
                have HAT := Lib.hid hat
                clear hat
                go_quiet (fail)
                go_upto_region 17 with fail
                (have hb9 := below_drewN w8.heap.size w8 nq); (have hp9 := HP8.out.below hb9); (have ht9 := HT8.out.next hb9); (clear HP8 HT8 c0 c1); (generalize w8.drewN nq = w8 at hb9 hp9 ht9 ⊢); (have c0 := hp9.c0); (have c1 := hp9.c1); (have HP8 := Lib.hid hp9); (have HT8 := Lib.hid ht9); (clear hb9 hp9 ht9 nq)
                go_quiet (fail)
                (have hb9 := below_drewN w8.heap.size w8 nq); (have hp9 := HP8.out.below hb9); (have ht9 := HT8.out.next hb9); (clear HP8 HT8 c0 c1); (generalize w8.drewN nq = w8 at hb9 hp9 ht9 ⊢); (have c0 := hp9.c0); (have c1 := hp9.c1); (have HP8 := Lib.hid hp9); (have HT8 := Lib.hid ht9); (clear hb9 hp9 ht9 nq)
                cases hgo : (digB d2 && !(c == 48)) with
                | true =>
                  obtain ⟨hd2, hz, g1, g2, g3⟩ := go2 hgo
                  have HX := Lib.hid (show numB _ (c == 48) N' (d2 :: r) = numberB (m :: l) by rw [← HR7.out, numB_dig HO.out hd2 hz, HNX.out])
                  have HD2 := Lib.hid hd2
                  have f1 := HP8.out.fz 1
                  clear hgo hz hd2
                  go_wp2_with fail
                  go_roundw
                  case rel => exact ⟨N', rfl, d2, rfl, HD2.out, hx, t, r, HP8.out.set (t + 1), HL8.out, HX.out, HT8.out.setCell (p := ⟨bp, 1, none⟩) rfl _⟩
                  case measure =>
                    have e := (HP8.out.set (t + 1)).c1
                    rw [Int.natCast_add, Int.natCast_one] at e
                    rw [HP7c.out, e]
                    simp [intOf]; omega
                | false =>
                  have K3 := Lib.hid (fun w => ibyte_any d2 (ofL dotL) w)
                  rw [toL_ofL] at K3
                  have hn := idx_neg d2 dotL
                  have HG := Lib.hid hgo
                  cases hdot : dotL.contains d2 with
                  | true =>
                    have h1 : Lib.indexByte dotL d2 ≥ 0 := by
                      by_cases h : Lib.indexByte dotL d2 < 0
                      · have := hn.1 h; rw [hdot] at this; cases this
                      · omega
                    have HX := Lib.hid (show numberB (m :: l) = .fail (d2 :: r) 42 by rw [← HR7.out, numB_dot HO.out HG.out hdot])
                    generalize Lib.indexByte dotL d2 = ix at *
                    rcases notgo hgo with h | ⟨h, h'⟩ | ⟨h, h', h''⟩
                    all_goals
                      clear hn hdot hgo
                      go_upto_region 20 with fail
                      go_quiet ((go_at_call 110; exact Calls.quiet_of_same (K3.out _)))
                      (have hb9 := below_drewN w8.heap.size w8 nq); (have hp9 := HP8.out.below hb9); (have ht9 := HT8.out.next hb9); (clear HP8 HT8 c0 c1); (generalize w8.drewN nq = w8 at hb9 hp9 ht9 ⊢); (have c0 := hp9.c0); (have c1 := hp9.c1); (have HP8 := Lib.hid hp9); (have HT8 := Lib.hid ht9); (clear hb9 hp9 ht9 nq)
                      go_wp2_with (go_at_call 78; with_reducible refine (fail_any bp s t 42 _ HP8.out).mono ?_; rintro e w6 ⟨rfl, rfl⟩)
                      refine ⟨rfl, ?_, (Touch.of_below HAl.out).trans HT8.out⟩
                      rw [HX.out]
                      exact OutU.giveup HL8.out numV 42 _
                  | false =>
                    have h1 : ¬ Lib.indexByte dotL d2 ≥ 0 := by have := hn.2 hdot; omega
                    have HX := Lib.hid (show numberB (m :: l) = .ok N' (d2 :: r) by rw [← HR7.out, numB_end HO.out HG.out hdot, HNX.out])
                    generalize Lib.indexByte dotL d2 = ix at *
                    rcases notgo hgo with h | ⟨h, h'⟩ | ⟨h, h', h''⟩
                    all_goals
                      clear hn hdot hgo
                      go_upto_region 20 with fail
                      go_quiet ((go_at_call 110; exact Calls.quiet_of_same (K3.out _)))
                      (have hb9 := below_drewN w8.heap.size w8 nq); (have hp9 := HP8.out.below hb9); (have ht9 := HT8.out.next hb9); (clear HP8 HT8 c0 c1); (generalize w8.drewN nq = w10 at hb9 hp9 ht9 ⊢); (have hne : ¬ w.heap.size = bp := by have := HN.out; omega); (have hj10 := JC.touch HJ.out ht9 hne); (have c0 := hj10.c0); (have c1 := hj10.c1); (have c2 := hj10.c2); (have c3 := hj10.c3); (have c4 := hj10.c4); (have f0 := hj10.fz 0); (have f1 := hj10.fz 1); (have f2 := hj10.fz 2); (have f3 := hj10.fz 3); (have f4 := hj10.fz 4); (have hx10 := hj10.put 2 N' ⟨#[]⟩ (.slice none 0 0) (.slice none 0 0)); (have HPX := Lib.hid (hp9.putJ (fun e => hne e.symm) 2 N' ⟨#[]⟩ (.slice none 0 0) (.slice none 0 0))); (have HTX := Lib.hid (((Touch.of_below HAl.out).trans ht9).putJ (Nat.le_refl _) 2 N' ⟨#[]⟩ (.slice none 0 0) (.slice none 0 0))); (go_wp2_with fail); (have hc0 := hx10.c0); (have hc1 := hx10.c1); (have hc2 := hx10.c2); (have hc3 := hx10.c3); (have hc4 := hx10.c4); (refine bodyPost_ret (v := .agg #[.int .i64 2, .int .i64 N', .string ⟨#[]⟩, .slice none 0 0, .slice none 0 0]) (by simp [results, Tryz.results111, go_sem, hc0, hc1, hc2, hc3, hc4]) rfl ⟨?_, HTX.out⟩); (rw [HX.out]); (exact ⟨rfl, _, HPX.out, HL8.out⟩)
      · rw [ho] at K2 hR5
        unfold OutU at K2
        go_wp2_with (go_at_call 129; with_reducible refine (K2.out _ HP5.out).mono ?_; rintro e w6 ⟨rfl, ht6⟩)
        exact ⟨rfl, by rw [← hR5]; rfl, ((Touch.of_below HAl.out).trans HT5.out).trans ht6⟩
end Go.Proofs.YtigdjnfnkjfkmaaGreatDoor
