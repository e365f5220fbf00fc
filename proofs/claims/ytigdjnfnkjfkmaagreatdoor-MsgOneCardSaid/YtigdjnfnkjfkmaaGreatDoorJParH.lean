/- Whole characters: wire.Chars. Conditions: the text is short. Own bytes: append, Clone. Conditions: the texts are short. The next character (jsonx). Conditions: the text is short. What stands between quotes (jsonx). Conditions: the text is short. -/
import Derived.Test.YtigdjnfnkjfkmaaGreatDoorJParG
import Derived.Test.YtigdjnfnkjfkmaaGreatDoorJsonB
import Derived.Maps.AppendAt
import Derived.StillTailTactics
namespace Go.Proofs.YtigdjnfnkjfkmaaGreatDoor
open Go.RowKit
set_option linter.unusedVariables false
set_option linter.unusedSimpArgs false
set_option maxRecDepth 100000

theorem long_any (c : UInt8) (w : World) : Calls Tryz.prog 145 #[.int .u8 c.toNat] w fun e w' => e = .returned (.tuple #[.int .i64 ((longB c).1 : Int), .int .u8 ((longB c).2.1.toNat : Int), .int .u8 ((longB c).2.2.toNat : Int)]) ∧ w' = w := by
  refine (longN_any c.toNat w).mono ?_
  rintro e w' ⟨rfl, rfl⟩
  refine ⟨?_, rfl⟩
  rw [← longB_N c]; rfl
theorem tail_short : ∀ {n : Nat} {lo hi : UInt8} {l : B}, l.length < n → tailB n lo hi l = false
  | 0, _, _, _, h => by omega
  | n + 1, _, _, [], _ => rfl
  | n + 1, lo, hi, c :: r, h => by rw [tailB, tail_short (by simpa using h), Bool.and_false]
def signI (b : Bool) (e : Ending) : Prop := ∃ x : Int, e = .returned (.int .i64 x) ∧ (if b then x < 0 else 0 ≤ x)
theorem long_le (c : UInt8) : (longB c).1 ≤ 4 := by
  have h := longB_N c
  have : (longB c).1 = (longN c.toNat).1 := by rw [← h]
  rw [this]
  unfold longN
  repeat' split
  all_goals decide
set_option maxHeartbeats 4000000 in
theorem chars_any (l : B) (v : Value) (w : World) (hR : Rd w 1 v l.length (bytesV l)) (hl : l.length ≤ 1048576) :
    Calls Tryz.prog 128 #[v] w fun e w' => signI (wholeL l) e ∧ w = w' := by
  have HR := Lib.hid hR
  obtain ⟨A, cp, rfl⟩ := hR.shape
  clear hR
  go_enter Tryz.func128, Tryz.ntmps128
  go_wp2
  go_loopw [3] (fun a wr => ∃ k : Nat, k ≤ l.length ∧ a = .int .i64 k ∧ Hid (wholeL (l.drop k) = wholeL l) ∧ w = wr) (fun a _ => l.length - (intOf a).toNat)
  case atStart => exact ⟨0, Nat.zero_le _, rfl, rfl, rfl⟩
  case round =>
    obtain ⟨k, hk, rfl, hW, rfl⟩ := hrel
    by_cases hlt : k < l.length
    · have Hd := Lib.hid (List.drop_eq_getElem_cons hlt)
      have hat : l[k]? = some l[k] := List.getElem?_eq_getElem hlt
      obtain ⟨b', o, rfl, hcell⟩ := HR.out.byteAt hat
      generalize l[k] = c at hat hcell Hd
      have K1 := Lib.hid (fun w => long_any c w)
      have Hst := Lib.hid (show wholeL l = if firstB (c :: l.drop (k + 1)) = 0 then false else wholeL ((c :: l.drop (k + 1)).drop (firstB (c :: l.drop (k + 1)))) by
        rw [← hW.out, Hd.out]; exact whole_step (by simp))
      have Hfb := Lib.hid (show firstB (c :: l.drop (k + 1)) = if (longB c).1 = 0 then 0 else if tailB ((longB c).1 - 1) (longB c).2.1 (longB c).2.2 (l.drop (k + 1)) then (longB c).1 else 0 from rfl)
      have hn4 := long_le c
      generalize (longB c).1 = n at *
      generalize (longB c).2.1 = lo at *
      generalize (longB c).2.2 = hi at *
      clear hat
      by_cases h0 : n = 0
      · subst h0
        have HX := Lib.hid (show wholeL l = false by rw [Hst.out, Hfb.out]; rfl)
        go_wp2_with (go_at_call 145; with_reducible refine (K1.out _).mono ?_; rintro e w4 ⟨rfl, rfl⟩)
        go_ret
        exact ⟨⟨_, rfl, by rw [HX.out]; simp⟩, rfl⟩
      have hq0 : ((n : Int) == 0) = false := by rw [beq_eq_false_iff_ne]; omega
      by_cases h1 : n > l.length - k
      · have HX := Lib.hid (show wholeL l = false by rw [Hst.out, Hfb.out, if_neg h0, tail_short (by rw [List.length_drop]; omega)]; rfl)
        have hq1 : (n : Int) > (l.length : Int) - k := by omega
        clear h1
        go_wp2_with (go_at_call 145; with_reducible refine (K1.out _).mono ?_; rintro e w4 ⟨rfl, rfl⟩)
        go_ret
        exact ⟨⟨_, rfl, by rw [HX.out]; simp⟩, rfl⟩
      have hq1 : ¬ (n : Int) > (l.length : Int) - k := by omega
      clear h1
      go_wp2_with (go_at_call 145; with_reducible refine (K1.out _).mono ?_; rintro e w4 ⟨rfl, rfl⟩)
      have hn1 : 1 ≤ n := by omega
      have hroom : k + n ≤ l.length := by omega
      go_loopw [5, 6, 7] (fun a b i wr => ∃ (lo' hi' : UInt8) (j : Nat), a = .int .u8 lo'.toNat ∧ b = .int .u8 hi'.toNat ∧ i = .int .i64 j ∧ 1 ≤ j ∧ j ≤ n ∧ Hid (tailB (n - j) lo' hi' (l.drop (k + j)) = tailB (n - 1) lo hi (l.drop (k + 1))) ∧ w4 = wr) (fun _ _ i _ => n - (intOf i).toNat)
      case atStart => exact ⟨lo, hi, 1, rfl, rfl, rfl, Nat.le_refl _, hn1, rfl, rfl⟩
      case round =>
        obtain ⟨lo', hi', j, rfl, rfl, rfl, hj1, hjn, hT, rfl⟩ := hrel
        by_cases hjl : j < n
        · have hlt2 : k + j < l.length := by omega
          have Hd2 := Lib.hid (List.drop_eq_getElem_cons hlt2)
          have hat2 : l[k + j]? = some l[k + j] := List.getElem?_eq_getElem hlt2
          obtain ⟨b2, o2, hA2, hcell2⟩ := HR.out.byteAt hat2
          cases hA2
          generalize l[k + j] = d at hat2 hcell2 Hd2
          clear hat2
          obtain ⟨q, hq⟩ : ∃ q, n - j = q + 1 := ⟨n - j - 1, by omega⟩
          have Hq := Lib.hid hq
          rw [hq, Hd2.out, tailB] at hT
          clear hq
          by_cases hc : contB lo' hi' d = true
          · have HT2 := Lib.hid (show tailB q 0x80 0xbf (l.drop (k + j + 1)) = tailB (n - 1) lo hi (l.drop (k + 1)) by rw [← hT.out, hc, Bool.true_and])
            have hc2 : ¬ ((d.toNat : Int) < lo'.toNat) ∧ ¬ ((d.toNat : Int) > hi'.toNat) := by
              simp only [contB, Bool.and_eq_true, decide_eq_true_eq] at hc
              have := UInt8.le_iff_toNat_le.1 hc.1; have := UInt8.le_iff_toNat_le.1 hc.2
              omega
            obtain ⟨g1, g2⟩ := hc2
            clear hc hT
            go_wp2
            refine ⟨⟨0x80, 0xbf, j + 1, rfl, rfl, by go_num, by omega, by omega, ?_, trivial⟩, by simp [intOf]; omega⟩
            show tailB (n - (j + 1)) 0x80 0xbf (l.drop (k + (j + 1))) = _
            rw [← HT2.out, show n - (j + 1) = q by have := Hq.out; omega, show k + (j + 1) = k + j + 1 by omega]
          · have HX := Lib.hid (show wholeL l = false by
              have hc' : contB lo' hi' d = false := by simpa using hc
              rw [Hst.out, Hfb.out, if_neg h0, ← hT.out, hc', Bool.false_and]; rfl)
            have hc2 : ((d.toNat : Int) < lo'.toNat) ∨ (¬ ((d.toNat : Int) < lo'.toNat) ∧ (d.toNat : Int) > hi'.toNat) := by
              simp only [contB, Bool.and_eq_true, decide_eq_true_eq, UInt8.le_iff_toNat_le] at hc
              omega
            clear hc hT
            rcases hc2 with g | ⟨g, g'⟩
            all_goals
              go_wp2
              go_ret
              exact ⟨⟨_, rfl, by rw [HX.out]; simp⟩, rfl⟩
        · have hjn' : j = n := by omega
          subst hjn'
          have HT2 := Lib.hid (show firstB (c :: l.drop (k + 1)) = j by
            rw [Hfb.out, if_neg h0, ← hT.out, Nat.sub_self, tailB]; rfl)
          have HX := Lib.hid (show wholeL (l.drop (k + j)) = wholeL l by
            rw [Hst.out, HT2.out, if_neg h0, ← Hd.out, List.drop_drop])
          clear hT
          go_wp2
          exact ⟨⟨k + j, by omega, by go_num, HX, trivial⟩, by simp [intOf]; omega⟩
    · have HX := Lib.hid (show wholeL l = true by rw [← hW.out, List.drop_of_length_le (by omega)]; rfl)
      go_wp2
      go_ret
      exact ⟨⟨_, rfl, by rw [HX.out]; simp⟩, rfl⟩
end Go.Proofs.YtigdjnfnkjfkmaaGreatDoor
namespace Go.Proofs.YtigdjnfnkjfkmaaGreatDoor
open Go.RowKit
set_option linter.unusedVariables false
set_option linter.unusedSimpArgs false
set_option maxRecDepth 100000

theorem rowB : Row Tryz.prog 89 5 (.int .u8 0) 1 1 :=
  ⟨Tryz.underlying89, info_parts (by kernel_rfl), rfl, by decide, by decide⟩

def OwnB (w : World) (base : Nat) (v : Value) (l : B) : Prop := w.ownsRow base 5 1 v l.length (bytesV l)
theorem OwnB.touch {G : Nat → Prop} {w w' : World} {base : Nat} {v : Value} {l : B} (h : OwnB w base v l) (ht : Touch G w w') (hG : ∀ k, v.ownBlock = some k → ¬ G k) : OwnB w' base v l := own_touch h ht hG
theorem OwnB.below {w w' : World} {base : Nat} {v : Value} {l : B} (h : OwnB w base v l) (hb : Below w.heap.size w w') : OwnB w' base v l := own_below h hb
theorem wpList_strB {P : Program} (w : World) {ops : Array Oper} {rest : List Oper} {o : Oper} {a : Act} {Q : Exit → Act → World → Prop} (hgd : o.guard = none) (sl x : Operand) (t u : TypeId)
    (ho : o.op = .call { callee := .builtin .append, args := #[sl, x], argTypes := #[t, u] })
    (base : Nat) (hrow : Row P t 5 (.int .u8 0) 1 1) (hu : P.underlying u = some .string)
    (v : Value) (l : B) (hs : a.eval sl = v) (hown : OwnB w base v l) (s : ByteArray) (hx : a.eval x = .string s)
    (hbytes : l.length + s.size ≤ 140737488355328) (hbase : base ≤ w.heap.size)
    (h : ∀ v' w', OwnB w' base v' (l ++ s.toList) → Touch (fun k => v.ownBlock = some k) w w' → Below base w w' → wpList P ops Q rest (a.put o.dst v') w') : wpList P ops Q (o :: rest) a w :=
  wpList_pushStr w hgd sl x t u ho base hrow hu v l hs hown s hx hbytes hbase fun v' w' h1 h2 h3 => h v' w' h1 ((Touch.refl _ w).grown h2 (fun k hk => hk)) h3
/-- 'append(b, s...)', s bytes that are read. -/
theorem wpList_catR {P : Program} (w : World) {ops : Array Oper} {rest : List Oper} {o : Oper} {a : Act} {Q : Exit → Act → World → Prop} (hgd : o.guard = none) (sl x : Operand) (t : TypeId)
    (ho : o.op = .call { callee := .builtin .append, args := #[sl, x], argTypes := #[t, t] })
    (base : Nat) (hrow : Row P t 5 (.int .u8 0) 1 1)
    (v : Value) (l : B) (hs : a.eval sl = v) (hown : OwnB w base v l) (p : Addr) (k c : Nat) (m : B) (hx : a.eval x = .slice (some p) k c) (hS : Rd w 1 (.slice (some p) k c) m.length (bytesV m))
    (hbytes : l.length + m.length ≤ 140737488355328) (hbase : base ≤ w.heap.size)
    (h : ∀ v' w', OwnB w' base v' (l ++ m) → Touch (fun k => v.ownBlock = some k) w w' → Below base w w' → wpList P ops Q rest (a.put o.dst v') w') :
    wpList P ops Q (o :: rest) a w := by
  obtain ⟨ht, ⟨i, hi, hz, hsize, hby⟩, hzs, hsz, hbz⟩ := hrow
  have hown' : w.ownsRow base 5 1 v l.length (bytesV l) := hown
  obtain ⟨hlen, A', c', he, hcap, hmax, hnone, hsome⟩ := hS
  simp only [Value.slice.injEq] at he
  obtain ⟨rfl, rfl, rfl⟩ := he
  obtain ⟨hsp, hc⟩ := hsome p rfl
  obtain ⟨b, of, q⟩ := p
  simp only at hsp
  subst hsp
  refine wpList_append_own_at w hgd sl x t ho base 5 i _ 1 1 ht hi hz hsize hby hzs hsz v l.length (bytesV l) hs hown' ⟨b, of, none⟩ m.length c (bytesV m) hx (by rw [bytesV_len, Nat.mul_one]) ?_ (oneCell_bytes m) (by unfold maxLen; omega) (by omega) hbase fun v' w' h2 h3 h4 h5 => ?_
  · intro j u hj
    rw [show (⟨b, of, none⟩ : Addr).add j = ⟨b, of + j, none⟩ by unfold Addr.add; split <;> simp_all]
    exact hc j u hj
  · refine h v' w' ?_ ((Touch.refl _ w).grown h3 (fun k hk => hk)) ((Below.refl base w).grown h3 hbase fun k hk => (hown'.lt k hk).1)
    show w'.ownsRow _ _ _ _ _ _
    rw [List.length_append, bytesV_append]; exact h2

theorem clone_any (l : B) (v : Value) (w : World) (hR : Rd w 1 v l.length (bytesV l)) (hl : l.length ≤ 140737488351232) :
    Calls Tryz.prog 147 #[v] w fun e w' => ∃ v', e = .returned v' ∧ w'.ownsRow w.heap.size 5 1 v' l.length (bytesV l) ∧ Below w.heap.size w w' := by
  obtain ⟨hlen, A, c, rfl, hcap, hmax, hnone, hsome⟩ := hR
  have q22 : ∀ (w : World) (a : Option Addr) (n c n' c' : Nat), (binOp .eql 89 (.slice a n c) (.slice none n' c')).run Tryz.prog w = .ok (.bool a.isNone) w := fun w a n c n' c' => Lib.run_eql_slice_nil w _ _ a n c n' c' Tryz.underlying89
  cases A with
  | none =>
    have h0 := hnone rfl
    have hl0 := List.eq_nil_of_length_eq_zero h0
    subst hl0
    go_enter Tryz.func147, Tryz.ntmps147
    go_wp2
    go_ret
    exact ⟨_, rfl, World.ownsRow_nil _ _ _ _, Below.refl _ _⟩
  | some a =>
    obtain ⟨hsp, hc⟩ := hsome a rfl
    obtain ⟨b, o, q⟩ := a
    simp only at hsp
    subst hsp
    have Hc := Lib.hid hc
    have hone : ∀ u ∈ bytesV l, u.oneCell' = true := oneCell_bytes l
    obtain ⟨htu, ⟨i0, hi, hz, hsize, hby⟩, hzs, hsz, hbz⟩ := rowB
    clear hc
    go_enter Tryz.func147, Tryz.ntmps147
    go_wp2_with (at_builtin; refine wpList_append_own _ rfl _ _ 89 rfl w.heap.size 5 i0 _ 1 1 htu hi hz hsize hby hzs hsz _ _ _ rfl (World.ownsRow_made w #[] 0 (Nat.le_refl _) (Nat.zero_le _) (by simp)) ⟨b, o, none⟩ l.length c (bytesV l) rfl ?qc1 ?qc2 hone ?qc4 ?qc5 ?qc6 ?_)
    case qc2 =>
      intro j u hj
      exact keeps_alloc (Hc.out j u hj) _
    case qc4 => unfold maxLen; omega
    case qc5 => omega
    intro v' w1 hown hgrow hnil
    go_wp2
    go_ret
    refine ⟨v', rfl, by simpa using hown, ?_⟩
    exact ((Below.refl _ w).alloc (Nat.le_refl _) _).grown hgrow (by simp) (by intro k hk; simp [Value.ownBlock] at hk; omega)

end Go.Proofs.YtigdjnfnkjfkmaaGreatDoor
namespace Go.Proofs.YtigdjnfnkjfkmaaGreatDoor
open Go.RowKit
set_option linter.unusedVariables false
set_option linter.unusedSimpArgs false
set_option maxRecDepth 100000

/-- A guarded operation that is wanted: as one without a guard. -/
theorem wpList_unguard {P : Program} {w : World} {ops : Array Oper} {rest : List Oper} {o : Oper} {a : Act} {Q : Exit → Act → World → Prop} (hw : Region.wanted o (yielded ops a.tmps) = true)
    (h : wpList P ops Q ({ o with guard := none } :: rest) a w) : wpList P ops Q (o :: rest) a w := by
  unfold wpList at h ⊢
  rw [if_pos hw]
  rw [if_pos (by rfl)] at h
  exact h
set_option maxHeartbeats 8000000 in
theorem char_any (bp : Nat) (s : ByteArray) (k : Nat) (c : UInt8) (r : B) (w : World) (hP : PC w bp s k) (hl : At s k (c :: r)) (hs : s.size ≤ 65536) :
    Calls Tryz.prog 131 #[.pointer (some ⟨bp, 0, none⟩)] w fun e w' => OutU bp s bytesR e w' (charB (c :: r)) ∧ Touch (fun j => j = bp) w w' := by
  have HP := Lib.hid hP
  have HL := Lib.hid hl
  have c1 := hP.c1
  have hsz := hl.size
  clear hP hl
  go_enter Tryz.func131, Tryz.ntmps131
  go_wp2
  go_loopw [] (fun wr => ∃ m : Nat, m < (c :: r).length ∧ Hid (charF ((c :: r).length + 1 - m) m (c :: r) = charB (c :: r)) ∧ PC wr bp s (k + m) ∧ Touch (fun j => j = bp) w wr) (fun wr => s.size - (intOf ((wr.cell? ⟨bp, 1, none⟩).getD undef)).toNat)
  case atStart => exact ⟨0, by simp, rfl, HP.out, Touch.refl _ _⟩
  case round =>
    obtain ⟨m, hm, hC, hP2, ht⟩ := hrel
    have f1 := hP2.fz 1
    have c1 := hP2.c1
    have HP2 := Lib.hid hP2
    have HT := Lib.hid ht
    clear hP2 ht
    obtain ⟨t, ht⟩ : ∃ t, k + m = t := ⟨_, rfl⟩
    rw [ht] at c1 HP2
    have hm' : t < s.size := by omega
    go_upto_region 3 with fail
    have hp3 := HP2.out.set (t + 1)
    rw [Int.natCast_add, Int.natCast_one] at hp3
    have HT3 := Lib.hid (HT.out.setCell (p := ⟨bp, 1, none⟩) rfl (.int .i64 ((t : Int) + 1)))
    have HC1 := Lib.hid c1
    clear c1 f1
    generalize wr.setCell ⟨bp, 1, none⟩ (.int .i64 ((t : Int) + 1)) = w3 at hp3 HT3 ⊢
    have c0 := hp3.c0
    have c1 := hp3.c1
    have HP3 := Lib.hid hp3
    clear hp3
    have hb1 : 0 ≤ (t : Int) + 1 ∧ (t : Int) + 1 ≤ (s.size : Int) := by omega
    have hb2 : 0 ≤ (k : Int) ∧ (k : Int) ≤ (t : Int) + 1 := by omega
    have ksl : ∀ W : World, (Instr.slice 9 (.string s) (some (.int .i64 (k : Int))) (some (.int .i64 ((t : Int) + 1))) none).run Tryz.prog W = .ok (.string (ofL ((c :: r).take (m + 1)))) W := fun W => by
      rw [run_slice_string_if (h := Tryz.underlying9), if_pos hb1, if_pos hb2]
      have e : s.extract (k : Int).toNat ((t : Int) + 1).toNat = ofL ((c :: r).take (m + 1)) := by
        apply toL_inj
        rw [toL_extract, toL_ofL, show ((t : Int) + 1).toNat = t + 1 by omega, show (k : Int).toNat = k by omega, List.drop_take, HL.out.2, show t + 1 - k = m + 1 by omega]
      rw [e]
    have hTl : ((c :: r).take (m + 1)).length = m + 1 := by rw [List.length_take]; omega
    have Hdr := Lib.hid (rfl : (c :: r).drop (m + 1) = (c :: r).drop (m + 1))
    have HSt := Lib.hid (show charB (c :: r) = if wholeL ((c :: r).take (m + 1)) then .ok ((c :: r).take (m + 1)) ((c :: r).drop (m + 1))
        else if growsB ((c :: r).take (m + 1)) = false then .fail ((c :: r).drop m) 40
        else if (c :: r).length ≤ m + 1 then .fail [] 40
        else charF ((c :: r).length + 1 - (m + 1)) (m + 1) (c :: r) by
      rw [← hC.out, show (c :: r).length + 1 - m = ((c :: r).length + 1 - (m + 1)) + 1 by omega, charF])
    generalize (c :: r).take (m + 1) = T at *
    have kb := fun wx => run_bytes_of_string (P := Tryz.prog) wx 9 89 5 (ofL T) Tryz.underlying9 Tryz.underlying89 Tryz.underlying5
    rw [size_ofL, hTl] at kb
    go_still_tail 10, (by kernel_rfl)
    change wpList _ _ _ _ _ w3.drew
    go_wp2_with fail
    have hR := rd_bytes' (w := w3) (wc := w3.drew) (s := ofL T) (n := m + 1) (e := 5) (fr := ((bytesRow (ofL T) (grownCap w3.drew (m + 1) 0 5)).size, (bytesRow (ofL T) (grownCap w3.drew (m + 1) 0 5)).size + 1)) (by rw [size_ofL, hTl]) (by omega)
    have hb4 := (((Below.refl w3.heap.size w3).alloc (Nat.le_refl _) (.cells (bytesRow (ofL T) (grownCap w3.drew (m + 1) 0 5)) 5 ((bytesRow (ofL T) (grownCap w3.drew (m + 1) 0 5)).size, (bytesRow (ofL T) (grownCap w3.drew (m + 1) 0 5)).size + 1))).drew).drew
    replace hR := hR.below (Below.drew (Below.refl _ _))
    rw [toL_ofL] at hR
    generalize ((w3.alloc (.cells (bytesRow (ofL T) (grownCap w3.drew (m + 1) 0 5)) 5 ((bytesRow (ofL T) (grownCap w3.drew (m + 1) 0 5)).size, (bytesRow (ofL T) (grownCap w3.drew (m + 1) 0 5)).size + 1))).drew).drew = w4 at hR hb4 ⊢
    generalize grownCap w3.drew (m + 1) 0 5 = cap at hR ⊢
    have hTl2 : T.length ≤ 1048576 := by omega
    have HP4 := Lib.hid (HP3.out.below hb4)
    have HT4 := Lib.hid (HT3.out.next hb4)
    have HR4 := Lib.hid hR
    clear kb ksl c0 c1 hb4 hR
    refine (chars_any T _ w4 HR4.out hTl2).mono ?_
    rintro e w5 ⟨⟨x, rfl, hx⟩, rfl⟩
    cases hw : wholeL T with
    | true =>
      rw [hw, if_pos rfl] at hx
      have HX := Lib.hid (show charB (c :: r) = .ok T ((c :: r).drop (m + 1)) by rw [HSt.out, hw, if_pos rfl])
      clear hw
      go_wp2_with fail
      go_ret
      rw [HX.out]
      have hat : At s (t + 1) ((c :: r).drop (m + 1)) := ⟨by omega, by rw [← HL.out.2, List.drop_drop, show k + (m + 1) = t + 1 by omega]⟩
      exact ⟨⟨⟨_, _, _, rfl, HR4.out⟩, t + 1, HP4.out, hat⟩, HT4.out⟩
    | false =>
      rw [hw] at hx
      have hx' : ¬ x < 0 := by simp at hx; omega
      clear hx
      go_wp2_with fail
      have hb5 := (Below.refl w4.heap.size w4).alloc (Nat.le_refl _) (.cells #[.string ⟨#[128]⟩, .string ⟨#[128, 128]⟩, .string ⟨#[128, 128, 128]⟩, .string ⟨#[191]⟩, .string ⟨#[191, 191]⟩, .string ⟨#[191, 191, 191]⟩] 9)
      have hE : ∀ (j : Nat) (e : B), endsB[j]? = some e → (w4.alloc (.cells #[.string ⟨#[128]⟩, .string ⟨#[128, 128]⟩, .string ⟨#[128, 128, 128]⟩, .string ⟨#[191]⟩, .string ⟨#[191, 191]⟩, .string ⟨#[191, 191, 191]⟩] 9)).cell? ⟨w4.heap.size, j, none⟩ = some (.string (ofL e)) := by
        intro j e h
        rw [World.cell?_alloc_mark]
        have hj : j < 6 := (List.getElem?_eq_some_iff.1 h).1
        have hj' : j = 0 ∨ j = 1 ∨ j = 2 ∨ j = 3 ∨ j = 4 ∨ j = 5 := by omega
        rcases hj' with rfl | rfl | rfl | rfl | rfl | rfl <;> (cases h; rfl)
      generalize w4.alloc (.cells #[.string ⟨#[128]⟩, .string ⟨#[128, 128]⟩, .string ⟨#[128, 128, 128]⟩, .string ⟨#[191]⟩, .string ⟨#[191, 191]⟩, .string ⟨#[191, 191, 191]⟩] 9) = w5 at hb5 hE ⊢
      have HB5 := Lib.hid hb5
      have HE := Lib.hid hE
      clear hb5 hE
      go_loopw [5, 36] (fun o i wx => ∃ j : Nat, j ≤ 6 ∧ i = .int .i64 j ∧ o = .bool ((endsB.take j).any fun e => wholeL (T ++ e)) ∧ Hid (Below w5.heap.size w5 wx)) (fun o i wx => 6 - (intOf i).toNat)
      case atStart => exact ⟨0, Nat.zero_le _, rfl, rfl, Below.refl _ _⟩
      case round =>
        obtain ⟨j, hj, rfl, rfl, hB⟩ := hrel
        by_cases hlt : j < 6
        · obtain ⟨e, he⟩ : ∃ e, endsB[j]? = some e := ⟨endsB[j]'(by simpa [endsB] using hlt), List.getElem?_eq_getElem _⟩
          have hcell := Below.keeps (hB.out) (HE.out j e he)
          have Htk : Hid ((endsB.take (j + 1)).any (fun e => wholeL (T ++ e)) = ((endsB.take j).any (fun e => wholeL (T ++ e)) || wholeL (T ++ e))) := by
            show _ = _
            rw [List.take_add_one, he, List.any_append]; simp
          have hel : e.length ≤ 3 := by
            have hm := List.mem_of_getElem? he
            simp [endsB] at hm
            rcases hm with rfl | rfl | rfl | rfl | rfl | rfl <;> decide
          clear he
          generalize (endsB.take j).any (fun e => wholeL (T ++ e)) = b at *
          cases b with
          | true =>
            go_wp2
            exact ⟨⟨j + 1, by omega, by go_num, by rw [Htk.out]; rfl, hB⟩, by simp [intOf]; omega⟩
          | false =>
            have hRr := (HR4.out.below HB5.out).mono (fun b o u h => Below.keeps hB.out h)
            have K1 := Lib.hid (clone_any T _ wr hRr (by omega))
            clear hRr
            have hlen : (T ++ e).length ≤ 1048576 := by rw [List.length_append]; omega
            have K2 := Lib.hid (fun v w hR => chars_any (T ++ e) v w hR hlen)
            go_wp2_with (first | (go_at_call 147; with_reducible refine K1.out.mono ?_; rintro e9 w9 ⟨v9, rfl, ho9, hb9⟩) | (at_builtin; refine wpList_unguard (by rfl) ?_; refine wpList_strB w9 rfl _ _ 89 9 rfl wr.heap.size rowB Tryz.underlying9 _ T rfl ho9 (ofL e) rfl (by rw [size_ofL]; omega) hb9.size ?_; intro v10 w10 hO10 hT10 hb10; rw [toL_ofL] at hO10; clear hT10; have HR10 := Lib.hid (rd_of_own (show World.ownsRow _ _ _ _ _ _ _ from hO10))) | (go_at_call 128; (with_reducible refine (K2.out _ _ HR10.out).mono ?_); rintro e11 w11 ⟨⟨x2, rfl, hx2⟩, rfl⟩))
            have HB10 := Lib.hid (hB.out.next (hb9.trans hb10))
            clear hO10 HR10 hb9 hb10 K1 K2 ho9
            generalize wholeL (T ++ e) = bw at *
            cases bw with
            | true =>
              have hx3 : decide (x2 < 0) = true := by simp at hx2; exact decide_eq_true hx2
              clear hx2
              go_wp2
              refine ⟨⟨j + 1, by omega, by go_num, ?_, HB10⟩, by simp [intOf]; omega⟩
              rw [Htk.out]; simp_all
            | false =>
              have hx3 : decide (x2 < 0) = false := by simp at hx2; exact decide_eq_false (by omega)
              clear hx2
              go_wp2
              refine ⟨⟨j + 1, by omega, by go_num, ?_, HB10⟩, by simp [intOf]; omega⟩
              rw [Htk.out]; simp_all
        · have hj6 : j = 6 := by omega
          subst hj6
          have HG := Lib.hid (show ((endsB.take 6).any fun e => wholeL (T ++ e)) = growsB T from rfl)
          rw [show (List.take 6 endsB).any (fun e => wholeL (T ++ e)) = growsB T from rfl]
          have HB := Lib.hid (HB5.out.next hB.out)
          have HPr := Lib.hid (HP4.out.below HB.out)
          have HTr := Lib.hid (HT4.out.next HB.out)
          clear hB hlt HB HE HB5
          cases hg : growsB T with
          | false =>
            have HX := Lib.hid (show charB (c :: r) = .fail ((c :: r).drop m) 40 by rw [HSt.out, hw, hg]; rfl)
            have c1 := HPr.out.c1
            have f1 := HPr.out.fz 1
            have c0 := HPr.out.c0
            rw [Int.natCast_add, Int.natCast_one] at c1
            clear hg hw
            have K3 := Lib.hid (fun w hP => fail_any bp s t 40 w hP)
            have hp2 := HPr.out.set t
            have HP6 := Lib.hid hp2
            clear hp2
            go_wp2_with (go_at_call 78; with_reducible refine (K3.out _ HP6.out).mono ?_; rintro e12 w12 ⟨rfl, rfl⟩)
            rw [HX.out]
            have hat : At s t ((c :: r).drop m) := ⟨by omega, by rw [← HL.out.2, List.drop_drop, show k + m = t by omega]⟩
            exact ⟨rfl, OutU.giveup hat bytesR 40 _, HTr.out.setCell (p := ⟨bp, 1, none⟩) rfl _⟩
          | true =>
            have hat : At s (t + 1) ((c :: r).drop (m + 1)) := ⟨by omega, by rw [← HL.out.2, List.drop_drop, show k + (m + 1) = t + 1 by omega]⟩
            by_cases hle : (c :: r).length ≤ m + 1
            · have HX := Lib.hid (show charB (c :: r) = .fail [] 40 by rw [HSt.out, hw, hg, if_neg (by decide), if_neg (by decide), if_pos hle])
              have hn : (c :: r).drop (m + 1) = [] := List.drop_of_length_le hle
              rw [hn] at hat
              have K3 := Lib.hid (fun w hP => peek_nil bp s (t + 1) w hP hat hs)
              clear hg hw hn
              go_wp2_with (go_at_call 105; with_reducible refine (K3.out _ HPr.out).mono ?_; rintro e12 w12 ⟨rfl, hP12, hb12⟩)
              rw [HX.out]
              exact ⟨rfl, rfl, HTr.out.next hb12⟩
            · have HX := Lib.hid (show charF ((c :: r).length + 1 - (m + 1)) (m + 1) (c :: r) = charB (c :: r) by rw [HSt.out, hw, hg, if_neg (by decide), if_neg (by decide), if_neg hle])
              obtain ⟨d, q, hn⟩ : ∃ d q, (c :: r).drop (m + 1) = d :: q := by
                cases hd : (c :: r).drop (m + 1) with
                | nil => have := congrArg List.length hd; rw [List.length_drop] at this; simp at this; simp at hle; omega
                | cons d q => exact ⟨d, q, rfl⟩
              rw [hn] at hat
              have K3 := Lib.hid (fun w hP => peek_cons bp s (t + 1) d q w hP hat hs)
              clear hg hw hn
              go_wp2_with (go_at_call 105; with_reducible refine (K3.out _ HPr.out).mono ?_; rintro e12 w12 ⟨rfl, hP12, hb12⟩)
              go_roundw
              case rel => exact ⟨m + 1, by omega, HX, by rw [show k + (m + 1) = t + 1 by omega]; exact hP12, HTr.out.next hb12⟩
              case measure =>
                rw [HC1.out, hP12.c1]
                simp [intOf]; omega
end Go.Proofs.YtigdjnfnkjfkmaaGreatDoor
namespace Go.Proofs.YtigdjnfnkjfkmaaGreatDoor
open Go.RowKit
set_option linter.unusedVariables false
set_option linter.unusedSimpArgs false
set_option maxRecDepth 100000

theorem conv_rd {P : Program} {w : World} {v : Value} {l : B} (src dst e : TypeId) (hs : P.underlying src = some (.slice e)) (he : P.underlying e = some (.int .u8)) (hd : P.underlying dst = some .string) (hR : Rd w 1 v l.length (bytesV l)) :
    (convert src dst v).run P w = .ok (.string (ofL l)) w := by
  obtain ⟨h1, A, c, rfl, h3, h4, h5, h6⟩ := hR
  cases A with
  | none =>
    have h0 := h5 rfl
    have hl := List.eq_nil_of_length_eq_zero h0
    subst hl
    rw [run_convert_bytes_string w src dst e none _ c hs he hd]
    rfl
  | some a =>
    obtain ⟨hsp, hc⟩ := h6 a rfl
    refine run_convert_bytes_back w src dst e a c l hs he hd fun j hj => ?_
    have := hc j _ (bytesV_at (List.getElem?_eq_getElem hj))
    have ha : a.add j = ⟨a.block, a.off + j, none⟩ := by
      unfold Addr.add; split
      · rename_i h; subst h; cases a; simp at hsp; subst hsp; rfl
      · rfl
    rw [ha]; exact this
theorem Touch.nextB {F : Nat → Prop} {a b c : World} (h : Touch F a b) (k : Below a.heap.size b c) : Touch F a c :=
  ⟨k.os.trans h.os, k.tape.trans h.tape, k.output.trans h.output, Nat.le_trans h.size k.size, fun i hi hf => (k.block i hi).trans (h.block i hi hf)⟩
theorem PC.belowB {B : Nat} {w w' : World} {bp : Nat} {s : ByteArray} {k : Nat} (h : PC w bp s k) (hb : Below B w w') (hlt : bp < B) : PC w' bp s k := by
  unfold PC; rw [hb.block bp hlt]; exact h
theorem own_ne {w : World} {base bp : Nat} {v : Value} {l : B} (h : OwnB w base v l) (hb : bp < base) : ∀ k, v.ownBlock = some k → ¬ k = bp := fun k hk e => by
  have := (World.ownsRow.lt (show World.ownsRow _ _ _ _ _ _ _ from h) k hk).1; omega
def strV (l : B) (e : Ending) (_ : World) : Prop := e = .returned (.string (ofL l))
theorem esc_len {l b r : B} (h : escB l = .ok b r) : b.length ≤ 4 := by
  cases h1 : oneB escL l with
  | fail r e => unfold escB at h; rw [h1] at h; cases h
  | ok c q =>
    rw [escB_eq h1, escR] at h
    cases h2 : ctlB c with
    | some d => rw [h2] at h; simp only [PR.ok.injEq] at h; rw [← h.1]; simp
    | none =>
      rw [h2] at h
      simp only at h
      split at h
      · simp only [PR.ok.injEq] at h; rw [← h.1]; simp
      · cases h3 : hexB loTwo q with
        | fail r e => rw [h3] at h; cases h
        | ok n r2 =>
          rw [h3] at h
          simp only at h
          unfold escS at h
          split at h
          · cases h4 : wordB [92, 117] r2 with
            | fail r e => rw [h4] at h; cases h
            | ok u r3 =>
              rw [h4] at h
              simp only at h
              cases r3 with
              | nil => cases h
              | cons d q2 =>
                rw [escT] at h
                split at h
                · cases h
                · cases h5 : hexB hiTwo (d :: q2) with
                  | fail r e => rw [h5] at h; cases h
                  | ok m r4 => rw [h5] at h; simp only [PR.ok.injEq] at h; rw [← h.1]; exact utf8_le _
          · simp only [PR.ok.injEq] at h; rw [← h.1]; exact utf8_le _
theorem u8_eq (c : UInt8) (n : Nat) (hn : n < 256) : ((c.toNat : Int) == (n : Int)) = (c == UInt8.ofNat n) := by
  rw [Bool.eq_iff_iff, beq_iff_eq, beq_iff_eq]
  constructor
  · intro h; rw [show n = c.toNat by omega, UInt8.ofNat_toNat]
  · intro h; rw [h, UInt8.toNat_ofNat']; omega
theorem textF_step (f : Nat) (acc : B) (c : UInt8) (r : B) : textF (f + 1) acc (c :: r) = if c = 34 then .ok acc (c :: r) else if c < 32 then .fail (c :: r) 40 else if c = 92 then (match escB r with
        | .fail r e => .fail r e
        | .ok b r => textF f (acc ++ b) r)
      else (match charB (c :: r) with
        | .fail r e => .fail r e
        | .ok b r => textF f (acc ++ b) r) := by
  rw [textF.eq_def]; rfl
set_option maxHeartbeats 8000000 in
theorem text_any (bp : Nat) (s : ByteArray) (k : Nat) (l : B) (w : World) (hP : PC w bp s k) (hl : At s k l) (hs : s.size ≤ 65536) :
    Calls Tryz.prog 108 #[.pointer (some ⟨bp, 0, none⟩)] w fun e w' => OutU bp s strV e w' (textB l) ∧ Touch (fun j => j = bp) w w' := by
  have HP := Lib.hid hP
  have HL := Lib.hid hl
  have hlen := hl.size
  have Hbp := Lib.hid hP.lt
  have hq : ofL [34] = ⟨#[34]⟩ := rfl
  have K1 := Lib.hid (fun w hP => one_any bp s [34] k l w hP hl hs)
  rw [hq] at K1
  clear hP hl hq
  rcases ho : oneB [34] l with ⟨c0, l1⟩ | ⟨r, e⟩
  rotate_left
  · have HX := Lib.hid (show textB l = .fail r e by unfold textB; rw [ho])
    rw [ho] at K1
    unfold OutU at K1
    dsimp only at K1
    clear ho
    go_enter Tryz.func108, Tryz.ntmps108
    go_wp2_with (go_at_call 129; with_reducible refine (K1.out _ HP.out).mono ?_; rintro e w4 ⟨rfl, ht4⟩)
    exact ⟨rfl, by rw [HX.out]; rfl, ht4⟩
  have HX := Lib.hid (show textB l = textF (l1.length + 1) [] l1 by unfold textB; rw [ho])
  have hl1 := congrArg List.length (one_ok ho).1
  rw [List.length_cons] at hl1
  rw [ho] at K1
  unfold OutU byteV at K1
  dsimp only at K1
  clear ho
  go_enter Tryz.func108, Tryz.ntmps108
  go_wp2_with (go_at_call 129; with_reducible refine (K1.out _ HP.out).mono ?_; rintro e w4 ⟨⟨rfl, j4, hP4, hl4⟩, ht4⟩)
  have HP4 := Lib.hid hP4
  have HL4 := Lib.hid hl4
  have HT4 := Lib.hid ht4
  have HO4 : Hid (OwnB w4 w4.heap.size (.slice none 0 0) []) := World.ownsRow_nil _ _ _ _
  clear hP4 hl4 ht4 K1 HP HL
  have Hbp4 := Lib.hid HP4.out.lt
  go_loopw [3] (fun v wr => ∃ (acc : B) (j : Nat) (m : B) (f : Nat), OwnB wr w4.heap.size v acc ∧ PC wr bp s j ∧ At s j m ∧ m.length < f ∧ acc.length + 4 * m.length ≤ 4 * l1.length ∧ Hid (textF f acc m = textB l) ∧ Touch (fun j => j = bp) w4 wr) (fun _ wr => s.size - (intOf ((wr.cell? ⟨bp, 1, none⟩).getD undef)).toNat)
  case atStart => exact ⟨[], j4, l1, l1.length + 1, HO4.out, HP4.out, HL4.out, by omega, by simp, HX.out.symm, Touch.refl _ _⟩
  case round =>
    obtain ⟨acc, j, m, f, hO, hP2, hl2, hf, hacc, hW, ht⟩ := hrel
    obtain ⟨f, rfl⟩ : ∃ g, f = g + 1 := ⟨f - 1, by omega⟩
    have HO := Lib.hid hO
    have HP2 := Lib.hid hP2
    have HL2 := Lib.hid hl2
    have HT := Lib.hid ht
    have hms := hl2.size
    clear hO hP2 hl2 ht
    cases m with
    | nil =>
      have HF := Lib.hid (show textB l = .fail [] 40 by rw [← hW.out, textF.eq_def])
      have K3 := Lib.hid (fun w hP => peek_nil bp s j w hP HL2.out hs)
      go_wp2_with (go_at_call 105; with_reducible refine (K3.out _ HP2.out).mono ?_; rintro e w5 ⟨rfl, hP5, hb5⟩)
      rw [HF.out]
      exact ⟨rfl, rfl, (HT4.out.trans HT.out).next hb5⟩
    | cons c r =>
      have K3 := Lib.hid (fun w hP => peek_cons bp s j c r w hP HL2.out hs)
      rw [textF_step] at hW
      have hrl : (c :: r).length = r.length + 1 := rfl
      rw [hrl] at hms hf hacc
      by_cases h34 : c = 34
      · have HF := Lib.hid (show textB l = .ok acc (c :: r) by rw [← hW.out, if_pos h34])
        have hq : ((c.toNat : Int) == 34) = true := by rw [h34]; rfl
        clear hW
        go_wp2_with (go_at_call 105; (with_reducible refine (K3.out _ HP2.out).mono ?_); rintro e w5 ⟨rfl, hP5, hb5⟩; have kc := conv_rd (P := Tryz.prog) 89 9 5 Tryz.underlying89 Tryz.underlying5 Tryz.underlying9 (rd_of_own (HO.out.below hb5)))
        go_ret
        rw [HF.out]
        exact ⟨⟨rfl, j, hP5, HL2.out⟩, (HT4.out.trans HT.out).next hb5⟩
      have hq : ((c.toNat : Int) == 34) = false := by rw [show (34 : Int) = ((34 : Nat) : Int) from rfl, u8_eq c 34 (by decide)]; simpa using h34
      rw [if_neg h34] at hW
      by_cases h32 : c < 32
      · have HF := Lib.hid (show textB l = .fail (c :: r) 40 by rw [← hW.out, if_pos h32])
        have hq2 : (c.toNat : Int) < 32 := by have := UInt8.lt_iff_toNat_lt.1 h32; exact Int.ofNat_lt.2 this
        have K4 := Lib.hid (fun w hP => fail_any bp s j 40 w hP)
        clear hW
        go_wp2_with (first | (go_at_call 105; with_reducible refine (K3.out _ HP2.out).mono ?_; rintro e w5 ⟨rfl, hP5, hb5⟩) | (go_at_call 78; with_reducible refine (K4.out _ hP5).mono ?_; rintro e w6 ⟨rfl, rfl⟩))
        rw [HF.out]
        exact ⟨rfl, OutU.giveup HL2.out strV 40 _, (HT4.out.trans HT.out).next hb5⟩
      have hq2 : ¬ (c.toNat : Int) < 32 := by
        intro h; apply h32; rw [UInt8.lt_iff_toNat_lt]; exact Int.ofNat_lt.1 h
      rw [if_neg h32] at hW
      obtain ⟨hk, hc, ha⟩ := HL2.out.cons
      have HA := Lib.hid ha
      clear hc ha
      by_cases h92 : c = 92
      · rw [if_pos h92] at hW
        have hq3 : ((c.toNat : Int) == 92) = true := by rw [h92]; rfl
        have K4 := Lib.hid (fun w hP => escape_any bp s (j + 1) r w hP HA.out hs)
        rcases he : escB r with ⟨b, r2⟩ | ⟨r2, e2⟩
        · rw [he] at hW K4
          unfold OutU bytesR at K4
          dsimp only at hW K4
          have hrl2 := esc_ok he
          have hbl := esc_len he
          clear he h34 h32 h92
          go_wp2_with (first | (go_at_call 105; with_reducible refine (K3.out _ HP2.out).mono ?_; rintro e w5 ⟨rfl, hP5, hb5⟩; have k1 := hP5.c1; have f1 := hP5.fz 1; have hps := hP5.set (j + 1); rw [Int.natCast_add, Int.natCast_one] at hps) | (go_at_call 130; with_reducible refine (K4.out _ hps).mono ?_; rintro e w6 ⟨⟨⟨p6, n6, c6, rfl, hR6⟩, j6, hP6, hl6⟩, ht6⟩; have ho6 := (((HO.out.below hb5).touch ((Touch.refl (fun j => j = bp) w5).setCell (p := ⟨bp, 1, none⟩) rfl (.int .i64 ((j : Int) + 1))) (own_ne HO.out Hbp4.out)).touch ht6 (own_ne HO.out Hbp4.out)); have hbz := Nat.le_trans HT.out.size (Nat.le_trans hb5.size (Nat.le_trans (Nat.le_of_eq (World.size_setCell _ _ _).symm) ht6.size))) | (at_builtin; refine wpList_catR w6 rfl _ _ 89 rfl w4.heap.size rowB _ acc rfl ho6 p6 n6 c6 b rfl hR6 (by omega) hbz ?_; intro v7 w7 hO7 hT7 hb7))
          clear hT7
          go_roundw
          case rel => exact ⟨acc ++ b, j6, r2, f, hO7, hP6.belowB hb7 Hbp4.out, hl6, by omega, by rw [List.length_append]; omega, hW, ((((HT.out.next hb5).setCell (p := ⟨bp, 1, none⟩) rfl _).trans ht6).nextB hb7)⟩
          case measure =>
            have := hl6.size
            rw [HP2.out.c1, (hP6.belowB hb7 Hbp4.out).c1]
            simp [intOf]; omega
        · rw [he] at hW K4
          unfold OutU at K4
          dsimp only at hW K4
          clear he h34 h32 h92
          go_wp2_with (first | (go_at_call 105; with_reducible refine (K3.out _ HP2.out).mono ?_; rintro e w5 ⟨rfl, hP5, hb5⟩; have k1 := hP5.c1; have f1 := hP5.fz 1; have hps := hP5.set (j + 1); rw [Int.natCast_add, Int.natCast_one] at hps) | (go_at_call 130; with_reducible refine (K4.out _ hps).mono ?_; rintro e w6 ⟨rfl, ht6⟩))
          rw [← hW.out]
          exact ⟨rfl, rfl, (((HT4.out.trans HT.out).next hb5).setCell (p := ⟨bp, 1, none⟩) rfl _).trans ht6⟩
      · rw [if_neg h92] at hW
        have hq3 : ((c.toNat : Int) == 92) = false := by rw [show (92 : Int) = ((92 : Nat) : Int) from rfl, u8_eq c 92 (by decide)]; simpa using h92
        have K4 := Lib.hid (fun w hP => char_any bp s j c r w hP HL2.out hs)
        rcases he : charB (c :: r) with ⟨b, r2⟩ | ⟨r2, e2⟩
        · rw [he] at hW K4
          unfold OutU bytesR at K4
          dsimp only at hW K4
          have hrl2 := char_ok (by simp) he
          have hbl : b.length + r2.length = r.length + 1 := by have := congrArg List.length hrl2.2; rw [List.length_append] at this; simp at this; omega
          have hrl3 := hrl2.1
          rw [hrl] at hrl3
          clear he h34 h32 h92 hrl2
          go_wp2_with (first | (go_at_call 105; with_reducible refine (K3.out _ HP2.out).mono ?_; rintro e w5 ⟨rfl, hP5, hb5⟩) | (go_at_call 131; with_reducible refine (K4.out _ hP5).mono ?_; rintro e w6 ⟨⟨⟨p6, n6, c6, rfl, hR6⟩, j6, hP6, hl6⟩, ht6⟩; have ho6 := (HO.out.below hb5).touch ht6 (own_ne HO.out Hbp4.out); have hbz := Nat.le_trans HT.out.size (Nat.le_trans hb5.size ht6.size)) | (at_builtin; refine wpList_catR w6 rfl _ _ 89 rfl w4.heap.size rowB _ acc rfl ho6 p6 n6 c6 b rfl hR6 (by omega) hbz ?_; intro v7 w7 hO7 hT7 hb7))
          clear hT7
          go_roundw
          case rel => exact ⟨acc ++ b, j6, r2, f, hO7, hP6.belowB hb7 Hbp4.out, hl6, by omega, by rw [List.length_append]; omega, hW, (((HT.out.next hb5).trans ht6).nextB hb7)⟩
          case measure =>
            have := hl6.size
            rw [HP2.out.c1, (hP6.belowB hb7 Hbp4.out).c1]
            simp [intOf]; omega
        · rw [he] at hW K4
          unfold OutU at K4
          dsimp only at hW K4
          clear he h34 h32 h92
          go_wp2_with (first | (go_at_call 105; with_reducible refine (K3.out _ HP2.out).mono ?_; rintro e w5 ⟨rfl, hP5, hb5⟩) | (go_at_call 131; with_reducible refine (K4.out _ hP5).mono ?_; rintro e w6 ⟨rfl, ht6⟩))
          rw [← hW.out]
          exact ⟨rfl, rfl, ((HT4.out.trans HT.out).next hb5).trans ht6⟩
end Go.Proofs.YtigdjnfnkjfkmaaGreatDoor
