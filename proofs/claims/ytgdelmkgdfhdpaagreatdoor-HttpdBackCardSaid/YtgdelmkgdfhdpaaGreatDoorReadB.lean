/- An answer's head (httpd.answerHead). Conditions: the table of powers of ten; strconv's two errors. -/
import Derived.Test.YtgdelmkgdfhdpaaGreatDoorReadA
import Derived.Deep.DeepCutAuto
namespace Go.Proofs.YtgdelmkgdfhdpaaGreatDoor
open Go.RowKit
set_option linter.unusedVariables false
set_option linter.unusedSimpArgs false
set_option maxRecDepth 100000

/-- 'strings.Cut' at two bytes. -/
theorem cut2_any (a b : UInt8) (s : ByteArray) (hs : s.size ≤ 1048576) (w : World) (hg : Glob w) :
    Calls Tryz.prog 52 #[.string s, .string ⟨#[a, b]⟩] w fun e w' => e = .returned (.tuple #[.string (ofL (s.toList.take (whereL [a, b] s.toList))), .string (ofL (s.toList.drop (whereL [a, b] s.toList + 2))), .bool (decide (whereL [a, b] s.toList < s.toList.length))]) ∧ ∃ n, w' = w.drewN n := by
  obtain ⟨m, hm⟩ := hg
  refine (Tryz.strings_Cut s ⟨#[a, b]⟩ m w (by omega) hm).mono ?_
  rintro e w' ⟨rfl, hn⟩
  refine ⟨?_, hn⟩
  have hd : (⟨#[a, b]⟩ : ByteArray).data.toList = [a, b] := rfl
  have hx := index_where [a, b] (by simp) s.toList
  rw [hd, ← toL_eq]
  unfold Lib.cut
  by_cases hl : whereL [a, b] s.toList < s.toList.length
  · rw [if_pos hl] at hx
    rw [hx, if_pos (by omega), decide_eq_true hl]
    simp [ofL]
  · rw [if_neg hl] at hx
    have hle := whereL_le [a, b] s.toList
    rw [hx, if_neg (by omega), decide_eq_false hl, List.take_of_length_le (by omega), List.drop_of_length_le (by omega)]
    rfl
/-- A head's lines behind the first. -/
def tailL (s : B) : List B := if whereL [13, 10] s < s.length then cutL (s.drop (whereL [13, 10] s + 2)) else []
theorem cutL_eq (s : B) : cutL s = s.take (whereL [13, 10] s) :: tailL s := by
  unfold tailL
  by_cases h : whereL [13, 10] s < s.length
  · rw [if_pos h, cutL_yes h]
  · rw [if_neg h, cutL_no h, List.take_of_length_le (by omega)]
theorem head_eq (s : B) : headR (cutL s) = if statusL (s.take (whereL [13, 10] s)) = 0 then none else (bodyA (statusL (s.take (whereL [13, 10] s))) (tailL s)).map fun p => (statusL (s.take (whereL [13, 10] s)), p.1, p.2) := by
  rw [cutL_eq]; rfl
theorem fields_snoc : ∀ (l : List B) (s : B) (hs : List (B × B)) (h : B × B), fieldsA l = some hs → fieldA s = some h → fieldsA (l ++ [s]) = some (hs ++ [h])
  | [], s, hs, h, h1, h2 => by
    simp only [fieldsA, Option.some.injEq] at h1
    subst h1
    simp [fieldsA, h2]
  | x :: l, s, hs, h, h1, h2 => by
    rw [fieldsA] at h1
    rw [List.cons_append, fieldsA]
    cases hx : fieldA x with
    | none => rw [hx] at h1; cases h1
    | some y =>
      rw [hx] at h1
      simp only at h1 ⊢
      cases hl : fieldsA l with
      | none => rw [hl] at h1; cases h1
      | some t =>
        rw [hl] at h1
        simp only [Option.some.injEq] at h1
        subst h1
        rw [fields_snoc l s t h hl h2]
        rfl
theorem fields_bad : ∀ (l : List B) (s : B), s ∈ l → fieldA s = none → fieldsA l = none
  | x :: l, s, hm, h => by
    rw [fieldsA]
    rcases List.mem_cons.1 hm with rfl | hm
    · rw [h]
    · cases hx : fieldA x with
      | none => rfl
      | some y =>
        simp only
        rw [fields_bad l s hm h]
theorem fields_len : ∀ (l : List B) (hs : List (B × B)), fieldsA l = some hs → hs.length = l.length
  | [], hs, h => by
    simp only [fieldsA, Option.some.injEq] at h
    subst h; rfl
  | x :: l, hs, h => by
    rw [fieldsA] at h
    cases hx : fieldA x with
    | none => rw [hx] at h; cases h
    | some y =>
      rw [hx] at h
      simp only at h
      cases hl : fieldsA l with
      | none => rw [hl] at h; cases h
      | some t =>
        rw [hl] at h
        simp only [Option.some.injEq] at h
        subst h
        rw [List.length_cons, List.length_cons, fields_len l t hl]
def OwnH (w : World) (base : Nat) (v : Value) (hs : List (B × B)) : Prop := w.ownsRow base 30 2 v hs.length (pairs hs)
/-- What answerHead tells. -/
def HeadOk (base : Nat) (e : Ending) (w : World) : Option (Nat × List (B × B) × Nat) → Prop
  | none => ∃ (a : Int) (A : Option Addr) (n c : Nat) (z : Int), e = .returned (.tuple #[.agg #[.int .i64 a, .slice A n c, .slice none 0 0], .int .i64 z, .bool false])
  | some x => ∃ v, e = .returned (.tuple #[.agg #[.int .i64 x.1, v, .slice none 0 0], .int .i64 x.2.2, .bool true]) ∧ OwnH w base v x.2.1
theorem headOk_none {base : Nat} {w : World} {x : Option (Nat × List (B × B) × Nat)} (hx : x = none) (a : Int) (A : Option Addr) (n c : Nat) (z : Int) : HeadOk base (.returned (.tuple #[.agg #[.int .i64 a, .slice A n c, .slice none 0 0], .int .i64 z, .bool false])) w x := by
  subst hx; exact ⟨a, A, n, c, z, rfl⟩
theorem cutL_small : ∀ (n : Nat) (s : B), s.length = n → ∀ x ∈ cutL s, x.length ≤ n := by
  intro n
  induction n using Nat.strongRecOn with
  | _ n ih =>
    intro s hn x hx
    by_cases h : whereL [13, 10] s < s.length
    · rw [cutL_yes h] at hx
      rcases List.mem_cons.1 hx with rfl | hx
      · rw [List.length_take]; omega
      · have hl : (s.drop (whereL [13, 10] s + 2)).length < n := by rw [List.length_drop]; omega
        have := ih _ hl _ rfl x hx
        omega
    · rw [cutL_no h] at hx
      simp at hx
      subst hx; omega
theorem tailL_small (s : B) : ∀ x ∈ tailL s, x.length ≤ s.length := by
  intro x hx
  unfold tailL at hx
  split at hx
  · have := cutL_small _ _ rfl x hx
    rw [List.length_drop] at this
    omega
  · cases hx
theorem ac_back {w : World} {b : Nat} {s : Int} {Hv Bv : Value} (h : AC w b s Hv Bv) : AC (((w.setCell ⟨b, 0, none⟩ (.int .i64 s)).setCell ⟨b, 1, none⟩ Hv).setCell ⟨b, 2, none⟩ Bv) b s Hv Bv := ((h.set0 s).set1 Hv).set2 Bv
theorem touch_back (b : Nat) (w : World) (x y z : Value) : Touch (fun k => k = b) w (((w.setCell ⟨b, 0, none⟩ x).setCell ⟨b, 1, none⟩ y).setCell ⟨b, 2, none⟩ z) :=
  Touch.setCell (F := fun k => k = b) (p := ⟨b, 2, none⟩) (touch_two b 0 1 w x y) rfl _
theorem bl_back {w W : World} {b : Nat} (h : BL w W) (hb : w.heap.size ≤ b) (x y z : Value) : BL w (((W.setCell ⟨b, 0, none⟩ x).setCell ⟨b, 1, none⟩ y).setCell ⟨b, 2, none⟩ z) :=
  Below.setCell (p := ⟨b, 2, none⟩) (Below.setCell (p := ⟨b, 1, none⟩) (Below.setCell (p := ⟨b, 0, none⟩) h hb _) hb _) hb _
theorem touch_under {F : Nat → Prop} {a b c : World} (h : Touch F a b) (k : Below a.heap.size b c) : Touch F a c := ⟨k.os.trans h.os, k.tape.trans h.tape, k.output.trans h.output, Nat.le_trans h.size k.size, fun i hi hf => (k.block i hi).trans (h.block i hi hf)⟩
theorem rdS_front {w : World} {A : Option Addr} {m c : Nat} {l : List B} {x : B} (h : Rd w 1 (.slice A m c) (l ++ [x]).length (strs (l ++ [x]))) : Rd w 1 (.slice A l.length c) l.length (strs l) := by
  obtain ⟨_, A', c', h2, h3, h4, h5, h6⟩ := h
  cases h2
  refine ⟨by rw [strs_len]; omega, _, _, rfl, ?_, h4, fun e => ?_, fun a ha => ?_⟩
  · rw [List.length_append, List.length_singleton] at h3; omega
  · have := h5 e; rw [List.length_append, List.length_singleton] at this; omega
  · obtain ⟨g1, g2⟩ := h6 a ha
    refine ⟨g1, fun j u hj => g2 j u ?_⟩
    rw [strs_snoc, List.getElem?_append_left (List.getElem?_eq_some_iff.1 hj).1]
    exact hj
theorem rdS_nil (w : World) : Rd w 1 (.slice none 0 0) ([] : List B).length (strs []) := ⟨rfl, none, 0, rfl, Nat.le_refl _, Nat.zero_le _, fun _ => rfl, fun a ha => by cases ha⟩
theorem field_no {x : B} (h : ¬ whereL colL x < x.length) : fieldA x = none := by unfold fieldA; rw [if_neg (fun e => h e.1)]
theorem field_bad {x : B} (h : writtenL (x.take (whereL colL x)) (x.drop (whereL colL x + 2)) = false) : fieldA x = none := by unfold fieldA; rw [if_neg (fun e => by rw [h] at e; cases e.2)]
theorem field_yes {x : B} (h1 : whereL colL x < x.length) (h : writtenL (x.take (whereL colL x)) (x.drop (whereL colL x + 2)) = true) : fieldA x = some (x.take (whereL colL x), x.drop (whereL colL x + 2)) := by unfold fieldA; rw [if_pos ⟨h1, h⟩]
/-- The lines that are to be gone through: a list in memory that no store into block g turns. -/
def LinesAt (w : World) (g : Nat) (st : Int) (L : List B) (v : Value) (wx : World) : Prop :=
  (∃ A c, v = .slice A L.length c) ∧ AC wx g st (.slice none 0 0) (.slice none 0 0) ∧ BL w wx ∧ ∀ wr, Touch (fun k => k = g) wx wr → Rd wr 1 v L.length (strs L)
theorem LinesAt.below {w wx wy : World} {g : Nat} {st : Int} {L : List B} {v : Value} (h : LinesAt w g st L v wx) (hb : BL wx wy) : LinesAt w g st L v wy :=
  ⟨h.1, h.2.1.below hb, bl_next h.2.2.1 hb, fun wr ht => h.2.2.2 wr ((Touch.of_below hb).trans ht)⟩
theorem LinesAt.front {w wx : World} {g : Nat} {st : Int} {L : List B} {x : B} {A : Option Addr} {m c : Nat} (h : LinesAt w g st (L ++ [x]) (.slice A m c) wx) : LinesAt w g st L (.slice A L.length c) wx := by
  obtain ⟨⟨A', c', hv⟩, h2, h3, h4⟩ := h
  exact ⟨⟨_, _, rfl⟩, h2, h3, fun wr ht => rdS_front (h4 wr ht)⟩
theorem linesAt_nil {w wx : World} {g : Nat} {st : Int} (h2 : AC wx g st (.slice none 0 0) (.slice none 0 0)) (h3 : BL w wx) : LinesAt w g st [] (.slice none 0 0) wx := ⟨⟨_, _, rfl⟩, h2, h3, fun wr _ => rdS_nil wr⟩
theorem linesAt_own {w wx : World} {g base : Nat} {st : Int} {L : List B} {v : Value} (h2 : AC wx g st (.slice none 0 0) (.slice none 0 0)) (h3 : BL w wx) (ho : wx.ownsRow base 9 1 v L.length (strs L)) (hg : g < base) : LinesAt w g st L v wx :=
  ⟨(rd_of_own ho).shape, h2, h3, fun wr ht => rd_of_own (own_touch ho ht (fun k hk e => by have := (ho.lt k hk).1; omega))⟩
/-- What the loop over the lines begins with. -/
def Going (w : World) (st : Nat) (ls : List B) (s3 s8 : Value) (wx : World) : Prop := ∃ (L : List B) (N : Nat), s3 = .int .i64 N ∧ LinesAt w w.heap.size st L s8 wx ∧ (∀ x ∈ L, x.length ≤ 1048576) ∧ L.length ≤ 32 ∧ headR ls = (fieldsA L).map fun h => (st, h, N)
set_option maxHeartbeats 8000000 in
theorem answerHead_any (s : ByteArray) (hs : s.size ≤ 1048576) (w : World) (hT : Tab10 w) (hE : Errs w) (hg : Glob w) :
    Calls Tryz.prog 31 #[.string s] w fun e w' => HeadOk w.heap.size e w' (headR (cutL s.toList)) ∧ BL w w' := by
  have HT := Lib.hid hT
  have HE := Lib.hid hE
  have HG := Lib.hid hg
  have HH := Lib.hid (head_eq s.toList)
  have hsl : s.toList.length = s.size := len_toL s
  have htl := Lib.hid (tailL_small s.toList)
  have hac : AC (w.alloc (.cells #[.int .i64 0, .slice none 0 0, .slice none 0 0] 25)) w.heap.size 0 (.slice none 0 0) (.slice none 0 0) := heap_alloc_new _ _
  have hk : BL w (w.alloc (.cells #[.int .i64 0, .slice none 0 0, .slice none 0 0] 25)) := bl_alloc (bl_refl _) _
  have HC := Lib.hid (fun wx (hb : BL w wx) => cut2_any 13 10 s hs wx (HG.out.next hb))
  have hF : (s.toList.take (whereL [13, 10] s.toList)).length ≤ 1048576 := by rw [List.length_take]; omega
  have hts : tailL s.toList = if whereL [13, 10] s.toList < s.toList.length then cutL (s.toList.drop (whereL [13, 10] s.toList + 2)) else [] := rfl
  have hR : (s.toList.drop (whereL [13, 10] s.toList + 2)).length ≤ 1048576 := by rw [List.length_drop]; omega
  have HTL := Lib.hid hts
  obtain ⟨bs, hbs⟩ : ∃ bs, decide (whereL [13, 10] s.toList < s.toList.length) = bs := ⟨_, rfl⟩
  simp only [hbs] at HC
  have HBS := Lib.hid hbs
  clear hbs
  generalize s.toList.take (whereL [13, 10] s.toList) = F at *
  generalize s.toList.drop (whereL [13, 10] s.toList + 2) = R at *
  generalize tailL s.toList = L at *
  clear hT hE hg hts
  go_enter Tryz.func31, Tryz.ntmps31
  go_wp2_with fail
  generalize w.alloc (.cells #[.int .i64 0, .slice none 0 0, .slice none 0 0] 25) = w1 at *
  refine (HC.out _ hk).mono ?_
  rintro e w2 ⟨rfl, nq, hw2⟩
  have hb2 : BL w1 w2 := by rw [hw2]; exact below_drewN _ _ _
  have hac2 := hac.below hb2
  have hk2 := bl_next hk hb2
  have HK2 := Lib.hid hk2
  have HAC2 := Lib.hid hac2
  clear hw2 hb2 hac hk hac2 hk2 HC
  go_wp2_with fail
  refine (told_any (ofL F) (by rw [size_ofL]; exact hF) w2 (HT.out.next HK2.out)).mono ?_
  rintro e w3 ⟨rfl, hb3⟩
  rw [toL_ofL]
  have hac3 := HAC2.out.below hb3
  have hk3 := bl_next HK2.out hb3
  have HAC3 := Lib.hid (hac3.set0 (statusL F))
  have HK3 := Lib.hid (show BL w (w3.setCell ⟨w.heap.size, 0, none⟩ (.int .i64 (statusL F))) from Below.setCell hk3 (Nat.le_refl _) _)
  have f0 := hac3.fz 0
  have g0 := hac3.c0
  obtain ⟨st, hst⟩ : ∃ st, statusL F = st := ⟨_, rfl⟩
  rw [hst] at HH HAC3 HK3 ⊢
  have HST := Lib.hid hst
  clear hb3 hac3 hk3 hst HAC2 HK2
  have c0 := HAC3.out.c0
  have c1 := HAC3.out.c1
  have c2 := HAC3.out.c2
  have f0' := HAC3.out.fz 0
  have f1' := HAC3.out.fz 1
  have f2' := HAC3.out.fz 2
  by_cases h0 : st = 0
  · have q0 : ((st : Int) == 0) = true := by simpa using h0
    have HX := Lib.hid (show headR (cutL s.toList) = none by rw [HH.out, if_pos h0])
    clear h0
    have HAX := HAC3
    have HKX := HK3
    go_wp2_with fail
    have hx := ac_back HAX.out
    have hbx := bl_back HKX.out (Nat.le_refl _) (.int .i64 st) (.slice none 0 0) (.slice none 0 0)
    have hc0 := hx.c0
    have hc1 := hx.c1
    have hc2 := hx.c2
    exact bodyPost_ret (v := .tuple #[.agg #[.int .i64 st, .slice none 0 0, .slice none 0 0], .int .i64 0, .bool false]) (by simp [results, Tryz.results31, go_sem, hc0, hc1, hc2]) rfl ⟨headOk_none HX.out _ _ _ _ _, hbx⟩
  have q0 : ((st : Int) == 0) = false := by simpa using h0
  have HX0 := Lib.hid (show headR (cutL s.toList) = (bodyA st L).map fun p => (st, p.1, p.2) by rw [HH.out, if_neg h0])
  clear HH h0
  go_upto_if 28 with fail
  generalize w3.setCell ⟨w.heap.size, 0, none⟩ (.int .i64 st) = w4 at *
  clear c0 c1 c2 f0 g0 f0' f1' f2'
  go_cut [8] (fun s8 wx => LinesAt w w.heap.size st L s8 wx)
  case first =>
    cases bs with
    | true =>
      have hso := of_decide_eq_true HBS.out
      have hcut : cutL R = L := by have := HTL.out; rw [if_pos hso] at this; exact this.symm
      have HSP := Lib.hid (fun wx (hb : BL w wx) => split_any (ofL R) (by rw [size_ofL]; exact hR) wx (HG.out.next hb))
      rw [toL_ofL, hcut] at HSP
      clear hcut hso
      go_wp2_with fail
      refine (HSP.out _ HK3.out).mono ?_
      rintro e w5 ⟨v5, rfl, ho5, hb5⟩
      have HO5 := Lib.hid ho5
      have HB5 := Lib.hid hb5
      obtain ⟨A5, c5, rfl⟩ := (rd_of_own ho5).shape
      clear ho5 hb5
      go_wp2_with fail
      go_meet
      exact linesAt_own (HAC3.out.below HB5.out) (bl_next HK3.out HB5.out) HO5.out HAC3.out.lt
    | false =>
      have hso := of_decide_eq_false HBS.out
      have hcut : L = [] := by have := HTL.out; rwa [if_neg hso] at this
      have HL0 := Lib.hid hcut
      clear hcut hso
      go_wp2_with fail
      go_meet
      rw [HL0.out]
      exact linesAt_nil HAC3.out HK3.out
  case rest =>
    obtain ⟨⟨A5, c5, rfl⟩, hac5, hk5, hrd5⟩ := hcut
    have hla : LinesAt w w.heap.size st L (.slice A5 L.length c5) wc := ⟨⟨A5, c5, rfl⟩, hac5, hk5, hrd5⟩
    have HLA := Lib.hid hla
    have HAX := Lib.hid hac5
    have HKX := Lib.hid hk5
    have c0 := hac5.c0
    have c1 := hac5.c1
    have c2 := hac5.c2
    have f0 := hac5.fz 0
    have f1 := hac5.fz 1
    have f2 := hac5.fz 2
    clear hla hac5 hk5 hrd5 HAC3 HK3
    by_cases h32 : 32 < L.length
    · have HX := Lib.hid (show headR (cutL s.toList) = none by rw [HX0.out]; unfold bodyA; rw [if_pos h32]; rfl)
      ((go_wp2_with fail); (have hx := ac_back HAX.out); (have hbx := bl_back HKX.out (Nat.le_refl _) (.int .i64 st) (.slice none 0 0) (.slice none 0 0)); (have hc0 := hx.c0); (have hc1 := hx.c1); (have hc2 := hx.c2); (exact bodyPost_ret (v := .tuple #[.agg #[.int .i64 st, .slice none 0 0, .slice none 0 0], .int .i64 0, .bool false]) (by simp [results, Tryz.results31, go_sem, hc0, hc1, hc2]) rfl ⟨headOk_none HX.out _ _ _ _ _, hbx⟩))
    obtain ⟨bt, hbt⟩ : ∃ bt, ((st : Int) == 101) = bt := ⟨_, rfl⟩
    have hBD := bodiless_any (st : Int) wc
    rw [hbt] at hBD
    have HBD := Lib.hid hBD
    have HBT := Lib.hid hbt
    clear hBD hbt
    go_wp2_with fail
    refine HBD.out.mono ?_
    rintro e w6 ⟨rfl, rfl⟩
    go_upto_if 38 with fail
    go_cut [3, 8] (fun s3 s8 wx => Going w st (cutL s.toList) s3 s8 wx)
    case first =>
      cases bt with
      | true =>
        have h101 : st = 101 := by have := HBT.out; simp only [beq_iff_eq] at this; omega
        have HB0 := Lib.hid (show headR (cutL s.toList) = (fieldsA L).map fun h => (st, h, 0) by
          rw [HX0.out]; unfold bodyA; rw [if_neg h32, if_pos h101, Option.map_map]; rfl)
        clear h101
        go_wp2_with fail
        go_meet
        exact ⟨L, 0, rfl, HLA.out, fun x hx => by have := htl.out x hx; omega, by omega, HB0.out⟩
      | false =>
        have h101 : ¬ st = 101 := by have := HBT.out; rw [beq_eq_false_iff_ne] at this; omega
        rcases List.eq_nil_or_concat L with rfl | ⟨L', x, hLx⟩
        · have HX := Lib.hid (show headR (cutL s.toList) = none by rw [HX0.out]; unfold bodyA; rw [if_neg h32, if_neg h101, if_pos rfl]; rfl)
          clear h101
          ((go_wp2_with fail); (have hx := ac_back HAX.out); (have hbx := bl_back HKX.out (Nat.le_refl _) (.int .i64 st) (.slice none 0 0) (.slice none 0 0)); (have hc0 := hx.c0); (have hc1 := hx.c1); (have hc2 := hx.c2); (exact bodyPost_ret (v := .tuple #[.agg #[.int .i64 st, .slice none 0 0, .slice none 0 0], .int .i64 0, .bool false]) (by simp [results, Tryz.results31, go_sem, hc0, hc1, hc2]) rfl ⟨headOk_none HX.out _ _ _ _ _, hbx⟩))
        · have hLx' : L = L' ++ [x] := by rw [hLx, List.concat_eq_append]
          subst hLx'
          have hlast : lastL (L' ++ [x]) = x := by unfold lastL; simp
          have hdl : (L' ++ [x]).dropLast = L' := List.dropLast_concat
          have HB0 := Lib.hid (show headR (cutL s.toList) = if lenL x < 0 then none else (fieldsA L').map fun h => (st, h, (lenL x).toNat) by
            rw [HX0.out]; unfold bodyA
            rw [if_neg h32, if_neg h101, if_neg (by simp), hlast, hdl]
            by_cases hn : lenL x < 0
            · rw [if_pos hn, if_pos hn]; rfl
            · rw [if_neg hn, if_neg hn, Option.map_map]; rfl)
          have hxs : x.length ≤ s.size := by have := htl.out x (by simp); omega
          have HLN := Lib.hid (length_any (ofL x) (by rw [size_ofL]; omega) wc (HT.out.next HKX.out) (HE.out.next HKX.out))
          rw [toL_ofL] at HLN
          have hR6 := HLA.out.2.2.2 wc (Touch.refl _ _)
          obtain ⟨b, o, rfl, hcx⟩ := hR6.strAt (k := L'.length) (s := x) (by simp)
          have hll : (L' ++ [x]).length = L'.length + 1 := by simp
          rw [hll] at h32
          have hl32 : L'.length < 32 := by omega
          generalize lenL x = z at *
          clear hR6 hlast hdl h101 hLx
          go_wp2_with fail
          refine HLN.out.mono ?_
          rintro e w7 ⟨rfl, hb7⟩
          have HL7 := Lib.hid (HLA.out.below hb7)
          have hac7 := HAX.out.below hb7
          have HKX7 := Lib.hid (bl_next HKX.out hb7)
          have HAX7 := Lib.hid hac7
          clear c0 c1 c2 f0 f1 f2 hb7 HAX HKX HLA
          have c0 := hac7.c0
          have c1 := hac7.c1
          have c2 := hac7.c2
          have f0 := hac7.fz 0
          have f1 := hac7.fz 1
          have f2 := hac7.fz 2
          have HAX := HAX7
          have HKX := HKX7
          clear hac7
          have hcap : L'.length + 1 ≤ c5 := by
            obtain ⟨_, A', c', h2, h3, _⟩ := HL7.out.2.2.2 w7 (Touch.refl _ _)
            cases h2
            rw [hll] at h3
            exact h3
          by_cases hz : z < 0
          · have HX := Lib.hid (show headR (cutL s.toList) = none by rw [HB0.out, if_pos hz])
            ((go_wp2_with fail); (have hx := ac_back HAX.out); (have hbx := bl_back HKX.out (Nat.le_refl _) (.int .i64 st) (.slice none 0 0) (.slice none 0 0)); (have hc0 := hx.c0); (have hc1 := hx.c1); (have hc2 := hx.c2); (exact bodyPost_ret (v := .tuple #[.agg #[.int .i64 st, .slice none 0 0, .slice none 0 0], .int .i64 0, .bool false]) (by simp [results, Tryz.results31, go_sem, hc0, hc1, hc2]) rfl ⟨headOk_none HX.out _ _ _ _ _, hbx⟩))
          · have HB1 := Lib.hid (show headR (cutL s.toList) = (fieldsA L').map fun h => (st, h, z.toNat) by rw [HB0.out, if_neg hz])
            go_wp2_with fail
            go_meet
            exact ⟨L', z.toNat, congrArg (Value.int .i64) (by omega), HL7.out.front, fun x hx => by have := htl.out x (by simp [hx]); omega, by omega, HB1.out⟩
    case rest =>
      obtain ⟨L0, N, rfl, ⟨⟨A0, cp, rfl⟩, hac, hk, hrd⟩, hls, hmx, hbd⟩ := hcut
      have HRD := Lib.hid hrd
      have HBD0 := Lib.hid hbd
      have HKC := Lib.hid hk
      have HAC0 := Lib.hid hac
      have HLS := Lib.hid hls
      have hgl := hac.lt
      clear hrd hbd hk hac hls c0 c1 c2 f0 f1 f2 HAX HKX HLA
      go_wp2_with fail
      go_loopw [3, 60] (fun s3 i wr => ∃ (k : Nat) (hv : Value) (hq : List (B × B)), k ≤ L0.length ∧ s3 = .int .i64 N ∧ i = .int .i64 k ∧ Hid (fieldsA (L0.take k) = some hq) ∧ Hid (AC wr w.heap.size st hv (.slice none 0 0)) ∧ Hid (OwnH wr wc.heap.size hv hq) ∧ Hid (Touch (fun j => j = w.heap.size) wc wr)) (fun _ i _ => L0.length - (intOf i).toNat)
      case atStart => exact ⟨0, _, [], Nat.zero_le _, rfl, rfl, (rfl : fieldsA [] = some []), HAC0.out, World.ownsRow_nil _ _ _ _, Touch.refl _ _⟩
      case round =>
        obtain ⟨k, hv, hq, hk, rfl, rfl, Hf, Ha, Ho, Ht⟩ := hrel
        obtain ⟨A4, n4, rfl⟩ := (rd_of_own (show wr.ownsRow _ _ _ _ _ _ from Ho.out)).shape
        have hkr : BL w wr := (show Below _ _ _ from HKC.out).trans (Ht.out.below (fun k hk e => by omega) (show Below _ _ _ from HKC.out).size)
        have HKR := Lib.hid hkr
        by_cases hlt : k < L0.length
        · obtain ⟨x, hx⟩ : ∃ x, L0[k]? = some x := ⟨L0[k], List.getElem?_eq_getElem hlt⟩
          have hxm := List.mem_of_getElem? hx
          have hxl := HLS.out x hxm
          obtain ⟨b, o, rfl, hcx⟩ := (HRD.out wr Ht.out).strAt hx
          have HCT := Lib.hid (cut2_any 58 32 (ofL x) (by rw [size_ofL]; exact hxl) wr (HG.out.next hkr))
          rw [toL_ofL] at HCT
          have HNO := Lib.hid (fun h => field_no (x := x) h)
          have HBA := Lib.hid (fun h => field_bad (x := x) h)
          have HYE := Lib.hid (fun h1 h => field_yes (x := x) h1 h)
          have HFB := Lib.hid (fun h => show headR (cutL s.toList) = none by rw [HBD0.out, fields_bad L0 x hxm h]; rfl)
          have HFS := Lib.hid (fun h q => show fieldsA (L0.take (k + 1)) = some (hq ++ [h]) by rw [take_snoc' hx]; exact fields_snoc _ _ _ _ Hf.out q)
          have hn1 : (x.take (whereL [58, 32] x)).length ≤ 1048576 := by rw [List.length_take]; omega
          have hn2 : (x.drop (whereL [58, 32] x + 2)).length ≤ 1048576 := by rw [List.length_drop]; omega
          unfold colL at HNO HBA HYE
          obtain ⟨bc, hbc⟩ : ∃ bc, decide (whereL [58, 32] x < x.length) = bc := ⟨_, rfl⟩
          rw [hbc] at HCT
          have HBC := Lib.hid hbc
          generalize x.take (whereL [58, 32] x) = N1 at *
          generalize x.drop (whereL [58, 32] x + 2) = V1 at *
          clear hx hxm hbc hkr
          go_wp2_with fail
          refine HCT.out.mono ?_
          rintro e w7 ⟨rfl, nq, hw7⟩
          have hb7 : BL wr w7 := by rw [hw7]; exact below_drewN _ _ _
          have HB8 := Lib.hid (bl_alloc hb7 (.cells #[.string (ofL N1), .string (ofL V1)] 30))
          have HBX := Lib.hid (show BoxH (w7.alloc (.cells #[.string (ofL N1), .string (ofL V1)] 30)) w7.heap.size (ofL N1) (ofL V1) from heap_alloc_new _ _)
          clear hw7 hb7
          cases bc with
          | false =>
            have HX := Lib.hid (HFB.out (HNO.out (of_decide_eq_false HBC.out)))
            have hac8 := Ha.out.below HB8.out
            have HAX := Lib.hid hac8
            have HKX := Lib.hid (bl_next HKR.out HB8.out)
            have c0 := hac8.c0
            have c1 := hac8.c1
            have c2 := hac8.c2
            have f0 := hac8.fz 0
            have f1 := hac8.fz 1
            have f2 := hac8.fz 2
            clear hac8
            ((go_wp2_with fail); (have hx := ac_back HAX.out); (have hbx := bl_back HKX.out (Nat.le_refl _) (.int .i64 st) (.slice A4 hq.length n4) (.slice none 0 0)); (have hc0 := hx.c0); (have hc1 := hx.c1); (have hc2 := hx.c2); (exact bodyPost_ret (v := .tuple #[.agg #[.int .i64 st, .slice A4 hq.length n4, .slice none 0 0], .int .i64 0, .bool false]) (by simp [results, Tryz.results31, go_sem, hc0, hc1, hc2]) rfl ⟨headOk_none HX.out _ _ _ _ _, hbx⟩))
          | true =>
            have hwh := of_decide_eq_true HBC.out
            have HW := Lib.hid (fun wx => written_any N1 V1 hn1 hn2 wx)
            cases hwr : writtenL N1 V1
            · rw [hwr] at HW
              have HX := Lib.hid (HFB.out (HBA.out hwr))
              clear hwr hwh
              go_wp2_with fail
              refine (HW.out _).mono ?_
              rintro e w9 ⟨rfl, hb9⟩
              have hac9 := Ha.out.below (bl_next HB8.out hb9)
              have HAX := Lib.hid hac9
              have HKX := Lib.hid (bl_next HKR.out (bl_next HB8.out hb9))
              have c0 := hac9.c0
              have c1 := hac9.c1
              have c2 := hac9.c2
              have f0 := hac9.fz 0
              have f1 := hac9.fz 1
              have f2 := hac9.fz 2
              clear hac9 hb9
              ((go_wp2_with fail); (have hx := ac_back HAX.out); (have hbx := bl_back HKX.out (Nat.le_refl _) (.int .i64 st) (.slice A4 hq.length n4) (.slice none 0 0)); (have hc0 := hx.c0); (have hc1 := hx.c1); (have hc2 := hx.c2); (exact bodyPost_ret (v := .tuple #[.agg #[.int .i64 st, .slice A4 hq.length n4, .slice none 0 0], .int .i64 0, .bool false]) (by simp [results, Tryz.results31, go_sem, hc0, hc1, hc2]) rfl ⟨headOk_none HX.out _ _ _ _ _, hbx⟩))
            · rw [hwr] at HW
              have HFX := Lib.hid (HFS.out _ (HYE.out hwh hwr))
              clear hwr hwh
              go_wp2_with fail
              refine (HW.out _).mono ?_
              rintro e w9 ⟨rfl, hb9⟩
              have hb79 := bl_next HB8.out hb9
              have hac9 := Ha.out.below hb79
              have ho9 := own_below Ho.out hb79
              have hbx9 := HBX.out.touch (.of_below (F := fun _ => False) hb9) id
              have HT9 := Lib.hid (Ht.out.next hb79)
              have HAC9 := Lib.hid hac9
              have g0 := hbx9.c0
              have g1 := hbx9.c1
              have c1 := hac9.c1
              have HO9 := Lib.hid ho9
              have hws : wc.heap.size ≤ w9.heap.size := Nat.le_trans Ht.out.size hb79.size
              have hql : hq.length ≤ 32 := by have := fields_len _ _ Hf.out; rw [List.length_take] at this; omega
              clear hac9 ho9 hbx9 hb9 hb79 HBX HB8
              go_wp2_with (at_builtin; refine wpList_push _ rfl _ _ 22 rfl wc.heap.size rowH _ hq.length (pairs hq) rfl HO9.out [.string (ofL N1), .string (ofL V1)] _ rfl (by rfl) rfl (oneCell_pair _ _) (by omega) hws ?_)
              intro v10 w10 ho10 hg10 hb10 hne10
              have e1 : hq.length + 1 = (hq ++ [(N1, V1)]).length := by simp
              have e2 : pairs hq ++ [.string (ofL N1), .string (ofL V1)] = pairs (hq ++ [(N1, V1)]) := (pairs_snoc hq (N1, V1)).symm
              rw [e1, e2] at ho10
              obtain ⟨A10, c10, rfl⟩ := (rd_of_own ho10).shape
              have hac10 := HAC9.out.under hb10 hgl
              have f1 := hac10.fz 1
              have j1 := hac10.c1
              have HAC10 := Lib.hid (hac10.set1 (.slice A10 (hq ++ [(N1, V1)]).length c10))
              have HT10 := Lib.hid ((touch_under HT9.out hb10).setCell (p := ⟨w.heap.size, 1, none⟩) rfl (.slice A10 (hq ++ [(N1, V1)]).length c10))
              have HO10 := Lib.hid (ownsRow_setCell_below ho10 (a := ⟨w.heap.size, 1, none⟩) hgl (.slice A10 (hq ++ [(N1, V1)]).length c10))
              clear e1 e2 ho10 hg10 hb10 hne10 hac10 g0 g1 c1 HO9 hws hql
              generalize hq ++ [(N1, V1)] = hq2 at *
              go_wp2_with fail
              go_roundw
              case rel => exact ⟨k + 1, _, hq2, by omega, rfl, by go_num, HFX.out, HAC10.out, HO10.out, HT10.out⟩
              case measure => simp [intOf]; omega
        · have hke : L0.length ≤ k := by omega
          have HX := Lib.hid (show headR (cutL s.toList) = some (st, hq, N) by have := Hf.out; rw [List.take_of_length_le hke] at this; rw [HBD0.out, this]; rfl)
          have hac9 := Ha.out
          have c0 := hac9.c0
          have c1 := hac9.c1
          have c2 := hac9.c2
          have f0 := hac9.fz 0
          have f1 := hac9.fz 1
          have f2 := hac9.fz 2
          clear hac9
          go_wp2_with fail
          have hx := ac_back Ha.out
          have hbx := bl_back HKR.out (Nat.le_refl _) (.int .i64 st) (.slice A4 hq.length n4) (.slice none 0 0)
          have hc0 := hx.c0
          have hc1 := hx.c1
          have hc2 := hx.c2
          refine bodyPost_ret (v := .tuple #[.agg #[.int .i64 st, .slice A4 hq.length n4, .slice none 0 0], .int .i64 N, .bool true]) (by simp [results, Tryz.results31, go_sem, hc0, hc1, hc2]) rfl ⟨?_, hbx⟩
          rw [HX.out]
          refine ⟨_, rfl, ?_⟩
          exact own_rebase (own_touch Ho.out (touch_back w.heap.size wr (.int .i64 st) (.slice A4 hq.length n4) (.slice none 0 0)) (fun k hk e => by
            have := ((show wr.ownsRow _ _ _ _ _ _ from Ho.out).lt k hk).1
            omega)) (fun k hk => by
            have := ((show wr.ownsRow _ _ _ _ _ _ from Ho.out).lt k hk).1
            omega)
end Go.Proofs.YtgdelmkgdfhdpaaGreatDoor
