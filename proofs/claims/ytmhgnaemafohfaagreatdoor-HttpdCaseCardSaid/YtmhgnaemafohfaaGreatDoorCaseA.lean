/- The law HttpdCase (blotterlaw08): names of headers in other letters. Conditions: none. -/
import Derived.Test.YtmhgnaemafohfaaGreatDoorMachO
import Derived.Test.YtmhgnaemafohfaaGreatDoorLawG
namespace Go.Proofs.YtmhgnaemafohfaaGreatDoor
open Go.RowKit
set_option linter.unusedVariables false
set_option linter.unusedSimpArgs false
set_option maxRecDepth 100000

theorem bindex_any (l : B) (A : Option Addr) (c g : Nat) (w : World) (hR : Rd w 1 (.slice A l.length c) l.length (bytesV l)) (hl : l.length ≤ 1048576) (hN : A = none → c = 0)
    (hg : Rd w 1 (.slice (some ⟨g, 0, none⟩) 4 4) 4 (bytesV crL)) (hG : Glob w) :
    Calls Tryz.prog 37 #[.slice A l.length c, .slice (some ⟨g, 0, none⟩) 4 4] w fun e w' => e = .returned (.int .i64 (if whereL crL l < l.length then (whereL crL l : Int) else -1)) ∧ Below w.heap.size w w' := by
  cases A with
  | none =>
    have hc := hN rfl
    subst hc
    have hl0 : l = [] := by obtain ⟨_, A', c', h2, _, _, h5, _⟩ := hR; cases h2; exact List.eq_nil_of_length_eq_zero (h5 rfl)
    subst hl0
    refine (Tryz.bytes_Index_nil (some ⟨g, 0, none⟩) 4 4 w (by decide) (fun h => by cases h)).mono ?_
    rintro e w' ⟨rfl, rfl⟩
    exact ⟨rfl, Below.refl _ _⟩
  | some a =>
    have hnc : l.length ≤ c := by obtain ⟨_, A', c', h2, h3, _⟩ := hR; cases h2; exact h3
    obtain ⟨_, A', c', h2, _, _, _, h6⟩ := hR
    cases h2
    obtain ⟨hsp, hcell⟩ := h6 a rfl
    obtain ⟨m, hm⟩ := hG
    have hadd : ∀ i, a.add i = ⟨a.block, a.off + i, none⟩ := fun i => by
      unfold Addr.add; split
      · rename_i h; subst h; cases a; simp at hsp; subst hsp; rfl
      · rfl
    have hr : ∀ k : B, ∀ x ∈ intsOf k, 0 ≤ x ∧ x < 256 := by
      intro k x hx
      unfold intsOf at hx
      obtain ⟨c, _, rfl⟩ := List.mem_map.1 hx
      have := c.toNat_lt
      omega
    have h := Tryz.bytes_Index_at a ⟨g, 0, none⟩ l.length c 4 4 (intsOf l) (intsOf crL) m w (by simp [intsOf]) rfl (hr l) (hr crL) (fun i hi => by
        rw [hadd, hcell i _ (bytesV_at (List.getElem?_eq_getElem hi))]
        simp [intsOf, List.getD_eq_getElem?_getD, List.getElem?_eq_getElem hi]) (fun i hi => by
        obtain ⟨_, A', c', h2, _, _, _, h6⟩ := hg
        cases h2
        have := (h6 ⟨g, 0, none⟩ rfl).2 i _ (bytesV_at (List.getElem?_eq_getElem (show i < crL.length from hi)))
        have e : (⟨g, 0, none⟩ : Addr).add i = ⟨g, 0 + i, none⟩ := by unfold Addr.add; split <;> simp_all
        rw [e, this]
        simp [intsOf, List.getD_eq_getElem?_getD, List.getElem?_eq_getElem (show i < crL.length from hi)]) hnc (by omega) (by decide) hm
    rw [bytesOf_ints, bytesOf_ints, index_where crL (by decide)] at h
    refine h.mono ?_
    rintro e w' ⟨rfl, q, rfl⟩
    exact ⟨rfl, below_drewN _ _ _⟩
theorem own_store {w : World} {base g cap : Nat} {l : B} (h : w.ownsRow base 5 1 (.slice (some ⟨g, 0, none⟩) l.length cap) l.length (bytesV l)) (k : Nat) (c : UInt8) :
    (w.setCell ⟨g, k, none⟩ (.int .u8 c.toNat)).ownsRow base 5 1 (.slice (some ⟨g, 0, none⟩) l.length cap) (l.set k c).length (bytesV (l.set k c)) := by
  obtain ⟨h1, h2 | ⟨g', cap', cur, hv, hb, hg, hc, hm, hs, htk⟩⟩ := h
  · cases h2.1
  · cases hv
    rw [List.length_set]
    refine ⟨by rw [bytesV_len, List.length_set, Nat.mul_one], .inr ⟨g, cap, cur.set! k (.int .u8 c.toNat), rfl, hb, heap_set_own hg k _, hc, hm, by simpa using hs, ?_⟩⟩
    have e : (cur.set! k (.int .u8 c.toNat)).toList = cur.toList.set k (.int .u8 c.toNat) := by simp [Array.set!]
    rw [e, List.take_set, htk]
    unfold bytesV
    rw [List.map_set]
theorem xor_val (c : UInt8) : bits .xor .u8 (c.toNat : Int) 32 = ((c ^^^ 32).toNat : Int) := by
  have := all_bytes (fun c => decide (bits .xor .u8 (c.toNat : Int) 32 = ((c ^^^ 32).toNat : Int))) (by decide +kernel) c
  simpa using this

/-- What the loop has done behind k bytes. -/
structure Inv (f : Nat → Bool) (l : B) (E k : Nat) (nb : Bool) (m : B) : Prop where
  len : m.length = l.length
  dr : m.drop k = l.drop k
  cs : caseG f false 0 (l.take E) = m.take k ++ caseG f nb k ((l.take E).drop k)
theorem Inv.cons {f : Nat → Bool} {l : B} {E k : Nat} {nb : Bool} {m : B} {c : UInt8} (h : Inv f l E k nb m) (hk : k < E) (hE : E ≤ l.length) (hc : m[k]? = some c) :
    (l.take E).drop k = c :: (l.take E).drop (k + 1) ∧ l.drop k = c :: l.drop (k + 1) ∧ m.drop (k + 1) = l.drop (k + 1) := by
  have hkl : k < l.length := by omega
  have hkm : k < m.length := by rw [h.len]; exact hkl
  have h1 : l.drop k = l[k] :: l.drop (k + 1) := List.drop_eq_getElem_cons hkl
  have h2 : m.drop k = m[k] :: m.drop (k + 1) := List.drop_eq_getElem_cons hkm
  rw [List.getElem?_eq_getElem hkm] at hc
  have hc' := Option.some.inj hc
  rw [h.dr, h1, hc'] at h2
  injection h2 with e1 e2
  have hkE : k < (l.take E).length := by rw [List.length_take]; omega
  have h3 : (l.take E).drop k = (l.take E)[k] :: (l.take E).drop (k + 1) := List.drop_eq_getElem_cons hkE
  rw [List.getElem_take, e1] at h3
  rw [e1] at h1
  exact ⟨h3, h1, e2.symm⟩
theorem Inv.step {f : Nat → Bool} {l : B} {E k : Nat} {nb nb' : Bool} {m : B} {c c' : UInt8} (h : Inv f l E k nb m) (hk : k < E) (hE : E ≤ l.length) (hc : m[k]? = some c)
    (hg : ∀ r, caseG f nb k (c :: r) = c' :: caseG f nb' (k + 1) r) : Inv f l E (k + 1) nb' (m.set k c') := by
  obtain ⟨h1, h2, h3⟩ := h.cons hk hE hc
  have hkm : k < m.length := (List.getElem?_eq_some_iff.1 hc).1
  refine ⟨by rw [List.length_set]; exact h.len, ?_, ?_⟩
  · rw [List.drop_set_of_lt (by omega)]; exact h3
  · rw [h.cs, h1, hg]
    have e : (m.set k c').take (k + 1) = m.take k ++ [c'] := by
      rw [List.take_add_one, List.take_set_of_le (by omega), List.getElem?_set_self hkm]; rfl
    rw [e]; simp
theorem set_self {m : B} {k : Nat} {c : UInt8} (h : m[k]? = some c) : m.set k c = m := by
  obtain ⟨h1, h2⟩ := List.getElem?_eq_some_iff.1 h
  rw [← h2]; exact List.set_getElem_self h1
theorem Inv.lf {f : Nat → Bool} {l : B} {E k : Nat} {nb : Bool} {m : B} (h : Inv f l E k nb m) (hk : k < E) (hE : E ≤ l.length) (hc : m[k]? = some 10) : Inv f l E (k + 1) true m := by
  have := h.step (nb' := true) (c' := 10) hk hE hc (fun r => by rw [caseG, if_pos rfl])
  rwa [set_self hc] at this
theorem Inv.colon {f : Nat → Bool} {l : B} {E k : Nat} {nb : Bool} {m : B} (h : Inv f l E k nb m) (hk : k < E) (hE : E ≤ l.length) (hc : m[k]? = some 58) : Inv f l E (k + 1) false m := by
  have := h.step (nb' := false) (c' := 58) hk hE hc (fun r => by rw [caseG, if_neg (by decide), if_pos rfl])
  rwa [set_self hc] at this
theorem Inv.keep {f : Nat → Bool} {l : B} {E k : Nat} {nb : Bool} {m : B} {c : UInt8} (h : Inv f l E k nb m) (hk : k < E) (hE : E ≤ l.length) (hc : m[k]? = some c) (h1 : c ≠ 10) (h2 : c ≠ 58) (h3 : ¬ (nb = true ∧ f k = true ∧ letB c = true)) : Inv f l E (k + 1) nb m := by
  have := h.step (nb' := nb) (c' := c) hk hE hc (fun r => by rw [caseG, if_neg h1, if_neg h2, if_neg h3])
  rwa [set_self hc] at this
theorem Inv.flip {f : Nat → Bool} {l : B} {E k : Nat} {m : B} {c : UInt8} (h : Inv f l E k true m) (hk : k < E) (hE : E ≤ l.length) (hc : m[k]? = some c) (h1 : c ≠ 10) (h2 : c ≠ 58) (h3 : f k = true ∧ letB c = true) : Inv f l E (k + 1) true (m.set k (c ^^^ 32)) :=
  h.step (nb' := true) (c' := c ^^^ 32) hk hE hc (fun r => by rw [caseG, if_neg h1, if_neg h2, if_pos ⟨rfl, h3⟩])
theorem Inv.whole {f : Nat → Bool} {l : B} {E : Nat} {nb : Bool} {m : B} (h : Inv f l E E nb m) (hE : whereL crL l = E) : m = caseL f l := by
  have h1 : (l.take E).drop E = [] := List.drop_of_length_le (by rw [List.length_take]; omega)
  have h2 := h.cs
  rw [h1] at h2
  unfold caseL
  rw [hE, h2]
  show m = (m.take E ++ []) ++ l.drop E
  rw [List.append_nil, ← h.dr, List.take_append_drop]
theorem let_of {c : UInt8} : letB c = true ↔ ((97 ≤ (c.toNat : Int) ∧ (c.toNat : Int) ≤ 122) ∨ (65 ≤ (c.toNat : Int) ∧ (c.toNat : Int) ≤ 90)) := by
  unfold letB inB
  simp only [Bool.or_eq_true, Bool.and_eq_true, decide_eq_true_eq]
/-- Which letters are turned. -/
def turnF (z : Int) (i : Nat) : Bool := bits .and .u64 (z / 2 ^ (i % 64)) 1 == 1

set_option maxHeartbeats 8000000 in
theorem case_any (l : B) (v : Value) (z : Int) (w : World) (hR : Rd w 1 v l.length (bytesV l)) (hN : ∀ n c, v = .slice none n c → c = 0) (hg : Glob w) :
    Calls Tryz.prog 9 #[v, .int .u64 z] w fun e w' => e = .returned (.bool true) ∧ Below w.heap.size w w' := by
  obtain ⟨A, cp, rfl⟩ := hR.shape
  have HR := Lib.hid hR
  have HG := Lib.hid hg
  have HN : Hid (A = none → cp = 0) := fun h => hN _ _ (by rw [h])
  clear hR hg hN
  have CA := Lib.hid (fun w' (hb : Below w.heap.size w w') => awake_any w' (HG.out.next hb))
  by_cases hbig : 262144 < l.length
  · have hb1 : (262144 : Int) < l.length := by omega
    go_enter Tryz.func9, Tryz.ntmps9
    go_wp2_with fail
    refine (CA.out _ (Below.refl _ _)).mono ?_
    rintro e w4 ⟨rfl, hb4⟩
    go_wp2_with fail
    go_ret
    exact ⟨rfl, hb4⟩
  have hb1 : ¬ (262144 : Int) < l.length := by omega
  have hl : l.length ≤ 262144 := by omega
  clear hbig
  have kc := Go.Joins.run_convert_bytes_const_at (P := Tryz.prog) w 22 5 #[.int .u8 13, .int .u8 10, .int .u8 13, .int .u8 10] 4 4 w.heap.size rfl Tryz.underlying22 Tryz.underlying5
  go_enter Tryz.func9, Tryz.ntmps9
  go_wp2_with fail
  clear kc
  have hb0 := (Below.refl w.heap.size w).alloc (Nat.le_refl _) (.cells #[.int .u8 13, .int .u8 10, .int .u8 13, .int .u8 10] 5 (4, 5))
  have C := bindex_any l A cp w.heap.size _ (HR.out.below hb0) (by omega) HN.out rd_cr (HG.out.next hb0)
  by_cases hw : whereL crL l < l.length
  case neg =>
    rw [if_neg hw] at C
    have HC := Lib.hid C
    clear C hw
    refine HC.out.mono ?_
    rintro e w1 ⟨rfl, hb1'⟩
    have hr1 := hb0.trans (hb1'.mono (by simp))
    clear hb0 hb1' HC
    go_wp2_with fail
    refine (clone_any l _ w1 (HR.out.below hr1) (by omega)).mono ?_
    rintro e w2 ⟨v2, rfl, hown, hb2⟩
    have hr2 := hr1.next hb2
    have hRm := rd_of_own hown
    obtain ⟨A2, c2, rfl⟩ := hRm.shape
    clear hown hb2 hr1
    go_wp2_with fail
    refine (prog_any l _ w2 (HR.out.below hr2) (by omega) (HG.out.next hr2)).mono ?_
    rintro e w4 ⟨⟨v4, rfl, hq4⟩, hb4⟩
    have hr4 := hr2.next hb4
    obtain ⟨hsB, hsH⟩ := req_small l
    have hsame : progParse l = progParse l := rfl
    have HRm := Lib.hid hRm
    generalize hx : progParse l = x at hsB hsH hq4 ⊢
    have Hsame := Lib.hid (hsame.trans hx)
    clear hsame hx
    obtain ⟨r, n, st⟩ := x
    have HQ4 := Lib.hid hq4
    obtain ⟨A4, c4, B4, d4, rfl⟩ := req_agg hq4
    clear hq4
    go_wp2_with fail
    have hR5 : RC (w4.alloc (.cells #[.string (ofL r.m), .string (ofL r.p), .slice A4 r.h.length c4, .slice B4 r.b.length d4] 27)) w4.heap.size (ofL r.m) (ofL r.p) (.slice A4 r.h.length c4) (.slice B4 r.b.length d4) := heap_alloc_new _ _
    have hb5 := (Below.refl w4.heap.size w4).alloc (Nat.le_refl _) (.cells #[.string (ofL r.m), .string (ofL r.p), .slice A4 r.h.length c4, .slice B4 r.b.length d4] 27)
    generalize w4.alloc (.cells #[.string (ofL r.m), .string (ofL r.p), .slice A4 r.h.length c4, .slice B4 r.b.length d4] 27) = w5 at *
    have hr5 := hr4.next hb5
    have hb35 := hb4.next hb5
    refine (prog_any l _ w5 (HRm.out.below hb35) (by omega) (HG.out.next hr5)).mono ?_
    rintro e w6 ⟨⟨v6, rfl, hq6⟩, hb6⟩
    rw [Hsame.out] at hq6 ⊢
    have HQ6 := Lib.hid hq6
    obtain ⟨A6, c6, B6, d6, rfl⟩ := req_agg hq6
    clear hq6
    have hR6 := hR5.below hb6
    have hr6 := hr5.next hb6
    have hb46 := hb5.next hb6
    clear hR5 hb5 hb35 hr5 hr4 hb4
    have hb7 := (Below.refl w6.heap.size w6).alloc (Nat.le_refl _) (.cells #[.string (ofL r.m), .string (ofL r.p), .slice A6 r.h.length c6, .slice B6 r.b.length d6] 27)
    have k0 := hR6.c0
    have k1 := hR6.c1
    have k2 := hR6.c2
    have k3 := hR6.c3
    have klt := hR6.lt
    go_wp2_with fail
    generalize w6.alloc (.cells #[.string (ofL r.m), .string (ofL r.p), .slice A6 r.h.length c6, .slice B6 r.b.length d6] 27) = w7 at *
    have hr7 := hr6.next hb7
    refine (same_any r _ _ w7 (reqV_below (req_of_own HQ4.out) (hb46.next hb7)) (reqV_below (req_of_own HQ6.out) hb7) (Nat.le_trans hsB (by decide)) (Nat.le_trans hsH (by decide))).mono ?_
    rintro e w8 ⟨rfl, hb8⟩
    have hr8 := hr7.next hb8
    go_wp2_with fail
    refine (CA.out _ hr8).mono ?_
    rintro e w9 ⟨rfl, hb9⟩
    go_wp2_with fail
    go_ret
    exact ⟨rfl, hr8.next hb9⟩
  rw [if_pos hw] at C
  have HC := Lib.hid C
  have hroom := whereL_room hw
  generalize hE : whereL crL l = E at *
  have HE := Lib.hid hE
  have HC' : Hid (E < l.length) := hw
  clear C hE
  have hEl : E < l.length := hw
  have hneg : ¬ (E : Int) < 0 := by omega
  have hpos : (0 : Int) ≤ E := by omega
  refine HC.out.mono ?_
  rintro e w1 ⟨rfl, hb1'⟩
  have hr1 := hb0.trans (hb1'.mono (by simp))
  clear hb0 hb1' HC hw
  go_wp2_with fail
  refine (clone_any l _ w1 (HR.out.below hr1) (by omega)).mono ?_
  rintro e w2 ⟨v2, rfl, hown, hb2⟩
  have hr2 := hr1.next hb2
  rcases row_of_own hown with h0 | ⟨g, cap, rfl, hg, _⟩
  · rw [h0] at hEl; exact absurd hEl (Nat.not_lt_zero _)
  have HO2 := Lib.hid hown
  have Hg := Lib.hid hg
  have HB2 := Lib.hid hb2
  clear hb2 hown hg
  go_wp2_with fail
  go_loopw [7, 28] (fun nm i wr => ∃ (k : Nat) (nb : Bool) (m : B), k ≤ E ∧ i = .int .i64 k ∧ nm = .bool nb ∧ Hid (Inv (turnF z) l E k nb m) ∧ Hid (wr.ownsRow w1.heap.size 5 1 (.slice (some ⟨g, 0, none⟩) l.length cap) l.length (bytesV m)) ∧ Below w1.heap.size w1 wr) (fun _ i _ => E - (intOf i).toNat)
  case atStart => exact ⟨0, false, l, Nat.zero_le _, rfl, rfl, (⟨rfl, rfl, by simp⟩ : Inv (turnF z) l E 0 false l), HO2.out, HB2.out⟩
  case round =>
    obtain ⟨k, nb, m, hk, rfl, rfl, Hm, Ho, hb⟩ := hrel
    by_cases hlt : k < E
    · have hkl : k < l.length := by omega
      obtain ⟨c, hh⟩ : ∃ c, m[k]? = some c := ⟨m[k]'(by have := Hm.out.len; omega), List.getElem?_eq_getElem _⟩
      have hcell : wr.cell? ⟨g, k, none⟩ = some (.int .u8 c.toNat) := by
        have hR := rd_of_own Ho.out
        rw [show l.length = m.length from Hm.out.len.symm] at hR
        obtain ⟨b, o, he, hc⟩ := hR.byteAt hh
        simp only [Option.some.injEq, Addr.mk.injEq] at he
        obtain ⟨rfl, rfl, _⟩ := he
        simpa using hc
      have hfr : wr.frozen? ⟨g, k, none⟩ = false := by
        obtain ⟨_, h2 | ⟨g', cap', cur, hv, _, hg', _⟩⟩ := Ho.out
        · cases h2.1
        · cases hv; exact Lib.frozen_of_heap hg' k
      have hcap : l.length ≤ cap := by obtain ⟨_, A', c', h2, h3, _⟩ := rd_of_own Ho.out; cases h2; exact h3
      have HH := Lib.hid hh
      clear hh
      by_cases h10 : c = 10
      · subst h10
        go_wp2_with fail
        go_roundw
        case rel => exact ⟨k + 1, true, m, by omega, by go_num, rfl, Hm.out.lf hlt (by omega) HH.out, Ho.out, hb⟩
        case measure => simp [intOf]; omega
      have e10 : ((c.toNat : Int) == 10) = false := by simp; intro e; exact h10 (UInt8.toNat_inj.1 (by show c.toNat = 10; omega))
      by_cases h58 : c = 58
      · subst h58
        clear h10
        go_wp2_with fail
        go_roundw
        case rel => exact ⟨k + 1, false, m, by omega, by go_num, rfl, Hm.out.colon hlt (by omega) HH.out, Ho.out, hb⟩
        case measure => simp [intOf]; omega
      have e58 : ((c.toNat : Int) == 58) = false := by simp; intro e; exact h58 (UInt8.toNat_inj.1 (by show c.toNat = 58; omega))
      have H10 := Lib.hid h10
      have H58 := Lib.hid h58
      clear h10 h58
      cases nb
      · go_wp2_with fail
        go_roundw
        case rel => exact ⟨k + 1, false, m, by omega, by go_num, rfl, Hm.out.keep hlt (by omega) HH.out H10.out H58.out (fun h => by cases h.1), Ho.out, hb⟩
        case measure => simp [intOf]; omega
      cases hf : (bits .and .u64 (z / 2 ^ (k % 64)) 1 == 1)
      · have Hf := Lib.hid hf
        go_wp2_with fail
        go_roundw
        case rel => exact ⟨k + 1, true, m, by omega, by go_num, rfl, Hm.out.keep hlt (by omega) HH.out H10.out H58.out (fun h => by have := h.2.1; unfold turnF at this; rw [Hf.out] at this; cases this), Ho.out, hb⟩
        case measure => simp [intOf]; omega
      have Hf : Hid (turnF z k = true) := hf
      by_cases hlet : letB c = true
      · have Hl := Lib.hid hlet
        have hx := xor_val c
        have hcase : (97 ≤ (c.toNat : Int) ∧ (c.toNat : Int) ≤ 122) ∨ (¬ 97 ≤ (c.toNat : Int) ∧ 65 ≤ (c.toNat : Int) ∧ (c.toNat : Int) ≤ 90) := by
          have := let_of.1 hlet; omega
        clear hlet
        rcases hcase with ⟨r1, r2⟩ | ⟨r1, r3, r4⟩
        all_goals
          go_wp2_with fail
          go_roundw
          case rel =>
            refine ⟨k + 1, true, m.set k (c ^^^ 32), by omega, by go_num, rfl, Hm.out.flip hlt (by omega) HH.out H10.out H58.out ⟨Hf.out, Hl.out⟩, ?_, hb.setCell (p := ⟨g, k, none⟩) Hg.out _⟩
            have ho := own_store (l := m) (by rw [Hm.out.len]; exact Ho.out) k (c ^^^ 32)
            rw [List.length_set, Hm.out.len] at ho
            exact ho
          case measure => simp [intOf]; omega
      · have Hl := Lib.hid hlet
        have hcase : (97 ≤ (c.toNat : Int) ∧ ¬ (c.toNat : Int) ≤ 122 ∧ 65 ≤ (c.toNat : Int) ∧ ¬ (c.toNat : Int) ≤ 90) ∨ (¬ 97 ≤ (c.toNat : Int) ∧ 65 ≤ (c.toNat : Int) ∧ ¬ (c.toNat : Int) ≤ 90) ∨ (¬ 97 ≤ (c.toNat : Int) ∧ ¬ 65 ≤ (c.toNat : Int)) := by
          have hn : ¬ ((97 ≤ (c.toNat : Int) ∧ (c.toNat : Int) ≤ 122) ∨ (65 ≤ (c.toNat : Int) ∧ (c.toNat : Int) ≤ 90)) := fun h => hlet (let_of.2 h)
          omega
        clear hlet
        rcases hcase with ⟨r1, r2, r3, r4⟩ | ⟨r1, r3, r4⟩ | ⟨r1, r3⟩
        all_goals
          go_wp2_with fail
          go_roundw
          case rel => exact ⟨k + 1, true, m, by omega, by go_num, rfl, Hm.out.keep hlt (by omega) HH.out H10.out H58.out (fun h => Hl.out h.2.2), Ho.out, hb⟩
          case measure => simp [intOf]; omega
    · have hkE : k = E := by omega
      subst hkE
      have hm := Hm.out.whole HE.out
      have hlm : m.length = l.length := Hm.out.len
      have hmp : refParse m = refParse l := by rw [hm]; exact case_law _ _
      have hRm : Rd wr 1 (.slice (some ⟨g, 0, none⟩) l.length cap) m.length (bytesV m) := by rw [hlm]; exact rd_of_own Ho.out
      have hr3 := hr1.next hb
      clear hm hlt Ho
      have Hmp := Lib.hid hmp
      clear hmp
      go_wp2_with fail
      refine (prog_any l _ wr (HR.out.below hr3) (by omega) (HG.out.next hr3)).mono ?_
      rintro e w4 ⟨⟨v4, rfl, hq4⟩, hb4⟩
      have hr4 := hr3.next hb4
      obtain ⟨hsB, hsH⟩ := req_small l
      have hsame : progParse m = progParse l := by rw [parse_law, parse_law]; exact Hmp.out
      have HRm := Lib.hid hRm
      generalize hx : progParse l = x at hsB hsH hq4 ⊢
      have Hsame := Lib.hid (hsame.trans hx)
      clear hsame hx
      obtain ⟨r, n, st⟩ := x
      have HQ4 := Lib.hid hq4
      obtain ⟨A4, c4, B4, d4, rfl⟩ := req_agg hq4
      clear hq4
      go_wp2_with fail
      have hR5 : RC (w4.alloc (.cells #[.string (ofL r.m), .string (ofL r.p), .slice A4 r.h.length c4, .slice B4 r.b.length d4] 27)) w4.heap.size (ofL r.m) (ofL r.p) (.slice A4 r.h.length c4) (.slice B4 r.b.length d4) := heap_alloc_new _ _
      have hb5 := (Below.refl w4.heap.size w4).alloc (Nat.le_refl _) (.cells #[.string (ofL r.m), .string (ofL r.p), .slice A4 r.h.length c4, .slice B4 r.b.length d4] 27)
      generalize w4.alloc (.cells #[.string (ofL r.m), .string (ofL r.p), .slice A4 r.h.length c4, .slice B4 r.b.length d4] 27) = w5 at *
      have hr5 := hr4.next hb5
      have hb35 := hb4.next hb5
      refine (prog_any m _ w5 (HRm.out.below hb35) (by omega) (HG.out.next hr5)).mono ?_
      rintro e w6 ⟨⟨v6, rfl, hq6⟩, hb6⟩
      rw [Hsame.out] at hq6 ⊢
      have HQ6 := Lib.hid hq6
      obtain ⟨A6, c6, B6, d6, rfl⟩ := req_agg hq6
      clear hq6
      have hR6 := hR5.below hb6
      have hr6 := hr5.next hb6
      have hb46 := hb5.next hb6
      clear hR5 hb5 hb35 hr5 hr4 hb4
      have hb7 := (Below.refl w6.heap.size w6).alloc (Nat.le_refl _) (.cells #[.string (ofL r.m), .string (ofL r.p), .slice A6 r.h.length c6, .slice B6 r.b.length d6] 27)
      have k0 := hR6.c0
      have k1 := hR6.c1
      have k2 := hR6.c2
      have k3 := hR6.c3
      have klt := hR6.lt
      go_wp2_with fail
      generalize w6.alloc (.cells #[.string (ofL r.m), .string (ofL r.p), .slice A6 r.h.length c6, .slice B6 r.b.length d6] 27) = w7 at *
      have hr7 := hr6.next hb7
      refine (same_any r _ _ w7 (reqV_below (req_of_own HQ4.out) (hb46.next hb7)) (reqV_below (req_of_own HQ6.out) hb7) (Nat.le_trans hsB (by decide)) (Nat.le_trans hsH (by decide))).mono ?_
      rintro e w8 ⟨rfl, hb8⟩
      have hr8 := hr7.next hb8
      go_wp2_with fail
      refine (CA.out _ hr8).mono ?_
      rintro e w9 ⟨rfl, hb9⟩
      go_wp2_with fail
      go_ret
      exact ⟨rfl, hr8.next hb9⟩
end Go.Proofs.YtmhgnaemafohfaaGreatDoor
