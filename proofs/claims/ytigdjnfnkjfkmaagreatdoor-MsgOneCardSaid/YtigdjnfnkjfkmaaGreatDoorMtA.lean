/- The message that a text tells (msg.Read). Conditions: the text is small. -/
import Derived.Test.YtigdjnfnkjfkmaaGreatDoorMsgM
import Derived.Test.YtigdjnfnkjfkmaaGreatDoorMsgI
namespace Go.Proofs.YtigdjnfnkjfkmaaGreatDoor
open Go.RowKit
set_option linter.unusedVariables false
set_option linter.unusedSimpArgs false
set_option maxRecDepth 100000

theorem wf_int {v : J} (h : wfJ v = true) : I64 v.int := by
  cases v with
  | mk k n t ns is =>
    rw [wfJ] at h
    simp only [Bool.and_eq_true, decide_eq_true_eq] at h
    exact ⟨h.1.1, h.1.2⟩
theorem wf_items {v y : J} (h : wfJ v = true) (hy : y ∈ v.items) : wfJ y = true := by
  cases v with
  | mk k n t ns is =>
    rw [wfJ] at h
    simp only [Bool.and_eq_true] at h
    exact wfs_all.1 h.2 y hy
theorem objR_wf {v : J} (h : wfJ v = true) (ns : List B) : ∀ y ∈ (objR v ns).2, wfJ y = true := by
  intro y hy
  unfold objR at hy
  obtain ⟨s, -, rfl⟩ := List.mem_map.1 hy
  have h0 : wfJ J0 = true := rfl
  unfold getJ
  split
  · split
    · cases hq : v.items[List.idxOf s v.names]? with
      | none => exact h0
      | some z => exact wf_items h (List.mem_of_getElem? hq)
    · exact h0
  · exact h0
theorem log_id {v : J} (h : wfJ v = true) : I64 (logR v).2.id := by
  have hw := objR_wf h [clientN, idN, mN]
  obtain ⟨⟨b, l⟩, hl⟩ : ∃ q, objR v [clientN, idN, mN] = q := ⟨_, rfl⟩
  have hll : l.length = 3 := by have := congrArg (fun p => p.2.length) hl; simpa [objR] using this.symm
  rw [hl] at hw
  obtain ⟨x0, x1, x2, rfl⟩ := len3 hll
  have e : (logR v).2 = ⟨x0.text, x1.int, (mutR x2).2⟩ := by unfold logR; rw [hl]; rfl
  rw [e]
  exact wf_int (hw x1 (by simp))
theorem item_ok {v : J} {c : B} (h : wfJ v = true) (hw : wtJ v ≤ 1048576) (hc : c.length ≤ 1048576) : LoS (itemR c v).2 ∧ I64 (itemR c v).2.id := by
  have h1 := objR_wf h [idN, mN]
  have h2 := objR_wt v [idN, mN]
  obtain ⟨⟨b, l⟩, hl⟩ : ∃ q, objR v [idN, mN] = q := ⟨_, rfl⟩
  have hll : l.length = 2 := by have := congrArg (fun p => p.2.length) hl; simpa [objR] using this.symm
  rw [hl] at h1 h2
  obtain ⟨x0, x1, rfl⟩ := len2 hll
  have e : (itemR c v).2 = ⟨c, x0.int, (mutR x1).2⟩ := by unfold itemR; rw [hl]; rfl
  rw [e]
  obtain ⟨g2, g3, g4⟩ := mut_small (v := x1) (by have := h2 x1 (by simp); omega)
  exact ⟨⟨hc, g2, g3, g4⟩, wf_int (h1 x0 (by simp))⟩
theorem i64_0 : I64 0 := ⟨by decide, by decide⟩
theorem msok_plain {k f q a t : Int} {c : B} (hc : c.length ≤ 1048576) (hf : I64 f) (hq : I64 q) (ha : I64 a) (ht : I64 t) : MsOK ⟨k, c, f, q, a, t, []⟩ :=
  ⟨hc, Nat.zero_le _, fun x hx => (by cases hx), fun x hx => (by cases hx), hf, hq, ha, ht⟩
theorem items_len (v : J) : v.items.length ≤ wtJ v := by
  cases v with
  | mk k n t ns is => rw [wtJ]; have := wts_len is; show is.length ≤ _; omega
theorem msg_small {v : J} (ty : B) (hw : wtJ v ≤ 1048576) (hf : wfJ v = true) : MsOK (msgR v ty).2 := by
  have hA := objR_wt v
  have hB := fun ns => objR_wf hf ns
  have hT := fun (y : J) (h : wtJ y ≤ wtJ v) => Nat.le_trans (text_le y) (Nat.le_trans h hw)
  unfold msgR
  split
  · have h1 := hA [typeN, clientN, listN]
    have h2 := hB [typeN, clientN, listN]
    obtain ⟨⟨b, l⟩, hl⟩ : ∃ q, objR v [typeN, clientN, listN] = q := ⟨_, rfl⟩
    have hll : l.length = 3 := by have := congrArg (fun p => p.2.length) hl; simpa [objR] using this.symm
    rw [hl] at h1 h2 ⊢
    obtain ⟨x0, x1, x2, rfl⟩ := len3 hll
    have hi : ∀ y ∈ ((x2.items.map (itemR x1.text)).map (·.2)), LoS y ∧ I64 y.id := fun y hy => by
      obtain ⟨q, hq, rfl⟩ := List.mem_map.1 hy
      obtain ⟨z, hz, rfl⟩ := List.mem_map.1 hq
      exact item_ok (wf_items (h2 x2 (by simp)) hz) (Nat.le_trans (items_wt hz) (Nat.le_trans (h1 x2 (by simp)) hw)) (hT x1 (h1 x1 (by simp)))
    exact ⟨hT x1 (h1 x1 (by simp)), by show ((x2.items.map (itemR x1.text)).map (·.2)).length ≤ _; rw [List.length_map, List.length_map]; exact Nat.le_trans (items_len x2) (Nat.le_trans (h1 x2 (by simp)) hw), fun y hy => (hi y hy).1, fun y hy => (hi y hy).2, i64_0, i64_0, i64_0, i64_0⟩
  split
  · have h2 := hB [typeN, lastN, topN]
    obtain ⟨⟨b, l⟩, hl⟩ : ∃ q, objR v [typeN, lastN, topN] = q := ⟨_, rfl⟩
    have hll : l.length = 3 := by have := congrArg (fun p => p.2.length) hl; simpa [objR] using this.symm
    rw [hl] at h2 ⊢
    obtain ⟨x0, x1, x2, rfl⟩ := len3 hll
    exact msok_plain (Nat.zero_le _) i64_0 i64_0 (wf_int (h2 x1 (by simp))) (wf_int (h2 x2 (by simp)))
  split
  · have h1 := hA [typeN, clientN, cookieN]
    have h2 := hB [typeN, clientN, cookieN]
    obtain ⟨⟨b, l⟩, hl⟩ : ∃ q, objR v [typeN, clientN, cookieN] = q := ⟨_, rfl⟩
    have hll : l.length = 3 := by have := congrArg (fun p => p.2.length) hl; simpa [objR] using this.symm
    rw [hl] at h1 h2 ⊢
    obtain ⟨x0, x1, x2, rfl⟩ := len3 hll
    exact msok_plain (hT x1 (h1 x1 (by simp))) i64_0 (wf_int (h2 x2 (by simp))) i64_0 i64_0
  split
  · have h1 := hA [typeN, fromN, cookieN, lastN, topN, listN]
    have h2 := hB [typeN, fromN, cookieN, lastN, topN, listN]
    obtain ⟨⟨b, l⟩, hl⟩ : ∃ q, objR v [typeN, fromN, cookieN, lastN, topN, listN] = q := ⟨_, rfl⟩
    have hll : l.length = 6 := by have := congrArg (fun p => p.2.length) hl; simpa [objR] using this.symm
    rw [hl] at h1 h2 ⊢
    obtain ⟨x0, x1, x2, x3, x4, x5, rfl⟩ := len6 hll
    have hi : ∀ y ∈ ((x5.items.map logR).map (·.2)), LoS y ∧ I64 y.id := fun y hy => by
      obtain ⟨q, hq, rfl⟩ := List.mem_map.1 hy
      obtain ⟨z, hz, rfl⟩ := List.mem_map.1 hq
      exact ⟨log_small (Nat.le_trans (items_wt hz) (Nat.le_trans (h1 x5 (by simp)) hw)), log_id (wf_items (h2 x5 (by simp)) hz)⟩
    exact ⟨Nat.zero_le _, by show ((x5.items.map logR).map (·.2)).length ≤ _; rw [List.length_map, List.length_map]; exact Nat.le_trans (items_len x5) (Nat.le_trans (h1 x5 (by simp)) hw), fun y hy => (hi y hy).1, fun y hy => (hi y hy).2, wf_int (h2 x1 (by simp)), wf_int (h2 x2 (by simp)), wf_int (h2 x3 (by simp)), wf_int (h2 x4 (by simp))⟩
  split
  · have h2 := hB [typeN, topN]
    obtain ⟨⟨b, l⟩, hl⟩ : ∃ q, objR v [typeN, topN] = q := ⟨_, rfl⟩
    have hll : l.length = 2 := by have := congrArg (fun p => p.2.length) hl; simpa [objR] using this.symm
    rw [hl] at h2 ⊢
    obtain ⟨x0, x1, rfl⟩ := len2 hll
    exact msok_plain (Nat.zero_le _) i64_0 i64_0 i64_0 (wf_int (h2 x1 (by simp)))
  · exact msok_plain (Nat.zero_le _) i64_0 i64_0 i64_0 i64_0
def Ms0 : Ms := ⟨0, [], 0, 0, 0, 0, []⟩
/-- The type's member; its text; the message that a text tells: is there one, and which. -/
def typeJ (v : J) : J := (getJ v typeN).getD J0
def readB (s : B) : Bool := decide ((parseJ s).2.2 = 0) && decide ((typeJ (parseJ s).1).kind = 3) && !(msgR (parseJ s).1 (typeJ (parseJ s).1).text).1 && okMs (msgR (parseJ s).1 (typeJ (parseJ s).1).text).2
def readM (s : B) : Ms := if readB s = true then (msgR (parseJ s).1 (typeJ (parseJ s).1).text).2 else Ms0
/-- What msg.Read answers. -/
def ReadP (m : Ms) (b : Bool) (w : World) (e : Ending) (w' : World) : Prop := ∃ A c, e = .returned (.tuple #[.agg #[.int .i64 m.kind, .string (ofL m.client), .int .i64 m.sfrom, .int .i64 m.cookie, .int .i64 m.last, .int .i64 m.top, .slice A m.list.length c], .int .i64 (errM b)]) ∧
  RdP (fun k => k < w'.heap.size) w' 6 (.slice A m.list.length c) m.list.length (logsV m.list) ∧ Below w.heap.size w w'
set_option maxHeartbeats 16000000 in
theorem mread_any (s : B) (hs : s.length ≤ 1048576) (w : World) (hG : Good w) :
    Calls Tryz.prog 17 #[.string (ofL s)] w (ReadP (readM s) (readB s) w) := by
  obtain ⟨v, p, n, hp⟩ : ∃ v p n, parseJ s = (v, p, n) := ⟨_, _, _, rfl⟩
  have K1 := fun (w' : World) (hb : Below w.heap.size w w') => parse_at (ofL s) (by rw [size_ofL]; omega) w' (hG.below hb).1 (v := v) (p := p) (n := n) (by rw [toL_ofL]; exact hp)
  have hwt : wtJ v ≤ 1048576 := by
    by_cases hn : n = 0
    · subst hn; have := parse_wt hp; omega
    · have := parse_bad hp hn; rw [this]; decide
  have hwf : wfJ v = true := by
    by_cases hn : n = 0
    · subst hn; exact (parse_can hp).1.2
    · have := parse_bad hp hn; rw [this]; rfl
  obtain ⟨g, hgj⟩ : ∃ g, g = getJ v typeN := ⟨_, rfl⟩
  obtain ⟨y, hy⟩ : ∃ y, y = g.getD J0 := ⟨_, rfl⟩
  have hty : typeJ v = y := by unfold typeJ; rw [hy, hgj]
  have K2 := fun (N I : Value) (w' : World) hR => jget_any v N I typeN w' hR hwt
  rw [← hgj] at K2
  obtain ⟨mb, m, hm⟩ : ∃ mb m, msgR v y.text = (mb, m) := ⟨_, _, rfl⟩
  have hok := msg_small y.text hwt hwf
  rw [hm] at hok
  have K3 := fun (N I : Value) (rb : Nat) (b : Bool) (w' : World) hR hB => rmsg_any v N I y.text rb b w' hR hwt hB
  rw [hm] at K3
  have K4 := fun (A : Option Addr) (d : Nat) (w' : World) hR => mcheck_any m A d w' hR hok
  have hgb : readB s = (decide (n = 0) && decide (y.kind = 3) && !mb && okMs m) := by unfold readB; rw [hp]; simp only; rw [hty, hm]
  have hgm : readM s = if readB s = true then m else Ms0 := by unfold readM; rw [hp]; simp only; rw [hty, hm]
  obtain ⟨gb, hgbe⟩ : ∃ gb, gb = readB s := ⟨_, rfl⟩
  obtain ⟨gm, hgme⟩ : ∃ gm, gm = readM s := ⟨_, rfl⟩
  rw [← hgbe, ← hgme]
  rw [← hgbe] at hgb hgm
  rw [← hgme] at hgm
  have H1 := Lib.hid K1
  have H2 := Lib.hid K2
  have H3 := Lib.hid K3
  have H4 := Lib.hid K4
  have Hgb := Lib.hid hgb
  have Hgm := Lib.hid hgm
  have Hy := Lib.hid hy
  clear K1 K2 K3 K4 hgb hgm hgbe hgme hok hm hty hgj hwt hwf hp hs hG hy
  have hall : ∃ W, W = w.alloc (.cells #[.int .i64 0, .string ⟨#[]⟩, .int .i64 0, .int .i64 0, .int .i64 0, .int .i64 0, .slice none 0 0] 24) ∧ CB W w.heap.size #[.int .i64 0, .string ⟨#[]⟩, .int .i64 0, .int .i64 0, .int .i64 0, .int .i64 0, .slice none 0 0] 24 ∧ Below w.heap.size w W := ⟨_, rfl, CB.new w _ _, (Below.refl _ _).alloc (Nat.le_refl _) _⟩
  obtain ⟨w1, hw1, hA, hb1⟩ := hall
  go_enter Tryz.func17, Tryz.ntmps17
  go_upto_region 1 with fail
  rw [← hw1]
  clear hw1
  have HP := Lib.hid (H1.out w1 hb1)
  have HA := Lib.hid hA
  have HB := Lib.hid hb1
  have hz1 := hA.lt
  clear hA hb1
  go_wp2_with fail
  (with_reducible refine HP.out.mono ?_); rintro e w2 ⟨A1, m1, c1, A2, m2, c2, rfl, hR2, hb2⟩
  have hb3 := (Below.refl w2.heap.size w2).alloc (Nat.le_refl _) (.cells #[.int .i64 v.kind, .int .i64 v.int, .string (ofL v.text), .slice A1 m1 c1, .slice A2 m2 c2] 49)
  have hk3 := CB.new w2 #[.int .i64 v.kind, .int .i64 v.int, .string (ofL v.text), .slice A1 m1 c1, .slice A2 m2 c2] 49
  have HA := Lib.hid ((HA.out.below hb2).below hb3)
  have HB := Lib.hid ((HB.out.next hb2).next hb3)
  have hz2 : w1.heap.size ≤ w2.heap.size := hb2.size
  have hR3 := RJ.below hR2 hb3
  go_upto_region 2 with fail
  generalize w2.alloc (.cells #[.int .i64 v.kind, .int .i64 v.int, .string (ofL v.text), .slice A1 m1 c1, .slice A2 m2 c2] 49) = w3 at *
  have hz3 : w2.heap.size < w3.heap.size := hk3.lt
  have hG2 := H2.out _ _ w3 (RJ.mono (fun k hk _ => by have hk' : k < w2.heap.size := hk; show k < w3.heap.size; omega) _ _ hR3)
  rw [show ofL typeN = ⟨#[116, 121, 112, 101]⟩ from rfl] at hG2
  have HG2 := Lib.hid hG2
  have d0 : w3.cell? ⟨w2.heap.size, 0, none⟩ = some (.int .i64 v.kind) := hk3.c 0 rfl
  have d1 : w3.cell? ⟨w2.heap.size, 1, none⟩ = some (.int .i64 v.int) := hk3.c 1 rfl
  have d2 : w3.cell? ⟨w2.heap.size, 2, none⟩ = some (.string (ofL v.text)) := hk3.c 2 rfl
  have d3 : w3.cell? ⟨w2.heap.size, 3, none⟩ = some (.slice A1 m1 c1) := hk3.c 3 rfl
  have d4 : w3.cell? ⟨w2.heap.size, 4, none⟩ = some (.slice A2 m2 c2) := hk3.c 4 rfl
  have Hk3 := Lib.hid hk3
  have HR3 := Lib.hid hR3
  clear hG2 hR2 hR3 hk3 hb2 hb3 HP
  go_wp2_with fail
  (with_reducible refine HG2.out.mono ?_); rintro e w4 ⟨A3, m3, c3, A4, m4, c4, rfl, -, hb4⟩
  rw [← Hy.out]
  have hb5 := (Below.refl w4.heap.size w4).alloc (Nat.le_refl _) (.cells #[.int .i64 y.kind, .int .i64 y.int, .string (ofL y.text), .slice A3 m3 c3, .slice A4 m4 c4] 49)
  have hk5 := CB.new w4 #[.int .i64 y.kind, .int .i64 y.int, .string (ofL y.text), .slice A3 m3 c3, .slice A4 m4 c4] 49
  have HA := Lib.hid ((HA.out.below hb4).below hb5)
  have HB := Lib.hid ((HB.out.next hb4).next hb5)
  have Hk3 := Lib.hid ((Hk3.out.below hb4).below hb5)
  have HR3 := Lib.hid (RJ.below (RJ.below HR3.out hb4) hb5)
  have hz4 : w3.heap.size ≤ w4.heap.size := hb4.size
  go_upto_region 3 with fail
  generalize w4.alloc (.cells #[.int .i64 y.kind, .int .i64 y.int, .string (ofL y.text), .slice A3 m3 c3, .slice A4 m4 c4] 49) = w5 at *
  have hz5 : w4.heap.size < w5.heap.size := hk5.lt
  have y0 : w5.cell? ⟨w4.heap.size, 0, none⟩ = some (.int .i64 y.kind) := hk5.c 0 rfl
  have Hk5 := Lib.hid hk5
  clear d0 d1 d2 d3 d4 hb4 hb5 hk5 HG2
  obtain ⟨bd, hbd⟩ : ∃ bd, bd = ((n : Int) != 0 || y.kind != 3) := ⟨_, rfl⟩
  have Hbd := Lib.hid hbd
  clear hbd
  go_cut [9] (fun a wx => a = .pointer (some ⟨w5.heap.size, 0, none⟩) ∧ wx = w5.alloc (.cells #[.bool bd] 70))
  case first =>
    by_cases h0 : n = 0
    · subst h0
      have he := Lib.hid (show bd = (y.kind != 3) by rw [Hbd.out]; simp)
      go_wp2_with fail
      go_meet
      exact ⟨rfl, by rw [he.out]⟩
    · have hn1 : ((n : Int) != 0) = true := bne_iff_ne.2 (by omega)
      have he := Lib.hid (show bd = true by rw [Hbd.out, hn1]; rfl)
      go_wp2_with fail
      go_meet
      exact ⟨rfl, by rw [he.out]⟩
  case rest =>
    obtain ⟨rfl, rfl⟩ := hcut
    have hb6 := (Below.refl w5.heap.size w5).alloc (Nat.le_refl _) (.cells #[.bool bd] 70)
    have hk6 : RB (w5.alloc (.cells #[.bool bd] 70)) w5.heap.size bd := heap_alloc_new w5 _
    have hR6 := RJ.mono (Q := fun k => k < (w5.alloc (.cells #[.bool bd] 70)).heap.size ∧ ¬ k = w5.heap.size) (fun k hk _ => by have hk' : k < w2.heap.size := hk; rw [World.size_alloc]; exact ⟨by omega, by omega⟩) _ _ (RJ.below HR3.out hb6)
    have hv6 := Hk3.out.below hb6
    have hy6 := Hk5.out.below hb6
    have HA := Lib.hid (HA.out.below hb6)
    have HB := Lib.hid (HB.out.next hb6)
    generalize w5.alloc (.cells #[.bool bd] 70) = w6 at *
    have HMs := Lib.hid (H3.out _ _ w5.heap.size bd w6 hR6 hk6)
    have hz6 : w5.heap.size < w6.heap.size := hk6.lt
    have d0 : w6.cell? ⟨w2.heap.size, 0, none⟩ = some (.int .i64 v.kind) := hv6.c 0 rfl
    have d1 : w6.cell? ⟨w2.heap.size, 1, none⟩ = some (.int .i64 v.int) := hv6.c 1 rfl
    have d2 : w6.cell? ⟨w2.heap.size, 2, none⟩ = some (.string (ofL v.text)) := hv6.c 2 rfl
    have d3 : w6.cell? ⟨w2.heap.size, 3, none⟩ = some (.slice A1 m1 c1) := hv6.c 3 rfl
    have d4 : w6.cell? ⟨w2.heap.size, 4, none⟩ = some (.slice A2 m2 c2) := hv6.c 4 rfl
    have y2 : w6.cell? ⟨w4.heap.size, 2, none⟩ = some (.string (ofL y.text)) := hy6.c 2 rfl
    clear hb6 hk6 hR6 hv6 hy6 y0
    go_wp2_with fail
    (with_reducible refine HMs.out.mono ?_); rintro e w7 ⟨AM, cM, rfl, hM, hrb, ht7⟩
    have hb8 := (Below.refl w7.heap.size w7).alloc (Nat.le_refl _) (.cells #[.int .i64 m.kind, .string (ofL m.client), .int .i64 m.sfrom, .int .i64 m.cookie, .int .i64 m.last, .int .i64 m.top, .slice AM m.list.length cM] 24)
    have hk8 := CB.new w7 #[.int .i64 m.kind, .string (ofL m.client), .int .i64 m.sfrom, .int .i64 m.cookie, .int .i64 m.last, .int .i64 m.top, .slice AM m.list.length cM] 24
    have HA := Lib.hid ((HA.out.touch ht7 (by omega)).below hb8)
    have HB := Lib.hid ((HB.out.trans (ht7.below (B := w.heap.size) (fun k hk e => by have e' : k = w5.heap.size := e; omega) (by omega))).next hb8)
    have hz7 : w6.heap.size ≤ w7.heap.size := ht7.size
    have hrb8 := hrb.below hb8
    have hM8 := hM.keep (touch_keeps (Touch.of_below (F := fun _ => False) hb8) (fun _ _ e => e))
    go_upto_region 5 with fail
    generalize w7.alloc (.cells #[.int .i64 m.kind, .string (ofL m.client), .int .i64 m.sfrom, .int .i64 m.cookie, .int .i64 m.last, .int .i64 m.top, .slice AM m.list.length cM] 24) = w8 at *
    have hz8 : w7.heap.size < w8.heap.size := hk8.lt
    have g0 : w8.cell? ⟨w7.heap.size, 0, none⟩ = some (.int .i64 m.kind) := hk8.c 0 rfl
    have g1 : w8.cell? ⟨w7.heap.size, 1, none⟩ = some (.string (ofL m.client)) := hk8.c 1 rfl
    have g2 : w8.cell? ⟨w7.heap.size, 2, none⟩ = some (.int .i64 m.sfrom) := hk8.c 2 rfl
    have g3 : w8.cell? ⟨w7.heap.size, 3, none⟩ = some (.int .i64 m.cookie) := hk8.c 3 rfl
    have g4 : w8.cell? ⟨w7.heap.size, 4, none⟩ = some (.int .i64 m.last) := hk8.c 4 rfl
    have g5 : w8.cell? ⟨w7.heap.size, 5, none⟩ = some (.int .i64 m.top) := hk8.c 5 rfl
    have g6 : w8.cell? ⟨w7.heap.size, 6, none⟩ = some (.slice AM m.list.length cM) := hk8.c 6 rfl
    have r0 := hrb8.c
    have HM := Lib.hid hM8
    have hKc := H4.out AM cM w8 (hM8.mono (by decide) (fun k _ h => h))
    clear hrb ht7 hb8 hk8 HMs d0 d1 d2 d3 d4 hrb8 hM hM8 y2
    have hnn : (decide (n = 0) && decide (y.kind = 3)) = !bd := by
      rw [Hbd.out]
      by_cases h : n = 0
      · subst h
        by_cases h2 : y.kind = 3
        · rw [h2]; rfl
        · rw [decide_eq_false h2, bne_iff_ne.2 h2]; rfl
      · have h' : ¬ (n : Int) = 0 := by omega
        rw [decide_eq_false h, bne_iff_ne.2 h']; rfl
    have Hnn := Lib.hid hnn
    clear hnn
    obtain ⟨bq, hbq⟩ : ∃ bq, bq = (bd || mb) := ⟨_, rfl⟩
    rw [show (bd || (mb, m).1) = bq from hbq.symm] at r0
    have Hbq := Lib.hid hbq
    clear hbq
    cases bq with
    | true =>
      have hf : gb = false := by rw [Hgb.out]; rw [Hnn.out]; exact bq_true Hbq.out
      have Hf := Lib.hid hf
      have Hl := Lib.hid (show gm = Ms0 by rw [Hgm.out, hf]; rfl)
      clear hf
      clear hKc
      have a0 := HA.out.c 0 rfl
      have v0 := HA.out.f 0
      have a1 := HA.out.c 1 rfl
      have v1 := HA.out.f 1
      have a2 := HA.out.c 2 rfl
      have v2 := HA.out.f 2
      have a3 := HA.out.c 3 rfl
      have v3 := HA.out.f 3
      have a4 := HA.out.c 4 rfl
      have v4 := HA.out.f 4
      have a5 := HA.out.c 5 rfl
      have v5 := HA.out.f 5
      have a6 := HA.out.c 6 rfl
      have v6 := HA.out.f 6
      have ht := ((((((((Touch.refl (fun k => k = w.heap.size) w8).setCell (p := ⟨w.heap.size, 0, none⟩) rfl (.int .i64 0)).setCell (p := ⟨w.heap.size, 1, none⟩) rfl (.string ⟨#[]⟩)).setCell (p := ⟨w.heap.size, 2, none⟩) rfl (.int .i64 0)).setCell (p := ⟨w.heap.size, 3, none⟩) rfl (.int .i64 0)).setCell (p := ⟨w.heap.size, 4, none⟩) rfl (.int .i64 0)).setCell (p := ⟨w.heap.size, 5, none⟩) rfl (.int .i64 0)).setCell (p := ⟨w.heap.size, 6, none⟩) rfl (.slice none 0 0))
      have HAz := Lib.hid (((((((HA.out.set 0 (.int .i64 0)).set 1 (.string ⟨#[]⟩)).set 2 (.int .i64 0)).set 3 (.int .i64 0)).set 4 (.int .i64 0)).set 5 (.int .i64 0)).set 6 (.slice none 0 0))
      have HBz := Lib.hid (HB.out.trans (ht.below (B := w.heap.size) (fun k hk e => by have e' : k = w.heap.size := e; omega) HB.out.size))
      clear ht
      go_wp2_with fail
      generalize (((((((w8.setCell ⟨w.heap.size, 0, none⟩ (.int .i64 0)).setCell ⟨w.heap.size, 1, none⟩ (.string ⟨#[]⟩)).setCell ⟨w.heap.size, 2, none⟩ (.int .i64 0)).setCell ⟨w.heap.size, 3, none⟩ (.int .i64 0)).setCell ⟨w.heap.size, 4, none⟩ (.int .i64 0)).setCell ⟨w.heap.size, 5, none⟩ (.int .i64 0)).setCell ⟨w.heap.size, 6, none⟩ (.slice none 0 0)) = wz at *
      have c0' : wz.cell? ⟨w.heap.size, 0, none⟩ = some (.int .i64 0) := HAz.out.c 0 rfl
      have c1' : wz.cell? ⟨w.heap.size, 1, none⟩ = some (.string ⟨#[]⟩) := HAz.out.c 1 rfl
      have c2' : wz.cell? ⟨w.heap.size, 2, none⟩ = some (.int .i64 0) := HAz.out.c 2 rfl
      have c3' : wz.cell? ⟨w.heap.size, 3, none⟩ = some (.int .i64 0) := HAz.out.c 3 rfl
      have c4' : wz.cell? ⟨w.heap.size, 4, none⟩ = some (.int .i64 0) := HAz.out.c 4 rfl
      have c5' : wz.cell? ⟨w.heap.size, 5, none⟩ = some (.int .i64 0) := HAz.out.c 5 rfl
      have c6' : wz.cell? ⟨w.heap.size, 6, none⟩ = some (.slice none 0 0) := HAz.out.c 6 rfl
      refine bodyPost_ret (v := .tuple #[.agg #[.int .i64 0, .string ⟨#[]⟩, .int .i64 0, .int .i64 0, .int .i64 0, .int .i64 0, .slice none 0 0], .int .i64 130]) (by simp [results, Tryz.results17, go_sem, c0', c1', c2', c3', c4', c5', c6']) rfl ?_
      rw [Hf.out, Hl.out]
      exact ⟨none, 0, rfl, RdP.nil, HBz.out⟩
    | false =>
      cases hom : okMs m with
      | false =>
        rw [hom] at hKc
        have HK := Lib.hid hKc
        have hf : gb = false := by rw [Hgb.out]; rw [hom]; simp
        have Hf := Lib.hid hf
        have Hl := Lib.hid (show gm = Ms0 by rw [Hgm.out, hf]; rfl)
        clear hf
        clear hKc hom
        go_wp2_with fail
        (with_reducible refine HK.out.mono ?_); rintro e w9 ⟨rfl, hb9⟩
        have HA := Lib.hid (HA.out.below hb9)
        have HB := Lib.hid (HB.out.next hb9)
        have he1 : errM false = 130 := rfl
        clear hb9 g0 g1 g2 g3 g4 g5 g6 r0
        have a0 := HA.out.c 0 rfl
        have v0 := HA.out.f 0
        have a1 := HA.out.c 1 rfl
        have v1 := HA.out.f 1
        have a2 := HA.out.c 2 rfl
        have v2 := HA.out.f 2
        have a3 := HA.out.c 3 rfl
        have v3 := HA.out.f 3
        have a4 := HA.out.c 4 rfl
        have v4 := HA.out.f 4
        have a5 := HA.out.c 5 rfl
        have v5 := HA.out.f 5
        have a6 := HA.out.c 6 rfl
        have v6 := HA.out.f 6
        have ht := ((((((((Touch.refl (fun k => k = w.heap.size) w9).setCell (p := ⟨w.heap.size, 0, none⟩) rfl (.int .i64 0)).setCell (p := ⟨w.heap.size, 1, none⟩) rfl (.string ⟨#[]⟩)).setCell (p := ⟨w.heap.size, 2, none⟩) rfl (.int .i64 0)).setCell (p := ⟨w.heap.size, 3, none⟩) rfl (.int .i64 0)).setCell (p := ⟨w.heap.size, 4, none⟩) rfl (.int .i64 0)).setCell (p := ⟨w.heap.size, 5, none⟩) rfl (.int .i64 0)).setCell (p := ⟨w.heap.size, 6, none⟩) rfl (.slice none 0 0))
        have HAz := Lib.hid (((((((HA.out.set 0 (.int .i64 0)).set 1 (.string ⟨#[]⟩)).set 2 (.int .i64 0)).set 3 (.int .i64 0)).set 4 (.int .i64 0)).set 5 (.int .i64 0)).set 6 (.slice none 0 0))
        have HBz := Lib.hid (HB.out.trans (ht.below (B := w.heap.size) (fun k hk e => by have e' : k = w.heap.size := e; omega) HB.out.size))
        clear ht
        go_wp2_with fail
        generalize (((((((w9.setCell ⟨w.heap.size, 0, none⟩ (.int .i64 0)).setCell ⟨w.heap.size, 1, none⟩ (.string ⟨#[]⟩)).setCell ⟨w.heap.size, 2, none⟩ (.int .i64 0)).setCell ⟨w.heap.size, 3, none⟩ (.int .i64 0)).setCell ⟨w.heap.size, 4, none⟩ (.int .i64 0)).setCell ⟨w.heap.size, 5, none⟩ (.int .i64 0)).setCell ⟨w.heap.size, 6, none⟩ (.slice none 0 0)) = wz at *
        have c0' : wz.cell? ⟨w.heap.size, 0, none⟩ = some (.int .i64 0) := HAz.out.c 0 rfl
        have c1' : wz.cell? ⟨w.heap.size, 1, none⟩ = some (.string ⟨#[]⟩) := HAz.out.c 1 rfl
        have c2' : wz.cell? ⟨w.heap.size, 2, none⟩ = some (.int .i64 0) := HAz.out.c 2 rfl
        have c3' : wz.cell? ⟨w.heap.size, 3, none⟩ = some (.int .i64 0) := HAz.out.c 3 rfl
        have c4' : wz.cell? ⟨w.heap.size, 4, none⟩ = some (.int .i64 0) := HAz.out.c 4 rfl
        have c5' : wz.cell? ⟨w.heap.size, 5, none⟩ = some (.int .i64 0) := HAz.out.c 5 rfl
        have c6' : wz.cell? ⟨w.heap.size, 6, none⟩ = some (.slice none 0 0) := HAz.out.c 6 rfl
        refine bodyPost_ret (v := .tuple #[.agg #[.int .i64 0, .string ⟨#[]⟩, .int .i64 0, .int .i64 0, .int .i64 0, .int .i64 0, .slice none 0 0], .int .i64 130]) (by simp [results, Tryz.results17, go_sem, c0', c1', c2', c3', c4', c5', c6']) rfl ?_
        rw [Hf.out, Hl.out]
        exact ⟨none, 0, rfl, RdP.nil, HBz.out⟩
      | true =>
        rw [hom] at hKc
        have HK := Lib.hid hKc
        have hf : gb = true := by rw [Hgb.out]; rw [hom, Hnn.out]; exact bq_false Hbq.out
        have Hf := Lib.hid hf
        have Hl := Lib.hid (show gm = m by rw [Hgm.out, hf]; rfl)
        clear hf
        clear hKc hom
        go_wp2_with fail
        (with_reducible refine HK.out.mono ?_); rintro e w9 ⟨rfl, hb9⟩
        have HA := Lib.hid (HA.out.below hb9)
        have HB := Lib.hid (HB.out.next hb9)
        have HM := Lib.hid (HM.out.keep (touch_keeps (Touch.of_below (F := fun _ => False) hb9) (fun _ _ e => e)))
        have hw9 : w.heap.size < w6.heap.size := by omega
        have g0 := Below.keeps hb9 g0; have g1 := Below.keeps hb9 g1; have g2 := Below.keeps hb9 g2; have g3 := Below.keeps hb9 g3; have g4 := Below.keeps hb9 g4; have g5 := Below.keeps hb9 g5; have g6 := Below.keeps hb9 g6
        have he1 : errM true = 0 := rfl
        clear hb9 r0
        have a0 := HA.out.c 0 rfl
        have v0 := HA.out.f 0
        have a1 := HA.out.c 1 rfl
        have v1 := HA.out.f 1
        have a2 := HA.out.c 2 rfl
        have v2 := HA.out.f 2
        have a3 := HA.out.c 3 rfl
        have v3 := HA.out.f 3
        have a4 := HA.out.c 4 rfl
        have v4 := HA.out.f 4
        have a5 := HA.out.c 5 rfl
        have v5 := HA.out.f 5
        have a6 := HA.out.c 6 rfl
        have v6 := HA.out.f 6
        have ht := ((((((((Touch.refl (fun k => k = w.heap.size) w9).setCell (p := ⟨w.heap.size, 0, none⟩) rfl (.int .i64 m.kind)).setCell (p := ⟨w.heap.size, 1, none⟩) rfl (.string (ofL m.client))).setCell (p := ⟨w.heap.size, 2, none⟩) rfl (.int .i64 m.sfrom)).setCell (p := ⟨w.heap.size, 3, none⟩) rfl (.int .i64 m.cookie)).setCell (p := ⟨w.heap.size, 4, none⟩) rfl (.int .i64 m.last)).setCell (p := ⟨w.heap.size, 5, none⟩) rfl (.int .i64 m.top)).setCell (p := ⟨w.heap.size, 6, none⟩) rfl (.slice AM m.list.length cM))
        have HAz := Lib.hid (((((((HA.out.set 0 (.int .i64 m.kind)).set 1 (.string (ofL m.client))).set 2 (.int .i64 m.sfrom)).set 3 (.int .i64 m.cookie)).set 4 (.int .i64 m.last)).set 5 (.int .i64 m.top)).set 6 (.slice AM m.list.length cM))
        have HBz := Lib.hid (HB.out.trans (ht.below (B := w.heap.size) (fun k hk e => by have e' : k = w.heap.size := e; omega) HB.out.size))
        have HLz := Lib.hid ((HM.out.keep (touch_keeps ht (fun k hk e => by have e' : k = w.heap.size := e; omega))).mono (Q := fun k => k < (((((((w9.setCell ⟨w.heap.size, 0, none⟩ (.int .i64 m.kind)).setCell ⟨w.heap.size, 1, none⟩ (.string (ofL m.client))).setCell ⟨w.heap.size, 2, none⟩ (.int .i64 m.sfrom)).setCell ⟨w.heap.size, 3, none⟩ (.int .i64 m.cookie)).setCell ⟨w.heap.size, 4, none⟩ (.int .i64 m.last)).setCell ⟨w.heap.size, 5, none⟩ (.int .i64 m.top)).setCell ⟨w.heap.size, 6, none⟩ (.slice AM m.list.length cM)).heap.size) (by decide) (fun k _ h => h))
        clear ht
        go_wp2_with fail
        generalize (((((((w9.setCell ⟨w.heap.size, 0, none⟩ (.int .i64 m.kind)).setCell ⟨w.heap.size, 1, none⟩ (.string (ofL m.client))).setCell ⟨w.heap.size, 2, none⟩ (.int .i64 m.sfrom)).setCell ⟨w.heap.size, 3, none⟩ (.int .i64 m.cookie)).setCell ⟨w.heap.size, 4, none⟩ (.int .i64 m.last)).setCell ⟨w.heap.size, 5, none⟩ (.int .i64 m.top)).setCell ⟨w.heap.size, 6, none⟩ (.slice AM m.list.length cM)) = wz at *
        have c0' : wz.cell? ⟨w.heap.size, 0, none⟩ = some (.int .i64 m.kind) := HAz.out.c 0 rfl
        have c1' : wz.cell? ⟨w.heap.size, 1, none⟩ = some (.string (ofL m.client)) := HAz.out.c 1 rfl
        have c2' : wz.cell? ⟨w.heap.size, 2, none⟩ = some (.int .i64 m.sfrom) := HAz.out.c 2 rfl
        have c3' : wz.cell? ⟨w.heap.size, 3, none⟩ = some (.int .i64 m.cookie) := HAz.out.c 3 rfl
        have c4' : wz.cell? ⟨w.heap.size, 4, none⟩ = some (.int .i64 m.last) := HAz.out.c 4 rfl
        have c5' : wz.cell? ⟨w.heap.size, 5, none⟩ = some (.int .i64 m.top) := HAz.out.c 5 rfl
        have c6' : wz.cell? ⟨w.heap.size, 6, none⟩ = some (.slice AM m.list.length cM) := HAz.out.c 6 rfl
        refine bodyPost_ret (v := .tuple #[.agg #[.int .i64 m.kind, .string (ofL m.client), .int .i64 m.sfrom, .int .i64 m.cookie, .int .i64 m.last, .int .i64 m.top, .slice AM m.list.length cM], .int .i64 0]) (by simp [results, Tryz.results17, go_sem, c0', c1', c2', c3', c4', c5', c6']) rfl ?_
        rw [Hf.out, Hl.out]
        exact ⟨AM, cM, rfl, HLz.out, HBz.out⟩
end Go.Proofs.YtigdjnfnkjfkmaaGreatDoor
