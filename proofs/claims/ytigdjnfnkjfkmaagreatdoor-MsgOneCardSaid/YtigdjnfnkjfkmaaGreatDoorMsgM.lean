/- A client's mutation as a text, and the one that a text tells (msg.Put, msg.Get). Conditions: the texts are small. -/
import Derived.Test.YtigdjnfnkjfkmaaGreatDoorMsgL
namespace Go.Proofs.YtigdjnfnkjfkmaaGreatDoor
open Go.RowKit
set_option linter.unusedVariables false
set_option linter.unusedSimpArgs false
set_option maxRecDepth 100000

theorem wt_num (n : Int) : wtJ (numJ n) = 1 := by unfold numJ; rw [wtJ, wtsJ]; rfl
theorem wt_txt (s : B) : wtJ (txtJ s) = 1 + s.length := by unfold txtJ; rw [wtJ, wtsJ]; rfl
theorem wt_mut (m : Mu) : wtJ (mutJ m) = 1 + 4 + 17 + (1 + (1 + m.issue.length) + (1 + m.name.length) + (1 + m.text.length)) := by
  unfold mutJ objJ
  rw [wtJ]
  simp only [List.map_cons, List.map_nil, wtsJ, wt_num, wt_txt, List.length_cons, List.length_nil, List.sum_cons, List.sum_nil, kindN, issueN, nameN, textN]
  omega
theorem wt_log (x : Lo) : wtJ (logJ x) = 1 + 3 + 9 + ((1 + x.client.length) + 1 + wtJ (mutJ x.m)) := by
  unfold logJ objJ
  rw [wtJ]
  simp only [List.map_cons, List.map_nil, wtsJ, wt_num, wt_txt, List.length_cons, List.length_nil, List.sum_cons, List.sum_nil, clientN, idN, mN]
  omega
theorem wt_log_le {x : Lo} (h : mayLo x = true) : wtJ (logJ x) ≤ 2000 := by
  obtain ⟨h1, h2, h3⟩ := mayLo_parts h
  obtain ⟨g1, g2, g3, g4, g5, g6, g7⟩ := may_parts h3
  have := (name_len h1).1
  have := (name_len g3).1
  rw [wt_log, wt_mut]
  omega
/-- A client's mutation as a text. -/
def putB (x : Lo) : B := if mayLo x = true then textJ (logJ x) else []
set_option maxHeartbeats 8000000 in
theorem mput_any (x : Lo) (w : World) (hx : LoS x) (hi : I64 x.id) (hG : Good w) :
    Calls Tryz.prog 19 #[.agg #[.string (ofL x.client), .int .i64 x.id, .int .i64 x.m.kind, .string (ofL x.m.issue), .string (ofL x.m.name), .string (ofL x.m.text)]] w fun e w' => e = .returned (.tuple #[.string (ofL (putB x)), .int .i64 (errM (mayLo x))]) ∧ Below w.heap.size w w' := by
  have hK := fun (w' : World) => may_lo x w' hx
  have hKP : mayLo x = true → ∀ (N I : Value) (w' : World), Below w.heap.size w w' → RJ (fun b => b < w'.heap.size) w' (logJ x) [.int .i64 5, .int .i64 0, .string ⟨#[]⟩, N, I] → Calls Tryz.prog 28 #[.agg #[.int .i64 5, .int .i64 0, .string ⟨#[]⟩, N, I]] w' fun e w'' => e = .returned (.tuple #[.string (ofL (putB x)), .int .i64 0]) ∧ Below w'.heap.size w' w'' := fun hm N I w' hb hR => by
    have h := Print_any (logJ x) N I w' hR (can_log hm hi.2 (deep := 0) (by omega)).2 (by have := wt_log_le hm; omega) (hG.below hb).2.2 (hG.below hb).2.1
    rw [print_log hm hi.2] at h
    unfold putB
    rw [if_pos hm]
    exact h
  have hno : mayLo x = false → putB x = [] := fun h => by unfold putB; rw [h]; rfl
  have HKP := Lib.hid hKP
  have HK := Lib.hid hK
  have HNo := Lib.hid hno
  clear hK hKP hno hx hi hG
  have hall : ∃ W, W = w.alloc (.cells #[.string (ofL x.client), .int .i64 x.id, .int .i64 x.m.kind, .string (ofL x.m.issue), .string (ofL x.m.name), .string (ofL x.m.text)] 31) ∧ W.heap[w.heap.size]? = some (.cells #[.string (ofL x.client), .int .i64 x.id, .int .i64 x.m.kind, .string (ofL x.m.issue), .string (ofL x.m.name), .string (ofL x.m.text)] 31 (0, 0)) ∧ Below w.heap.size w W := ⟨_, rfl, heap_alloc_new w _, (Below.refl _ _).alloc (Nat.le_refl _) _⟩
  obtain ⟨w1, hw1, hk1, hb1⟩ := hall
  go_enter Tryz.func19, Tryz.ntmps19
  go_upto_region 1 with fail
  rw [← hw1]
  clear hw1
  obtain ⟨d0, d1, d2, d3, d4, d5, hz1⟩ := box6 hk1
  have HB := Lib.hid hb1
  have hK := HK.out w1
  clear hk1 hb1
  cases hm : mayLo x with
  | false =>
    rw [hm] at hK
    have HKx := Lib.hid hK
    have Hp := Lib.hid (HNo.out hm)
    have He := Lib.hid (show errM (mayLo x) = 130 by rw [hm]; rfl)
    clear hK hm
    go_wp2_with fail
    (with_reducible refine HKx.out.mono ?_); rintro e w2 ⟨rfl, hb2⟩
    have HB2 := Lib.hid (HB.out.next hb2)
    clear hb2
    go_wp2_with fail
    go_ret2
    exact ⟨by rw [Hp.out, He.out]; rfl, HB2.out⟩
  | true =>
    rw [hm] at hK
    have HKx := Lib.hid hK
    have HP := Lib.hid (HKP.out hm)
    have He := Lib.hid (show errM (mayLo x) = 0 by rw [hm]; rfl)
    clear hK hm
    go_wp2_with fail
    (with_reducible refine HKx.out.mono ?_); rintro e w2 ⟨rfl, hb2⟩
    have HB2 := Lib.hid (HB.out.next hb2)
    have d0 := Below.keeps hb2 d0; have d1 := Below.keeps hb2 d1; have d2 := Below.keeps hb2 d2; have d3 := Below.keeps hb2 d3; have d4 := Below.keeps hb2 d4; have d5 := Below.keeps hb2 d5
    clear hb2
    have HL := Lib.hid (mlogged_any x w2)
    go_wp2_with fail
    (with_reducible refine HL.out.mono ?_); rintro e w3 ⟨A1, n1, c1, A2, n2, c2, rfl, hR3, hb3⟩
    have HB3 := Lib.hid (HB2.out.next hb3)
    have HPr := Lib.hid (HP.out _ _ w3 HB3.out (RJ.mono (fun b _ h => h) _ _ hR3))
    clear hb3 hR3 d0 d1 d2 d3 d4 d5
    go_wp2_with fail
    (with_reducible refine HPr.out.mono ?_); rintro e w4 ⟨rfl, hb4⟩
    have HB4 := Lib.hid (HB3.out.next hb4)
    clear hb4
    go_wp2_with fail
    go_ret2
    exact ⟨by rw [He.out]; rfl, HB4.out⟩
theorem text_le (v : J) : v.text.length ≤ wtJ v := by
  cases v with
  | mk k n t ns is => rw [wtJ]; show t.length ≤ _; omega
theorem mut_small {v : J} (h : wtJ v ≤ 1048576) : (mutR v).2.issue.length ≤ 1048576 ∧ (mutR v).2.name.length ≤ 1048576 ∧ (mutR v).2.text.length ≤ 1048576 := by
  have hw := objR_wt v [kindN, issueN, nameN, textN]
  obtain ⟨⟨b, l⟩, hl⟩ : ∃ q, objR v [kindN, issueN, nameN, textN] = q := ⟨_, rfl⟩
  have hll : l.length = 4 := by have := congrArg (fun p => p.2.length) hl; simpa [objR] using this.symm
  rw [hl] at hw
  obtain ⟨x0, x1, x2, x3, rfl⟩ := len4 hll
  have e : (mutR v).2 = ⟨x0.int, x1.text, x2.text, x3.text⟩ := by unfold mutR; rw [hl]; rfl
  rw [e]
  have h1 := hw x1 (by simp)
  have h2 := hw x2 (by simp)
  have h3 := hw x3 (by simp)
  have g1 := text_le x1
  have g2 := text_le x2
  have g3 := text_le x3
  exact ⟨by show x1.text.length ≤ _; omega, by show x2.text.length ≤ _; omega, by show x3.text.length ≤ _; omega⟩
theorem log_small {v : J} (h : wtJ v ≤ 1048576) : LoS (logR v).2 := by
  have hw := objR_wt v [clientN, idN, mN]
  obtain ⟨⟨b, l⟩, hl⟩ : ∃ q, objR v [clientN, idN, mN] = q := ⟨_, rfl⟩
  have hll : l.length = 3 := by have := congrArg (fun p => p.2.length) hl; simpa [objR] using this.symm
  rw [hl] at hw
  obtain ⟨x0, x1, x2, rfl⟩ := len3 hll
  have e : (logR v).2 = ⟨x0.text, x1.int, (mutR x2).2⟩ := by unfold logR; rw [hl]; rfl
  rw [e]
  have h1 := hw x0 (by simp)
  have g1 := text_le x0
  obtain ⟨g2, g3, g4⟩ := mut_small (v := x2) (by have := hw x2 (by simp); omega)
  exact ⟨by show x0.text.length ≤ _; omega, g2, g3, g4⟩
theorem parse_bad {s : B} {v : J} {p n : Nat} (h : parseJ s = (v, p, n)) (hn : n ≠ 0) : v = J0 := by
  unfold parseJ at h
  split at h
  · simp only [Prod.mk.injEq] at h; exact h.1.symm
  · split at h
    · simp only [Prod.mk.injEq] at h; omega
    · simp only [Prod.mk.injEq] at h; exact h.1.symm
theorem bq_true {a b m : Bool} (h : true = (a || b)) : (!a && !b && m) = false := by cases a <;> cases b <;> cases m <;> first | rfl | cases h
theorem bq_false {a b : Bool} (h : false = (a || b)) : (!a && !b && true) = true := by cases a <;> cases b <;> first | rfl | cases h
def Lo0 : Lo := ⟨[], 0, ⟨0, [], [], []⟩⟩
/-- The mutation that a text tells: is there one, and which. -/
def getB (s : B) : Bool := decide ((parseJ s).2.2 = 0) && !(logR (parseJ s).1).1 && mayLo (logR (parseJ s).1).2
def getL (s : B) : Lo := if getB s = true then (logR (parseJ s).1).2 else Lo0
set_option maxHeartbeats 16000000 in
theorem mget_any (s : B) (hs : s.length ≤ 1048576) (w : World) (hG : Good w) :
    Calls Tryz.prog 21 #[.string (ofL s)] w fun e w' => e = .returned (.tuple #[.agg #[.string (ofL (getL s).client), .int .i64 (getL s).id, .int .i64 (getL s).m.kind, .string (ofL (getL s).m.issue), .string (ofL (getL s).m.name), .string (ofL (getL s).m.text)], .int .i64 (errM (getB s))]) ∧ Below w.heap.size w w' := by
  obtain ⟨v, p, n, hp⟩ : ∃ v p n, parseJ s = (v, p, n) := ⟨_, _, _, rfl⟩
  have K1 := fun (w' : World) (hb : Below w.heap.size w w') => parse_at (ofL s) (by rw [size_ofL]; omega) w' (hG.below hb).1 (v := v) (p := p) (n := n) (by rw [toL_ofL]; exact hp)
  have hwt : wtJ v ≤ 1048576 := by
    by_cases hn : n = 0
    · subst hn; have := parse_wt hp; omega
    · have := parse_bad hp hn; rw [this]; decide
  obtain ⟨lb, lo, hlo⟩ : ∃ lb lo, logR v = (lb, lo) := ⟨_, _, rfl⟩
  have hls := log_small hwt
  rw [hlo] at hls
  have hgb : getB s = (decide (n = 0) && !lb && mayLo lo) := by unfold getB; rw [hp]; simp only; rw [hlo]
  have hgl : getL s = if getB s = true then lo else Lo0 := by unfold getL; rw [hp]; simp only; rw [hlo]
  obtain ⟨gb, hg⟩ : ∃ gb, gb = getB s := ⟨_, rfl⟩
  obtain ⟨gl, hl⟩ : ∃ gl, gl = getL s := ⟨_, rfl⟩
  rw [← hg, ← hl]
  rw [← hg] at hgb hgl
  rw [← hl] at hgl
  have K3 := fun (w' : World) => may_lo lo w' hls
  have KR := fun (N I : Value) (rb : Nat) (b : Bool) (w' : World) (hR) (hB) => rlogged_any v N I rb b w' hR hwt hB
  rw [hlo] at KR
  dsimp only at KR
  have H1 := Lib.hid K1
  have H3 := Lib.hid K3
  have HR := Lib.hid KR
  have Hgb := Lib.hid hgb
  have Hgl := Lib.hid hgl
  clear K1 K3 KR hgb hgl hg hl hls hlo hp hwt hs hG
  have hall : ∃ W, W = w.alloc (.cells #[.string ⟨#[]⟩, .int .i64 0, .int .i64 0, .string ⟨#[]⟩, .string ⟨#[]⟩, .string ⟨#[]⟩] 31) ∧ CB W w.heap.size #[.string ⟨#[]⟩, .int .i64 0, .int .i64 0, .string ⟨#[]⟩, .string ⟨#[]⟩, .string ⟨#[]⟩] 31 ∧ Below w.heap.size w W := ⟨_, rfl, CB.new w _ _, (Below.refl _ _).alloc (Nat.le_refl _) _⟩
  obtain ⟨w1, hw1, hA, hb1⟩ := hall
  go_enter Tryz.func21, Tryz.ntmps21
  go_upto_region 1 with fail
  rw [← hw1]
  clear hw1
  have HP := Lib.hid (H1.out w1 hb1)
  have HA := Lib.hid hA
  have HB := Lib.hid hb1
  have hz1 := hA.lt
  clear hA hb1
  go_wp2_with fail
  (with_reducible refine HP.out.mono ?_); rintro e w2 ⟨A1, m1, c1, A2, m2, c2, rfl, hR2, hb2⟩
  have hb3 := (Below.refl w2.heap.size w2).alloc (Nat.le_refl _) (.cells #[.int .i64 v.kind, .int .i64 v.int, .string (ofL v.text), .slice A1 m1 c1, .slice A2 m2 c2] 49)
  have hk3 := CB.new w2 #[.int .i64 v.kind, .int .i64 v.int, .string (ofL v.text), .slice A1 m1 c1, .slice A2 m2 c2] 49
  have HA := Lib.hid ((HA.out.below hb2).below hb3)
  have HB := Lib.hid ((HB.out.next hb2).next hb3)
  have hz2 : w1.heap.size ≤ w2.heap.size := hb2.size
  have hR3 := RJ.below hR2 hb3
  go_upto_region 2 with fail
  generalize w2.alloc (.cells #[.int .i64 v.kind, .int .i64 v.int, .string (ofL v.text), .slice A1 m1 c1, .slice A2 m2 c2] 49) = w3 at *
  obtain ⟨bd, hbd⟩ : ∃ bd, bd = ((n : Int) != 0) := ⟨_, rfl⟩
  have hz3 : w2.heap.size < w3.heap.size := hk3.lt
  have hb4 := (Below.refl w3.heap.size w3).alloc (Nat.le_refl _) (.cells #[.bool ((n : Int) != 0)] 70)
  have hk4 : RB (w3.alloc (.cells #[.bool ((n : Int) != 0)] 70)) w3.heap.size ((n : Int) != 0) := heap_alloc_new w3 _
  go_upto_region 3 with fail
  have hR4 := RJ.mono (Q := fun k => k < (w3.alloc (.cells #[.bool ((n : Int) != 0)] 70)).heap.size ∧ ¬ k = w3.heap.size) (fun k hk _ => by have hk' : k < w2.heap.size := hk; rw [World.size_alloc]; exact ⟨by omega, by omega⟩) _ _ (RJ.below hR3 hb4)
  have hc4 := hk3.below hb4
  have HA := Lib.hid (HA.out.below hb4)
  have HB := Lib.hid (HB.out.next hb4)
  generalize w3.alloc (.cells #[.bool ((n : Int) != 0)] 70) = w4 at *
  rw [← hbd] at hk4
  have HLr := Lib.hid (HR.out _ _ w3.heap.size bd w4 hR4 hk4)
  have d0 : w4.cell? ⟨w2.heap.size, 0, none⟩ = some (.int .i64 v.kind) := hc4.c 0 rfl
  have d1 : w4.cell? ⟨w2.heap.size, 1, none⟩ = some (.int .i64 v.int) := hc4.c 1 rfl
  have d2 : w4.cell? ⟨w2.heap.size, 2, none⟩ = some (.string (ofL v.text)) := hc4.c 2 rfl
  have d3 : w4.cell? ⟨w2.heap.size, 3, none⟩ = some (.slice A1 m1 c1) := hc4.c 3 rfl
  have d4 : w4.cell? ⟨w2.heap.size, 4, none⟩ = some (.slice A2 m2 c2) := hc4.c 4 rfl
  have hz4 : w3.heap.size < w4.heap.size := hk4.lt
  have Hbd := Lib.hid hbd
  clear hbd hR2 hR3 hR4 hk3 hc4 hb2 hb3 hb4 hk4 HP
  go_wp2_with fail
  (with_reducible refine HLr.out.mono ?_); rintro e w5 ⟨rfl, hrb, ht5⟩
  have hb6 := (Below.refl w5.heap.size w5).alloc (Nat.le_refl _) (.cells #[.string (ofL lo.client), .int .i64 lo.id, .int .i64 lo.m.kind, .string (ofL lo.m.issue), .string (ofL lo.m.name), .string (ofL lo.m.text)] 31)
  have hk6 := CB.new w5 #[.string (ofL lo.client), .int .i64 lo.id, .int .i64 lo.m.kind, .string (ofL lo.m.issue), .string (ofL lo.m.name), .string (ofL lo.m.text)] 31
  have HA := Lib.hid ((HA.out.touch ht5 (by omega)).below hb6)
  have HB := Lib.hid ((HB.out.trans (ht5.below (B := w.heap.size) (fun k hk e => by have e' : k = w3.heap.size := e; omega) (by omega))).next hb6)
  have hz5 : w4.heap.size ≤ w5.heap.size := ht5.size
  have hrb6 := hrb.below hb6
  go_upto_region 4 with fail
  generalize w5.alloc (.cells #[.string (ofL lo.client), .int .i64 lo.id, .int .i64 lo.m.kind, .string (ofL lo.m.issue), .string (ofL lo.m.name), .string (ofL lo.m.text)] 31) = w6 at *
  have g0 : w6.cell? ⟨w5.heap.size, 0, none⟩ = some (.string (ofL lo.client)) := hk6.c 0 rfl
  have g1 : w6.cell? ⟨w5.heap.size, 1, none⟩ = some (.int .i64 lo.id) := hk6.c 1 rfl
  have g2 : w6.cell? ⟨w5.heap.size, 2, none⟩ = some (.int .i64 lo.m.kind) := hk6.c 2 rfl
  have g3 : w6.cell? ⟨w5.heap.size, 3, none⟩ = some (.string (ofL lo.m.issue)) := hk6.c 3 rfl
  have g4 : w6.cell? ⟨w5.heap.size, 4, none⟩ = some (.string (ofL lo.m.name)) := hk6.c 4 rfl
  have g5 : w6.cell? ⟨w5.heap.size, 5, none⟩ = some (.string (ofL lo.m.text)) := hk6.c 5 rfl
  have r0 := hrb6.c
  have hz6 : w5.heap.size < w6.heap.size := hk6.lt
  have Hk6 := Lib.hid hk6
  clear hrb ht5 hb6 hk6 HLr d0 d1 d2 d3 d4 hrb6
  have hnn : decide (n = 0) = !bd := by
    rw [Hbd.out]
    by_cases h : n = 0
    · subst h; rfl
    · have h' : ¬ (n : Int) = 0 := by omega
      rw [decide_eq_false h, bne_iff_ne.2 h']; rfl
  have Hnn := Lib.hid hnn
  clear hnn
  obtain ⟨bq, hbq⟩ : ∃ bq, bq = (bd || lb) := ⟨_, rfl⟩
  rw [← hbq] at r0
  have Hbq := Lib.hid hbq
  clear hbq
  cases bq with
  | true =>
    have hf : gb = false := by rw [Hgb.out]; rw [Hnn.out]; exact bq_true Hbq.out
    have Hf := Lib.hid hf
    have Hl := Lib.hid (show gl = Lo0 by rw [Hgl.out, hf]; rfl)
    clear hf
    have a0 := HA.out.c 0 rfl
    have v0 := HA.out.f 0
    have a1 := HA.out.c 1 rfl
    have v1 := HA.out.f 1
    have a2 := HA.out.c 2 rfl
    have v2 := HA.out.f 2
    have a3 := HA.out.c 3 rfl
    have v3 := HA.out.f 3
    have a4 := HA.out.c 4 rfl
    have v4 := HA.out.f 4
    have a5 := HA.out.c 5 rfl
    have v5 := HA.out.f 5
    have ht := (((((((Touch.refl (fun k => k = w.heap.size) w6).setCell (p := ⟨w.heap.size, 0, none⟩) rfl (.string ⟨#[]⟩)).setCell (p := ⟨w.heap.size, 1, none⟩) rfl (.int .i64 0)).setCell (p := ⟨w.heap.size, 2, none⟩) rfl (.int .i64 0)).setCell (p := ⟨w.heap.size, 3, none⟩) rfl (.string ⟨#[]⟩)).setCell (p := ⟨w.heap.size, 4, none⟩) rfl (.string ⟨#[]⟩)).setCell (p := ⟨w.heap.size, 5, none⟩) rfl (.string ⟨#[]⟩))
    have HAz := Lib.hid ((((((HA.out.set 0 (.string ⟨#[]⟩)).set 1 (.int .i64 0)).set 2 (.int .i64 0)).set 3 (.string ⟨#[]⟩)).set 4 (.string ⟨#[]⟩)).set 5 (.string ⟨#[]⟩))
    have HBz := Lib.hid (HB.out.trans (ht.below (B := w.heap.size) (fun k hk e => by have e' : k = w.heap.size := e; omega) HB.out.size))
    clear ht
    go_wp2_with fail
    generalize ((((((w6.setCell ⟨w.heap.size, 0, none⟩ (.string ⟨#[]⟩)).setCell ⟨w.heap.size, 1, none⟩ (.int .i64 0)).setCell ⟨w.heap.size, 2, none⟩ (.int .i64 0)).setCell ⟨w.heap.size, 3, none⟩ (.string ⟨#[]⟩)).setCell ⟨w.heap.size, 4, none⟩ (.string ⟨#[]⟩)).setCell ⟨w.heap.size, 5, none⟩ (.string ⟨#[]⟩)) = wz at *
    have c0 : wz.cell? ⟨w.heap.size, 0, none⟩ = some (.string ⟨#[]⟩) := HAz.out.c 0 rfl
    have c1 : wz.cell? ⟨w.heap.size, 1, none⟩ = some (.int .i64 0) := HAz.out.c 1 rfl
    have c2 : wz.cell? ⟨w.heap.size, 2, none⟩ = some (.int .i64 0) := HAz.out.c 2 rfl
    have c3 : wz.cell? ⟨w.heap.size, 3, none⟩ = some (.string ⟨#[]⟩) := HAz.out.c 3 rfl
    have c4 : wz.cell? ⟨w.heap.size, 4, none⟩ = some (.string ⟨#[]⟩) := HAz.out.c 4 rfl
    have c5 : wz.cell? ⟨w.heap.size, 5, none⟩ = some (.string ⟨#[]⟩) := HAz.out.c 5 rfl
    refine bodyPost_ret (v := .tuple #[.agg #[.string ⟨#[]⟩, .int .i64 0, .int .i64 0, .string ⟨#[]⟩, .string ⟨#[]⟩, .string ⟨#[]⟩], .int .i64 130]) (by simp [results, Tryz.results21, go_sem, c0, c1, c2, c3, c4, c5]) rfl ?_
    exact ⟨by rw [Hf.out, Hl.out]; rfl, HBz.out⟩
  | false =>
    have hK := H3.out w6
    cases hm : mayLo lo with
    | false =>
      rw [hm] at hK
      have HK := Lib.hid hK
      have hf : gb = false := by rw [Hgb.out]; rw [hm]; simp
      have Hf := Lib.hid hf
      have Hl := Lib.hid (show gl = Lo0 by rw [Hgl.out, hf]; rfl)
      clear hf
      clear hK hm
      go_wp2_with fail
      (with_reducible refine HK.out.mono ?_); rintro e w7 ⟨rfl, hb7⟩
      have HA := Lib.hid (HA.out.below hb7)
      have HB := Lib.hid (HB.out.next hb7)
      clear hb7 g0 g1 g2 g3 g4 g5 r0
      have a0 := HA.out.c 0 rfl
      have v0 := HA.out.f 0
      have a1 := HA.out.c 1 rfl
      have v1 := HA.out.f 1
      have a2 := HA.out.c 2 rfl
      have v2 := HA.out.f 2
      have a3 := HA.out.c 3 rfl
      have v3 := HA.out.f 3
      have a4 := HA.out.c 4 rfl
      have v4 := HA.out.f 4
      have a5 := HA.out.c 5 rfl
      have v5 := HA.out.f 5
      have ht := (((((((Touch.refl (fun k => k = w.heap.size) w7).setCell (p := ⟨w.heap.size, 0, none⟩) rfl (.string ⟨#[]⟩)).setCell (p := ⟨w.heap.size, 1, none⟩) rfl (.int .i64 0)).setCell (p := ⟨w.heap.size, 2, none⟩) rfl (.int .i64 0)).setCell (p := ⟨w.heap.size, 3, none⟩) rfl (.string ⟨#[]⟩)).setCell (p := ⟨w.heap.size, 4, none⟩) rfl (.string ⟨#[]⟩)).setCell (p := ⟨w.heap.size, 5, none⟩) rfl (.string ⟨#[]⟩))
      have HAz := Lib.hid ((((((HA.out.set 0 (.string ⟨#[]⟩)).set 1 (.int .i64 0)).set 2 (.int .i64 0)).set 3 (.string ⟨#[]⟩)).set 4 (.string ⟨#[]⟩)).set 5 (.string ⟨#[]⟩))
      have HBz := Lib.hid (HB.out.trans (ht.below (B := w.heap.size) (fun k hk e => by have e' : k = w.heap.size := e; omega) HB.out.size))
      clear ht
      go_wp2_with fail
      generalize ((((((w7.setCell ⟨w.heap.size, 0, none⟩ (.string ⟨#[]⟩)).setCell ⟨w.heap.size, 1, none⟩ (.int .i64 0)).setCell ⟨w.heap.size, 2, none⟩ (.int .i64 0)).setCell ⟨w.heap.size, 3, none⟩ (.string ⟨#[]⟩)).setCell ⟨w.heap.size, 4, none⟩ (.string ⟨#[]⟩)).setCell ⟨w.heap.size, 5, none⟩ (.string ⟨#[]⟩)) = wz at *
      have c0 : wz.cell? ⟨w.heap.size, 0, none⟩ = some (.string ⟨#[]⟩) := HAz.out.c 0 rfl
      have c1 : wz.cell? ⟨w.heap.size, 1, none⟩ = some (.int .i64 0) := HAz.out.c 1 rfl
      have c2 : wz.cell? ⟨w.heap.size, 2, none⟩ = some (.int .i64 0) := HAz.out.c 2 rfl
      have c3 : wz.cell? ⟨w.heap.size, 3, none⟩ = some (.string ⟨#[]⟩) := HAz.out.c 3 rfl
      have c4 : wz.cell? ⟨w.heap.size, 4, none⟩ = some (.string ⟨#[]⟩) := HAz.out.c 4 rfl
      have c5 : wz.cell? ⟨w.heap.size, 5, none⟩ = some (.string ⟨#[]⟩) := HAz.out.c 5 rfl
      refine bodyPost_ret (v := .tuple #[.agg #[.string ⟨#[]⟩, .int .i64 0, .int .i64 0, .string ⟨#[]⟩, .string ⟨#[]⟩, .string ⟨#[]⟩], .int .i64 130]) (by simp [results, Tryz.results21, go_sem, c0, c1, c2, c3, c4, c5]) rfl ?_
      exact ⟨by rw [Hf.out, Hl.out]; rfl, HBz.out⟩
    | true =>
      rw [hm] at hK
      have HK := Lib.hid hK
      have hf : gb = true := by rw [Hgb.out]; rw [hm, Hnn.out]; exact bq_false Hbq.out
      have Hf := Lib.hid hf
      have Hl := Lib.hid (show gl = lo by rw [Hgl.out, hf]; rfl)
      clear hf
      clear hK hm
      go_wp2_with fail
      (with_reducible refine HK.out.mono ?_); rintro e w7 ⟨rfl, hb7⟩
      have HA := Lib.hid (HA.out.below hb7)
      have HB := Lib.hid (HB.out.next hb7)
      have g0 := Below.keeps hb7 g0; have g1 := Below.keeps hb7 g1; have g2 := Below.keeps hb7 g2; have g3 := Below.keeps hb7 g3; have g4 := Below.keeps hb7 g4; have g5 := Below.keeps hb7 g5
      clear hb7 r0
      have a0 := HA.out.c 0 rfl
      have v0 := HA.out.f 0
      have a1 := HA.out.c 1 rfl
      have v1 := HA.out.f 1
      have a2 := HA.out.c 2 rfl
      have v2 := HA.out.f 2
      have a3 := HA.out.c 3 rfl
      have v3 := HA.out.f 3
      have a4 := HA.out.c 4 rfl
      have v4 := HA.out.f 4
      have a5 := HA.out.c 5 rfl
      have v5 := HA.out.f 5
      have ht := (((((((Touch.refl (fun k => k = w.heap.size) w7).setCell (p := ⟨w.heap.size, 0, none⟩) rfl (.string (ofL lo.client))).setCell (p := ⟨w.heap.size, 1, none⟩) rfl (.int .i64 lo.id)).setCell (p := ⟨w.heap.size, 2, none⟩) rfl (.int .i64 lo.m.kind)).setCell (p := ⟨w.heap.size, 3, none⟩) rfl (.string (ofL lo.m.issue))).setCell (p := ⟨w.heap.size, 4, none⟩) rfl (.string (ofL lo.m.name))).setCell (p := ⟨w.heap.size, 5, none⟩) rfl (.string (ofL lo.m.text)))
      have HAz := Lib.hid ((((((HA.out.set 0 (.string (ofL lo.client))).set 1 (.int .i64 lo.id)).set 2 (.int .i64 lo.m.kind)).set 3 (.string (ofL lo.m.issue))).set 4 (.string (ofL lo.m.name))).set 5 (.string (ofL lo.m.text)))
      have HBz := Lib.hid (HB.out.trans (ht.below (B := w.heap.size) (fun k hk e => by have e' : k = w.heap.size := e; omega) HB.out.size))
      clear ht
      go_wp2_with fail
      generalize ((((((w7.setCell ⟨w.heap.size, 0, none⟩ (.string (ofL lo.client))).setCell ⟨w.heap.size, 1, none⟩ (.int .i64 lo.id)).setCell ⟨w.heap.size, 2, none⟩ (.int .i64 lo.m.kind)).setCell ⟨w.heap.size, 3, none⟩ (.string (ofL lo.m.issue))).setCell ⟨w.heap.size, 4, none⟩ (.string (ofL lo.m.name))).setCell ⟨w.heap.size, 5, none⟩ (.string (ofL lo.m.text))) = wz at *
      have c0 : wz.cell? ⟨w.heap.size, 0, none⟩ = some (.string (ofL lo.client)) := HAz.out.c 0 rfl
      have c1 : wz.cell? ⟨w.heap.size, 1, none⟩ = some (.int .i64 lo.id) := HAz.out.c 1 rfl
      have c2 : wz.cell? ⟨w.heap.size, 2, none⟩ = some (.int .i64 lo.m.kind) := HAz.out.c 2 rfl
      have c3 : wz.cell? ⟨w.heap.size, 3, none⟩ = some (.string (ofL lo.m.issue)) := HAz.out.c 3 rfl
      have c4 : wz.cell? ⟨w.heap.size, 4, none⟩ = some (.string (ofL lo.m.name)) := HAz.out.c 4 rfl
      have c5 : wz.cell? ⟨w.heap.size, 5, none⟩ = some (.string (ofL lo.m.text)) := HAz.out.c 5 rfl
      refine bodyPost_ret (v := .tuple #[.agg #[.string (ofL lo.client), .int .i64 lo.id, .int .i64 lo.m.kind, .string (ofL lo.m.issue), .string (ofL lo.m.name), .string (ofL lo.m.text)], .int .i64 0]) (by simp [results, Tryz.results21, go_sem, c0, c1, c2, c3, c4, c5]) rfl ?_
      exact ⟨by rw [Hf.out, Hl.out]; rfl, HBz.out⟩
end Go.Proofs.YtigdjnfnkjfkmaaGreatDoor
