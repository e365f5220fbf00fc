/- A parser hands the next request over (httpd.Parser's Next). Conditions: none. -/
import Derived.Test.YtmhgnaemafohfaaGreatDoorParsB
import Derived.StillTailTactics
namespace Go.Proofs.YtmhgnaemafohfaaGreatDoor
open Go.RowKit
set_option linter.unusedVariables false
set_option linter.unusedSimpArgs false
set_option maxRecDepth 100000

theorem bound_run : ∀ (l : B) (x : Mc), Bound x → (runM x l).2.1 = 1 → Bound (runM x l).2.2 := by
  intro l
  induction l with
  | nil => intro x h _; exact h
  | cons c l ih =>
    intro x h h1
    by_cases hs : stepSt x c = 1
    · have e : runM x (c :: l) = ((runM (stepX x c) l).1 + 1, (runM (stepX x c) l).2) := by rw [runM, if_pos hs]
      rw [e] at h1 ⊢
      exact ih _ (bound_step h hs) h1
    · have e : runM x (c :: l) = (1, stepSt x c, stepX x c) := by rw [runM, if_neg hs]
      rw [e] at h1
      exact absurd h1 hs
/-- What Next answers; what waits then, and the status that refused. -/
def nxtS (wait : B) (st : Nat) : Nat := if st ≠ 0 then st else (progParse wait).2.2
def nxtR (wait : B) (st : Nat) : Req := if st ≠ 0 then noReq else (progParse wait).1
def nxtW (wait : B) (st : Nat) : B := if st ≠ 0 then wait else if (progParse wait).2.2 = 1 then wait else if (progParse wait).2.2 = 0 then wait.drop (progParse wait).2.1 else []
def nxtT (wait : B) (st : Nat) : Nat := if st ≠ 0 then st else if (progParse wait).2.2 = 1 then 0 else (progParse wait).2.2
/-- A request that no call on the parser may change. -/
def FreeReq (w : World) (D : Nat → Prop) (r : Req) (v : Value) : Prop :=
  ∃ Hv Bv, v = .agg #[.string (ofL r.m), .string (ofL r.p), Hv, Bv] ∧ (w.ownsRow 0 72 2 Hv r.h.length (pairs r.h) ∧ ∀ k, Hv.ownBlock = some k → ¬ D k) ∧ (w.ownsRow 0 5 1 Bv r.b.length (bytesV r.b) ∧ ∀ k, Bv.ownBlock = some k → ¬ D k)
theorem free_none (w : World) (D : Nat → Prop) : FreeReq w D noReq (.agg #[.string ⟨#[]⟩, .string ⟨#[]⟩, .slice none 0 0, .slice none 0 0]) :=
  ⟨_, _, rfl, ⟨World.ownsRow_nil _ _ _ _, fun k hk => by cases hk⟩, ⟨World.ownsRow_nil _ _ _ _, fun k hk => by cases hk⟩⟩
theorem FreeReq.touch {w w' : World} {D D' G : Nat → Prop} {r : Req} {v : Value} (h : FreeReq w D r v) (ht : Touch G w w') (hG : ∀ k, G k → D k) (hD : ∀ k, D' k → D k ∨ w.heap.size ≤ k) : FreeReq w' D' r v := by
  obtain ⟨Hv, Bv, rfl, ⟨h1, h2⟩, ⟨h3, h4⟩⟩ := h
  exact ⟨_, _, rfl, ⟨own_touch h1 ht (fun k hk e => h2 k hk (hG k e)), fun k hk e => (hD k e).elim (h2 k hk) (fun h => by have := (h1.lt k hk).2; omega)⟩, ⟨own_touch h3 ht (fun k hk e => h4 k hk (hG k e)), fun k hk e => (hD k e).elim (h4 k hk) (fun h => by have := (h3.lt k hk).2; omega)⟩⟩
theorem FreeReq.req {w : World} {D : Nat → Prop} {r : Req} {v : Value} (h : FreeReq w D r v) : ReqV w r v := by
  obtain ⟨Hv, Bv, rfl, h1, h2⟩ := h
  exact ⟨_, _, rfl, rd_of_own h1.1, rd_of_own h2.1⟩

theorem MI.bm {w : World} {bm : Nat} {F : Nat → Prop} {x : Mc} (h : MI w bm F x) : F bm := by obtain ⟨_, _, hB, _⟩ := h; exact hB.1.1
/-- More is to come: the parser as it stands then. -/
theorem prs_more {bp bm t k : Nat} {wait : B} {D F : Nat → Prop} {y : Mc} {Wv : Value} {w w0 w1 wf : World} (hown : w.ownsRow 0 5 1 Wv wait.length (bytesV wait)) (hob : ∀ k, Wv.ownBlock = some k → ¬ F k ∧ D k)
    (hD1 : D bp) (hD2 : ∀ k, F k → D k) (hD3 : ∀ k, D k → k < w.heap.size) (hF : ¬ F bp) (hw6 : wait.length ≤ 65536) (hb0 : Below w.heap.size w w0) (hs0 : w0.heap.size = w.heap.size + 1)
    (hso : StepOut w0 bm F 1 y w1) (hy : Bound y) (hk : t + k = wait.length) (hrun : runM mc0 wait = (k + t, 1, y)) (hnb : ∀ j, Wv.ownBlock = some j → j ≠ bp) (ht : Touch (fun j => j = bp ∨ j = w.heap.size) w1 wf) (hP : PC wf bp bm Wv ((t + k : Nat) : Int) ((0 : Nat) : Int)) :
    ∃ D', Prs wf bp wait 0 D' ∧ (∀ j, D' j → D j ∨ w.heap.size ≤ j) ∧ Touch D w wf := by
  have hFw : ∀ j, F j → j < w.heap.size := fun j hj => hD3 j (hD2 j hj)
  have hbp := hD3 bp hD1
  have hs1 := hso.1.size
  have hsf := ht.size
  have h01 : Touch F w w1 := touch_new (Touch.of_below hb0) hso.1 (fun j _ h => h)
  have hI := hso.2.1 rfl
  refine ⟨fun j => D j ∨ (w0.heap.size ≤ j ∧ j < w1.heap.size), ⟨bm, Grow F w0 w1, y, Wv, t + k, hP, hI.touch ht ?_, hy, ?_, ⟨own_touch (own_touch hown h01 (fun j hj h => (hob j hj).1 h)) ht ?_, fun j hj => ⟨?_, .inl (hob j hj).2⟩⟩, ⟨.inl hD1, fun j hj => hj.elim (fun h => .inl (hD2 j h)) .inr, fun j hj => ?_⟩, by omega, ?_, hw6⟩, fun j hj => hj.elim .inl (fun h => .inr (by omega)), ?_⟩
  · rintro j hj h
    rcases hj with hj | hj
    · have := hFw j hj
      rcases h with rfl | rfl
      · exact hF hj
      · omega
    · rcases h with rfl | rfl <;> omega
  · rintro (h | h)
    · exact hF h
    · omega
  · rintro j hj (h | h)
    · exact hnb j hj h
    · have := hD3 j (hob j hj).2; omega
  · rintro (h | h)
    · exact (hob j hj).1 h
    · have := hD3 j (hob j hj).2; omega
  · rcases hj with h | h
    · have := hD3 j h; omega
    · omega
  · rw [hk, List.take_length, hrun]
  · exact touch_new (touch_new (Touch.of_below hb0) hso.1 (fun j _ h => hD2 j h)) ht (fun j hj h => h.elim (fun e => e ▸ hD1) (fun e => by omega))
theorem drop_all {wait : B} {t : Nat} (h : wait.length ≤ t) : wait.drop t = [] := List.drop_of_length_le h
theorem rd_from {w : World} {g c t : Nat} {l : B} (h : w.ownsRow 0 5 1 (.slice (some ⟨g, 0, none⟩) l.length c) l.length (bytesV l)) (ht : t ≤ l.length) :
    Rd w 1 (.slice (some ⟨g, t, none⟩) (l.length - t) (c - t)) (l.drop t).length (bytesV (l.drop t)) := by
  obtain ⟨_, A, c', h2, h3, h4, h5, h6⟩ := rd_of_own h
  cases h2
  have hl : (l.drop t).length = l.length - t := List.length_drop ..
  refine ⟨by rw [bytesV_len]; omega, _, _, by rw [hl], by omega, by omega, (fun h => by cases h), fun a ha => ?_⟩
  cases ha
  refine ⟨rfl, fun j u hj => ?_⟩
  have := (h6 ⟨g, 0, none⟩ rfl).2 (t + j) u (by unfold bytesV at hj ⊢; rw [List.getElem?_map] at hj ⊢; rwa [List.getElem?_drop] at hj)
  simpa using this

set_option maxHeartbeats 8000000 in
theorem pnext_any (bp st : Nat) (wait : B) (D : Nat → Prop) (w : World) (h : Prs w bp wait st D) (hg : Glob w) (hgD : ¬ D 0) :
    Calls Tryz.prog 24 #[.pointer (some ⟨bp, 0, none⟩)] w fun e w' => ∃ v D', e = .returned (.tuple #[v, .int .i64 (nxtS wait st)]) ∧ Prs w' bp (nxtW wait st) (nxtT wait st) D' ∧ (∀ k, D' k → D k ∨ w.heap.size ≤ k) ∧ Touch D w w' ∧ FreeReq w' D' (nxtR wait st) v := by
  have HPr := Lib.hid h
  obtain ⟨bm, F, m, Wv, t, hP, hI, hBd, hF, ⟨hown, hob⟩, ⟨hD1, hD2, hD3⟩, ht, hrun, hw6⟩ := h
  obtain ⟨A0, c0, rfl⟩ := (rd_of_own hown).shape
  have hb0 := (Below.refl w.heap.size w).alloc (Nat.le_refl _) (.cells #[.string ⟨#[]⟩, .string ⟨#[]⟩, .slice none 0 0, .slice none 0 0] 27)
  have hP0 := hP.below hb0
  have k0 := hP0.c0
  have k1 := hP0.c1
  have k2 := hP0.c2
  have k3 := hP0.c3
  have hplt := hP.lt
  by_cases hst : st = 0
  case neg =>
    have hs : ((st : Int) != 0) = true := by simp; omega
    have e1 : nxtS wait st = st := by unfold nxtS; rw [if_pos hst]
    have e2 : nxtW wait st = wait := by unfold nxtW; rw [if_pos hst]
    have e3 : nxtT wait st = st := by unfold nxtT; rw [if_pos hst]
    have e4 : nxtR wait st = noReq := by unfold nxtR; rw [if_pos hst]
    rw [e1, e2, e3, e4]
    clear hst e1 e2 e3 e4 hown hob
    go_enter Tryz.func24, Tryz.ntmps24
    go_wp2_with fail
    have hz := z0_alloc w
    generalize w.alloc (.cells #[.string ⟨#[]⟩, .string ⟨#[]⟩, .slice none 0 0, .slice none 0 0] 27) = w0 at *
    obtain ⟨⟨hc0, hc1, hc2, hc3⟩, f0, f1, f2, f3⟩ := hz
    have ht4 := ((((Touch.refl (fun k => k = w.heap.size) w0).setCell (p := ⟨w.heap.size, 0, none⟩) rfl (.string ⟨#[]⟩)).setCell (p := ⟨w.heap.size, 1, none⟩) rfl (.string ⟨#[]⟩)).setCell (p := ⟨w.heap.size, 2, none⟩) rfl (.slice none 0 0)).setCell (p := ⟨w.heap.size, 3, none⟩) rfl (.slice none 0 0)
    have k3s := (hP0.touch ht4 (by omega)).c3
    go_region_held3 (fun w' => w'.cell? ⟨bp, 3, none⟩ = some (.int .i64 st)) (first | exact k3 | exact k3s) (fail)
    go_wp2_with fail
    have hbe := (below_set4 hb0 (.string ⟨#[]⟩) (.string ⟨#[]⟩) (.slice none 0 0) (.slice none 0 0)).drew
    refine bodyPost_ret (v := .tuple #[.agg #[.string ⟨#[]⟩, .string ⟨#[]⟩, .slice none 0 0, .slice none 0 0], .int .i64 st]) (by simp [results, Tryz.results24, go_sem, hc0, hc1, hc2, hc3]) rfl ⟨_, D, rfl, HPr.out.below hbe, fun k hk => .inl hk, Touch.of_below hbe, free_none _ _⟩
  subst hst
  have hs : (((0 : Nat) : Int) != 0) = false := rfl
  have hnx := next_law ht hrun
  have HNx := Lib.hid hnx
  have hwt : (wait.drop t).length ≤ 65536 := by rw [List.length_drop]; omega
  have HOb := Lib.hid hob
  have HP0 := Lib.hid hP0
  have HB0 := Lib.hid hb0
  have HI := Lib.hid hI
  have HO := Lib.hid hown
  have hnb := hP.not_own hown (by decide)
  have HNb := Lib.hid hnb
  have HGlob := Lib.hid (hg.next hb0)
  have HS0 := Lib.hid (show (w.alloc (.cells #[.string ⟨#[]⟩, .string ⟨#[]⟩, .slice none 0 0, .slice none 0 0] 27)).heap.size = w.heap.size + 1 by simp)
  have hz := z0_alloc w
  have HBd := Lib.hid hBd
  clear hnx hob hP0 hb0 hI hnb hg hP hBd hrun
  have hcase : (A0 = none ∧ wait = [] ∧ t = 0 ∧ c0 = 0) ∨ ∃ g, A0 = some ⟨g, 0, none⟩ ∧ wait.length ≤ c0 ∧ w.ownsRow 0 5 1 (.slice (some ⟨g, 0, none⟩) wait.length c0) wait.length (bytesV wait) := by
    rcases hown.2 with ⟨h1, h2⟩ | ⟨g, cap, cur, h1, h2, h3, h4, h5⟩
    · simp only [Value.slice.injEq] at h1
      obtain ⟨h1, _, h3⟩ := h1
      exact .inl ⟨h1, List.eq_nil_of_length_eq_zero h2, by omega, h3⟩
    · simp only [Value.slice.injEq] at h1
      obtain ⟨rfl, _, rfl⟩ := h1
      exact .inr ⟨g, rfl, h4, hown⟩
  clear hown
  go_enter Tryz.func24, Tryz.ntmps24
  go_wp2_with fail
  generalize w.alloc (.cells #[.string ⟨#[]⟩, .string ⟨#[]⟩, .slice none 0 0, .slice none 0 0] 27) = w0 at *
  have hs0 := HS0.out
  have HPd := Lib.hid (HP0.out.below (Below.refl _ w0).drew)
  have HGd := Lib.hid (HGlob.out.next (Below.refl _ w0).drew)
  have HId := Lib.hid ((HI.out.touch (.of_below (F := fun _ => False) HB0.out) (fun _ _ => id)).touch (.of_below (F := fun _ => False) (Below.refl _ w0).drew) (fun _ _ => id))
  have HZd := Lib.hid (hz.next (Below.refl _ w0).drew)
  have hgF : ¬ F 0 := fun h => hgD (hD2 _ h)
  have Hb1 := Lib.hid (bound_run (wait.drop t) m HBd.out)
  have Hkl := Lib.hid (fun h => (run_app (wait.drop t) m [] h).1)
  have Hxp := Lib.hid (show progParse wait = finP 0 ((runM m (wait.drop t)).1 + t, (runM m (wait.drop t)).2) by unfold progParse; rw [HNx.out])
  rcases hcase with ⟨rfl, hw0, ht0, hc00⟩ | ⟨g, rfl, hc, hown⟩
  · have hct : c0 = t := by omega
    have hc : wait.length ≤ c0 := by rw [hw0]; exact Nat.zero_le _
    have hl0 : wait.drop t = [] := drop_all (by rw [hw0]; exact Nat.zero_le _)
    have hr0 : runM m (wait.drop t) = (0, 1, m) := by rw [hl0]; rfl
    have hRV : Rd w0.drew 1 (.slice (none) (wait.length - t) 0) (wait.drop t).length (bytesV (wait.drop t)) := by
      rw [hl0]
      exact ⟨rfl, _, _, by rw [show wait.length - t = 0 by rw [hw0]; simp]; rfl, Nat.le_refl _, by decide, fun _ => rfl, fun a ha => by cases ha⟩
    have HRV := Lib.hid hRV
    clear hRV hl0 hw0 ht0 hc00
    have hrun := run_any bm F m (wait.drop t) _ w0.drew HId.out HBd.out HGd.out hgF HRV.out (by omega) (by
      rintro _ a n c he hFa
      cases he)
    generalize runM m (wait.drop t) = rr at hrun HNx Hb1 Hkl Hxp hr0
    obtain ⟨k, s, y⟩ := rr
    have hs1 : s = 1 := congrArg (fun x => x.2.1) hr0
    clear hr0
    have HC := Lib.hid hrun
    clear hrun
    go_region_held3 (fun w' => w'.cell? ⟨bp, 0, none⟩ = some (.pointer (some ⟨bm, 0, none⟩)) ∧ w'.cell? ⟨bp, 1, none⟩ = some (.slice (none) wait.length c0) ∧ w'.cell? ⟨bp, 2, none⟩ = some (.int .i64 t)) (first | exact ⟨k0, k1, k2⟩ | exact ⟨k0a, k1a, k2a⟩) (first | (go_at_call 41; (with_reducible refine HC.out.mono ?_); rintro e w1 ⟨rfl, hso⟩; have hP1 := HPd.out.touch hso.1 hF; have k0a := hP1.c0; have k1a := hP1.c1; have k2a := hP1.c2))
    have hz1 := z0_touch HZd.out hso.1 (fun h => by have := hD3 _ (hD2 _ h); omega)
    have HSo := Lib.hid hso
    have HP1 := Lib.hid hP1
    obtain ⟨⟨hc0, hc1, hc2, hc3⟩, f0, f1, f2, f3⟩ := hz1
    have k2b := hP1.c2
    have fb2 := hP1.fz 2
    have hne : ¬ bp = w.heap.size := by omega
    have hne' : ¬ w.heap.size = bp := by omega
    have hlt1 : bp < w1.heap.size := hP1.lt
    have hkk : k ≤ 65536 := by
      by_cases h1 : s = 1
      · have := Hkl.out h1; have h3 : k = (wait.drop t).length := this; omega
      · have h2 := (run_cut wait mc0 (by rw [HNx.out]; exact h1)).1.2
        rw [HNx.out] at h2
        have h3 : k + t ≤ wait.length := h2
        omega
    obtain ⟨n, hn⟩ : ∃ n, t + k = n := ⟨_, rfl⟩
    have y1 : IntKind.i64.wrap ((t : Int) + (k : Int)) = (n : Int) := by rw [IntWalk.i64_in _ (by omega)]; omega
    have Hn := Lib.hid hn
    clear hn
    clear hso hP1 k0a k1a k2a k0 k1 k2 k3 hgF
    subst hs1
    have e1 : (((1 : Nat) : Int) == 1) = true := rfl
    have Hk1 := Lib.hid (show t + k = wait.length by have h3 : k = (wait.drop t).length := Hkl.out rfl; rw [List.length_drop] at h3; omega)
    have Hy := Lib.hid (show Bound y from Hb1.out rfl)
    go_wp2_with fail
    have hk := Hk1.out
    have hp : progParse wait = (noReq, 0, 1) := by rw [Hxp.out]; rfl
    have q1 : nxtS wait 0 = 1 := by unfold nxtS; rw [if_neg (by simp), hp]
    have q2 : nxtW wait 0 = wait := by unfold nxtW; rw [if_neg (by simp), hp]; rfl
    have q3 : nxtT wait 0 = 0 := by unfold nxtT; rw [if_neg (by simp), hp]; rfl
    have q4 : nxtR wait 0 = noReq := by unfold nxtR; rw [if_neg (by simp), hp]
    rw [q1, q2, q3, q4]
    have hn := Hn.out
    subst hn
    have hP2 := HP1.out.set2 ((t + k : Nat) : Int)
    have ht4 := ((((Touch.refl (fun j => j = w.heap.size) (w1.setCell ⟨bp, 2, none⟩ (.int .i64 ((t + k : Nat) : Int)))).setCell (p := ⟨w.heap.size, 0, none⟩) rfl (.string ⟨#[]⟩)).setCell (p := ⟨w.heap.size, 1, none⟩) rfl (.string ⟨#[]⟩)).setCell (p := ⟨w.heap.size, 2, none⟩) rfl (.slice none 0 0)).setCell (p := ⟨w.heap.size, 3, none⟩) rfl (.slice none 0 0)
    have ht5 := ((Touch.refl (fun j => j = bp ∨ j = w.heap.size) w1).setCell (p := ⟨bp, 2, none⟩) (.inl rfl) (.int .i64 ((t + k : Nat) : Int))).trans (ht4.mono (fun j _ h => .inr h))
    have hPf := hP2.touch ht4 hne
    obtain ⟨D', m1, m2, m3⟩ := prs_more HO.out HOb.out hD1 hD2 hD3 hF hw6 (HB0.out.trans ((Below.refl _ w0).drew.mono HB0.out.size)) HS0.out HSo.out Hy.out hk HNx.out HNb.out ht5 hPf
    exact bodyPost_ret (v := .tuple #[.agg #[.string ⟨#[]⟩, .string ⟨#[]⟩, .slice none 0 0, .slice none 0 0], .int .i64 1]) (by simp [results, Tryz.results24, go_sem, hc0, hc1, hc2, hc3, hne, hne']) rfl ⟨_, rfl, D', m1, m2, m3, free_none _ _⟩
  · have hR := rd_from hown ht
    have HRd := Lib.hid ((hR.below HB0.out).below (Below.refl _ w0).drew)
    have hgl := (hown.lt g rfl).2
    have Hg := Lib.hid (HOb.out g rfl)
    clear hR hown
    by_cases hct : c0 = t
    · have hl0 : wait.drop t = [] := drop_all (by omega)
      have hr0 : runM m (wait.drop t) = (0, 1, m) := by rw [hl0]; rfl
      have hRV : Rd w0.drew 1 (.slice (some ⟨g, 0, none⟩) (wait.length - t) 0) (wait.drop t).length (bytesV (wait.drop t)) := by
        rw [hl0]
        exact ⟨rfl, _, _, by rw [show wait.length - t = 0 by omega]; rfl, Nat.le_refl _, by decide, fun _ => rfl, fun a ha => by cases ha; exact ⟨rfl, fun j u hj => by cases hj⟩⟩
      have HRV := Lib.hid hRV
      clear hRV hl0 HRd
      have hrun := run_any bm F m (wait.drop t) _ w0.drew HId.out HBd.out HGd.out hgF HRV.out (by omega) (by
        rintro _ a n c he hFa
        cases he
        exact Hg.out.1 hFa)
      generalize runM m (wait.drop t) = rr at hrun HNx Hb1 Hkl Hxp hr0
      obtain ⟨k, s, y⟩ := rr
      have hs1 : s = 1 := congrArg (fun x => x.2.1) hr0
      clear hr0
      have HC := Lib.hid hrun
      clear hrun
      go_region_held3 (fun w' => w'.cell? ⟨bp, 0, none⟩ = some (.pointer (some ⟨bm, 0, none⟩)) ∧ w'.cell? ⟨bp, 1, none⟩ = some (.slice (some ⟨g, 0, none⟩) wait.length c0) ∧ w'.cell? ⟨bp, 2, none⟩ = some (.int .i64 t)) (first | exact ⟨k0, k1, k2⟩ | exact ⟨k0a, k1a, k2a⟩) (first | (go_at_call 41; (with_reducible refine HC.out.mono ?_); rintro e w1 ⟨rfl, hso⟩; have hP1 := HPd.out.touch hso.1 hF; have k0a := hP1.c0; have k1a := hP1.c1; have k2a := hP1.c2))
      have hz1 := z0_touch HZd.out hso.1 (fun h => by have := hD3 _ (hD2 _ h); omega)
      have HSo := Lib.hid hso
      have HP1 := Lib.hid hP1
      obtain ⟨⟨hc0, hc1, hc2, hc3⟩, f0, f1, f2, f3⟩ := hz1
      have k2b := hP1.c2
      have fb2 := hP1.fz 2
      have hne : ¬ bp = w.heap.size := by omega
      have hne' : ¬ w.heap.size = bp := by omega
      have hlt1 : bp < w1.heap.size := hP1.lt
      have hkk : k ≤ 65536 := by
        by_cases h1 : s = 1
        · have := Hkl.out h1; have h3 : k = (wait.drop t).length := this; omega
        · have h2 := (run_cut wait mc0 (by rw [HNx.out]; exact h1)).1.2
          rw [HNx.out] at h2
          have h3 : k + t ≤ wait.length := h2
          omega
      obtain ⟨n, hn⟩ : ∃ n, t + k = n := ⟨_, rfl⟩
      have y1 : IntKind.i64.wrap ((t : Int) + (k : Int)) = (n : Int) := by rw [IntWalk.i64_in _ (by omega)]; omega
      have Hn := Lib.hid hn
      clear hn
      clear hso hP1 k0a k1a k2a k0 k1 k2 k3 hgF
      subst hs1
      have e1 : (((1 : Nat) : Int) == 1) = true := rfl
      have Hk1 := Lib.hid (show t + k = wait.length by have h3 : k = (wait.drop t).length := Hkl.out rfl; rw [List.length_drop] at h3; omega)
      have Hy := Lib.hid (show Bound y from Hb1.out rfl)
      go_wp2_with fail
      have hk := Hk1.out
      have hp : progParse wait = (noReq, 0, 1) := by rw [Hxp.out]; rfl
      have q1 : nxtS wait 0 = 1 := by unfold nxtS; rw [if_neg (by simp), hp]
      have q2 : nxtW wait 0 = wait := by unfold nxtW; rw [if_neg (by simp), hp]; rfl
      have q3 : nxtT wait 0 = 0 := by unfold nxtT; rw [if_neg (by simp), hp]; rfl
      have q4 : nxtR wait 0 = noReq := by unfold nxtR; rw [if_neg (by simp), hp]
      rw [q1, q2, q3, q4]
      have hn := Hn.out
      subst hn
      have hP2 := HP1.out.set2 ((t + k : Nat) : Int)
      have ht4 := ((((Touch.refl (fun j => j = w.heap.size) (w1.setCell ⟨bp, 2, none⟩ (.int .i64 ((t + k : Nat) : Int)))).setCell (p := ⟨w.heap.size, 0, none⟩) rfl (.string ⟨#[]⟩)).setCell (p := ⟨w.heap.size, 1, none⟩) rfl (.string ⟨#[]⟩)).setCell (p := ⟨w.heap.size, 2, none⟩) rfl (.slice none 0 0)).setCell (p := ⟨w.heap.size, 3, none⟩) rfl (.slice none 0 0)
      have ht5 := ((Touch.refl (fun j => j = bp ∨ j = w.heap.size) w1).setCell (p := ⟨bp, 2, none⟩) (.inl rfl) (.int .i64 ((t + k : Nat) : Int))).trans (ht4.mono (fun j _ h => .inr h))
      have hPf := hP2.touch ht4 hne
      obtain ⟨D', m1, m2, m3⟩ := prs_more HO.out HOb.out hD1 hD2 hD3 hF hw6 (HB0.out.trans ((Below.refl _ w0).drew.mono HB0.out.size)) HS0.out HSo.out Hy.out hk HNx.out HNb.out ht5 hPf
      exact bodyPost_ret (v := .tuple #[.agg #[.string ⟨#[]⟩, .string ⟨#[]⟩, .slice none 0 0, .slice none 0 0], .int .i64 1]) (by simp [results, Tryz.results24, go_sem, hc0, hc1, hc2, hc3, hne, hne']) rfl ⟨_, rfl, D', m1, m2, m3, free_none _ _⟩
    · have hrun := run_any bm F m (wait.drop t) _ w0.drew HId.out HBd.out HGd.out hgF HRd.out (by omega) (by
        rintro _ a n c he hFa
        cases he
        exact Hg.out.1 hFa)
      generalize runM m (wait.drop t) = rr at hrun HNx Hb1 Hkl Hxp
      obtain ⟨k, s, y⟩ := rr
      have HC := Lib.hid hrun
      clear hrun
      go_region_held3 (fun w' => w'.cell? ⟨bp, 0, none⟩ = some (.pointer (some ⟨bm, 0, none⟩)) ∧ w'.cell? ⟨bp, 1, none⟩ = some (.slice (some ⟨g, 0, none⟩) wait.length c0) ∧ w'.cell? ⟨bp, 2, none⟩ = some (.int .i64 t)) (first | exact ⟨k0, k1, k2⟩ | exact ⟨k0a, k1a, k2a⟩) (first | (go_at_call 41; (with_reducible refine HC.out.mono ?_); rintro e w1 ⟨rfl, hso⟩; have hP1 := HPd.out.touch hso.1 hF; have k0a := hP1.c0; have k1a := hP1.c1; have k2a := hP1.c2))
      have hz1 := z0_touch HZd.out hso.1 (fun h => by have := hD3 _ (hD2 _ h); omega)
      have HSo := Lib.hid hso
      have HP1 := Lib.hid hP1
      obtain ⟨⟨hc0, hc1, hc2, hc3⟩, f0, f1, f2, f3⟩ := hz1
      have k2b := hP1.c2
      have fb2 := hP1.fz 2
      have hne : ¬ bp = w.heap.size := by omega
      have hne' : ¬ w.heap.size = bp := by omega
      have hlt1 : bp < w1.heap.size := hP1.lt
      have hkk : k ≤ 65536 := by
        by_cases h1 : s = 1
        · have := Hkl.out h1; have h3 : k = (wait.drop t).length := this; omega
        · have h2 := (run_cut wait mc0 (by rw [HNx.out]; exact h1)).1.2
          rw [HNx.out] at h2
          have h3 : k + t ≤ wait.length := h2
          omega
      obtain ⟨n, hn⟩ : ∃ n, t + k = n := ⟨_, rfl⟩
      have y1 : IntKind.i64.wrap ((t : Int) + (k : Int)) = (n : Int) := by rw [IntWalk.i64_in _ (by omega)]; omega
      have Hn := Lib.hid hn
      clear hn
      clear hso hP1 k0a k1a k2a k0 k1 k2 k3 hgF
      by_cases hs1 : s = 1
      · subst hs1
        have e1 : (((1 : Nat) : Int) == 1) = true := rfl
        have Hk1 := Lib.hid (show t + k = wait.length by have h3 : k = (wait.drop t).length := Hkl.out rfl; rw [List.length_drop] at h3; omega)
        have Hy := Lib.hid (show Bound y from Hb1.out rfl)
        go_wp2_with fail
        have hk := Hk1.out
        have hp : progParse wait = (noReq, 0, 1) := by rw [Hxp.out]; rfl
        have q1 : nxtS wait 0 = 1 := by unfold nxtS; rw [if_neg (by simp), hp]
        have q2 : nxtW wait 0 = wait := by unfold nxtW; rw [if_neg (by simp), hp]; rfl
        have q3 : nxtT wait 0 = 0 := by unfold nxtT; rw [if_neg (by simp), hp]; rfl
        have q4 : nxtR wait 0 = noReq := by unfold nxtR; rw [if_neg (by simp), hp]
        rw [q1, q2, q3, q4]
        have hn := Hn.out
        subst hn
        have hP2 := HP1.out.set2 ((t + k : Nat) : Int)
        have ht4 := ((((Touch.refl (fun j => j = w.heap.size) (w1.setCell ⟨bp, 2, none⟩ (.int .i64 ((t + k : Nat) : Int)))).setCell (p := ⟨w.heap.size, 0, none⟩) rfl (.string ⟨#[]⟩)).setCell (p := ⟨w.heap.size, 1, none⟩) rfl (.string ⟨#[]⟩)).setCell (p := ⟨w.heap.size, 2, none⟩) rfl (.slice none 0 0)).setCell (p := ⟨w.heap.size, 3, none⟩) rfl (.slice none 0 0)
        have ht5 := ((Touch.refl (fun j => j = bp ∨ j = w.heap.size) w1).setCell (p := ⟨bp, 2, none⟩) (.inl rfl) (.int .i64 ((t + k : Nat) : Int))).trans (ht4.mono (fun j _ h => .inr h))
        have hPf := hP2.touch ht4 hne
        obtain ⟨D', m1, m2, m3⟩ := prs_more HO.out HOb.out hD1 hD2 hD3 hF hw6 (HB0.out.trans ((Below.refl _ w0).drew.mono HB0.out.size)) HS0.out HSo.out Hy.out hk HNx.out HNb.out ht5 hPf
        exact bodyPost_ret (v := .tuple #[.agg #[.string ⟨#[]⟩, .string ⟨#[]⟩, .slice none 0 0, .slice none 0 0], .int .i64 1]) (by simp [results, Tryz.results24, go_sem, hc0, hc1, hc2, hc3, hne, hne']) rfl ⟨_, rfl, D', m1, m2, m3, free_none _ _⟩
      have e1 : ((s : Int) == 1) = false := by simp; omega
      by_cases hs0 : s = 0
      · subst hs0
        have Hp := Lib.hid (show progParse wait = (⟨y.m, y.p, y.h, y.b⟩, n, 0) by
          rw [Hxp.out]; unfold finP; rw [if_neg (by simp)]
          show (_, 0 + (k + t), 0) = _
          rw [show 0 + (k + t) = n by have := Hn.out; omega])
        obtain ⟨nx, hv, y', ⟨_, Hv, Bv, hM, ⟨hHo, hHb⟩, ⟨hBo, hBb⟩, _⟩, n1, n2, n3, n4⟩ := HSo.out.2.2 rfl
        rw [n1, n2] at hM
        rw [n3] at hHo
        rw [n4] at hBo
        obtain ⟨hA, hc', rfl⟩ := (rd_of_own hHo).shape
        obtain ⟨bA, bc', rfl⟩ := (rd_of_own hBo).shape
        have j2 := hM.c2
        have j3 := hM.c3
        have j4 := hM.c4
        have j5 := hM.c5
        have jp0 := HP1.out.c0
        have hmb : ¬ bm = bp := by rintro rfl; exact hF HId.out.bm
        have hmb' : ¬ bp = bm := fun e => hmb e.symm
        have HHo := Lib.hid hHo
        have HBo := Lib.hid hBo
        have HHb := Lib.hid hHb
        have HBb := Lib.hid hBb
        have HM := Lib.hid hM
        clear hHo hBo hHb hBb hM
        go_wp2_with fail
        have hP2 := HP1.out.set2 (n : Int)
        have ht2 := (Touch.refl (fun j => j = bp) w1).setCell (p := ⟨bp, 2, none⟩) rfl (.int .i64 (n : Int))
        have hHo2 := own_touch HHo.out ht2 (fun j hj => HP1.out.not_own HHo.out (by decide) j hj)
        have hBo2 := own_touch HBo.out ht2 (fun j hj => HP1.out.not_own HBo.out (by decide) j hj)
        have hz2 := z0_touch (⟨⟨hc0, hc1, hc2, hc3⟩, f0, f1, f2, f3⟩ : Z0 w1 w.heap.size) ht2 hne'
        have HT2 := Lib.hid ht2
        have hs21 : (w1.setCell ⟨bp, 2, none⟩ (.int .i64 (n : Int))).heap.size = w1.heap.size := by simp [World.setCell]
        clear ht2 j2 j3 j4 j5 jp0 k2b fb2 hc0 hc1 hc2 hc3 f0 f1 f2 f3
        generalize w1.setCell ⟨bp, 2, none⟩ (.int .i64 (n : Int)) = w2 at *
        have hb3 := (Below.refl w2.heap.size w2).alloc (Nat.le_refl _) (.cells #[.string (ofL y.m), .string (ofL y.p), .slice hA y.h.length hc', .slice bA y.b.length bc'] 27)
        have hR3 : RC (w2.alloc (.cells #[.string (ofL y.m), .string (ofL y.p), .slice hA y.h.length hc', .slice bA y.b.length bc'] 27)) w2.heap.size (ofL y.m) (ofL y.p) (.slice hA y.h.length hc') (.slice bA y.b.length bc') := heap_alloc_new _ _
        generalize w2.alloc (.cells #[.string (ofL y.m), .string (ofL y.p), .slice hA y.h.length hc', .slice bA y.b.length bc'] 27) = w3 at *
        have hP3 := hP2.below hb3
        have hHo3 := own_below hHo2 hb3
        have hBo3 := own_below hBo2 hb3
        have hz3 := hz2.next hb3
        rw [hs21] at hR3
        have hs3 := hb3.size
        have hnl : n ≤ wait.length := by
          have h2 := (run_cut wait mc0 (by rw [HNx.out]; show ¬ (0 = 1); decide)).1.2
          rw [HNx.out] at h2
          have h3 : k + t ≤ wait.length := h2
          have := Hn.out
          omega
        have h01 : Touch F w w1 := touch_new (Touch.of_below (HB0.out.trans ((Below.refl _ w0).drew.mono HB0.out.size))) HSo.out.1 (fun j _ h => h)
        have hown3 := own_below (own_touch (own_touch HO.out h01 (fun j hj h => (HOb.out j hj).1 h)) HT2.out (fun j hj h => HNb.out j hj h)) hb3
        have hPd3 := hP3.below (Below.refl _ w3).drew
        have hkey : ∃ V, (c0 = n → V = .slice (some ⟨g, 0, none⟩) (wait.length - n) 0) ∧ (¬ c0 = n → V = .slice (some ⟨g, n, none⟩) (wait.length - n) (c0 - n)) ∧ Rd w3 1 V (wait.drop n).length (bytesV (wait.drop n)) := by
          by_cases hcn : c0 = n
          · have hl0 : wait.drop n = [] := drop_all (by omega)
            refine ⟨_, fun _ => rfl, fun h => absurd hcn h, ?_⟩
            rw [hl0]
            exact ⟨rfl, _, _, by rw [show wait.length - n = 0 by omega]; rfl, Nat.le_refl _, by decide, fun _ => rfl, fun a ha => by cases ha; exact ⟨rfl, fun j u hj => by cases hj⟩⟩
          · exact ⟨_, fun h => absurd h hcn, fun _ => rfl, rd_from hown3 hnl⟩
        obtain ⟨V, hV1, hV2, hRV⟩ := hkey
        have hC := begin_any bp bm (.slice (some ⟨g, 0, none⟩) wait.length c0) n ((0 : Nat) : Int) (wait.drop n) V w3.drew hPd3 (hRV.below (Below.refl _ w3).drew) (by rw [List.length_drop]; omega) 0 rfl
        have HR3 := Lib.hid hR3
        have HP3 := Lib.hid hP3
        have HHo3 := Lib.hid hHo3
        have HBo3 := Lib.hid hBo3
        have HZ3 := Lib.hid hz3
        have H01 := Lib.hid h01
        have HS21 := Lib.hid hs21
        have HB3 := Lib.hid hb3
        have k1 := hP3.c1
        have k2 := hP3.c2
        have hnc : (n : Int) ≤ c0 := by omega
        have hnl' : (n : Int) ≤ wait.length := by omega
        clear hR3 hP3 hHo3 hBo3 hz3 h01 hs21 hPd3 hRV hown3 hP2 hHo2 hBo2 hz2 hb3
        by_cases hcn : c0 = n
        · have hVV := hV1 hcn
          subst hVV
          have HC := Lib.hid hC
          clear hC hV1 hV2
          go_still_tail 10, (by kernel_rfl)
          change wpList _ _ _ _ _ w3.drew
          go_wp2_with fail
          refine HC.out.mono ?_
          rintro e w4 ⟨rfl, D4, hp4, hd4, ht4⟩
          have hd4' : ∀ j, D4 j → j = bp ∨ w3.heap.size ≤ j := hd4
          have ht34 : Touch (fun j => j = bp) w3 w4 := (Touch.of_below (Below.refl _ w3).drew).trans ht4
          have hbw : ¬ w1.heap.size = bp := by omega
          have hR4 := HR3.out.touch ht34 hbw
          have hz4 := z0_touch HZ3.out ht34 hne'
          have hHo4 := own_touch HHo3.out ht34 (fun j hj => HP3.out.not_own HHo3.out (by decide) j hj)
          have hBo4 := own_touch HBo3.out ht34 (fun j hj => HP3.out.not_own HBo3.out (by decide) j hj)
          obtain ⟨⟨hc0, hc1, hc2, hc3⟩, f0, f1, f2, f3⟩ := hz4
          have i0 := hR4.c0
          have i1 := hR4.c1
          have i2 := hR4.c2
          have i3 := hR4.c3
          have HP4 := Lib.hid hp4
          have HT34 := Lib.hid ht34
          have HHo4 := Lib.hid hHo4
          have HBo4 := Lib.hid hBo4
          have HD4 := Lib.hid hd4'
          clear hp4 hd4 ht4 hd4' ht34 hHo4 hBo4 HC k1 k2
          go_wp2_with fail
          have hp := Hp.out
          have q1 : nxtS wait 0 = 0 := by unfold nxtS; rw [if_neg (by simp), hp]
          have q2 : nxtW wait 0 = wait.drop n := by unfold nxtW; rw [if_neg (by simp), hp]; rfl
          have q3 : nxtT wait 0 = 0 := by unfold nxtT; rw [if_neg (by simp), hp]; rfl
          have q4 : nxtR wait 0 = ⟨y.m, y.p, y.h, y.b⟩ := by unfold nxtR; rw [if_neg (by simp), hp]
          rw [q1, q2, q3, q4]
          have ht5 := ((((Touch.refl (fun j => j = w.heap.size) w4).setCell (p := ⟨w.heap.size, 0, none⟩) rfl (.string (ofL y.m))).setCell (p := ⟨w.heap.size, 1, none⟩) rfl (.string (ofL y.p))).setCell (p := ⟨w.heap.size, 2, none⟩) rfl (.slice hA y.h.length hc')).setCell (p := ⟨w.heap.size, 3, none⟩) rfl (.slice bA y.b.length bc')
          have z1 : w0.heap.size = w.heap.size + 1 := HS0.out
          have z2 : w0.heap.size ≤ w1.heap.size := HSo.out.1.size
          have z3 : w2.heap.size = w1.heap.size := HS21.out
          have hFw : ∀ j, F j → j < w.heap.size := fun j hj => hD3 j (hD2 j hj)
          have hG : ∀ j, Grow F w0.drew w1 j → j ≠ w.heap.size ∧ j < w3.heap.size := by
            rintro j (h | ⟨h1, h2⟩)
            · have := hFw j h; omega
            · have h1' : w0.heap.size ≤ j := h1
              omega
          have hD4' : ∀ j, D4 j → j ≠ w.heap.size := fun j hj => by rcases HD4.out j hj with h | h <;> omega
          have hnD : ∀ j, Grow F w0.drew w1 j → j ≠ bp → ¬ D4 j := fun j hj hb hd => by have := (hG j hj).2; rcases HD4.out j hd with h | h <;> omega
          have ht01 : Touch D w w1 := touch_new (Touch.of_below (HB0.out.trans ((Below.refl _ w0).drew.mono HB0.out.size))) HSo.out.1 (fun j _ h => hD2 j h)
          have htall : Touch D w _ := touch_new ((touch_new ((touch_new ht01 HT2.out (fun j _ h => h ▸ hD1)).trans (Touch.of_below HB3.out)) HT34.out (fun j _ h => h ▸ hD1))) ht5 (fun j hj h => by omega)
          exact bodyPost_ret (v := .tuple #[.agg #[.string (ofL y.m), .string (ofL y.p), .slice hA y.h.length hc', .slice bA y.b.length bc'], .int .i64 0]) (by simp [results, Tryz.results24, go_sem, hc0, hc1, hc2, hc3]) rfl
            ⟨_, D4, rfl, HP4.out.touch ht5 (fun j hj => hD4' j hj), fun j hj => (HD4.out j hj).elim (fun h => .inl (h ▸ hD1)) (fun h => .inr (by omega)), htall,
              _, _, rfl, ⟨own_touch HHo4.out ht5 (fun j hj => (hG j (HHb.out j hj)).1), fun j hj => hnD j (HHb.out j hj) (HP3.out.not_own HHo3.out (by decide) j hj)⟩, ⟨own_touch HBo4.out ht5 (fun j hj => (hG j (HBb.out j hj)).1), fun j hj => hnD j (HBb.out j hj) (HP3.out.not_own HBo3.out (by decide) j hj)⟩⟩
        · have hVV := hV2 hcn
          subst hVV
          have HC := Lib.hid hC
          clear hC hV1 hV2
          go_still_tail 10, (by kernel_rfl)
          change wpList _ _ _ _ _ w3.drew
          go_wp2_with fail
          refine HC.out.mono ?_
          rintro e w4 ⟨rfl, D4, hp4, hd4, ht4⟩
          have hd4' : ∀ j, D4 j → j = bp ∨ w3.heap.size ≤ j := hd4
          have ht34 : Touch (fun j => j = bp) w3 w4 := (Touch.of_below (Below.refl _ w3).drew).trans ht4
          have hbw : ¬ w1.heap.size = bp := by omega
          have hR4 := HR3.out.touch ht34 hbw
          have hz4 := z0_touch HZ3.out ht34 hne'
          have hHo4 := own_touch HHo3.out ht34 (fun j hj => HP3.out.not_own HHo3.out (by decide) j hj)
          have hBo4 := own_touch HBo3.out ht34 (fun j hj => HP3.out.not_own HBo3.out (by decide) j hj)
          obtain ⟨⟨hc0, hc1, hc2, hc3⟩, f0, f1, f2, f3⟩ := hz4
          have i0 := hR4.c0
          have i1 := hR4.c1
          have i2 := hR4.c2
          have i3 := hR4.c3
          have HP4 := Lib.hid hp4
          have HT34 := Lib.hid ht34
          have HHo4 := Lib.hid hHo4
          have HBo4 := Lib.hid hBo4
          have HD4 := Lib.hid hd4'
          clear hp4 hd4 ht4 hd4' ht34 hHo4 hBo4 HC k1 k2
          go_wp2_with fail
          have hp := Hp.out
          have q1 : nxtS wait 0 = 0 := by unfold nxtS; rw [if_neg (by simp), hp]
          have q2 : nxtW wait 0 = wait.drop n := by unfold nxtW; rw [if_neg (by simp), hp]; rfl
          have q3 : nxtT wait 0 = 0 := by unfold nxtT; rw [if_neg (by simp), hp]; rfl
          have q4 : nxtR wait 0 = ⟨y.m, y.p, y.h, y.b⟩ := by unfold nxtR; rw [if_neg (by simp), hp]
          rw [q1, q2, q3, q4]
          have ht5 := ((((Touch.refl (fun j => j = w.heap.size) w4).setCell (p := ⟨w.heap.size, 0, none⟩) rfl (.string (ofL y.m))).setCell (p := ⟨w.heap.size, 1, none⟩) rfl (.string (ofL y.p))).setCell (p := ⟨w.heap.size, 2, none⟩) rfl (.slice hA y.h.length hc')).setCell (p := ⟨w.heap.size, 3, none⟩) rfl (.slice bA y.b.length bc')
          have z1 : w0.heap.size = w.heap.size + 1 := HS0.out
          have z2 : w0.heap.size ≤ w1.heap.size := HSo.out.1.size
          have z3 : w2.heap.size = w1.heap.size := HS21.out
          have hFw : ∀ j, F j → j < w.heap.size := fun j hj => hD3 j (hD2 j hj)
          have hG : ∀ j, Grow F w0.drew w1 j → j ≠ w.heap.size ∧ j < w3.heap.size := by
            rintro j (h | ⟨h1, h2⟩)
            · have := hFw j h; omega
            · have h1' : w0.heap.size ≤ j := h1
              omega
          have hD4' : ∀ j, D4 j → j ≠ w.heap.size := fun j hj => by rcases HD4.out j hj with h | h <;> omega
          have hnD : ∀ j, Grow F w0.drew w1 j → j ≠ bp → ¬ D4 j := fun j hj hb hd => by have := (hG j hj).2; rcases HD4.out j hd with h | h <;> omega
          have ht01 : Touch D w w1 := touch_new (Touch.of_below (HB0.out.trans ((Below.refl _ w0).drew.mono HB0.out.size))) HSo.out.1 (fun j _ h => hD2 j h)
          have htall : Touch D w _ := touch_new ((touch_new ((touch_new ht01 HT2.out (fun j _ h => h ▸ hD1)).trans (Touch.of_below HB3.out)) HT34.out (fun j _ h => h ▸ hD1))) ht5 (fun j hj h => by omega)
          exact bodyPost_ret (v := .tuple #[.agg #[.string (ofL y.m), .string (ofL y.p), .slice hA y.h.length hc', .slice bA y.b.length bc'], .int .i64 0]) (by simp [results, Tryz.results24, go_sem, hc0, hc1, hc2, hc3]) rfl
            ⟨_, D4, rfl, HP4.out.touch ht5 (fun j hj => hD4' j hj), fun j hj => (HD4.out j hj).elim (fun h => .inl (h ▸ hD1)) (fun h => .inr (by omega)), htall,
              _, _, rfl, ⟨own_touch HHo4.out ht5 (fun j hj => (hG j (HHb.out j hj)).1), fun j hj => hnD j (HHb.out j hj) (HP3.out.not_own HHo3.out (by decide) j hj)⟩, ⟨own_touch HBo4.out ht5 (fun j hj => (hG j (HBb.out j hj)).1), fun j hj => hnD j (HBb.out j hj) (HP3.out.not_own HBo3.out (by decide) j hj)⟩⟩
      · have e0 : ((s : Int) == 0) = false := by simp; omega
        have Hp := Lib.hid (show progParse wait = (noReq, 0, s) by rw [Hxp.out]; unfold finP; rw [if_pos hs0])
        have jp0 := HP1.out.c0
        have jp3 := HP1.out.c3
        have fb3 := HP1.out.fz 3
        have H1 := Lib.hid hs1
        have H0 := Lib.hid hs0
        have hP2 := (HP1.out.set2 (n : Int)).set3 (s : Int)
        have ht2 := ((Touch.refl (fun j => j = bp) w1).setCell (p := ⟨bp, 2, none⟩) rfl (.int .i64 (n : Int))).setCell (p := ⟨bp, 3, none⟩) rfl (.int .i64 (s : Int))
        have HP2 := Lib.hid hP2
        have HT2 := Lib.hid ht2
        clear hs0 hs1 hP2 ht2
        go_wp2_with fail
        have hz2 := z0_touch (⟨⟨hc0, hc1, hc2, hc3⟩, f0, f1, f2, f3⟩ : Z0 w1 w.heap.size) HT2.out hne'
        have hs21 : ((w1.setCell ⟨bp, 2, none⟩ (.int .i64 (n : Int))).setCell ⟨bp, 3, none⟩ (.int .i64 (s : Int))).heap.size = w1.heap.size := by simp [World.setCell]
        clear hc0 hc1 hc2 hc3 f0 f1 f2 f3 k2b fb2 jp0 jp3 fb3
        generalize (w1.setCell ⟨bp, 2, none⟩ (.int .i64 (n : Int))).setCell ⟨bp, 3, none⟩ (.int .i64 (s : Int)) = w2 at *
        refine (begin_any bp bm (.slice (some ⟨g, 0, none⟩) wait.length c0) n (s : Int) [] (.slice none 0 0) w2 HP2.out (rd_nil _ _) (by simp) s rfl).mono ?_
        rintro e w4 ⟨rfl, D4, hp4, hd4, ht24⟩
        have hz4 := z0_touch hz2 ht24 hne'
        obtain ⟨⟨hc0, hc1, hc2, hc3⟩, f0, f1, f2, f3⟩ := hz4
        have HP4 := Lib.hid hp4
        have HT24 := Lib.hid ht24
        have HD4 := Lib.hid hd4
        have HS21 := Lib.hid hs21
        clear hp4 ht24 hd4 hz2 hs21
        go_wp2_with fail
        have hp := Hp.out
        have q1 : nxtS wait 0 = s := by unfold nxtS; rw [if_neg (by simp), hp]
        have q2 : nxtW wait 0 = [] := by unfold nxtW; rw [if_neg (by simp), hp]; simp only; rw [if_neg H1.out, if_neg H0.out]
        have q3 : nxtT wait 0 = s := by unfold nxtT; rw [if_neg (by simp), hp]; simp only; rw [if_neg H1.out]
        have q4 : nxtR wait 0 = noReq := by unfold nxtR; rw [if_neg (by simp), hp]
        rw [q1, q2, q3, q4]
        have ht5 := ((((Touch.refl (fun j => j = w.heap.size) w4).setCell (p := ⟨w.heap.size, 0, none⟩) rfl (.string ⟨#[]⟩)).setCell (p := ⟨w.heap.size, 1, none⟩) rfl (.string ⟨#[]⟩)).setCell (p := ⟨w.heap.size, 2, none⟩) rfl (.slice none 0 0)).setCell (p := ⟨w.heap.size, 3, none⟩) rfl (.slice none 0 0)
        have z1 : w0.heap.size = w.heap.size + 1 := HS0.out
        have z2 : w0.heap.size ≤ w1.heap.size := HSo.out.1.size
        have z3 : w2.heap.size = w1.heap.size := HS21.out
        have hD4' : ∀ j, D4 j → j ≠ w.heap.size := fun j hj => by rcases HD4.out j hj with h | h <;> omega
        have ht01 : Touch D w w1 := touch_new (Touch.of_below (HB0.out.trans ((Below.refl _ w0).drew.mono HB0.out.size))) HSo.out.1 (fun j _ h => hD2 j h)
        have htall : Touch D w _ := touch_new (touch_new (touch_new ht01 HT2.out (fun j _ h => h ▸ hD1)) HT24.out (fun j _ h => h ▸ hD1)) ht5 (fun j hj h => by omega)
        exact bodyPost_ret (v := .tuple #[.agg #[.string ⟨#[]⟩, .string ⟨#[]⟩, .slice none 0 0, .slice none 0 0], .int .i64 s]) (by simp [results, Tryz.results24, go_sem, hc0, hc1, hc2, hc3]) rfl
          ⟨_, D4, rfl, HP4.out.touch ht5 (fun j hj => hD4' j hj), fun j hj => (HD4.out j hj).elim (fun h => .inl (h ▸ hD1)) (fun h => .inr (by omega)), htall, free_none _ _⟩
end Go.Proofs.YtmhgnaemafohfaaGreatDoor
