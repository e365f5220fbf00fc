/- The program's Parse (httpd): the request with which bytes begin. Conditions: the bytes are few. -/
import Derived.Test.YtmhgnaemafohfaaGreatDoorLawD
namespace Go.Proofs.YtmhgnaemafohfaaGreatDoor
open Go.RowKit
set_option linter.unusedVariables false
set_option linter.unusedSimpArgs false
set_option maxRecDepth 100000

/-- A request that was read, as a value of its own. -/
def OwnReq (base : Nat) (x : Req) (v : Value) (w : World) : Prop :=
  ∃ Hv Bv, v = .agg #[.string (ofL x.m), .string (ofL x.p), Hv, Bv] ∧ w.ownsRow base 72 2 Hv x.h.length (pairs x.h) ∧ w.ownsRow base 5 1 Bv x.b.length (bytesV x.b)
def ProgIs (base : Nat) (x : Req × Nat × Nat) (e : Ending) (w : World) : Prop :=
  ∃ v, e = .returned (.tuple #[v, .int .i64 x.2.1, .int .i64 x.2.2]) ∧ OwnReq base x.1 v w
theorem own_rebase {w : World} {b1 b2 : Nat} {e : TypeId} {size : Nat} {v : Value} {n : Nat} {xs : List Value} (h : w.ownsRow b1 e size v n xs) (hk : ∀ k, v.ownBlock = some k → b2 ≤ k) : w.ownsRow b2 e size v n xs := by
  rcases h.2 with ⟨rfl, rfl⟩ | ⟨g, cap, cur, rfl, hb, hg, hc, hm, hs, htk⟩
  · exact ⟨h.1, .inl ⟨rfl, rfl⟩⟩
  · exact ⟨h.1, .inr ⟨g, cap, cur, rfl, hk g rfl, hg, hc, hm, hs, htk⟩⟩
theorem own_req_none (base : Nat) (w : World) : OwnReq base noReq zReq w := ⟨_, _, rfl, World.ownsRow_nil _ _ _ _, World.ownsRow_nil _ _ _ _⟩
theorem prog_none {base : Nat} {x : Req × Nat × Nat} {n : Nat} (h : x = (noReq, 0, n)) (w : World) : ProgIs base x (.returned (.tuple #[.agg #[.string ⟨#[]⟩, .string ⟨#[]⟩, .slice none 0 0, .slice none 0 0], .int .i64 0, .int .i64 n])) w := by
  subst h; exact ⟨_, rfl, own_req_none _ _⟩

theorem z0_touch {F : Nat → Prop} {w w' : World} {b : Nat} (h : Z0 w b) (ht : Touch F w w') (hf : ¬ F b) : Z0 w' b := by
  obtain ⟨⟨h0, h1, h2, h3⟩, f0, f1, f2, f3⟩ := h
  have hl := lt_of_cell h0
  have hb : ∀ o, w'.frozen? ⟨b, o, none⟩ = w.frozen? ⟨b, o, none⟩ := fun o => by unfold World.frozen?; rw [ht.block b hl hf]
  have hc : ∀ o, w'.cell? ⟨b, o, none⟩ = w.cell? ⟨b, o, none⟩ := fun o => ht.cell (p := ⟨b, o, none⟩) hl hf
  unfold Z0
  rw [hb, hb, hb, hb, hc, hc, hc, hc]
  exact ⟨⟨h0, h1, h2, h3⟩, f0, f1, f2, f3⟩

set_option maxHeartbeats 4000000 in
theorem prog_any (l : B) (v : Value) (w : World) (hR : Rd w 1 v l.length (bytesV l)) (hl : l.length ≤ 140737488355328) (hg : Glob w) :
    Calls Tryz.prog 14 #[v] w fun e w' => ProgIs w.heap.size (progParse l) e w' ∧ Below w.heap.size w w' := by
  obtain ⟨A, cp, rfl⟩ := hR.shape
  have HR := Lib.hid hR
  have HG := Lib.hid hg
  clear hR hg
  go_enter Tryz.func14, Tryz.ntmps14
  have C := Lib.hid (fun w => fresh_any w)
  go_wp2_with (go_at_call 40; refine (C.out _).mono ?_)
  rintro e w1 ⟨rfl, hb1, hs1, hI⟩
  have hz := (z0_alloc w).next hb1
  have hbw := (((Below.refl w.heap.size w).alloc (Nat.le_refl _) _).trans (hb1.mono (by simp)))
  have ha : (w.alloc (.cells #[.string ⟨#[]⟩, .string ⟨#[]⟩, .slice none 0 0, .slice none 0 0] 27)).heap.size = w.heap.size + 1 := by simp
  rw [ha] at hs1 hI ⊢
  obtain ⟨mg, hmg⟩ := HG.out
  have hml := lt_of_cell hmg
  have HR1 := HR.out.below hbw
  have hrun := run_any (w.heap.size + 1) (fun k => k = w.heap.size + 1) mc0 l (.slice A l.length cp) w1 hI bound0 (HG.out.next hbw) (by omega) HR1 hl (by
    rintro hne a n c he e
    obtain ⟨h1, A', c', h2, h3, h4, h5, h6⟩ := HR.out
    rw [h2] at he
    cases he
    obtain ⟨hsp, hcell⟩ := h6 a rfl
    cases l with
    | nil => exact hne rfl
    | cons x t => have := lt_of_cell (hcell 0 _ rfl); omega)
  generalize hr : runM mc0 l = r at hrun
  obtain ⟨n, st, y⟩ := r
  have hP : progParse l = finP 0 (n, st, y) := by unfold progParse; rw [hr]
  have HC := Lib.hid hrun
  clear hrun hr hI
  by_cases h0 : st = 0
  case neg =>
    have h1 : ((st : Int) != 0) = true := by simp; omega
    have Hf := Lib.hid (show progParse l = (noReq, 0, st) by rw [hP]; simp [finP, h0])
    clear hP h0
    go_wp2_with (go_at_call 41; refine HC.out.mono ?_)
    rintro e w2 ⟨rfl, hso⟩
    obtain ⟨⟨hc0, hc1, hc2, hc3⟩, f0, f1, f2, f3⟩ := z0_touch hz hso.1 (by simp)
    have hb2 : Below w.heap.size w w2 := hbw.trans (hso.1.below (fun k hk e => by omega) (by omega))
    have Hso := Lib.hid hso
    clear hso
    go_wp2_with fail
    refine bodyPost_ret (v := .tuple #[.agg #[.string ⟨#[]⟩, .string ⟨#[]⟩, .slice none 0 0, .slice none 0 0], .int .i64 0, .int .i64 st]) (by simp [results, Tryz.results14, go_sem, hc0, hc1, hc2, hc3]) rfl ⟨prog_none Hf.out _, below_set4 hb2 _ _ _ _⟩
  subst h0
  have h1 : (((0 : Nat) : Int) != 0) = false := rfl
  have Hf := Lib.hid (show progParse l = (⟨y.m, y.p, y.h, y.b⟩, n, 0) by rw [hP]; simp [finP])
  clear hP
  go_wp2_with (go_at_call 41; refine HC.out.mono ?_)
  rintro e w2 ⟨rfl, hso⟩
  obtain ⟨⟨hc0, hc1, hc2, hc3⟩, f0, f1, f2, f3⟩ := z0_touch hz hso.1 (by simp)
  have hb2 : Below w.heap.size w w2 := hbw.trans (hso.1.below (fun k hk e => by omega) (by omega))
  obtain ⟨nx, hv, y', ⟨_, Hv, Bv, hM, ⟨hHo, hHb⟩, ⟨hBo, hBb⟩, _⟩, e1, e2, e3, e4⟩ := hso.2.2 rfl
  rw [e1, e2] at hM
  rw [e3] at hHo
  rw [e4] at hBo
  have q1 : w2.ownsRow (w.heap.size + 1) 72 2 Hv y.h.length (pairs y.h) := own_rebase hHo fun k hk => by rcases hHb k hk with h | ⟨h, _⟩ <;> omega
  have q2 : w2.ownsRow (w.heap.size + 1) 5 1 Bv y.b.length (bytesV y.b) := own_rebase hBo fun k hk => by rcases hBb k hk with h | ⟨h, _⟩ <;> omega
  have Q1 := Lib.hid q1
  have Q2 := Lib.hid q2
  obtain ⟨hA, hc', rfl⟩ := (rd_of_own q1).shape
  obtain ⟨bA, bc', rfl⟩ := (rd_of_own q2).shape
  have m2 := hM.c2
  have m3 := hM.c3
  have m4 := hM.c4
  have m5 := hM.c5
  have HM := Lib.hid hM
  clear q1 q2 hso hHo hHb hBo hBb hM e1 e2 e3 e4
  go_wp2_with fail
  refine bodyPost_ret (v := .tuple #[.agg #[.string (ofL y.m), .string (ofL y.p), .slice hA y.h.length hc', .slice bA y.b.length bc'], .int .i64 n, .int .i64 0]) (by simp [results, Tryz.results14, go_sem, hc0, hc1, hc2, hc3]) rfl ⟨?_, below_set4 hb2 _ _ _ _⟩
  unfold ProgIs
  rw [Hf.out]
  exact ⟨_, rfl, _, _, rfl, (own_set4 Q1.out (Nat.lt_succ_self _) _ _ _ _).mono (Nat.le_succ _), (own_set4 Q2.out (Nat.lt_succ_self _) _ _ _ _).mono (Nat.le_succ _)⟩
end Go.Proofs.YtmhgnaemafohfaaGreatDoor
