/- A parser is fed, tells how many bytes wait, hands them over (httpd.Parser's Feed, Waiting, Rest). Conditions: none. -/
import Derived.Test.YtmhgnaemafohfaaGreatDoorParsA
namespace Go.Proofs.YtmhgnaemafohfaaGreatDoor
open Go.RowKit
set_option linter.unusedVariables false
set_option linter.unusedSimpArgs false
set_option maxRecDepth 100000

theorem waiting_any (bp st : Nat) (wait : B) (D : Nat → Prop) (w : World) (h : Prs w bp wait st D) :
    Calls Tryz.prog 26 #[.pointer (some ⟨bp, 0, none⟩)] w fun e w' => e = .returned (.int .i64 wait.length) ∧ w' = w := by
  obtain ⟨bm, F, m, Wv, t, hP, _, _, _, ⟨hown, _⟩, _⟩ := h
  obtain ⟨A, c, rfl⟩ := (rd_of_own hown).shape
  have k1 := hP.c1
  clear hown hP
  go_enter Tryz.func26, Tryz.ntmps26
  go_wp2_with fail
  go_ret
  exact ⟨rfl, rfl⟩
/-- Feed's answer, and what waits then. -/
def feedE (wait l : B) (st : Nat) : Nat := if st ≠ 0 then 31 else if 65536 < wait.length + l.length then 7 else 0
def feedW (wait l : B) (st : Nat) : B := if st ≠ 0 then wait else if 65536 < wait.length + l.length then wait else wait ++ l
theorem own_part {w : World} {v : Value} {l : B} (h : Rd w 1 v l.length (bytesV l)) (hN : ∀ n c, v = .slice none n c → c = 0) :
    (v = .slice none 0 0 ∧ l = []) ∨ ∃ b o c, v = .slice (some ⟨b, o, none⟩) l.length c ∧ ∀ j u, (bytesV l)[j]? = some u → w.cell? ⟨b, o + j, none⟩ = some u := by
  obtain ⟨_, A, c, rfl, _, _, h5, h6⟩ := h
  cases A with
  | none =>
    have h0 := h5 rfl
    have hc := hN _ _ rfl
    subst hc
    exact .inl ⟨by rw [h0], List.eq_nil_of_length_eq_zero h0⟩
  | some a =>
    obtain ⟨hsp, hcl⟩ := h6 a rfl
    obtain ⟨b, o, q⟩ := a
    simp only at hsp
    subst hsp
    exact .inr ⟨b, o, c, rfl, hcl⟩

theorem prs_fed {bp bm t : Nat} {wait l : B} {D F : Nat → Prop} {m : Mc} {Wv v1 : Value} {w w1 : World} (hP : PC w bp bm Wv t ((0 : Nat) : Int)) (hI : MI w bm F m) (hBd : Bound m) (hF : ¬ F bp) (hown : w.ownsRow 0 5 1 Wv wait.length (bytesV wait))
    (hob : ∀ k, Wv.ownBlock = some k → ¬ F k ∧ D k) (hD1 : D bp) (hD2 : ∀ k, F k → D k) (hD3 : ∀ k, D k → k < w.heap.size) (ht : t ≤ wait.length) (hrun : (runM mc0 (wait.take t)).2 = (1, m))
    (ht1 : Touch (fun k => Wv.ownBlock = some k) w w1) (ho1 : w1.ownsRow 0 5 1 v1 (wait ++ l).length (bytesV (wait ++ l))) (hl1 : Lies w Wv v1) (h6 : (wait ++ l).length ≤ 65536) :
    ∃ D', Prs (w1.setCell ⟨bp, 1, none⟩ v1) bp (wait ++ l) 0 D' ∧ (∀ k, D' k → D k ∨ w.heap.size ≤ k) ∧ Touch D w (w1.setCell ⟨bp, 1, none⟩ v1) := by
  have hnb := hP.not_own hown (by decide)
  have hP1 := hP.touch ht1 (fun h => hnb _ h rfl)
  have hnb1 := hP1.not_own ho1 (by decide)
  have ht2 := (Touch.refl (fun k => k = bp) w1).setCell (p := ⟨bp, 1, none⟩) rfl v1
  have hFb : ∀ k, F k → k < w.heap.size := fun k hk => hD3 k (hD2 k hk)
  have hI2 := (hI.touch ht1 (fun k hk h => (hob k h).1 hk)).touch ht2 (fun k hk h => hF (h ▸ hk))
  have hs1 := ht1.size
  have hs2 := ht2.size
  refine ⟨fun k => D k ∨ (w.heap.size ≤ k ∧ k < w1.heap.size), ⟨bm, F, m, v1, t, hP1.set1 v1, hI2, hBd, hF, ⟨own_touch ho1 ht2 (fun k hk h => hnb1 k hk h), fun k hk => ?_⟩, ⟨.inl hD1, fun k hk => .inl (hD2 k hk), fun k hk => ?_⟩, ?_, ?_, h6⟩, fun k hk => hk.elim .inl (fun h => .inr h.1), (ht1.mono (fun k _ h => (hob k h).2)).trans (ht2.mono (fun k _ h => h ▸ hD1))⟩
  · have hlt := (ho1.lt k hk).2
    rcases hl1 k hk with h | h
    · exact ⟨(hob k h).1, .inl (hob k h).2⟩
    · exact ⟨fun e => by have := hFb k e; omega, .inr ⟨h, hlt⟩⟩
  · rcases hk with h | ⟨_, h⟩
    · have := hD3 k h; omega
    · omega
  · rw [List.length_append]; omega
  · rw [List.take_append_of_le_length ht]; exact hrun

set_option maxHeartbeats 4000000 in
theorem feed_any (bp st : Nat) (wait l : B) (v : Value) (D : Nat → Prop) (w : World) (h : Prs w bp wait st D) (hR : Rd w 1 v l.length (bytesV l)) (hN : ∀ n c, v = .slice none n c → c = 0) (hl : l.length ≤ 1099511627776) :
    Calls Tryz.prog 25 #[.pointer (some ⟨bp, 0, none⟩), v] w fun e w' => e = .returned (.int .i64 (feedE wait l st)) ∧ ∃ D', Prs w' bp (feedW wait l st) st D' ∧ (∀ k, D' k → D k ∨ w.heap.size ≤ k) ∧ Touch D w w' := by
  have HPr := Lib.hid h
  obtain ⟨bm, F, m, Wv, t, hP, hI, hBd, hF, ⟨hown, hob⟩, ⟨hD1, hD2, hD3⟩, ht, hrun, hw6⟩ := h
  have k0 := hP.c0
  have k3 := hP.c3
  have hplt := hP.lt
  obtain ⟨A0, c0, rfl⟩ := (rd_of_own hown).shape
  by_cases hst : st = 0
  case neg =>
    have hs : ((st : Int) != 0) = true := by simp; omega
    have e1 : feedE wait l st = 31 := by unfold feedE; rw [if_pos hst]
    have e2 : feedW wait l st = wait := by unfold feedW; rw [if_pos hst]
    rw [e1, e2]
    clear hst e1 e2 hown hob
    go_enter Tryz.func25, Tryz.ntmps25
    go_wp2_with fail
    go_ret
    exact ⟨rfl, D, HPr.out, fun k hk => .inl hk, Touch.refl _ _⟩
  subst hst
  have k1 := hP.c1
  obtain ⟨A, c, hv⟩ := hR.shape
  by_cases hbig : 65536 < wait.length + l.length
  · have e1 : feedE wait l 0 = 7 := by unfold feedE; rw [if_neg (by simp), if_pos hbig]
    have e2 : feedW wait l 0 = wait := by unfold feedW; rw [if_neg (by simp), if_pos hbig]
    rw [e1, e2]
    subst hv
    have y1 : IntKind.i64.wrap ((wait.length : Int) + (l.length : Int)) = (wait.length : Int) + l.length := IntWalk.i64_in _ (by omega)
    have y2 : (65536 : Int) < (wait.length : Int) + l.length := by omega
    clear e1 e2 hown hob hR hN
    go_enter Tryz.func25, Tryz.ntmps25
    go_wp2_with fail
    go_ret
    exact ⟨rfl, D, HPr.out, fun k hk => .inl hk, Touch.refl _ _⟩
  have e1 : feedE wait l 0 = 0 := by unfold feedE; rw [if_neg (by simp), if_neg hbig]
  have e2 : feedW wait l 0 = wait ++ l := by unfold feedW; rw [if_neg (by simp), if_neg hbig]
  rw [e1, e2]
  have y1 : IntKind.i64.wrap ((wait.length : Int) + (l.length : Int)) = (wait.length : Int) + l.length := IntWalk.i64_in _ (by omega)
  have y2 : ¬ (65536 : Int) < (wait.length : Int) + l.length := by omega
  obtain ⟨htu, ⟨i0, hi, hz, hsize, hby⟩, hzs, hsz, hbz⟩ := rowB
  have HP := Lib.hid hP
  have HI := Lib.hid hI
  have HO := Lib.hid hown
  have Hob := Lib.hid hob
  have Hrun := Lib.hid hrun
  have f1 := hP.fz 1
  have hpb := hP.not_own hown (by decide)
  have Hpb := Lib.hid hpb
  clear e1 e2 hown hob hP hI hrun hpb hv
  rcases own_part hR hN with ⟨rfl, rfl⟩ | ⟨b, o, c', rfl, hcl⟩
  · clear hR hN
    go_enter Tryz.func25, Tryz.ntmps25
    go_wp2_with (at_builtin; refine wpList_append_own_none rfl _ _ 22 rfl 0 5 i0 1 htu hi _ _ _ rfl HO.out rfl ?_)
    go_wp2_with fail
    go_ret
    refine ⟨rfl, ?_⟩
    have h := prs_fed HP.out HI.out hBd hF HO.out Hob.out hD1 hD2 hD3 ht Hrun.out (Touch.refl _ _) (by rw [List.append_nil]; exact HO.out) (Lies.refl _) (by rw [List.append_nil]; exact hw6)
    rw [List.append_nil] at h
    exact h
  · clear hR hN
    have hone : ∀ u ∈ bytesV l, u.oneCell' = true := oneCell_bytes l
    have Hcl := Lib.hid hcl
    clear hcl
    go_enter Tryz.func25, Tryz.ntmps25
    go_wp2_with (at_builtin; refine wpList_append_own_at _ rfl _ _ 22 rfl 0 5 i0 _ 1 1 htu hi hz hsize hby hzs hsz _ _ _ rfl HO.out ⟨b, o, none⟩ l.length c' (bytesV l) rfl ?qc1 ?qc2 hone ?qc4 ?qc5 ?qc6 ?_)
    case qc1 => rw [bytesV_len]
    case qc2 => exact Hcl.out
    case qc4 => unfold maxLen; omega
    case qc5 => omega
    intro v' w1 hown' hgrow _ hlie
    have ht1 : Touch (fun k => (Value.slice A0 wait.length c0).ownBlock = some k) w w1 := (Touch.refl _ w).grown hgrow (fun k hk => hk)
    have hP1 := HP.out.touch ht1 (fun h => Hpb.out _ h rfl)
    have f1' := hP1.fz 1
    have k1' := hP1.c1
    have hlen : wait.length + l.length = (wait ++ l).length := by rw [List.length_append]
    have hown2 : w1.ownsRow 0 5 1 v' (wait ++ l).length (bytesV (wait ++ l)) := by rw [← hlen, bytesV_append]; exact hown'
    have hl1 : Lies w (.slice A0 wait.length c0) v' := by
      intro k hk
      rcases hlie with h | h
      · exact .inl (h ▸ hk)
      · rw [h] at hk; cases hk; exact .inr (Nat.le_refl _)
    have HO1 := Lib.hid hown2
    have HL1 := Lib.hid hl1
    have HT1 := Lib.hid ht1
    obtain ⟨A1, c1, rfl⟩ := (rd_of_own hown2).shape
    have h6 : (wait ++ l).length ≤ 65536 := by omega
    clear hown' hgrow hlie hown2 hl1 ht1 hP1 hlen k1
    go_wp2_with fail
    go_ret
    exact ⟨rfl, prs_fed HP.out HI.out hBd hF HO.out Hob.out hD1 hD2 hD3 ht Hrun.out HT1.out (by rw [show wait.length + l.length = (wait ++ l).length by rw [List.length_append]]; exact HO1.out) (fun k hk => HL1.out k (by cases A1 <;> exact hk)) h6⟩
end Go.Proofs.YtmhgnaemafohfaaGreatDoor
