/- read (blotterlaw08): the requests of bytes that come in parts. Conditions: the bytes are no more than 32768. -/
import Derived.Test.YtmhgnaemafohfaaGreatDoorPieC
namespace Go.Proofs.YtmhgnaemafohfaaGreatDoor
open Go.RowKit
set_option linter.unusedVariables false
set_option linter.unusedSimpArgs false
set_option maxRecDepth 100000

theorem rowR : Row Tryz.prog 40 27 (.agg #[.string ⟨#[]⟩, .string ⟨#[]⟩, .slice none 0 0, .slice none 0 0]) 4 80 :=
  ⟨Tryz.underlying40, info_parts (by kernel_rfl), rfl, by decide, by decide⟩
theorem seq_rest : ∀ (n : Nat) (l : B), l.length = n → (seqL l).2.2.length ≤ l.length := by
  intro n
  induction n using Nat.strongRecOn with
  | _ n ih =>
    intro l hl
    by_cases h : (progParse l).2.2 = 0
    · have hc := (cut_law l h).1
      rw [seq_take h]
      have := ih (l.drop (progParse l).2.1).length (by rw [List.length_drop]; omega) _ rfl
      rw [List.length_drop] at this
      show (seqL (l.drop (progParse l).2.1)).2.2.length ≤ l.length
      omega
    · rw [seq_stop h]; exact Nat.le_refl _
theorem seq_len : ∀ (n : Nat) (l : B), l.length = n → 5 * (seqL l).1.length ≤ l.length := by
  intro n
  induction n using Nat.strongRecOn with
  | _ n ih =>
    intro l hl
    by_cases h : (progParse l).2.2 = 0
    · have hc := (cut_law l h).1
      have h5 := taken5 l h
      rw [seq_take h]
      have := ih (l.drop (progParse l).2.1).length (by rw [List.length_drop]; omega) _ rfl
      rw [List.length_drop] at this
      show 5 * ((seqL (l.drop (progParse l).2.1)).1.length + 1) ≤ l.length
      omega
    · rw [seq_stop h]; exact Nat.zero_le _
/-- What was told so far, of the bytes so far. -/
def Inv2 (C : B) (rs : List Req) (wait : B) (st s : Nat) : Prop :=
  (st = 0 ∧ s = 1 ∧ seqL C = (rs, 1, wait)) ∨ (st ≠ 0 ∧ s = st ∧ s ≠ 1 ∧ (seqL C).1 = rs ∧ (seqL C).2.1 = s)
theorem inv2_end {C : B} {rs : List Req} {wait : B} {st s : Nat} (h : Inv2 C rs wait st s) : (seqL C).1 = rs ∧ (seqL C).2.1 = s := by
  rcases h with ⟨_, h1, h2⟩ | ⟨_, _, _, h1, h2⟩
  · rw [h2, h1]; exact ⟨rfl, rfl⟩
  · exact ⟨h1, h2⟩
theorem inv2_more {C M : B} {rs : List Req} {wait : B} {st s : Nat} (h : Inv2 C rs wait st s) (hst : st ≠ 0) : (seqL (C ++ M)).1 = rs ∧ (seqL (C ++ M)).2.1 = s := by
  rcases h with ⟨h0, _⟩ | ⟨_, h1, h2, h3, h4⟩
  · exact absurd h0 hst
  · obtain ⟨a, b⟩ := (seq_app _ C M rfl).1 (by rw [h4]; exact h2)
    exact ⟨a.trans h3, b.trans h4⟩
theorem flatP_drop (ps : List (Value × B)) (k : Nat) : flatP ps = flatP (ps.take k) ++ flatP (ps.drop k) := by unfold flatP; rw [← List.flatMap_append, List.take_append_drop]

/-- Where read stands. -/
structure RD (n0 b0 : Nat) (w : World) (bp bt : Nat) (q : Told) (Lv : Value) (s : Nat) (wait : B) (st : Nat) (D : Nat → Prop) : Prop where
  rs : RS w bp bt 0 q Lv s D
  prs : Prs w bp wait st D
  t0 : TC w b0 (.slice none 0 0) 0
  nb0 : ¬ D b0
  ne : b0 ≠ bt
  n0b : n0 ≤ b0
  n0t : n0 ≤ bt
  dge : ∀ j, D j → n0 ≤ j
  lge : ∀ j, Lv.ownBlock = some j → n0 ≤ j
theorem RD.step {n0 b0 : Nat} {w w' : World} {bp bt s st st' : Nat} {q : Told} {Lv : Value} {wait wait' : B} {D D' : Nat → Prop} (h : RD n0 b0 w bp bt q Lv s wait st D) (ht : Touch D w w') (hp : Prs w' bp wait' st' D') (hD : ∀ k, D' k → D k ∨ w.heap.size ≤ k) :
    RD n0 b0 w' bp bt q Lv s wait' st' D' :=
  ⟨h.rs.touch ht hD, hp, h.t0.touch ht h.nb0, fun e => (hD _ e).elim h.nb0 (fun e => by have := h.t0.lt; omega), h.ne, h.n0b, h.n0t, fun j hj => (hD j hj).elim (h.dge j) (fun e => by have := h.t0.lt; have := h.n0b; omega), h.lge⟩
theorem RD.below {n0 b0 : Nat} {w w' : World} {bp bt s st : Nat} {q : Told} {Lv : Value} {wait : B} {D : Nat → Prop} (h : RD n0 b0 w bp bt q Lv s wait st D) (hb : Below w.heap.size w w') : RD n0 b0 w' bp bt q Lv s wait st D :=
  h.step (.of_below hb) (h.prs.below hb) (fun k hk => .inl hk)
/-- The status is told. -/
theorem RD.status {n0 b0 : Nat} {w : World} {bp bt s st : Nat} {q : Told} {Lv : Value} {wait : B} {D : Nat → Prop} (h : RD n0 b0 w bp bt q Lv s wait st D) (s' : Nat) :
    RD n0 b0 (w.setCell ⟨bt, 1, none⟩ (.int .i64 s')) bp bt q Lv s' wait st D := by
  have ht := (Touch.refl (fun j => j = bt) w).setCell (p := ⟨bt, 1, none⟩) rfl (.int .i64 (s' : Int))
  refine ⟨⟨h.rs.tc.set1 s', h.rs.ntc, own_touch h.rs.own ht (fun j hj e => h.rs.tc.not_own h.rs.own (by decide) j hj e), h.rs.nown, fun x hx => ?_⟩, h.prs.touch ht (fun j hj e => h.rs.ntc (e ▸ hj)), h.t0.touch ht h.ne, h.nb0, h.ne, h.n0b, h.n0t, h.dge, h.lge⟩
  obtain ⟨Hv, Bv, e, ⟨h1, h2⟩, ⟨h3, h4⟩⟩ := h.rs.free x hx
  exact ⟨Hv, Bv, e, ⟨own_touch h1 ht (fun j hj e => h.rs.tc.not_own h1 (by decide) j hj e), h2⟩, ⟨own_touch h3 ht (fun j hj e => h.rs.tc.not_own h3 (by decide) j hj e), h4⟩⟩
/-- A request more is told. -/
theorem RD.push {n0 b0 : Nat} {w w1 : World} {bp bt s st : Nat} {q : Told} {Lv v1 : Value} {wait : B} {D : Nat → Prop} {r : Req} {Hv Bv : Value} (h : RD n0 b0 w bp bt q Lv s wait st D) (hf : FreeReq w D r (.agg #[.string (ofL r.m), .string (ofL r.p), Hv, Bv]))
    (ho : w1.ownsRow 0 27 4 v1 (q.length + 1) (toldC q ++ [.string (ofL r.m), .string (ofL r.p), Hv, Bv])) (ht : Touch (fun k => Lv.ownBlock = some k) w w1) (hl : Lies w Lv v1) :
    RD n0 b0 (w1.setCell ⟨bt, 0, none⟩ v1) bp bt (q ++ [(r, Hv, Bv)]) v1 s wait st D := by
  have hT1 := h.rs.tc.touch ht (fun e => h.rs.tc.not_own h.rs.own (by decide) _ e rfl)
  have ht2 := (Touch.refl (fun j => j = bt) w1).setCell (p := ⟨bt, 0, none⟩) rfl v1
  have hDl := h.prs
  have hDlt : ∀ k, D k → k < w.heap.size := by obtain ⟨_, _, _, _, _, _, _, _, _, _, hd, _⟩ := hDl; exact hd.2.2
  have hl1 : ∀ k, v1.ownBlock = some k → ¬ D k := fun k hk e => (hl k hk).elim (fun h' => h.rs.nown k h' e) (fun h' => by have := hDlt k e; omega)
  have fr : ∀ (r : Req) (v : Value), FreeReq w D r v → FreeReq (w1.setCell ⟨bt, 0, none⟩ v1) D r v := by
    rintro r v ⟨Hv, Bv, e, ⟨h1, h2⟩, ⟨h3, h4⟩⟩
    have a1 := own_touch h1 ht (fun j hj e => own_apart h1 h.rs.own (by decide) j hj e)
    have a3 := own_touch h3 ht (fun j hj e => own_apart h3 h.rs.own (by decide) j hj e)
    exact ⟨Hv, Bv, e, ⟨own_touch a1 ht2 (fun j hj e => hT1.not_own a1 (by decide) j hj e), h2⟩, ⟨own_touch a3 ht2 (fun j hj e => hT1.not_own a3 (by decide) j hj e), h4⟩⟩
  have hp1 := h.prs.touch ht (fun j hj e => h.rs.nown j e hj)
  have ht01 := h.t0.touch ht (fun e => h.t0.not_own h.rs.own (by decide) _ e rfl)
  refine ⟨⟨hT1.set0 v1, h.rs.ntc, ?_, hl1, fun x hx => ?_⟩, hp1.touch ht2 (fun j hj e => h.rs.ntc (e ▸ hj)), ht01.touch ht2 h.ne, h.nb0, h.ne, h.n0b, h.n0t, h.dge, fun j hj => (hl j hj).elim (h.lge j) (fun e => by have := h.t0.lt; have := h.n0b; omega)⟩
  · rw [List.length_append, toldC_snoc]
    exact own_touch ho ht2 (fun j hj e => hT1.not_own ho (by decide) j hj e)
  · rcases List.mem_append.1 hx with hx | hx
    · exact fr _ _ (h.rs.free x hx)
    · simp only [List.mem_singleton] at hx; subst hx; exact fr _ _ hf

/-- It hands over what was told. -/
theorem RD.out {n0 b0 : Nat} {w : World} {bp bt s st : Nat} {q : Told} {Lv : Value} {wait : B} {D : Nat → Prop} (h : RD n0 b0 w bp bt q Lv s wait st D) :
    ReqRow ((w.setCell ⟨b0, 0, none⟩ Lv).setCell ⟨b0, 1, none⟩ (.int .i64 s)) Lv (q.map (·.1)) := by
  have ht := ((Touch.refl (fun j => j = b0) w).setCell (p := ⟨b0, 0, none⟩) rfl Lv).setCell (p := ⟨b0, 1, none⟩) rfl (.int .i64 (s : Int))
  have hrs : RS ((w.setCell ⟨b0, 0, none⟩ Lv).setCell ⟨b0, 1, none⟩ (.int .i64 s)) bp bt 0 q Lv s D := by
    refine ⟨h.rs.tc.touch ht (fun e => h.ne e.symm), h.rs.ntc, own_touch h.rs.own ht (fun j hj e => h.t0.not_own h.rs.own (by decide) j hj e), h.rs.nown, fun x hx => ?_⟩
    obtain ⟨Hv, Bv, e, ⟨h1, h2⟩, ⟨h3, h4⟩⟩ := h.rs.free x hx
    exact ⟨Hv, Bv, e, ⟨own_touch h1 ht (fun j hj e => h.t0.not_own h1 (by decide) j hj e), h2⟩, ⟨own_touch h3 ht (fun j hj e => h.t0.not_own h3 (by decide) j hj e), h4⟩⟩
  exact hrs.row

theorem free_set {w : World} {bt : Nat} {Lv : Value} {s : Int} {D : Nat → Prop} {r : Req} {v : Value} (hT : TC w bt Lv s) (hf : FreeReq w D r v) (i : Nat) (u : Value) : FreeReq (w.setCell ⟨bt, i, none⟩ u) D r v := by
  have ht := (Touch.refl (fun j => j = bt) w).setCell (p := ⟨bt, i, none⟩) rfl u
  obtain ⟨Hv, Bv, e, ⟨h1, h2⟩, ⟨h3, h4⟩⟩ := hf
  exact ⟨Hv, Bv, e, ⟨own_touch h1 ht (fun j hj e => hT.not_own h1 (by decide) j hj e), h2⟩, ⟨own_touch h3 ht (fun j hj e => hT.not_own h3 (by decide) j hj e), h4⟩⟩

set_option maxHeartbeats 16000000 in
theorem read_any (g c0 : Nat) (ps : List (Value × B)) (w : World) (hc : ∀ j p, ps[j]? = some p → w.cell? ⟨g, j, none⟩ = some p.1 ∧ Part w p) (hL : (flatP ps).length ≤ 32768) (hn : ps.length ≤ 1000) (hg : Glob w) :
    Calls Tryz.prog 21 #[.slice (some ⟨g, 0, none⟩) ps.length c0] w fun e w' => ∃ Lv, e = .returned (.tuple #[.agg #[Lv, .int .i64 (seqL (flatP ps)).2.1], .bool true]) ∧ ReqRow w' Lv (seqL (flatP ps)).1 ∧ Below w.heap.size w w' := by
  have HC := Lib.hid hc
  have HG := Lib.hid hg
  clear hc hg
  go_enter Tryz.func21, Tryz.ntmps21
  go_wp2_with fail
  have hb0 := (Below.refl w.heap.size w).alloc (Nat.le_refl _) (.cells #[.slice none 0 0, .int .i64 0] 42)
  have hT0 : TC (w.alloc (.cells #[.slice none 0 0, .int .i64 0] 42)) w.heap.size (.slice none 0 0) 0 := heap_alloc_new _ _
  have hs0 : (w.alloc (.cells #[.slice none 0 0, .int .i64 0] 42)).heap.size = w.heap.size + 1 := by simp
  generalize w.alloc (.cells #[.slice none 0 0, .int .i64 0] 42) = w0 at *
  refine (new_any w0).mono ?_
  rintro e w1 ⟨bp, D, rfl, hP1, hD1, hb1⟩
  go_wp2_with fail
  have hb2 := (Below.refl w1.heap.size w1).alloc (Nat.le_refl _) (.cells #[.slice none 0 0, .int .i64 1] 42)
  have hT2 : TC (w1.alloc (.cells #[.slice none 0 0, .int .i64 1] 42)) w1.heap.size (.slice none 0 0) 1 := heap_alloc_new _ _
  generalize w1.alloc (.cells #[.slice none 0 0, .int .i64 1] 42) = w2 at *
  have hbt : w1.heap.size ≠ w.heap.size := by have := hb1.size; omega
  have hDlt : ∀ k, D k → k < w1.heap.size := by obtain ⟨_, _, _, _, _, _, _, _, _, _, hd, _⟩ := hP1; exact hd.2.2
  have hRD2 : RD w.heap.size w.heap.size w2 bp w1.heap.size [] (.slice none 0 0) 1 [] 0 D :=
    ⟨⟨hT2, (fun e => by have := hDlt _ e; omega), World.ownsRow_nil _ _ _ _, (fun k hk => by cases hk), (fun x hx => by cases hx)⟩, hP1.below hb2, (hT0.touch (.of_below (F := fun _ => False) hb1) id).touch (.of_below (F := fun _ => False) hb2) id,
      (fun e => by have := hD1 _ e; omega), hbt.symm, Nat.le_refl _, (by have := hb1.size; omega), (fun j hj => by have := hD1 j hj; omega), (fun j hj => by cases hj)⟩
  have hr2 := (hb0.next hb1).next hb2
  have HR2 := Lib.hid hRD2
  have Hr2 := Lib.hid hr2
  generalize hbtg : w1.heap.size = bt at *
  clear hb0 hT0 hs0 hP1 hD1 hb1 hb2 hT2 hDlt hRD2 hr2 hbtg
  go_loopw [15] (fun i wr => ∃ (k : Nat) (q : Told) (Lv : Value) (s : Nat) (wait : B) (st : Nat) (D : Nat → Prop), k ≤ ps.length ∧ i = .int .i64 k ∧ Hid (RD w.heap.size w.heap.size wr bp bt q Lv s wait st D) ∧ Hid (Inv2 (flatP (ps.take k)) (q.map (·.1)) wait st s) ∧ Hid (Below w.heap.size w wr)) (fun i _ => ps.length - (intOf i).toNat)
  case atStart => exact ⟨0, [], _, 1, [], 0, D, Nat.zero_le _, rfl, HR2.out, (.inl ⟨rfl, rfl, seq_nil⟩ : Inv2 (flatP (ps.take 0)) [] [] 0 1), Hr2.out⟩
  case round =>
    clear D HR2 Hr2
    obtain ⟨k, q, Lv, s, wait, st, D, hk, rfl, Hrd, Hinv, Hr⟩ := hrel
    obtain ⟨AL, cL, rfl⟩ := (rd_of_own Hrd.out.rs.own).shape
    by_cases hlt : k < ps.length
    · obtain ⟨p, hp⟩ : ∃ p, ps[k]? = some p := ⟨ps[k], List.getElem?_eq_getElem hlt⟩
      obtain ⟨hcell0, hP0⟩ := HC.out k p hp
      have hcell := Below.keeps Hr.out hcell0
      have hP := hP0.below Hr.out
      have Hf := Lib.hid (flatP_snoc hp)
      have hle1 := flatP_le ps (k + 1)
      rw [Hf.out, List.length_append] at hle1
      clear hp hcell0 hP0
      obtain ⟨p1, l⟩ := p
      have hcell : wr.cell? ⟨g, k, none⟩ = some p1 := hcell
      have hle1 : (flatP (ps.take k)).length + l.length ≤ (flatP ps).length := hle1
      have HP := Lib.hid hP
      by_cases hst : st = 0
      case neg =>
        have hF := feed_any bp st wait l p1 D wr Hrd.out.prs HP.out.1 HP.out.2 (by omega)
        have e1 : feedE wait l st = 31 := by unfold feedE; rw [if_pos hst]
        have e2 : feedW wait l st = wait := by unfold feedW; rw [if_pos hst]
        rw [e1, e2] at hF
        have HF := Lib.hid hF
        have Hst := Lib.hid hst
        clear e1 e2 hF hst hP
        go_wp2_with fail
        refine HF.out.mono ?_
        rintro e w5 ⟨rfl, D5, hp5, hd5, ht5⟩
        have hrd5 := Hrd.out.step ht5 hp5 hd5
        have hr5 : Below w.heap.size w w5 := Hr.out.trans (ht5.below (fun j hj e => by have := Hrd.out.dge j e; omega) Hr.out.size)
        have k0 := hrd5.rs.tc.c0
        have k1 := hrd5.rs.tc.c1
        have j0 := hrd5.t0.c0
        have j1 := hrd5.t0.c1
        have f0 := hrd5.t0.fz 0
        have f1 := hrd5.t0.fz 1
        have HRd := Lib.hid hrd5
        have HRr := Lib.hid hr5
        have hlt0 := hrd5.t0.lt
        have hltt := hrd5.rs.tc.lt
        clear hp5 hd5 ht5 hrd5 hr5
        go_wp2_with fail
        obtain ⟨z1, z2⟩ := inv2_more (M := flatP (ps.drop k)) Hinv.out Hst.out
        rw [← flatP_drop] at z1 z2
        refine bodyPost_ret (v := .tuple #[.agg #[.slice AL q.length cL, .int .i64 s], .bool true]) (by simp [results, Tryz.results21, go_sem, j0, j1]) rfl ⟨_, by rw [z2], by rw [z1]; exact HRd.out.out, (HRr.out.setCell (p := ⟨w.heap.size, 0, none⟩) (Nat.le_refl _) _).setCell (p := ⟨w.heap.size, 1, none⟩) (Nat.le_refl _) _⟩
      subst hst
      obtain ⟨rfl, hseq⟩ : s = 1 ∧ seqL (flatP (ps.take k)) = (q.map (·.1), 1, wait) := by
        rcases Hinv.out with ⟨_, h1, h2⟩ | ⟨h0, _⟩
        · exact ⟨h1, h2⟩
        · exact absurd rfl h0
      have hwl : wait.length ≤ (flatP (ps.take k)).length := by have := seq_rest _ (flatP (ps.take k)) rfl; rw [hseq] at this; exact this
      have hF := feed_any bp 0 wait l p1 D wr Hrd.out.prs HP.out.1 HP.out.2 (by omega)
      have e1 : feedE wait l 0 = 0 := by unfold feedE; rw [if_neg (by simp), if_neg (by omega)]
      have e2 : feedW wait l 0 = wait ++ l := by unfold feedW; rw [if_neg (by simp), if_neg (by omega)]
      rw [e1, e2] at hF
      have HF := Lib.hid hF
      have Hsq := Lib.hid (show seqL (flatP (ps.take (k + 1))) = (q.map (·.1) ++ (seqL (wait ++ l)).1, (seqL (wait ++ l)).2) by
        rw [Hf.out]
        have h2 := (seq_app _ (flatP (ps.take k)) l rfl).2 (by rw [hseq])
        rw [hseq] at h2; exact h2)
      have Hwl := Lib.hid (show (wait ++ l).length ≤ 32768 by rw [List.length_append]; omega)
      clear e1 e2 hF hP hseq hwl
      go_wp2_with fail
      refine HF.out.mono ?_
      rintro e w5 ⟨rfl, D5, hp5, hd5, ht5⟩
      have hrd5 := Hrd.out.step ht5 hp5 hd5
      have hr5 : Below w.heap.size w w5 := Hr.out.trans (ht5.below (fun j hj e => by have := Hrd.out.dge j e; omega) Hr.out.size)
      have HRd5 := Lib.hid hrd5
      have HRr5 := Lib.hid hr5
      clear hp5 hd5 ht5 hrd5 hr5 hcell
      go_wp2_with fail
      go_loopw [27] (fun i wi => ∃ (j : Nat) (q' : Told) (Lv' : Value) (s' : Nat) (wt : B) (D' : Nat → Prop), j ≤ 8192 ∧ i = .int .i64 j ∧ Hid (RD w.heap.size w.heap.size wi bp bt q' Lv' s' wt 0 D') ∧ Hid (seqL (flatP (ps.take (k + 1))) = (q'.map (·.1) ++ (seqL wt).1, (seqL wt).2)) ∧ wt.length + 5 * j ≤ 32768 ∧ Hid (Below w.heap.size w wi)) (fun i _ => 8192 - (intOf i).toNat)
      case atStart => exact ⟨0, q, _, 1, wait ++ l, D5, by omega, rfl, HRd5.out, Hsq.out, by have := Hwl.out; omega, HRr5.out⟩
      case round =>
        clear HF Hsq Hwl HRd5 HRr5 Hrd Hr Hinv
        obtain ⟨j, q', Lv', s', wt, D', hj, rfl, Hrd, Hsq, hwj, Hr⟩ := hrel
        obtain ⟨AL', cL', rfl⟩ := (rd_of_own Hrd.out.rs.own).shape
        have hj8 : j < 8192 := by omega
        have hgl : ¬ D' 0 := by
          intro e
          have h1 := Hrd.out.dge _ e
          obtain ⟨m, hm⟩ := HG.out
          have := lt_of_cell hm
          omega
        have hN := pnext_any bp 0 wt D' _ Hrd.out.prs (HG.out.next Hr.out) hgl
        by_cases h0 : (progParse wt).2.2 = 0
        case neg =>
          have e1 : nxtS wt 0 = (progParse wt).2.2 := by unfold nxtS; rw [if_neg (by simp)]
          have e2 : nxtR wt 0 = noReq := by unfold nxtR; rw [if_neg (by simp)]; exact (not_law wt h0).2
          have hinv : Inv2 (flatP (ps.take (k + 1))) (q'.map (·.1)) (nxtW wt 0) (nxtT wt 0) (progParse wt).2.2 := by
            have hs := Hsq.out
            rw [seq_stop h0] at hs
            simp only [List.append_nil] at hs
            by_cases h1 : (progParse wt).2.2 = 1
            · refine .inl ⟨by unfold nxtT; rw [if_neg (by simp), if_pos h1], h1, ?_⟩
              have e3 : nxtW wt 0 = wt := by unfold nxtW; rw [if_neg (by simp), if_pos h1]
              rw [e3, hs, h1]
            · have e4 : nxtT wt 0 = (progParse wt).2.2 := by unfold nxtT; rw [if_neg (by simp), if_neg h1]
              exact .inr ⟨by rw [e4]; exact h0, e4.symm, h1, by rw [hs], by rw [hs]⟩
          rw [e1, e2] at hN
          generalize (progParse wt).2.2 = sn at *
          have HN := Lib.hid hN
          have Hi := Lib.hid hinv
          have hne0 : ((sn : Int) != 0) = true := by simp; omega
          clear hN e1 e2 hinv h0 hgl
          go_wp2_with fail
          refine HN.out.mono ?_
          rintro e w5 ⟨v5, D5, rfl, hp5, hd5, ht5, hf5⟩
          obtain ⟨A2, n2, B2, x2, rfl⟩ := reqV_agg hf5.req
          have hrd5 := Hrd.out.step ht5 hp5 hd5
          have hr5 : Below w.heap.size w w5 := Hr.out.trans (ht5.below (fun j hj e => by have := Hrd.out.dge j e; omega) Hr.out.size)
          have hb6 := (Below.refl w5.heap.size w5).alloc (Nat.le_refl _) (.cells #[.string (ofL noReq.m), .string (ofL noReq.p), .slice A2 noReq.h.length n2, .slice B2 noReq.b.length x2] 27)
          have hrd6 := hrd5.below hb6
          have hr6 := hr5.next hb6
          have HRd6 := Lib.hid hrd6
          have HRr6 := Lib.hid hr6
          have i1 := hrd6.rs.tc.c1
          have g1 := hrd6.rs.tc.fz 1
          clear hp5 hd5 ht5 hf5 hrd5 hr5 hb6 hrd6 hr6 HN
          go_wp2_with fail
          go_roundw
          case rel => exact ⟨k + 1, q', _, sn, nxtW wt 0, nxtT wt 0, D5, by omega, by go_num, HRd6.out.status sn, Hi.out, HRr6.out.setCell (p := ⟨bt, 1, none⟩) HRd6.out.n0t _⟩
          case measure => simp [intOf]; omega
        · have hc5 := taken5 wt h0
          have hcut := (cut_law wt h0).1.2
          have e1 : nxtS wt 0 = 0 := by unfold nxtS; rw [if_neg (by simp)]; exact h0
          have e2 : nxtR wt 0 = (progParse wt).1 := by unfold nxtR; rw [if_neg (by simp)]
          have e3 : nxtW wt 0 = wt.drop (progParse wt).2.1 := by unfold nxtW; rw [if_neg (by simp), if_neg (by rw [h0]; decide), if_pos h0]
          have e4 : nxtT wt 0 = 0 := by unfold nxtT; rw [if_neg (by simp), if_neg (by rw [h0]; decide)]; exact h0
          have hs2 : seqL (flatP (ps.take (k + 1))) = (q'.map (·.1) ++ (progParse wt).1 :: (seqL (wt.drop (progParse wt).2.1)).1, (seqL (wt.drop (progParse wt).2.1)).2) := by
            rw [Hsq.out, seq_take h0]
          rw [e1, e2, e3, e4] at hN
          have HQl := Lib.hid (show q'.length ≤ 32768 by
            have h1 := seq_len _ (flatP (ps.take (k + 1))) rfl
            have h2 := flatP_le ps (k + 1)
            rw [Hsq.out, List.length_append, List.length_map] at h1
            omega)
          clear h0 e1 e2 e3 e4 hgl Hsq
          generalize (progParse wt).1 = rq at *
          generalize (progParse wt).2.1 = nq at *
          have hwl2 : (wt.drop nq).length + 5 * (j + 1) ≤ 32768 := by rw [List.length_drop]; omega
          have HN := Lib.hid hN
          have Hs2 := Lib.hid hs2
          clear hN hs2 hc5 hcut
          generalize wt.drop nq = wt2 at *
          go_wp2_with fail
          refine HN.out.mono ?_
          rintro e w5 ⟨v5, D5, rfl, hp5, hd5, ht5, hf5⟩
          obtain ⟨A2, n2, B2, x2, rfl⟩ := reqV_agg hf5.req
          have hrd5 := Hrd.out.step ht5 hp5 hd5
          have hr5 : Below w.heap.size w w5 := Hr.out.trans (ht5.below (fun j hj e => by have := Hrd.out.dge j e; omega) Hr.out.size)
          have hb6 := (Below.refl w5.heap.size w5).alloc (Nat.le_refl _) (.cells #[.string (ofL rq.m), .string (ofL rq.p), .slice A2 rq.h.length n2, .slice B2 rq.b.length x2] 27)
          have hrd6 := hrd5.below hb6
          have hr6 := hr5.next hb6
          have hf6 := hf5.touch (.of_below (F := fun _ => False) hb6) (fun _ h => h.elim) (fun _ h => .inl h)
          have HRC6 := Lib.hid (show RC (w5.alloc (.cells #[.string (ofL rq.m), .string (ofL rq.p), .slice A2 rq.h.length n2, .slice B2 rq.b.length x2] 27)) w5.heap.size (ofL rq.m) (ofL rq.p) (.slice A2 rq.h.length n2) (.slice B2 rq.b.length x2) from heap_alloc_new _ _)
          have HF6 := Lib.hid hf6
          have HRd6 := Lib.hid hrd6
          have HRr6 := Lib.hid hr6
          have i0 := hrd6.rs.tc.c0
          have i1 := hrd6.rs.tc.c1
          have g0 := hrd6.rs.tc.fz 0
          have g1 := hrd6.rs.tc.fz 1
          have hRd7 : RD w.heap.size w.heap.size ((w5.alloc (.cells #[.string (ofL rq.m), .string (ofL rq.p), .slice A2 rq.h.length n2, .slice B2 rq.b.length x2] 27)).setCell ⟨bt, 1, none⟩ (.int .i64 0)) bp bt q' (.slice AL' q'.length cL') 0 wt2 0 D5 := HRd6.out.status 0
          have hF7 := free_set HRd6.out.rs.tc HF6.out 1 (.int .i64 0)
          have hRC7 := HRC6.out.touch ((Touch.refl (fun j => j = bt) _).setCell (p := ⟨bt, 1, none⟩) rfl (.int .i64 0)) (fun e => by have := hrd5.rs.tc.lt; omega)
          have r0 := hRC7.c0
          have r1 := hRC7.c1
          have r2 := hRC7.c2
          have r3 := hRC7.c3
          have HRd7 := Lib.hid hRd7
          have HF7 := Lib.hid hF7
          have hql : q'.length ≤ 32768 := HQl.out
          have hone : ∀ u ∈ [Value.string (ofL rq.m), .string (ofL rq.p), .slice A2 rq.h.length n2, .slice B2 rq.b.length x2], u.oneCell' = true := by intro u hu; simp at hu; rcases hu with rfl | rfl | rfl | rfl <;> rfl
          clear hp5 hd5 ht5 hf5 hrd5 hr5 hb6 hrd6 hr6 HN hf6 hRd7 hF7 hRC7
          go_wp2_with (at_builtin; refine wpList_pushAt _ rfl _ _ 40 rfl rowR _ _ _ rfl HRd7.out.rs.own [.string (ofL rq.m), .string (ofL rq.p), .slice A2 rq.h.length n2, .slice B2 rq.b.length x2] _ rfl (by simp) rfl hone (by omega) ?_)
          intro v1 w1 hown1 ht1 hl1
          obtain ⟨AN, cN, rfl⟩ := (rd_of_own hown1).shape
          have HO1 := Lib.hid hown1
          have HT1 := Lib.hid ht1
          have HL1 := Lib.hid hl1
          have hT1 := HRd7.out.rs.tc.touch ht1 (fun e => HRd7.out.rs.tc.not_own HRd7.out.rs.own (by decide) _ e rfl)
          have l0 := hT1.c0
          have y0 := hT1.fz 0
          have hr7 := HRr6.out.setCell (p := ⟨bt, 1, none⟩) HRd6.out.n0t (.int .i64 0)
          have hr8 := hr7.trans (HT1.out.below (fun j hj e => by have := HRd7.out.lge j e; omega) hr7.size)
          clear hown1 ht1 hl1 hT1 hr7
          have HR8 := Lib.hid hr8
          clear hr8
          go_wp2_with fail
          have hr8 := HR8.out
          go_roundw
          case rel => exact ⟨j + 1, q' ++ [(rq, .slice A2 rq.h.length n2, .slice B2 rq.b.length x2)], _, 0, wt2, D5, by omega, by go_num, HRd7.out.push HF7.out HO1.out HT1.out HL1.out, (show _ = _ by rw [Hs2.out]; simp), hwl2, hr8.setCell (p := ⟨bt, 0, none⟩) HRd6.out.n0t _⟩
          case measure => simp [intOf]; omega
    · have hke : k = ps.length := by omega
      have hrd5 := Hrd.out
      have k0 := hrd5.rs.tc.c0
      have k1 := hrd5.rs.tc.c1
      have j0 := hrd5.t0.c0
      have j1 := hrd5.t0.c1
      have f0 := hrd5.t0.fz 0
      have f1 := hrd5.t0.fz 1
      have HRd := Lib.hid hrd5
      have HRr := Lib.hid Hr.out
      have hlt0 := hrd5.t0.lt
      have hltt := hrd5.rs.tc.lt
      clear hrd5
      go_wp2_with fail
      obtain ⟨z1, z2⟩ := inv2_end Hinv.out
      rw [List.take_of_length_le (by omega)] at z1 z2
      refine bodyPost_ret (v := .tuple #[.agg #[.slice AL q.length cL, .int .i64 s], .bool true]) (by simp [results, Tryz.results21, go_sem, j0, j1]) rfl ⟨_, by rw [z2], by rw [z1]; exact HRd.out.out, (HRr.out.setCell (p := ⟨w.heap.size, 0, none⟩) (Nat.le_refl _) _).setCell (p := ⟨w.heap.size, 1, none⟩) (Nat.le_refl _) _⟩
end Go.Proofs.YtmhgnaemafohfaaGreatDoor
