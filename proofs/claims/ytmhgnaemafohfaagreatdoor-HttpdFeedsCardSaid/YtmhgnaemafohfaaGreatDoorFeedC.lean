/- The law HttpdFeeds (blotterlaw08) is true: its walk. Conditions: none. -/
import Derived.Test.YtmhgnaemafohfaaGreatDoorFeedB
namespace Go.Proofs.YtmhgnaemafohfaaGreatDoor
open Go.RowKit
set_option linter.unusedVariables false
set_option linter.unusedSimpArgs false
set_option maxRecDepth 100000

/-- The two parsers, side by side. -/
structure FR (n0 : Nat) (w : World) (bp bx : Nat) (wp : B) (sp : Nat) (wx : B) (sx : Nat) (Wv : Value) (D : Nat → Prop) : Prop where
  prs : Prs w bp wp sp D
  xp : XP w bx Wv sx
  part : Part w (Wv, wx)
  nbx : NB Wv (fun k => k ≠ bx)
  nd : NB Wv (fun k => ¬ D k)
  nlt : NB Wv (fun k => k < w.heap.size)
  ndx : ¬ D bx
  dge : ∀ k, D k → n0 ≤ k
  dlt : ∀ k, D k → k < w.heap.size
  xge : n0 ≤ bx
  szp : wp.length ≤ 65536
theorem Prs.dlt {w : World} {bp st : Nat} {wait : B} {D : Nat → Prop} (h : Prs w bp wait st D) : ∀ k, D k → k < w.heap.size := by obtain ⟨_, _, _, _, _, _, _, _, _, _, hd, _⟩ := h; exact hd.2.2
theorem Prs.len {w : World} {bp st : Nat} {wait : B} {D : Nat → Prop} (h : Prs w bp wait st D) : wait.length ≤ 65536 := by obtain ⟨_, _, _, _, _, _, _, _, _, _, _, _, _, h⟩ := h; exact h
theorem Prs.bp {w : World} {bp st : Nat} {wait : B} {D : Nat → Prop} (h : Prs w bp wait st D) : D bp := by obtain ⟨_, _, _, _, _, _, _, _, _, _, hd, _⟩ := h; exact hd.1
theorem FR.prog {n0 : Nat} {w w' : World} {bp bx sp sx sp' : Nat} {wp wx wp' : B} {Wv : Value} {D D' : Nat → Prop} (h : FR n0 w bp bx wp sp wx sx Wv D) (ht : Touch D w w') (hp : Prs w' bp wp' sp' D') (hD : ∀ k, D' k → D k ∨ w.heap.size ≤ k) (hn : n0 ≤ w.heap.size) :
    FR n0 w' bp bx wp' sp' wx sx Wv D' :=
  ⟨hp, h.xp.touch ht h.ndx, ⟨rd_touch h.part.1 ht h.nd, h.part.2⟩, h.nbx, fun a n c e hk => (hD _ hk).elim (h.nd a n c e) (fun g => by have := h.nlt a n c e; omega), fun a n c e => Nat.lt_of_lt_of_le (h.nlt a n c e) ht.size,
    fun hk => (hD _ hk).elim h.ndx (fun g => by have := h.xp.lt; omega), fun k hk => (hD k hk).elim (h.dge k) (fun g => by omega), hp.dlt, h.xge, hp.len⟩
theorem FR.other {n0 : Nat} {w w' : World} {bp bx sp sx : Nat} {wp wx : B} {Wv : Value} {D G : Nat → Prop} (h : FR n0 w bp bx wp sp wx sx Wv D) (ht : Touch G w w') (h1 : ∀ k, G k → ¬ D k) (h2 : ¬ G bx) (h3 : NB Wv (fun k => ¬ G k)) :
    FR n0 w' bp bx wp sp wx sx Wv D :=
  ⟨h.prs.touch ht (fun k hk e => h1 k e hk), h.xp.touch ht h2, ⟨rd_touch h.part.1 ht h3, h.part.2⟩, h.nbx, h.nd, fun a n c e => Nat.lt_of_lt_of_le (h.nlt a n c e) ht.size, h.ndx, h.dge, fun k hk => Nat.lt_of_lt_of_le (h.dlt k hk) ht.size, h.xge, h.szp⟩
theorem FR.below {n0 : Nat} {w w' : World} {bp bx sp sx : Nat} {wp wx : B} {Wv : Value} {D : Nat → Prop} (h : FR n0 w bp bx wp sp wx sx Wv D) (hb : Below w.heap.size w w') : FR n0 w' bp bx wp sp wx sx Wv D :=
  h.other (G := fun _ => False) (.of_below hb) (fun _ h => h.elim) id (fun a n c e => id)
theorem FR.ref {n0 : Nat} {w w' : World} {bp bx sp sx sx' : Nat} {wp wx wx' : B} {Wv Wv' : Value} {D : Nat → Prop} (h : FR n0 w bp bx wp sp wx sx Wv D) (ht : Touch (fun k => k = bx) w w') (hx : XP w' bx Wv' sx') (hp : Part w' (Wv', wx'))
    (hb : ∀ a n c, Wv' = .slice (some a) n c → (∃ a0 n0 c0, Wv = .slice (some a0) n0 c0 ∧ a.block = a0.block) ∨ (w.heap.size ≤ a.block ∧ a.block < w'.heap.size)) : FR n0 w' bp bx wp sp wx' sx' Wv' D := by
  refine ⟨h.prs.touch ht (fun k hk e => h.ndx (e ▸ hk)), hx, hp, fun a n c e => ?_, fun a n c e => ?_, fun a n c e => ?_, h.ndx, h.dge, fun k hk => Nat.lt_of_lt_of_le (h.dlt k hk) ht.size, h.xge, h.szp⟩
  · rcases hb a n c e with ⟨a0, m, d, e0, hh⟩ | hh
    · rw [hh]; exact h.nbx a0 m d e0
    · have := h.xp.lt; show a.block ≠ bx; omega
  · rcases hb a n c e with ⟨a0, m, d, e0, hh⟩ | hh
    · rw [hh]; exact h.nd a0 m d e0
    · intro hk; have := h.dlt _ hk; omega
  · rcases hb a n c e with ⟨a0, m, d, e0, hh⟩ | hh
    · rw [hh]; exact Nat.lt_of_lt_of_le (h.nlt a0 m d e0) ht.size
    · exact hh.2

set_option maxHeartbeats 16000000 in
theorem feeds_any (fs : List (Int × B)) (v : Value) (w : World) (hF : FeedsIn w v fs) (hn : fs.length ≤ 1099511627776 * 16) (hzz : ∀ f ∈ fs, -9223372036854775808 ≤ f.1 ∧ f.1 ≤ 9223372036854775807) (hg : Glob w) :
    Calls Tryz.prog 7 #[v] w fun e w' => e = .returned (.bool true) ∧ Below w.heap.size w w' := by
  have HF := Lib.hid hF
  have HG := Lib.hid hg
  have HZZ := Lib.hid hzz
  obtain ⟨A, c, rfl, _⟩ := id hF
  have HS := Lib.hid (short_any fs _ w hF hn)
  have CA := Lib.hid (fun w' (hb : Below w.heap.size w w') => awake_any w' (HG.out.next hb))
  clear hF hg hzz
  go_enter Tryz.func7, Tryz.ntmps7
  go_wp2_with fail
  refine HS.out.mono ?_
  rintro e w1 ⟨b, rfl, hb, hb1⟩
  cases b with
  | false =>
    clear hb
    go_wp2_with fail
    refine (CA.out _ hb1).mono ?_
    rintro e w4 ⟨rfl, hb4⟩
    go_wp2_with fail
    go_ret
    exact ⟨rfl, hb1.next hb4⟩
  | true =>
    obtain ⟨h200, hall⟩ := hb rfl
    have HA := Lib.hid hall
    clear hb hall
    go_wp2_with fail
    refine (new_any w1).mono ?_
    rintro e w2 ⟨bp, D, rfl, hP2, hD2, hb2⟩
    have hb3 := (Below.refl w2.heap.size w2).alloc (Nat.le_refl _) (.cells #[.slice none 0 0, .int .i64 0] 64)
    have hX3 : XP (w2.alloc (.cells #[.slice none 0 0, .int .i64 0] 64)) w2.heap.size (.slice none 0 0) 0 := heap_alloc_new _ _
    have hFR := Lib.hid (show FR w.heap.size (w2.alloc (.cells #[.slice none 0 0, .int .i64 0] 64)) bp w2.heap.size [] 0 [] 0 (.slice none 0 0) D from
      ⟨hP2.below hb3, hX3, ⟨rd_nil _ _, (fun n c e => by cases e; rfl)⟩, (fun a n c e => by cases e), (fun a n c e => by cases e), (fun a n c e => by cases e), (fun e => by have := hP2.dlt _ e; omega), (fun k hk => by have := hD2 k hk; have := hb1.size; omega), (hP2.below hb3).dlt, Nat.le_trans hb1.size hb2.size, by simp⟩)
    have hr3 := Lib.hid ((hb1.next hb2).next hb3)
    go_wp2_with fail
    generalize w2.alloc (.cells #[.slice none 0 0, .int .i64 0] 64) = w3 at *
    generalize w2.heap.size = bx at *
    clear hP2 hD2 hb2 hb3 hX3 hb1
    go_loopw [25] (fun i wr => ∃ (k : Nat) (wait : B) (st : Nat) (Wv : Value) (D : Nat → Prop), k ≤ fs.length ∧ i = .int .i64 k ∧ Hid (FR w.heap.size wr bp bx wait st wait st Wv D) ∧ Hid (Below w.heap.size w wr)) (fun i _ => fs.length - (intOf i).toNat)
    case atStart => exact ⟨0, [], 0, _, D, Nat.zero_le _, rfl, hFR.out, hr3.out⟩
    case round =>
      clear D hFR hr3
      obtain ⟨wo, hwo⟩ : ∃ x, x = wr := ⟨_, rfl⟩
      subst hwo
      obtain ⟨k, wait, st, Wv, D, hk, rfl, Hf, Hr⟩ := hrel
      by_cases hlt : k < fs.length
      · obtain ⟨f, hf⟩ : ∃ f, fs[k]? = some f := ⟨fs[k], List.getElem?_eq_getElem hlt⟩
        have hfb := HA.out f (List.mem_of_getElem? hf)
        have hfz := HZZ.out f (List.mem_of_getElem? hf)
        obtain ⟨_, _, he, hcs⟩ := HF.out
        simp only [Value.slice.injEq] at he
        obtain ⟨rfl, _, rfl⟩ := he
        obtain ⟨b, o, u, rfl, c0, c1, hq⟩ := hcs k f hf
        obtain ⟨z, l⟩ := f
        simp only at hfb hfz c0 c1
        have hq : PartS _ u l := hq
        obtain ⟨A2, c2, hu⟩ := hq.shape
        have hu' : u = .slice A2 l.length c2 := hu
        subst hu'
        have HQ := Lib.hid hq
        have c0 := Below.keeps Hr.out c0
        have c1 := Below.keeps Hr.out c1
        clear hcs hf hu hq HS HA HZZ
        have hwr : w.heap.size ≤ wo.heap.size := Hr.out.size
        obtain ⟨m, hm, hm4⟩ : ∃ m : Nat, wrap64 ((IntKind.u64.wrap z).tmod 4) = m ∧ m < 4 := by
          have h0 : 0 ≤ IntKind.u64.wrap z := by unfold IntKind.wrap; simp [IntKind.bits, IntKind.signed]; omega
          obtain ⟨t, ht⟩ : ∃ t : Nat, IntKind.u64.wrap z = t := ⟨(IntKind.u64.wrap z).toNat, by omega⟩
          refine ⟨t % 4, ?_, by omega⟩
          rw [ht]
          have : ((t : Int)).tmod 4 = ((t % 4 : Nat) : Int) := by rw [Int.tmod_eq_emod_of_nonneg (by omega)]; rfl
          rw [this]
          unfold wrap64; omega
        have hbA := (Below.refl wo.heap.size wo).alloc (Nat.le_refl _) (.cells #[.int .i64 z, .slice A2 l.length c2] 66)
        have hFB : (wo.alloc (.cells #[.int .i64 z, .slice A2 l.length c2] 66)).heap[wo.heap.size]? = some (.cells #[.int .i64 z, .slice A2 l.length c2] 66 (0, 0)) := heap_alloc_new _ _
        go_wp2_with fail
        generalize wo.alloc (.cells #[.int .i64 z, .slice A2 l.length c2] 66) = wa at *
        refine (clone_s l _ wa (HQ.out.below (Hr.out.next hbA)) (by omega)).mono ?_
        rintro e w5 ⟨v5, rfl, hown, hb5⟩
        obtain ⟨A5, c5, rfl⟩ := (rd_of_own hown).shape
        have hwa : wo.heap.size ≤ wa.heap.size := hbA.size
        have hla : wo.heap.size < wa.heap.size := (Array.getElem?_eq_some_iff.1 hFB).1
        have hw5 : wa.heap.size ≤ w5.heap.size := hb5.size
        have HFB := Lib.hid (show w5.heap[wo.heap.size]? = some (.cells #[.int .i64 z, .slice A2 l.length c2] 66 (0, 0)) by rw [hb5.block _ hla]; exact hFB)
        have hf5 := (Hf.out.below hbA).below hb5
        have Hr5 := Lib.hid ((Hr.out.next hbA).next hb5)
        have f5 : w5.cell? ⟨wo.heap.size, 0, none⟩ = some (.int .i64 z) := by rw [Lib.cell_of_heap HFB.out]; rfl
        have HO5 := Lib.hid hown
        have hbx : bx < wo.heap.size := Hf.out.xp.lt
        have HD := Lib.hid Hf.out.dlt
        have HNL := Lib.hid Hf.out.nlt
        have HF5 := Lib.hid hf5
        have hnil : ∀ n c, Value.slice A5 l.length c5 = .slice none n c → c = 0 := fun n c e => by
          rcases hown.2 with ⟨h, _⟩ | ⟨g, cap, cur, h, _⟩
          · rw [h] at e; cases e; rfl
          · rw [h] at e; cases e
        have HNI := Lib.hid hnil
        clear hFB hbA hb5 hf5 hown c0 c1 Hf hnil
        obtain rfl | rfl | rfl | rfl : m = 0 ∨ m = 1 ∨ m = 2 ∨ m = 3 := by omega
        · skip
          go_wp2_with fail
          refine (feed_any bp st wait l (.slice A5 l.length c5) D w5 HF5.out.prs (rd_of_own HO5.out) HNI.out (by omega)).mono ?_
          rintro e w6 ⟨rfl, D6, hP6, hD6, ht6⟩
          have hwl : wait.length ≤ 65536 := HF5.out.szp
          have hF6 := HF5.out.prog ht6 hP6 hD6 (by omega)
          have hr6 : Below w.heap.size w w6 := Hr5.out.trans (ht6.below (fun k hk e => by have := HF5.out.dge k e; omega) Hr5.out.size)
          have hGD : ∀ k, wa.heap.size ≤ k → k < w5.heap.size → ¬ D6 k := fun k h1 h2 e => (hD6 k e).elim (fun e => by have := HD.out k e; omega) (fun e => by omega)
          have hrow : Hid (l = [] ∨ ∃ g, A5 = some ⟨g, 0, none⟩ ∧ wa.heap.size ≤ g ∧ g < w5.heap.size ∧ ByteRow w6 g l.length) := by
            have ho := HO5.out
            rcases row_of_own (own_touch ho ht6 (fun k hk e => by have := HD.out k e; have := (ho.lt k hk).1; omega)) with h | ⟨g, cap, hv, hg, hrw⟩
            · exact .inl h
            · refine .inr ⟨g, ?_, hg, (ho.lt g (by rw [hv]; rfl)).2, hrw⟩
              simp at hv; exact hv.1
          have hfb6 : w6.heap[wo.heap.size]? = some (.cells #[.int .i64 z, .slice A2 l.length c2] 66 (0, 0)) := by rw [ht6.block _ (Array.getElem?_eq_some_iff.1 HFB.out).1 (fun e => by have := HD.out _ e; omega)]; exact HFB.out
          have hl6 : wo.heap.size < w6.heap.size := (Array.getElem?_eq_some_iff.1 hfb6).1
          have HFB6 := Lib.hid hfb6
          have HF6 := Lib.hid hF6
          have HR6 := Lib.hid hr6
          have HGD := Lib.hid hGD
          clear hF6 hr6 hGD hfb6 hP6 hD6 ht6 f5 HFB HF5 Hr5
          go_wp2_with fail
          go_loopw [56] (fun i wv => ∃ j : Nat, j ≤ l.length ∧ i = .int .i64 j ∧ Hid (l = [] ∨ ∃ g, A5 = some ⟨g, 0, none⟩ ∧ wa.heap.size ≤ g ∧ g < w5.heap.size ∧ ByteRow wv g l.length) ∧ Hid (Touch (fun j => A5 = some ⟨j, 0, none⟩ ∧ wa.heap.size ≤ j ∧ j < w5.heap.size) w6 wv)) (fun i _ => l.length - (intOf i).toNat)
          case atStart => exact ⟨0, Nat.zero_le _, rfl, hrow, Touch.refl _ _⟩
          case round =>
            clear hrow
            obtain ⟨j, hj, rfl, Hrow, Ht⟩ := hrel
            by_cases hjl : j < l.length
            · obtain ⟨g, hB, hg1, hg2, hbr⟩ := Hrow.out.resolve_left (by intro e; rw [e] at hjl; exact absurd hjl (Nat.not_lt_zero _))
              subst hB
              obtain ⟨⟨cb, hc⟩, hf⟩ := hbr.at hjl
              have Hbr := Lib.hid hbr
              have Hg1 := Lib.hid hg1
              have Hg2 := Lib.hid hg2
              clear hbr hg1 hg2
              go_wp2_with fail
              go_roundw
              case rel => exact ⟨j + 1, by omega, by go_num, .inr ⟨g, rfl, Hg1.out, Hg2.out, Hbr.out.set j _⟩, Ht.out.setCell (p := ⟨g, j, none⟩) ⟨rfl, Hg1.out, Hg2.out⟩ _⟩
              case measure => simp [intOf]; omega
            · have hFx := HF6.out.other Ht.out (fun k h => HGD.out k h.2.1 h.2.2) (fun h => by have := h.2.1; omega) (fun a n c e h => by have := HNL.out a n c e; have := h.2.1; omega)
              have hrv := HR6.out.trans (Ht.out.below (B := w.heap.size) (fun k hk h => by have := h.2.1; omega) HR6.out.size)
              have hfv : wr.heap[wo.heap.size]? = some (.cells #[.int .i64 z, .slice A2 l.length c2] 66 (0, 0)) := by rw [Ht.out.block _ hl6 (fun h => by have := h.2.1; omega)]; exact HFB6.out
              have fv1 : wr.cell? ⟨wo.heap.size, 1, none⟩ = some (.slice A2 l.length c2) := by rw [Lib.cell_of_heap hfv]; rfl
              have HFX := Lib.hid hFx
              have HRV := Lib.hid hrv
              clear hFx hrv hfv Hrow HF6
              go_wp2_with fail
              refine (xfeed_any bx st wait l (.slice A2 l.length c2) Wv _ HFX.out.xp HFX.out.part.1 HFX.out.part.2 HFX.out.nbx (HQ.out.below HRV.out) hwl (by omega)).mono ?_
              rintro e wN ⟨rfl, WN, hXN, hpN, hWN, htN⟩
              have hFN := HFX.out.ref htN hXN hpN (fun a n c e => hWN.elim (fun h => .inl ⟨a, n, c, by rw [← h]; exact e, rfl⟩) (fun h => .inr (h a n c e)))
              have hrN : Below w.heap.size w wN := HRV.out.trans (htN.below (fun k hk e => by have := HFX.out.xge; omega) HRV.out.size)
              obtain ⟨AN, cN, hW2⟩ := hpN.1.shape
              have hW2 : WN = .slice AN (feedW wait l st).length cN := hW2
              subst hW2
              have HFN := Lib.hid hFN
              have HRN := Lib.hid hrN
              clear hXN hpN hWN htN hFN hrN fv1 HFX HRV
              generalize feedE wait l st = eN at *
              generalize feedW wait l st = qN at *
              have kx := HFN.out.xp.c0
              have HPN := Lib.hid HFN.out.prs
              go_wp2_with fail
              go_quiet ((go_at_call 26; exact Calls.quiet_of_same (waiting_any _ _ _ _ _ (HPN.out.below (below_drewN _ _ _)))))
              go_wp2_with fail
              go_roundw
              case rel => exact ⟨k + 1, _, _, _, _, by omega, by go_num, HFN.out.below (below_drewN _ _ _), HRN.out.trans (below_drewN _ _ _)⟩
              case measure => simp [intOf]; omega
        · skip
          go_wp2_with fail
          refine (feed_any bp st wait l (.slice A5 l.length c5) D w5 HF5.out.prs (rd_of_own HO5.out) HNI.out (by omega)).mono ?_
          rintro e w6 ⟨rfl, D6, hP6, hD6, ht6⟩
          have hwl : wait.length ≤ 65536 := HF5.out.szp
          have hF6 := HF5.out.prog ht6 hP6 hD6 (by omega)
          have hr6 : Below w.heap.size w w6 := Hr5.out.trans (ht6.below (fun k hk e => by have := HF5.out.dge k e; omega) Hr5.out.size)
          have hGD : ∀ k, wa.heap.size ≤ k → k < w5.heap.size → ¬ D6 k := fun k h1 h2 e => (hD6 k e).elim (fun e => by have := HD.out k e; omega) (fun e => by omega)
          have hrow : Hid (l = [] ∨ ∃ g, A5 = some ⟨g, 0, none⟩ ∧ wa.heap.size ≤ g ∧ g < w5.heap.size ∧ ByteRow w6 g l.length) := by
            have ho := HO5.out
            rcases row_of_own (own_touch ho ht6 (fun k hk e => by have := HD.out k e; have := (ho.lt k hk).1; omega)) with h | ⟨g, cap, hv, hg, hrw⟩
            · exact .inl h
            · refine .inr ⟨g, ?_, hg, (ho.lt g (by rw [hv]; rfl)).2, hrw⟩
              simp at hv; exact hv.1
          have hfb6 : w6.heap[wo.heap.size]? = some (.cells #[.int .i64 z, .slice A2 l.length c2] 66 (0, 0)) := by rw [ht6.block _ (Array.getElem?_eq_some_iff.1 HFB.out).1 (fun e => by have := HD.out _ e; omega)]; exact HFB.out
          have hl6 : wo.heap.size < w6.heap.size := (Array.getElem?_eq_some_iff.1 hfb6).1
          have HFB6 := Lib.hid hfb6
          have HF6 := Lib.hid hF6
          have HR6 := Lib.hid hr6
          have HGD := Lib.hid hGD
          clear hF6 hr6 hGD hfb6 hP6 hD6 ht6 f5 HFB HF5 Hr5
          go_wp2_with fail
          go_loopw [56] (fun i wv => ∃ j : Nat, j ≤ l.length ∧ i = .int .i64 j ∧ Hid (l = [] ∨ ∃ g, A5 = some ⟨g, 0, none⟩ ∧ wa.heap.size ≤ g ∧ g < w5.heap.size ∧ ByteRow wv g l.length) ∧ Hid (Touch (fun j => A5 = some ⟨j, 0, none⟩ ∧ wa.heap.size ≤ j ∧ j < w5.heap.size) w6 wv)) (fun i _ => l.length - (intOf i).toNat)
          case atStart => exact ⟨0, Nat.zero_le _, rfl, hrow, Touch.refl _ _⟩
          case round =>
            clear hrow
            obtain ⟨j, hj, rfl, Hrow, Ht⟩ := hrel
            by_cases hjl : j < l.length
            · obtain ⟨g, hB, hg1, hg2, hbr⟩ := Hrow.out.resolve_left (by intro e; rw [e] at hjl; exact absurd hjl (Nat.not_lt_zero _))
              subst hB
              obtain ⟨⟨cb, hc⟩, hf⟩ := hbr.at hjl
              have Hbr := Lib.hid hbr
              have Hg1 := Lib.hid hg1
              have Hg2 := Lib.hid hg2
              clear hbr hg1 hg2
              go_wp2_with fail
              go_roundw
              case rel => exact ⟨j + 1, by omega, by go_num, .inr ⟨g, rfl, Hg1.out, Hg2.out, Hbr.out.set j _⟩, Ht.out.setCell (p := ⟨g, j, none⟩) ⟨rfl, Hg1.out, Hg2.out⟩ _⟩
              case measure => simp [intOf]; omega
            · have hFx := HF6.out.other Ht.out (fun k h => HGD.out k h.2.1 h.2.2) (fun h => by have := h.2.1; omega) (fun a n c e h => by have := HNL.out a n c e; have := h.2.1; omega)
              have hrv := HR6.out.trans (Ht.out.below (B := w.heap.size) (fun k hk h => by have := h.2.1; omega) HR6.out.size)
              have hfv : wr.heap[wo.heap.size]? = some (.cells #[.int .i64 z, .slice A2 l.length c2] 66 (0, 0)) := by rw [Ht.out.block _ hl6 (fun h => by have := h.2.1; omega)]; exact HFB6.out
              have fv1 : wr.cell? ⟨wo.heap.size, 1, none⟩ = some (.slice A2 l.length c2) := by rw [Lib.cell_of_heap hfv]; rfl
              have HFX := Lib.hid hFx
              have HRV := Lib.hid hrv
              clear hFx hrv hfv Hrow HF6
              go_wp2_with fail
              refine (xfeed_any bx st wait l (.slice A2 l.length c2) Wv _ HFX.out.xp HFX.out.part.1 HFX.out.part.2 HFX.out.nbx (HQ.out.below HRV.out) hwl (by omega)).mono ?_
              rintro e wN ⟨rfl, WN, hXN, hpN, hWN, htN⟩
              have hFN := HFX.out.ref htN hXN hpN (fun a n c e => hWN.elim (fun h => .inl ⟨a, n, c, by rw [← h]; exact e, rfl⟩) (fun h => .inr (h a n c e)))
              have hrN : Below w.heap.size w wN := HRV.out.trans (htN.below (fun k hk e => by have := HFX.out.xge; omega) HRV.out.size)
              obtain ⟨AN, cN, hW2⟩ := hpN.1.shape
              have hW2 : WN = .slice AN (feedW wait l st).length cN := hW2
              subst hW2
              have HFN := Lib.hid hFN
              have HRN := Lib.hid hrN
              clear hXN hpN hWN htN hFN hrN fv1 HFX HRV
              generalize feedE wait l st = eN at *
              generalize feedW wait l st = qN at *
              have kx := HFN.out.xp.c0
              have HPN := Lib.hid HFN.out.prs
              go_wp2_with fail
              go_quiet ((go_at_call 26; exact Calls.quiet_of_same (waiting_any _ _ _ _ _ (HPN.out.below (below_drewN _ _ _)))))
              go_wp2_with fail
              go_roundw
              case rel => exact ⟨k + 1, _, _, _, _, by omega, by go_num, HFN.out.below (below_drewN _ _ _), HRN.out.trans (below_drewN _ _ _)⟩
              case measure => simp [intOf]; omega
        · skip
          have hgl : ¬ D 0 := by
            intro e
            have h1 := HF5.out.dge _ e
            obtain ⟨m, hm⟩ := HG.out
            have := lt_of_cell hm
            omega
          have HP := Lib.hid (pnext_any bp st wait D w5 HF5.out.prs (HG.out.next Hr5.out) hgl)
          have hwl : wait.length ≤ 65536 := HF5.out.szp
          have HXN := Lib.hid (fun (W : World) h hW hN hwl => xnext_any bx st wait Wv W h hW hN hwl)
          have hsm : (nxtR wait st).b.length ≤ 32768 ∧ (nxtR wait st).h.length ≤ 32 := by
            unfold nxtR; by_cases h : st ≠ 0
            · rw [if_pos h]; exact ⟨Nat.zero_le _, Nat.zero_le _⟩
            · rw [if_neg h]; exact req_small wait
          have HNM : Hid (∀ x ∈ (nxtR wait st).h, x.1 ≠ []) := by
            show ∀ x ∈ (nxtR wait st).h, x.1 ≠ []
            unfold nxtR; by_cases h : st ≠ 0
            · rw [if_pos h]; intro x hx; exact absurd hx (List.not_mem_nil)
            · rw [if_neg h]; exact taken_names wait
          generalize nxtR wait st = R at *
          generalize nxtS wait st = sN at *
          generalize nxtT wait st = tN at *
          generalize nxtW wait st = qN at *
          obtain ⟨hsB, hsH⟩ := hsm
          clear hgl HFB HO5 HNI HQ
          go_wp2_with fail
          refine HP.out.mono ?_
          rintro e w6 ⟨v6, D6, rfl, hP6, hD6, ht6, hf6⟩
          obtain ⟨A6, n6, B6, x6, rfl⟩ := reqV_agg hf6.req
          have hF6 := HF5.out.prog ht6 hP6 hD6 (by omega)
          have hr6 : Below w.heap.size w w6 := Hr5.out.trans (ht6.below (fun k hk e => by have := HF5.out.dge k e; omega) Hr5.out.size)
          have hb7 := (Below.refl w6.heap.size w6).alloc (Nat.le_refl _) (.cells #[.string (ofL R.m), .string (ofL R.p), .slice A6 R.h.length n6, .slice B6 R.b.length x6] 27)
          have hR7 : RC (w6.alloc (.cells #[.string (ofL R.m), .string (ofL R.p), .slice A6 R.h.length n6, .slice B6 R.b.length x6] 27)) w6.heap.size (ofL R.m) (ofL R.p) (.slice A6 R.h.length n6) (.slice B6 R.b.length x6) := heap_alloc_new _ _
          have hF7 := hF6.below hb7
          have hr7 := hr6.next hb7
          have hv7 := reqV_below hf6.req hb7
          have hbx6 : bx < w6.heap.size := hF6.xp.lt
          have HF7 := Lib.hid hF7
          have HR7 := Lib.hid hr7
          have HV7 := Lib.hid hv7
          have HRC7 := Lib.hid hR7
          clear hP6 hD6 ht6 hf6 hF6 hr6 hb7 hF7 hr7 hv7 hR7 HF5 Hr5 HP
          go_wp2_with fail
          generalize w6.alloc (.cells #[.string (ofL R.m), .string (ofL R.p), .slice A6 R.h.length n6, .slice B6 R.b.length x6] 27) = w7 at *
          refine (HXN.out w7 HF7.out.xp HF7.out.part HF7.out.nbx hwl).mono ?_
          rintro e w8 ⟨v8, W8, rfl, hq8, hX8, hp8, hs8, ht8⟩
          obtain ⟨A8, n8, B8, x8, rfl⟩ := reqV_agg hq8
          have hno : NoRow w7 bx := by
            obtain ⟨A, c, h⟩ := HF7.out.part.1.shape
            have h2 := HF7.out.xp
            have h' : Wv = .slice A wait.length c := h
            rw [h'] at h2; exact h2.noRow
          have hv8 := reqV_touch HV7.out HNM.out ht8 (fun k hk => hk ▸ hno)
          have hF8 := HF7.out.ref ht8 hX8 hp8 (fun a n c e => .inl (hs8 a n c e))
          have hR8 := HRC7.out.touch ht8 (fun e => by omega)
          have hr8 : Below w.heap.size w w8 := HR7.out.trans (ht8.below (fun k hk e => by have := HF7.out.xge; omega) HR7.out.size)
          have hb9 := (Below.refl w8.heap.size w8).alloc (Nat.le_refl _) (.cells #[.string (ofL R.m), .string (ofL R.p), .slice A8 R.h.length n8, .slice B8 R.b.length x8] 27)
          have hY9 : RC (w8.alloc (.cells #[.string (ofL R.m), .string (ofL R.p), .slice A8 R.h.length n8, .slice B8 R.b.length x8] 27)) w8.heap.size (ofL R.m) (ofL R.p) (.slice A8 R.h.length n8) (.slice B8 R.b.length x8) := heap_alloc_new _ _
          have hR9 := hR8.below hb9
          have HF9 := Lib.hid (hF8.below hb9)
          have HR9 := Lib.hid (hr8.next hb9)
          have HV9 := Lib.hid (reqV_below hv8 hb9)
          have HQ9 := Lib.hid (reqV_below hq8 hb9)
          have k0 := hR9.c0
          have k1 := hR9.c1
          have k2 := hR9.c2
          have k3 := hR9.c3
          have y0 := hY9.c0
          have y1 := hY9.c1
          have y2 := hY9.c2
          have y3 := hY9.c3
          have hrl := hR9.lt
          have hyl := hY9.lt
          have hx8 : Part w8 (W8, qN) := hp8
          obtain ⟨AN, cN, hW2⟩ := hp8.1.shape
          have hW2 : W8 = .slice AN qN.length cN := hW2
          subst hW2
          clear hq8 hX8 hp8 hs8 ht8 hno hv8 hF8 hR8 hr8 hb9 hY9 hR9 HF7 HR7 HV7 HRC7 HXN hx8
          go_wp2_with fail
          generalize w8.alloc (.cells #[.string (ofL R.m), .string (ofL R.p), .slice A8 R.h.length n8, .slice B8 R.b.length x8] 27) = w9 at *
          refine (same_any R _ _ w9 HV9.out HQ9.out (by omega) (by omega)).mono ?_
          rintro e wN ⟨rfl, hbN⟩
          have HFN := Lib.hid (HF9.out.below hbN)
          have HRN := Lib.hid (HR9.out.next hbN)
          clear hbN HF9 HR9 HV9 HQ9 k0 k1 k2 k3 y0 y1 y2 y3
          have kx := HFN.out.xp.c0
          have HPN := Lib.hid HFN.out.prs
          go_wp2_with fail
          go_quiet ((go_at_call 26; exact Calls.quiet_of_same (waiting_any _ _ _ _ _ (HPN.out.below (below_drewN _ _ _)))))
          go_wp2_with fail
          go_roundw
          case rel => exact ⟨k + 1, _, _, _, _, by omega, by go_num, HFN.out.below (below_drewN _ _ _), HRN.out.trans (below_drewN _ _ _)⟩
          case measure => simp [intOf]; omega
        · skip
          have hbp : D bp := HF5.out.prs.bp
          have kx := HF5.out.xp.c0
          have HRe := Lib.hid (rest_any bp st wait D w5.drew (HF5.out.prs.below ((Below.refl _ w5).drew)))
          have HPG := Lib.hid (fun (w6 : World) (D6 : Nat → Prop) (hP6 : Prs w6 bp [] st D6) (hD6 : ∀ k, D6 k → k = bp ∨ w5.drew.heap.size ≤ k) (ht6 : Touch (fun k => k = bp) w5.drew w6) => (HF5.out.below ((Below.refl _ w5).drew)).prog (ht6.mono (fun k _ (e : k = bp) => by rw [e]; exact hbp)) hP6 (fun k hk => (hD6 k hk).imp (fun e => by rw [e]; exact hbp) id) Hr5.out.drew.size)
          have hwl : wait.length ≤ 65536 := HF5.out.szp
          clear HFB HO5 HNI HQ
          go_wp2_with fail
          go_region_held3 (fun w' => w'.cell? ⟨bx, 0, none⟩ = some Wv) (first | exact kx | exact kx6 | exact kx7) (first | (go_at_call 27; refine HRe.out.mono ?_; rintro e w6 ⟨v6, D6, rfl, hR6, hP6, hD6, ht6⟩; have hF6 := HPG.out w6 D6 hP6 hD6 ht6; have kx6 := hF6.xp.c0) | (go_at_call 17; refine (equal_any wait wait _ _ _ hR6 hF6.part.1 (by omega) (by omega)).mono ?_; rintro e w7 ⟨rfl, hb7⟩; have kx7 := (hF6.below hb7).xp.c0))
          have hr6 : Below w.heap.size w w6 := (Hr5.out.drew).trans (ht6.below (fun k hk e => by have := HF5.out.dge _ hbp; omega) Hr5.out.drew.size)
          have hF7 := hF6.below hb7
          have HF7 := Lib.hid hF7
          have HR7 := Lib.hid (hr6.next hb7)
          have fx7 := hF7.xp.fz 0
          have hlx7 := hF7.xp.lt
          clear hR6 hP6 hD6 ht6 hF6 kx kx6 hr6 hb7 hF7 HRe
          go_wp2_with fail
          have HFN : Hid (FR w.heap.size (w7.setCell ⟨bx, 0, none⟩ (.slice none 0 0)) bp bx [] st [] st (.slice none 0 0) D6) := HF7.out.ref ((Touch.refl (fun k => k = bx) w7).setCell (p := ⟨bx, 0, none⟩) rfl _) (HF7.out.xp.set0 _) ⟨rd_nil _ _, (fun n c e => by cases e; rfl)⟩ (fun a n c e => by cases e)
          have HRN : Hid (Below w.heap.size w (w7.setCell ⟨bx, 0, none⟩ (.slice none 0 0))) := HR7.out.trans (((Touch.refl (fun k => k = bx) w7).setCell (p := ⟨bx, 0, none⟩) rfl (.slice none 0 0)).below (fun k hk e => by have := HF7.out.xge; omega) HR7.out.size)
          generalize w7.setCell ⟨bx, 0, none⟩ (.slice none 0 0) = wN at *
          clear fx7 hlx7 HF7 HR7 kx7
          have kx := HFN.out.xp.c0
          have HPN := Lib.hid HFN.out.prs
          go_wp2_with fail
          go_quiet ((go_at_call 26; exact Calls.quiet_of_same (waiting_any _ _ _ _ _ (HPN.out.below (below_drewN _ _ _)))))
          go_wp2_with fail
          go_roundw
          case rel => exact ⟨k + 1, _, _, _, _, by omega, by go_num, HFN.out.below (below_drewN _ _ _), HRN.out.trans (below_drewN _ _ _)⟩
          case measure => simp [intOf]; omega
      · go_wp2_with fail
        refine (CA.out _ Hr.out).mono ?_
        rintro e w4 ⟨rfl, hb4⟩
        go_wp2_with fail
        go_ret
        exact ⟨rfl, Hr.out.next hb4⟩
end Go.Proofs.YtmhgnaemafohfaaGreatDoor
