/- The law HttpdChunks (blotterlaw08) is true: its walk. Conditions: two tables of the library's. -/
import Derived.Test.YtmhgnaemafohfaaDoorHexA
import Derived.Test.YtmhgnaemafohfaaDoorPieA
import Derived.Test.YtmhgnaemafohfaaDoorAppT
import Derived.Lib.ItoaMem
import Derived.Lib.AppendIntMem
import Derived.Lib.SmallJoins
namespace Go.Proofs.YtmhgnaemafohfaaDoor
open Go.RowKit
set_option linter.unusedVariables false
set_option linter.unusedSimpArgs false
set_option maxRecDepth 100000

theorem dec_digit : ∀ n, n < 10 → isB 1 (UInt8.ofNat (48 + n)) = true ∧ (UInt8.ofNat (48 + n)).toNat - 48 = n := by decide
theorem dec_law : ∀ n, (Lib.decDigits n).all (isB 1) = true ∧ numF (Lib.decDigits n) = n ∧ 1 ≤ (Lib.decDigits n).length ∧ ∀ k, n < 10 ^ (k + 1) → (Lib.decDigits n).length ≤ k + 1 := by
  intro n
  induction n using Nat.strongRecOn with
  | _ n ih =>
    rw [Lib.decDigits]
    by_cases h : n < 10
    · rw [dif_pos h]
      obtain ⟨d1, d2⟩ := dec_digit n h
      generalize UInt8.ofNat (48 + n) = c at *
      exact ⟨by simp [d1], by simp [numF, d2], by simp, fun k _ => by simp⟩
    · rw [dif_neg h]
      obtain ⟨i1, i2, i3, i4⟩ := ih (n / 10) (by omega)
      obtain ⟨d1, d2⟩ := dec_digit (n % 10) (by omega)
      generalize UInt8.ofNat (48 + n % 10) = c at *
      refine ⟨by simp only [List.all_append, i1]; simp [d1], by rw [numF_snoc, i2, d2]; omega, by simp, fun k hk => ?_⟩
      cases k with
      | zero => omega
      | succ k =>
        have := i4 k (by rw [Nat.pow_succ] at hk; omega)
        rw [List.length_append, List.length_singleton]; omega

theorem part_bytes {w wc : World} {s : ByteArray} {n : Nat} {e : TypeId} {fr : Nat × Nat} {l : B} (hn : s.size = n) (hl : s.toList = l) (hm : n ≤ 1099511627776) :
    Part (w.alloc (.cells (bytesRow s (grownCap wc n 0 e)) e fr)) (.slice (some ⟨w.heap.size, 0, none⟩) n (grownCap wc n 0 e), l) := by
  subst hn hl
  refine ⟨?_, fun n c h => by cases h⟩
  show Rd _ _ _ s.toList.length _
  rw [len_toL]
  exact rd_bytes (grownCap_ge _ _ _ _) (grownCap_le_maxLen _ _ _ _ (by unfold maxLen; omega))
theorem cell_ad (w : World) (R : Obj) (C : Array Value) (T : TypeId) (fr : Nat × Nat) (j : Nat) : (((w.alloc R).alloc (.cells C T fr)).drew).cell? ⟨w.heap.size + 1, j, none⟩ = C[j]? :=
  Go.Joins.cell_alloc_mark_at (w.alloc R) C T fr _ j (by simp)

theorem coded_parse (vs : List (Value × B)) (l : B) (hf : flatP vs = l) (hl : l.length ≤ 32768) :
    ∃ r2 : Req, progParse (head3 ckLine ++ crL ++ codedL (vs.map (·.2))) = (r2, (head3 ckLine ++ crL ++ codedL (vs.map (·.2))).length, 0) ∧ r2.b = l := by
  have hfl : (vs.map (·.2)).flatten = l := by rw [← hf]; unfold flatP; rw [List.flatMap]
  have h := coded_chunk (vs.map (·.2)) (by rw [hfl]; exact hl)
  generalize codedL (vs.map (·.2)) = X at *
  rw [hfl] at h
  rw [parse_law, h]
  exact ⟨_, rfl, rfl⟩
theorem plain_parse (d l : B) (h : d.all (isB 1) = true) (h1 : 1 ≤ d.length) (hl : d.length ≤ 9) (hn : numF d = l.length) (hb : l.length ≤ 32768) :
    ∃ r1 : Req, progParse (head3 (clLine d) ++ crL ++ l) = (r1, (head3 (clLine d) ++ crL ++ l).length, 0) ∧ r1.b = l := by
  have h := plain_chunk d l h h1 hl hn hb
  rw [parse_law, h]
  exact ⟨_, rfl, rfl⟩
theorem beq_any (l : B) (v1 v2 : Value) (w : World) (h1 : Rd w 1 v1 l.length (bytesV l)) (h2 : Rd w 1 v2 l.length (bytesV l)) :
    Calls Tryd.prog 15 #[v1, v2] w fun e w' => e = .returned (.bool true) ∧ w = w' := by
  refine (Tryd.bytes_Equal_strs v1 v2 (ofL l) (ofL l) w (conv_rd _ _ _ Tryd.underlying22 Tryd.underlying5 Tryd.underlying9 h1) (conv_rd _ _ _ Tryd.underlying22 Tryd.underlying5 Tryd.underlying9 h2)).mono ?_
  rintro e w' ⟨rfl, rfl⟩
  exact ⟨by simp, rfl⟩
theorem parts_ofT {w : World} {base : Nat} {o : Value} {vs : List (Value × B)} (h : w.ownsRow base 22 1 o vs.length (vs.map (·.1))) (hne : vs ≠ []) :
    ∃ g c, o = .slice (some ⟨g, 0, none⟩) vs.length c ∧ base ≤ g ∧ ∀ j p, vs[j]? = some p → w.cell? ⟨g, j, none⟩ = some p.1 := by
  have hr := rd_of_own h
  rcases h.2 with ⟨_, h0⟩ | ⟨g, cap, cur, rfl, hb, _⟩
  · exact absurd (List.eq_nil_of_length_eq_zero h0) hne
  · refine ⟨g, cap, rfl, hb, fun j p hj => ?_⟩
    obtain ⟨_, A, c, h2, _, _, _, h6⟩ := hr
    cases h2
    have := (h6 ⟨g, 0, none⟩ rfl).2 j p.1 (by rw [List.getElem?_map, hj]; rfl)
    rwa [Nat.zero_add] at this

set_option maxHeartbeats 8000000 in
theorem chunklaw_any (l : B) (zs : List Int) (v u : Value) (w : World) (hS : Part w (v, l)) (hZ : Ints w u zs) (hzz : ∀ z ∈ zs, -9223372036854775808 ≤ z ∧ z ≤ 9223372036854775807) (hg : Glob w)
    (hT : Lib.TabIs Tryd.prog w "internal/strconv.uint64pow10" .u64 Lib.pow10Tab) (hD : w.cell? ⟨2, 15, none⟩ = some (.int .u8 4)) :
    Calls Tryd.prog 5 #[v, u] w fun e w' => e = .returned (.bool true) ∧ Below w.heap.size w w' := by
  obtain ⟨A, cp, hv⟩ := hS.1.shape
  have hv' : v = .slice A l.length cp := hv
  subst hv'
  have HS := Lib.hid hS
  have HZ := Lib.hid hZ
  have HG := Lib.hid hg
  have HZZ := Lib.hid hzz
  have HD := Lib.hid hD
  have HT := Lib.hid hT
  clear hS hZ hg hzz hv hD hT
  have CA := Lib.hid (fun w' (hb : Below w.heap.size w w') => awake_any w' (HG.out.next hb))
  by_cases hbig : 32768 < l.length
  · have hb1 : (32768 : Int) < l.length := by omega
    go_enter Tryd.func5, Tryd.ntmps5
    go_wp2_with fail
    refine (CA.out _ (Below.refl _ _)).mono ?_
    rintro e w4 ⟨rfl, hb4⟩
    go_wp2_with fail
    go_ret
    exact ⟨rfl, hb4⟩
  have hb1 : ¬ (32768 : Int) < l.length := by omega
  have hl : l.length ≤ 32768 := by omega
  clear hbig
  obtain ⟨dA, dN, d1, dK⟩ := dec_law l.length
  have hd9 : (Lib.decDigits l.length).length ≤ 9 := dK 8 (by omega)
  have CI := Tryd.strconv_Itoa (l.length : Int) (by omega) (by omega) w HT.out
  rw [Lib.itoa_nonneg] at CI
  generalize Lib.decDigits l.length = d at *
  have HI := Lib.hid CI
  have DA := Lib.hid dA
  have DN := Lib.hid dN
  clear CI dA dN dK
  have kb := fun wx s => run_bytes_of_string (P := Tryd.prog) wx 9 22 5 s Tryd.underlying9 Tryd.underlying22 Tryd.underlying5
  go_enter Tryd.func5, Tryd.ntmps5
  go_wp2_with fail
  refine HI.out.mono ?_
  rintro e w1 ⟨rfl, kn, os, hw1⟩
  have hr1 : Below w.heap.size w w1 := by rw [hw1]; exact Lib.below_grow _ _ (Nat.le_refl _) _ _
  clear hw1
  go_wp2_with fail
  refine (concat_any (w1.heap.size + 1) 2 [(.slice (some ⟨w1.heap.size, 0, none⟩) (43 + d.length + 4) (grownCap w1 (43 + d.length + 4) 0 5), head3 (clLine d) ++ crL), (.slice A l.length cp, l)] _ ?c1 ?c2 ?c3).mono ?_
  case c1 =>
    intro j p hj
    match j with
    | 0 =>
      simp at hj
      subst hj
      refine ⟨by rw [cell_ad]; rfl, Part.below (w := w1.alloc _) (part_bytes (by simp [ByteArray.size]; omega) ?_ (by omega)) (((Below.refl _ _).alloc (Nat.le_refl _) _).drew)⟩
      rw [append_toL, append_toL, append_toL, toL_eq, toL_eq, toL_eq, toL_eq]
      simp [head3, clLine, ln1, ln2, crL, clL]
    | 1 =>
      simp at hj
      subst hj
      exact ⟨by rw [cell_ad]; rfl, HS.out.below (hr1.next ((((Below.refl _ _).alloc (Nat.le_refl _) _).alloc (by simp) _).drew))⟩
    | j + 2 => simp at hj
  case c2 => simp [flatP, head3, clLine, ln1, ln2, crL, clL]; omega
  case c3 => simp
  rintro e w2 ⟨v2, rfl, hown2, hb2⟩
  have hfl : flatP [(.slice (some ⟨w1.heap.size, 0, none⟩) (43 + d.length + 4) (grownCap w1 (43 + d.length + 4) 0 5), head3 (clLine d) ++ crL), (.slice A l.length cp, l)] = head3 (clLine d) ++ crL ++ l := by simp [flatP]
  rw [hfl] at hown2
  have hr2 := hr1.trans ((((((Below.refl w1.heap.size w1).alloc (Nat.le_refl _) _).alloc (by simp) _).drew).next hb2).mono hr1.size)
  obtain ⟨P1, hP1⟩ : ∃ P1, P1 = head3 (clLine d) ++ crL ++ l := ⟨_, rfl⟩
  rw [← hP1] at hown2
  have hp1 : P1.length ≤ 1048576 := by rw [hP1]; simp [head3, clLine, ln1, ln2, crL, clL]; omega
  have HP1 := Lib.hid hP1
  clear hfl hb2 hr1 hP1
  obtain ⟨A2, c2, rfl⟩ := (rd_of_own hown2).shape
  have HO2 := Lib.hid hown2
  have HL2 := Lib.hid (fun k hk => (hown2.lt k hk).2)
  have HR2 := Lib.hid hr2
  clear hown2 hr2
  go_wp2_with fail
  have hC0 := ownT_bytes (w := w2) (wc := w2) (s := ⟨#[80, 79, 83, 84, 32, 47, 120, 32, 72, 84, 84, 80, 47, 49, 46, 49, 13, 10, 104, 111, 115, 116, 58, 32, 97, 13, 10]⟩ ++ ⟨#[116, 114, 97, 110, 115, 102, 101, 114, 45, 101, 110, 99, 111, 100, 105, 110, 103, 58, 32, 67, 104, 117, 110, 107, 101, 100, 13, 10, 13, 10]⟩) (n := 57) (base := w.heap.size) (e := 5) rfl (by decide) HR2.out.size
  rw [show ((⟨#[80, 79, 83, 84, 32, 47, 120, 32, 72, 84, 84, 80, 47, 49, 46, 49, 13, 10, 104, 111, 115, 116, 58, 32, 97, 13, 10]⟩ ++ ⟨#[116, 114, 97, 110, 115, 102, 101, 114, 45, 101, 110, 99, 111, 100, 105, 110, 103, 58, 32, 67, 104, 117, 110, 107, 101, 100, 13, 10, 13, 10]⟩ : ByteArray)).toList = head3 ckLine ++ crL by rw [append_toL, toL_eq, toL_eq]; rfl] at hC0
  have hb3 := ((Below.refl w2.heap.size w2).alloc (Nat.le_refl _) (.cells (bytesRow (⟨#[80, 79, 83, 84, 32, 47, 120, 32, 72, 84, 84, 80, 47, 49, 46, 49, 13, 10, 104, 111, 115, 116, 58, 32, 97, 13, 10]⟩ ++ ⟨#[116, 114, 97, 110, 115, 102, 101, 114, 45, 101, 110, 99, 111, 100, 105, 110, 103, 58, 32, 67, 104, 117, 110, 107, 101, 100, 13, 10, 13, 10]⟩) (grownCap w2 57 0 5)) 5 ((bytesRow (⟨#[80, 79, 83, 84, 32, 47, 120, 32, 72, 84, 84, 80, 47, 49, 46, 49, 13, 10, 104, 111, 115, 116, 58, 32, 97, 13, 10]⟩ ++ ⟨#[116, 114, 97, 110, 115, 102, 101, 114, 45, 101, 110, 99, 111, 100, 105, 110, 103, 58, 32, 67, 104, 117, 110, 107, 101, 100, 13, 10, 13, 10]⟩) (grownCap w2 57 0 5)).size, (bytesRow (⟨#[80, 79, 83, 84, 32, 47, 120, 32, 72, 84, 84, 80, 47, 49, 46, 49, 13, 10, 104, 111, 115, 116, 58, 32, 97, 13, 10]⟩ ++ ⟨#[116, 114, 97, 110, 115, 102, 101, 114, 45, 101, 110, 99, 111, 100, 105, 110, 103, 58, 32, 67, 104, 117, 110, 107, 101, 100, 13, 10, 13, 10]⟩) (grownCap w2 57 0 5)).size + 1))).drew
  have hC1 := hC0.below ((Below.refl _ _).drew)
  have hs3 := hC1.lt w2.heap.size rfl
  refine (pieces_any l zs _ u _ (HS.out.below (HR2.out.next hb3)) (by omega) (HZ.out.below (HR2.out.next hb3)) HZZ.out).mono ?_
  rintro e w4 ⟨o, vs, rfl, hown4, hps4, hfl, hne, hvl, hpo, hb4⟩
  have hC4 := hC1.below hb4
  have hr4 := HR2.out.next (hb3.next hb4)
  have hO4 := own_below HO2.out (hb3.next hb4)
  obtain ⟨g, cg, rfl, hgb, hcells⟩ := parts_ofT hown4 hne
  have hgne : ¬ g = w2.heap.size := by simp at hgb; omega
  have HPO := Lib.hid hpo
  have hlt4 : w2.heap.size < w4.heap.size := Nat.lt_of_lt_of_le hs3.2 hb4.size
  generalize hg57 : grownCap w2 57 0 5 = c57 at *
  have HC4 := Lib.hid hC4
  have HR4 := Lib.hid hr4
  have HO4 := Lib.hid hO4
  have HCE := Lib.hid hcells
  have HFL := Lib.hid hfl
  have HLT4 := Lib.hid hlt4
  have hHL : (head3 ckLine ++ crL).length ≤ 100 := by decide
  clear hpo hgb hC0 hb3 hC1 hs3 hown4 hps4 hfl hne hb4 hC4 hr4 hO4 hcells hlt4 hg57 HO2
  go_wp2_with fail
  go_loopw [38, 7] (fun i cv wr => ∃ (k : Nat) (C : B), k ≤ vs.length ∧ i = .int .i64 k ∧ C.length ≤ 100 + (flatP (vs.take k)).length + 12 * k ∧ Hid (C = head3 ckLine ++ crL ++ (vs.take k).flatMap (fun p => chunkOf p.2)) ∧ Hid (OwnT wr w.heap.size 5 cv C) ∧ Hid (∀ k, cv.ownBlock = some k → k = w2.heap.size ∨ w4.heap.size ≤ k) ∧ Hid (Touch (fun j => j = w2.heap.size) w4 wr)) (fun i _ _ => vs.length - (intOf i).toNat)
  case atStart => exact ⟨0, head3 ckLine ++ crL, Nat.zero_le _, rfl, by simp [flatP]; exact hHL, (show _ = _ by simp), HC4.out, (fun k hk => .inl (by cases hk; rfl) : ∀ k, (Value.slice (some ⟨w2.heap.size, 0, none⟩) 57 c57).ownBlock = some k → k = w2.heap.size ∨ w4.heap.size ≤ k), Touch.refl _ _⟩
  case round =>
    clear HC4
    obtain ⟨k, C, hk, rfl, hCl, HCe, HCo, Hblk, Ht⟩ := hrel
    by_cases hlt : k < vs.length
    · obtain ⟨p, hp⟩ : ∃ p, vs[k]? = some p := ⟨vs[k], List.getElem?_eq_getElem hlt⟩
      obtain ⟨p1, q⟩ := p
      have hcell0 := HCE.out k _ hp
      have hcell : wr.cell? ⟨g, k, none⟩ = some p1 := (Ht.out.cell (p := ⟨g, k, none⟩) (lt_of_cell hcell0) hgne).trans hcell0
      have hw2 : w.heap.size ≤ w2.heap.size := HR2.out.size
      have hbw : Below w.heap.size w wr := HR4.out.trans (Ht.out.below (fun k hk h => by omega) HR4.out.size)
      have hPr := HPO.out _ (List.mem_of_getElem? hp) wr (HS.out.below hbw)
      obtain ⟨AP, cP, hpv⟩ := hPr.1.shape
      simp only at hpv
      subst hpv
      have Hf := Lib.hid (flatP_snoc hp)
      have hle1 := flatP_le vs (k + 1)
      rw [Hf.out, List.length_append, HFL.out] at hle1
      have Hfm := Lib.hid (show (vs.take (k + 1)).flatMap (fun p => chunkOf p.2) = (vs.take k).flatMap (fun p => chunkOf p.2) ++ chunkOf q by
        rw [List.take_add_one, hp]; simp)
      have Hbw := Lib.hid hbw
      have HPr := Lib.hid hPr.1
      have HQr := Lib.hid (show ∀ W, Below w.heap.size w W → Rd W 1 (.slice AP q.length cP) q.length (bytesV q) from fun W h => (HPO.out _ (List.mem_of_getElem? hp) W (HS.out.below h)).1)
      have hle1 : (flatP (vs.take k)).length + q.length ≤ l.length := hle1
      have hcell : wr.cell? ⟨g, k, none⟩ = some (.slice AP q.length cP) := hcell
      clear hp hcell0 hPr hbw hw2
      by_cases hq : q = []
      · have hq0 : q.length = 0 := by rw [hq]; rfl
        have HQ := Lib.hid hq
        clear hq
        go_wp2_with fail
        go_roundw
        case rel => exact ⟨k + 1, C, by omega, by go_num, by rw [Hf.out, List.length_append]; omega, (show _ = _ by rw [Hfm.out, HQ.out]; simpa [chunkOf] using HCe.out), HCo.out, Hblk.out, Ht.out⟩
        case measure => simp [intOf]; omega
      · have hq0 : (0 : Int) < q.length := by have := List.length_pos_iff.2 hq; omega
        have HQ := Lib.hid hq
        have hh5 : (hexD q.length).length ≤ 5 := (hexD_law q.length).2.2.2 4 (by omega)
        have HN := Lib.hid (fun W hc => hex16_any q.length W (by omega) hc)
        have hcd := Lib.hid (Below.keeps (Hbw.out.drew) HD.out)
        have kc0 := conv_rd (P := Tryd.prog) 22 9 5 Tryd.underlying22 Tryd.underlying5 Tryd.underlying9 (HPr.out.below ((Below.refl _ wr).drew))
        have hqlen : q.length ≤ 32768 := by omega
        have hkv : C.length ≤ 50000 := by omega
        generalize hhx : hexD q.length = hx at *
        have HX := Lib.hid hhx
        clear hhx
        have hz1 : (ofL hx).size ≤ 5 := by rw [size_ofL]; exact hh5
        have hz2 : (ofL q).size ≤ 32768 := by rw [size_ofL]; exact hqlen
        have hA1 : ¬ 9223372036854775807 < (ofL hx).size + 2 := by omega
        have hA2 : ¬ 9223372036854775807 < (ofL hx).size + 2 + (ofL q).size := by omega
        have hA3 : ¬ 9223372036854775807 < (ofL hx).size + 2 + (ofL q).size + 2 := by omega
        have Hsz := Lib.hid (show C.length + (ofL hx ++ ⟨#[13, 10]⟩ ++ ofL q ++ ⟨#[13, 10]⟩ : ByteArray).size ≤ 140737488355328 by
          rw [ByteArray.size_append, ByteArray.size_append, ByteArray.size_append, show (⟨#[13, 10]⟩ : ByteArray).size = 2 from rfl]; omega)
        clear hq
        go_wp2_with fail
        go_region_held3 (fun w' => (convert 22 9 (.slice AP q.length cP)).run Tryd.prog w' = .ok (.string (ofL q)) w') (first | exact kc0 | exact kc5 | exact kc6) (first | (go_at_call 14; refine (HN.out _ hcd.out).mono ?_; rintro e w5 ⟨rfl, hb5⟩; have kc5 := conv_rd (P := Tryd.prog) 22 9 5 Tryd.underlying22 Tryd.underlying5 Tryd.underlying9 ((HPr.out.below ((Below.refl _ wr).drew)).below hb5)) | (refine step_appendT (by rfl) _ _ _ _ (by rfl) w.heap.size rowB Tryd.underlying9 _ C (by rfl) ((HCo.out.below (Below.refl _ wr).drew).below hb5) (ofL hx ++ ⟨#[13, 10]⟩ ++ ofL q ++ ⟨#[13, 10]⟩) (by rfl) Hsz.out (Nat.le_trans (Hbw.out.drew).size hb5.size) ?_; intro v6 w6 ho6 hg6 hl6 hb6; have kc6 := conv_rd (P := Tryd.prog) 22 9 5 Tryd.underlying22 Tryd.underlying5 Tryd.underlying9 (HQr.out _ (((Hbw.out.drew).next hb5).trans hb6))))
        have hchunk : (ofL hx ++ ⟨#[13, 10]⟩ ++ ofL q ++ ⟨#[13, 10]⟩ : ByteArray).toList = chunkOf q := by
          rw [append_toL, append_toL, append_toL, toL_ofL, toL_ofL, toL_eq, chunkOf, if_neg HQ.out, HX.out]; simp
        rw [hchunk] at ho6
        have hlc : (chunkOf q).length ≤ q.length + 9 := by rw [chunkOf, if_neg HQ.out, HX.out]; simp; omega
        have ht6 : Touch (fun k => u7.ownBlock = some k) wr w6 := (Touch.of_below (((Below.refl _ wr).drew).next hb5)).grown hg6 (fun k hk => hk)
        have ht46 := touch_new Ht.out ht6 (fun j hj h => (Hblk.out j h).elim id (fun e => by omega))
        have hs5 : w4.heap.size ≤ w5.heap.size := Nat.le_trans Ht.out.size hb5.size
        have hbl6 : ∀ k, v6.ownBlock = some k → k = w2.heap.size ∨ w4.heap.size ≤ k := fun k hk => (hl6 k hk).elim (Hblk.out k) (fun e => .inr (by omega))
        have HO6 := Lib.hid ho6
        have HT6 := Lib.hid ht46
        have HB6 := Lib.hid hbl6
        have HCH := Lib.hid hlc
        clear ho6 hg6 hl6 hb6 ht6 ht46 hbl6 kc0 kc5 kc6 hchunk hlc
        generalize chunkOf q = cq at *
        go_wp2_with fail
        go_roundw
        case rel => exact ⟨k + 1, C ++ cq, by omega, by go_num, by rw [Hf.out, List.length_append, List.length_append]; have := HCH.out; omega, (show _ = _ by rw [Hfm.out, HCe.out, List.append_assoc]), HO6.out, HB6.out, HT6.out⟩
        case measure => simp [intOf]; omega
    · have hke : k = vs.length := by omega
      have hw2 : w.heap.size ≤ w2.heap.size := HR2.out.size
      have hbw : Below w.heap.size w wr := HR4.out.trans (Ht.out.below (fun k hk h => by omega) HR4.out.size)
      have hkv : C.length ≤ 50000 := by rw [hke, List.take_length, HFL.out] at hCl; omega
      go_wp2_with (at_builtin; refine wpList_appendT _ rfl _ _ _ _ rfl w.heap.size rowB Tryd.underlying9 _ C rfl HCo.out ⟨#[48, 13, 10, 13, 10]⟩ rfl (by rw [show (⟨#[48, 13, 10, 13, 10]⟩ : ByteArray).size = 5 from rfl]; omega) hbw.size ?_)
      intro v6 w6 ho6 hg6 hl6 hb6
      have hP2 : C ++ [48, 13, 10, 13, 10] = head3 ckLine ++ crL ++ codedL (vs.map (·.2)) := by
        rw [HCe.out, hke, List.take_length, codedL, List.flatMap_map, List.append_assoc]
      have ht6 : Touch (fun k => u7.ownBlock = some k) wr w6 := (Touch.refl _ wr).grown hg6 (fun k hk => hk)
      have ht46 := touch_new Ht.out ht6 (fun j hj h => (Hblk.out j h).elim id (fun e => by omega))
      have hr6 := hbw.trans hb6
      generalize hP2e : C ++ [48, 13, 10, 13, 10] = P2 at *
      have hp2 : P2.length ≤ 1048576 := by rw [← hP2e]; simp; omega
      have hrd2 := ho6.rd
      obtain ⟨A6, c6, rfl⟩ := hrd2.shape
      obtain ⟨r1, hx1, hrb1⟩ : ∃ r1 : Req, progParse P1 = (r1, P1.length, 0) ∧ r1.b = l := by
        rw [HP1.out]; exact plain_parse d l DA.out d1 hd9 DN.out hl
      obtain ⟨r2, hx2, hrb2⟩ : ∃ r2 : Req, progParse P2 = (r2, P2.length, 0) ∧ r2.b = l := by
        rw [hP2]; exact coded_parse vs l HFL.out hl
      have h16 := own_touch HO4.out ht46 (fun k hk e => by have := HL2.out k hk; omega)
      have Q1 := prog_any P1 _ w6 (rd_of_own h16) hp1 (HG.out.next hr6)
      have Q2 := fun W hb => prog_any P2 _ W (hrd2.below hb) hp2 (HG.out.next (hr6.next hb))
      rw [hx1] at Q1
      rw [hx2] at Q2
      have HQ1 := Lib.hid Q1
      have HQ2 := Lib.hid Q2
      have HR6 := Lib.hid hr6
      have HB1 := Lib.hid hrb1
      have HB2 := Lib.hid hrb2
      clear hrb1 hrb2 Q1 Q2 h16 ho6 hg6 hl6 hb6 hP2 ht6 ht46 hr6 hP2e hrd2 hx1 hx2 hbw kb hke
      go_wp2_with fail
      refine HQ1.out.mono ?_
      rintro e w7 ⟨⟨v7, rfl, hq7⟩, hb7⟩
      obtain ⟨A7, c7, B7, d7, rfl⟩ := req_agg hq7
      have hR7 : RC (w7.alloc (.cells #[.string (ofL r1.m), .string (ofL r1.p), .slice A7 r1.h.length c7, .slice B7 r1.b.length d7] 26)) w7.heap.size (ofL r1.m) (ofL r1.p) (.slice A7 r1.h.length c7) (.slice B7 r1.b.length d7) := heap_alloc_new _ _
      have hb8 := (Below.refl w7.heap.size w7).alloc (Nat.le_refl _) (.cells #[.string (ofL r1.m), .string (ofL r1.p), .slice A7 r1.h.length c7, .slice B7 r1.b.length d7] 26)
      have HQ7 := Lib.hid hq7
      clear hq7
      go_wp2_with fail
      generalize w7.alloc (.cells #[.string (ofL r1.m), .string (ofL r1.p), .slice A7 r1.h.length c7, .slice B7 r1.b.length d7] 26) = w8 at *
      refine (HQ2.out _ (hb7.next hb8)).mono ?_
      rintro e w9 ⟨⟨v9, rfl, hq9⟩, hb9⟩
      obtain ⟨A9, c9, B9, d9, rfl⟩ := req_agg hq9
      have hb10 := (Below.refl w9.heap.size w9).alloc (Nat.le_refl _) (.cells #[.string (ofL r2.m), .string (ofL r2.p), .slice A9 r2.h.length c9, .slice B9 r2.b.length d9] 26)
      have hR10 := hR7.below (hb9.next hb10)
      have hr10 := (HR6.out.next ((hb7.next hb8).next (hb9.next hb10)))
      have k3 := hR10.c3
      have klt := hR10.lt
      have hE1 : ∀ W, Below w9.heap.size w9 W → Rd W 1 (.slice B7 r1.b.length d7) l.length (bytesV l) := by
        intro W hb
        obtain ⟨Hv, Bv, he, _, h2⟩ := HQ7.out
        simp only [Value.agg.injEq, Array.mk.injEq, List.cons.injEq, and_true] at he
        obtain ⟨_, _, _, rfl⟩ := he
        have := (rd_of_own h2).below (hb8.next (hb9.next hb))
        rw [← HB1.out]; exact this
      have hE2 : ∀ W, Below w9.heap.size w9 W → Rd W 1 (.slice B9 r2.b.length d9) l.length (bytesV l) := by
        intro W hb
        obtain ⟨Hv, Bv, he, _, h2⟩ := hq9
        simp only [Value.agg.injEq, Array.mk.injEq, List.cons.injEq, and_true] at he
        obtain ⟨_, _, _, rfl⟩ := he
        have := (rd_of_own h2).below hb
        rw [← HB2.out]; exact this
      have HE1 := Lib.hid hE1
      have HE2 := Lib.hid hE2
      have HB10 := Lib.hid hb10
      have HR10 := Lib.hid hr10
      clear hE1 hE2 hq9 hR7 hR10 hr10 hb7 hb8 hb9 hb10
      go_wp2_with fail
      refine (beq_any l _ _ _ (HE1.out _ HB10.out) (HS.out.below HR10.out).1).mono ?_
      rintro e w11 ⟨rfl, rfl⟩
      go_wp2_with fail
      refine (beq_any l _ _ _ (HE2.out _ HB10.out) (HS.out.below HR10.out).1).mono ?_
      rintro e w12 ⟨rfl, rfl⟩
      go_wp2_with fail
      refine (CA.out _ HR10.out).mono ?_
      rintro e w13 ⟨rfl, hb13⟩
      go_wp2_with fail
      go_ret
      exact ⟨rfl, HR10.out.next hb13⟩
end Go.Proofs.YtmhgnaemafohfaaDoor
