/- Which messages may be (msg.Check). Conditions: the texts are small, the numbers are of 64 bits. -/
import Derived.Test.YtigdjnfnkjfkmaaGreatDoorMsgJ
namespace Go.Proofs.YtigdjnfnkjfkmaaGreatDoor
open Go.RowKit
set_option linter.unusedVariables false
set_option linter.unusedSimpArgs false
set_option maxRecDepth 100000

/-- A message that is small enough to be gone through. -/
structure MsOK (m : Ms) : Prop where
  client : m.client.length ≤ 1048576
  len : m.list.length ≤ 1048576
  small : ∀ x ∈ m.list, LoS x
  ids : ∀ x ∈ m.list, I64 x.id
  sfrom : I64 m.sfrom
  cookie : I64 m.cookie
  last : I64 m.last
  top : I64 m.top
/-- No error, or that a message can't be. -/
def errM (b : Bool) : Int := match b with | true => 0 | false => 130
theorem touch_ag {w0 w w' : World} {vb : Nat} (h : Below w0.heap.size w0 w) (ht : Touch (fun k => k = vb) w w') (hv : w0.heap.size ≤ vb) : Below w0.heap.size w0 w' :=
  h.trans (ht.below (fun k hk e => by have e' : k = vb := e; omega) h.size)
theorem wrap_sub {q f : Int} {n : Nat} (hq : I64 q) (hf : verB f = true) (hn : n ≤ 1048576) : IntKind.i64.wrap (q - f) = q - f ∨ ¬ (IntKind.i64.wrap (q - f) = (n : Int)) := by
  obtain ⟨h1, h2⟩ := ver_parts hf
  unfold I64 at hq
  by_cases h : -9223372036854775808 ≤ q - f
  · exact .inl (IntWalk.i64_in _ (by omega))
  · right
    intro e
    have e2 : IntKind.i64.wrap (q - f) = q - f + 18446744073709551616 := by
      rw [IntWalk.i64_left]; unfold wrap64; omega
    omega
set_option maxHeartbeats 16000000 in
theorem mcheck_any (m : Ms) (A : Option Addr) (d : Nat) (w : World) (hR : RdP (fun b => b < w.heap.size) w 6 (.slice A m.list.length d) m.list.length (logsV m.list)) (hm : MsOK m) :
    Calls Tryz.prog 14 #[.agg #[.int .i64 m.kind, .string (ofL m.client), .int .i64 m.sfrom, .int .i64 m.cookie, .int .i64 m.last, .int .i64 m.top, .slice A m.list.length d]] w fun e w' => e = .returned (.int .i64 (errM (okMs m))) ∧ Below w.heap.size w w' := by
  obtain ⟨k, c, f, q, a, t, l⟩ := m
  obtain ⟨hc, hl, hs, hi, hif, hiq, hia, hit⟩ := hm
  show Calls Tryz.prog 14 #[.agg #[.int .i64 k, .string (ofL c), .int .i64 f, .int .i64 q, .int .i64 a, .int .i64 t, .slice A l.length d]] w _
  obtain ⟨n, hn⟩ : ∃ n, n = l.length := ⟨_, rfl⟩
  have hKP := fun (w' : World) (hb : Below w.heap.size w w') => push_any k f q a t c l A d w' ((hR.keep (below_keeps hb)).mono (by decide) (fun b h _ => Nat.lt_of_lt_of_le h hb.size)) hl hs hi hc
  have hKL := fun (w' : World) (hb : Below w.heap.size w w') => listed_any l (.slice A l.length d) w' ((hR.keep (below_keeps hb)).mono (by decide) (fun b h _ => Nat.lt_of_lt_of_le h hb.size)) hl hs
  have hKN := fun (w' : World) => pname_any (ofL c) w' (by rw [size_ofL]; have : c.length ≤ 1048576 := hc; omega)
  rw [toL_ofL] at hKN
  have hok : okMs ⟨k, c, f, q, a, t, l⟩ = (if k = 1 then nameL c && !l.isEmpty && allB l && chainB c l && f == 0 && q == 0 && a == 0 && t == 0
    else if k = 2 then decide (0 ≤ a) && verB t && c.isEmpty && f == 0 && q == 0 && l.isEmpty
    else if k = 3 then nameL c && verB q && f == 0 && a == 0 && t == 0 && l.isEmpty
    else if k = 4 then verB f && verB t && decide (0 ≤ a) && decide (q ≤ t) && q - f == l.length && allB l && c.isEmpty
    else if k = 5 then verB t && c.isEmpty && f == 0 && q == 0 && a == 0 && l.isEmpty
    else false) := rfl
  rw [← hn] at hR hKP hKL ⊢
  have hle : l.isEmpty = (n == 0) := by rw [hn]; cases l <;> rfl
  have hce : (ofL c).toList.isEmpty = c.isEmpty := by rw [toL_ofL]
  have hnl : n ≤ 1048576 := by rw [hn]; exact hl
  obtain ⟨r, hr⟩ : ∃ r, r = okMs ⟨k, c, f, q, a, t, l⟩ := ⟨_, rfl⟩
  rw [← hr]
  rw [hok, hle, ← hn] at hr
  obtain ⟨pb, hpb⟩ : ∃ pb, pb = (nameL c && !(n == 0) && allB l && chainB c l) := ⟨_, rfl⟩
  rw [hle, ← hpb] at hKP
  have HKP := Lib.hid hKP
  have HKL := Lib.hid hKL
  have HKN := Lib.hid hKN
  have Hpb := Lib.hid hpb
  have HIq := Lib.hid (show I64 q from hiq)
  have HIf := Lib.hid (show I64 f from hif)
  have HCe := Lib.hid hce
  clear hKP hKL hKN hpb hok hle hn hR hl hs hi hif hiq hia hit hce hc
  have hall : ∃ W, W = (w.alloc (.cells #[.int .i64 k, .string (ofL c), .int .i64 f, .int .i64 q, .int .i64 a, .int .i64 t, .slice A n d] 24)).alloc (.cells #[.int .i64 k, .string (ofL c), .int .i64 f, .int .i64 q, .int .i64 a, .int .i64 t, .slice A n d] 24) ∧ CB W w.heap.size #[.int .i64 k, .string (ofL c), .int .i64 f, .int .i64 q, .int .i64 a, .int .i64 t, .slice A n d] 24 ∧ CB W (w.heap.size + 1) #[.int .i64 k, .string (ofL c), .int .i64 f, .int .i64 q, .int .i64 a, .int .i64 t, .slice A n d] 24 ∧ Below w.heap.size w W := by
    have h2 := (Below.refl (w.alloc (.cells #[.int .i64 k, .string (ofL c), .int .i64 f, .int .i64 q, .int .i64 a, .int .i64 t, .slice A n d] 24)).heap.size (w.alloc (.cells #[.int .i64 k, .string (ofL c), .int .i64 f, .int .i64 q, .int .i64 a, .int .i64 t, .slice A n d] 24))).alloc (Nat.le_refl _) (.cells #[.int .i64 k, .string (ofL c), .int .i64 f, .int .i64 q, .int .i64 a, .int .i64 t, .slice A n d] 24)
    refine ⟨_, rfl, (CB.new w _ _).below h2, ?_, ((Below.refl w.heap.size w).alloc (Nat.le_refl _) _).next h2⟩
    have := CB.new (w.alloc (.cells #[.int .i64 k, .string (ofL c), .int .i64 f, .int .i64 q, .int .i64 a, .int .i64 t, .slice A n d] 24)) #[.int .i64 k, .string (ofL c), .int .i64 f, .int .i64 q, .int .i64 a, .int .i64 t, .slice A n d] 24
    rw [World.size_alloc] at this; exact this
  obtain ⟨w1, hw1, hA, hE, hB⟩ := hall
  go_enter Tryz.func14, Tryz.ntmps14
  go_upto_region 2 with fail
  rw [← hw1]
  clear hw1
  generalize hvb : w.heap.size + 1 = vb at *
  have HA := Lib.hid hA
  have HE := Lib.hid hE
  have HB := Lib.hid hB
  have hzz : vb < w1.heap.size := hE.lt
  have d0 : w1.cell? ⟨w.heap.size, 0, none⟩ = some (.int .i64 k) := hA.c 0 rfl
  have d1 : w1.cell? ⟨w.heap.size, 1, none⟩ = some (.string (ofL c)) := hA.c 1 rfl
  have d2 : w1.cell? ⟨w.heap.size, 2, none⟩ = some (.int .i64 f) := hA.c 2 rfl
  have d3 : w1.cell? ⟨w.heap.size, 3, none⟩ = some (.int .i64 q) := hA.c 3 rfl
  have d4 : w1.cell? ⟨w.heap.size, 4, none⟩ = some (.int .i64 a) := hA.c 4 rfl
  have d5 : w1.cell? ⟨w.heap.size, 5, none⟩ = some (.int .i64 t) := hA.c 5 rfl
  have d6 : w1.cell? ⟨w.heap.size, 6, none⟩ = some (.slice A n d) := hA.c 6 rfl
  clear hA hE hB
  go_upto_region 3 with fail
  by_cases k1 : k = 1
  · rw [if_pos k1] at hr
    have Hr := Lib.hid hr
    clear hr
    obtain rfl := k1
    have e0 := HE.out.c 0 rfl
    have v0 := HE.out.f 0
    have e1 := HE.out.c 1 rfl
    have v1 := HE.out.f 1
    have e2 := HE.out.c 2 rfl
    have v2 := HE.out.f 2
    have e3 := HE.out.c 3 rfl
    have v3 := HE.out.f 3
    have e4 := HE.out.c 4 rfl
    have v4 := HE.out.f 4
    have e5 := HE.out.c 5 rfl
    have v5 := HE.out.f 5
    have e6 := HE.out.c 6 rfl
    have v6 := HE.out.f 6
    go_upto_region 6 with fail
    have ht := (((Touch.refl (fun j => j = vb) w1).setCell (p := ⟨vb, 1, none⟩) rfl (.string ⟨#[]⟩)).setCell (p := ⟨vb, 6, none⟩) rfl (.slice none 0 0))
    have HE := Lib.hid ((HE.out.set 1 (.string ⟨#[]⟩)).set 6 (.slice none 0 0))
    have HA := Lib.hid (HA.out.touch ht (by omega))
    have HB := Lib.hid (touch_ag HB.out ht (by omega))
    clear ht d0 d1 d2 d3 d4 d5 d6 e0 v0 e1 v1 e2 v2 e3 v3 e4 v4 e5 v5 e6 v6
    generalize ((w1.setCell ⟨vb, 1, none⟩ (.string ⟨#[]⟩)).setCell ⟨vb, 6, none⟩ (.slice none 0 0)) = wz at *
    have d0 : wz.cell? ⟨w.heap.size, 0, none⟩ = some (.int .i64 1) := HA.out.c 0 rfl
    have d1 : wz.cell? ⟨w.heap.size, 1, none⟩ = some (.string (ofL c)) := HA.out.c 1 rfl
    have d2 : wz.cell? ⟨w.heap.size, 2, none⟩ = some (.int .i64 f) := HA.out.c 2 rfl
    have d3 : wz.cell? ⟨w.heap.size, 3, none⟩ = some (.int .i64 q) := HA.out.c 3 rfl
    have d4 : wz.cell? ⟨w.heap.size, 4, none⟩ = some (.int .i64 a) := HA.out.c 4 rfl
    have d5 : wz.cell? ⟨w.heap.size, 5, none⟩ = some (.int .i64 t) := HA.out.c 5 rfl
    have d6 : wz.cell? ⟨w.heap.size, 6, none⟩ = some (.slice A n d) := HA.out.c 6 rfl
    have hK := HKP.out wz HB.out
    cases hc : pb
    · rw [hc] at hK
      have HK := Lib.hid hK
      have Hcw2 := Lib.hid hc
      clear hK hc
      go_wp2_with fail
      (with_reducible refine HK.out.mono ?_); rintro e w2 ⟨rfl, hb⟩
      have HB := Lib.hid (HB.out.next hb)
      have HA := Lib.hid (HA.out.below hb)
      have HE := Lib.hid (HE.out.below hb)
      clear hb HK
      have e0 : w2.cell? ⟨vb, 0, none⟩ = some (.int .i64 1) := HE.out.c 0 rfl
      have e1 : w2.cell? ⟨vb, 1, none⟩ = some (.string ⟨#[]⟩) := HE.out.c 1 rfl
      have e2 : w2.cell? ⟨vb, 2, none⟩ = some (.int .i64 f) := HE.out.c 2 rfl
      have e3 : w2.cell? ⟨vb, 3, none⟩ = some (.int .i64 q) := HE.out.c 3 rfl
      have e4 : w2.cell? ⟨vb, 4, none⟩ = some (.int .i64 a) := HE.out.c 4 rfl
      have e5 : w2.cell? ⟨vb, 5, none⟩ = some (.int .i64 t) := HE.out.c 5 rfl
      have e6 : w2.cell? ⟨vb, 6, none⟩ = some (.slice none 0 0) := HE.out.c 6 rfl
      have Hf := Lib.hid (show r = false by rw [Hr.out, show (nameL c && !(n == 0) && allB l && chainB c l) = false from Hpb.out.symm.trans Hcw2.out]; rfl)
      go_wp2_with fail
      go_ret
      exact ⟨by rw [Hf.out]; rfl, HB.out⟩
    · rw [hc] at hK
      have HK := Lib.hid hK
      have Hcw2 := Lib.hid hc
      clear hK hc
      go_wp2_with fail
      (with_reducible refine HK.out.mono ?_); rintro e w2 ⟨rfl, hb⟩
      have HB := Lib.hid (HB.out.next hb)
      have HA := Lib.hid (HA.out.below hb)
      have HE := Lib.hid (HE.out.below hb)
      clear hb HK
      have e0 : w2.cell? ⟨vb, 0, none⟩ = some (.int .i64 1) := HE.out.c 0 rfl
      have e1 : w2.cell? ⟨vb, 1, none⟩ = some (.string ⟨#[]⟩) := HE.out.c 1 rfl
      have e2 : w2.cell? ⟨vb, 2, none⟩ = some (.int .i64 f) := HE.out.c 2 rfl
      have e3 : w2.cell? ⟨vb, 3, none⟩ = some (.int .i64 q) := HE.out.c 3 rfl
      have e4 : w2.cell? ⟨vb, 4, none⟩ = some (.int .i64 a) := HE.out.c 4 rfl
      have e5 : w2.cell? ⟨vb, 5, none⟩ = some (.int .i64 t) := HE.out.c 5 rfl
      have e6 : w2.cell? ⟨vb, 6, none⟩ = some (.slice none 0 0) := HE.out.c 6 rfl
      have hZ := zero_any 1 (f) (q) (a) (t) (⟨#[]⟩ : ByteArray) none 0 0 w2
      obtain ⟨zz, hzv⟩ : ∃ zz, zz = (((⟨#[]⟩ : ByteArray)).toList.isEmpty && (f) == 0 && (q) == 0 && (a) == 0 && (t) == 0 && 0 == 0) := ⟨_, rfl⟩
      rw [← hzv] at hZ
      have HZ := Lib.hid hZ
      have Hf := Lib.hid (show r = zz by rw [Hr.out, show (nameL c && !(n == 0) && allB l && chainB c l) = true from Hpb.out.symm.trans Hcw2.out, hzv]; cases f == 0 <;> cases q == 0 <;> cases a == 0 <;> cases t == 0 <;> simp)
      clear hZ hzv
      cases zz
      · have Hf2 := Hf
        go_wp2_with fail
        (with_reducible refine HZ.out.mono ?_); rintro e w9 ⟨rfl, hb9⟩
        have HB9 := Lib.hid (HB.out.next hb9)
        clear hb9
        go_wp2_with fail
        go_ret
        exact ⟨by rw [Hf2.out]; rfl, HB9.out⟩
      · have Hf2 := Hf
        go_wp2_with fail
        (with_reducible refine HZ.out.mono ?_); rintro e w9 ⟨rfl, hb9⟩
        have HB9 := Lib.hid (HB.out.next hb9)
        clear hb9
        go_wp2_with fail
        go_ret
        exact ⟨by rw [Hf2.out]; rfl, HB9.out⟩
  rw [if_neg k1] at hr
  by_cases k2 : k = 2
  · rw [if_pos k2] at hr
    have Hr := Lib.hid hr
    clear hr
    obtain rfl := k2
    have e0 := HE.out.c 0 rfl
    have v0 := HE.out.f 0
    have e1 := HE.out.c 1 rfl
    have v1 := HE.out.f 1
    have e2 := HE.out.c 2 rfl
    have v2 := HE.out.f 2
    have e3 := HE.out.c 3 rfl
    have v3 := HE.out.f 3
    have e4 := HE.out.c 4 rfl
    have v4 := HE.out.f 4
    have e5 := HE.out.c 5 rfl
    have v5 := HE.out.f 5
    have e6 := HE.out.c 6 rfl
    have v6 := HE.out.f 6
    go_upto_region 9 with fail
    have ht := (((Touch.refl (fun j => j = vb) w1).setCell (p := ⟨vb, 4, none⟩) rfl (.int .i64 0)).setCell (p := ⟨vb, 5, none⟩) rfl (.int .i64 0))
    have HE := Lib.hid ((HE.out.set 4 (.int .i64 0)).set 5 (.int .i64 0))
    have HA := Lib.hid (HA.out.touch ht (by omega))
    have HB := Lib.hid (touch_ag HB.out ht (by omega))
    clear ht d0 d1 d2 d3 d4 d5 d6 e0 v0 e1 v1 e2 v2 e3 v3 e4 v4 e5 v5 e6 v6
    generalize ((w1.setCell ⟨vb, 4, none⟩ (.int .i64 0)).setCell ⟨vb, 5, none⟩ (.int .i64 0)) = wz at *
    have d0 : wz.cell? ⟨w.heap.size, 0, none⟩ = some (.int .i64 2) := HA.out.c 0 rfl
    have d1 : wz.cell? ⟨w.heap.size, 1, none⟩ = some (.string (ofL c)) := HA.out.c 1 rfl
    have d2 : wz.cell? ⟨w.heap.size, 2, none⟩ = some (.int .i64 f) := HA.out.c 2 rfl
    have d3 : wz.cell? ⟨w.heap.size, 3, none⟩ = some (.int .i64 q) := HA.out.c 3 rfl
    have d4 : wz.cell? ⟨w.heap.size, 4, none⟩ = some (.int .i64 a) := HA.out.c 4 rfl
    have d5 : wz.cell? ⟨w.heap.size, 5, none⟩ = some (.int .i64 t) := HA.out.c 5 rfl
    have d6 : wz.cell? ⟨w.heap.size, 6, none⟩ = some (.slice A n d) := HA.out.c 6 rfl
    have e0 : wz.cell? ⟨vb, 0, none⟩ = some (.int .i64 2) := HE.out.c 0 rfl
    have e1 : wz.cell? ⟨vb, 1, none⟩ = some (.string (ofL c)) := HE.out.c 1 rfl
    have e2 : wz.cell? ⟨vb, 2, none⟩ = some (.int .i64 f) := HE.out.c 2 rfl
    have e3 : wz.cell? ⟨vb, 3, none⟩ = some (.int .i64 q) := HE.out.c 3 rfl
    have e4 : wz.cell? ⟨vb, 4, none⟩ = some (.int .i64 0) := HE.out.c 4 rfl
    have e5 : wz.cell? ⟨vb, 5, none⟩ = some (.int .i64 0) := HE.out.c 5 rfl
    have e6 : wz.cell? ⟨vb, 6, none⟩ = some (.slice A n d) := HE.out.c 6 rfl
    by_cases ha : a ≥ 0
    · have hK := within_any t wz
      cases hc : verB t
      · rw [hc] at hK
        have HK := Lib.hid hK
        have Hcver := Lib.hid hc
        clear hK hc
        go_wp2_with fail
        (with_reducible refine HK.out.mono ?_); rintro e w7 ⟨rfl, rfl⟩
        clear HK
        have Hf := Lib.hid (show r = false by rw [Hr.out, Hcver.out]; simp)
        go_wp2_with fail
        go_ret
        exact ⟨by rw [Hf.out]; rfl, HB.out⟩
      · rw [hc] at hK
        have HK := Lib.hid hK
        have Hcver := Lib.hid hc
        clear hK hc
        go_wp2_with fail
        (with_reducible refine HK.out.mono ?_); rintro e w7 ⟨rfl, rfl⟩
        clear HK
        have hZ := zero_any 2 (f) (q) ((0 : Int)) ((0 : Int)) (ofL c) A n d w7
        obtain ⟨zz, hzv⟩ : ∃ zz, zz = (((ofL c)).toList.isEmpty && (f) == 0 && (q) == 0 && ((0 : Int)) == 0 && ((0 : Int)) == 0 && n == 0) := ⟨_, rfl⟩
        rw [← hzv] at hZ
        have HZ := Lib.hid hZ
        have Hf := Lib.hid (show r = zz by rw [Hr.out, Hcver.out, decide_eq_true (show 0 ≤ a from ha), hzv, HCe.out]; cases c.isEmpty <;> cases f == 0 <;> cases q == 0 <;> simp)
        clear hZ hzv
        cases zz
        · have Hf2 := Hf
          go_wp2_with fail
          (with_reducible refine HZ.out.mono ?_); rintro e w9 ⟨rfl, hb9⟩
          have HB9 := Lib.hid (HB.out.next hb9)
          clear hb9
          go_wp2_with fail
          go_ret
          exact ⟨by rw [Hf2.out]; rfl, HB9.out⟩
        · have Hf2 := Hf
          go_wp2_with fail
          (with_reducible refine HZ.out.mono ?_); rintro e w9 ⟨rfl, hb9⟩
          have HB9 := Lib.hid (HB.out.next hb9)
          clear hb9
          go_wp2_with fail
          go_ret
          exact ⟨by rw [Hf2.out]; rfl, HB9.out⟩
    · have Hf := Lib.hid (show r = false by rw [Hr.out, decide_eq_false (show ¬ 0 ≤ a from ha)]; rfl)
      go_wp2_with fail
      go_ret
      exact ⟨by rw [Hf.out]; rfl, HB.out⟩
  rw [if_neg k2] at hr
  by_cases k3 : k = 3
  · rw [if_pos k3] at hr
    have Hr := Lib.hid hr
    clear hr
    obtain rfl := k3
    have e0 := HE.out.c 0 rfl
    have v0 := HE.out.f 0
    have e1 := HE.out.c 1 rfl
    have v1 := HE.out.f 1
    have e2 := HE.out.c 2 rfl
    have v2 := HE.out.f 2
    have e3 := HE.out.c 3 rfl
    have v3 := HE.out.f 3
    have e4 := HE.out.c 4 rfl
    have v4 := HE.out.f 4
    have e5 := HE.out.c 5 rfl
    have v5 := HE.out.f 5
    have e6 := HE.out.c 6 rfl
    have v6 := HE.out.f 6
    go_upto_region 12 with fail
    have ht := (((Touch.refl (fun j => j = vb) w1).setCell (p := ⟨vb, 1, none⟩) rfl (.string ⟨#[]⟩)).setCell (p := ⟨vb, 3, none⟩) rfl (.int .i64 0))
    have HE := Lib.hid ((HE.out.set 1 (.string ⟨#[]⟩)).set 3 (.int .i64 0))
    have HA := Lib.hid (HA.out.touch ht (by omega))
    have HB := Lib.hid (touch_ag HB.out ht (by omega))
    clear ht d0 d1 d2 d3 d4 d5 d6 e0 v0 e1 v1 e2 v2 e3 v3 e4 v4 e5 v5 e6 v6
    generalize ((w1.setCell ⟨vb, 1, none⟩ (.string ⟨#[]⟩)).setCell ⟨vb, 3, none⟩ (.int .i64 0)) = wz at *
    have d0 : wz.cell? ⟨w.heap.size, 0, none⟩ = some (.int .i64 3) := HA.out.c 0 rfl
    have d1 : wz.cell? ⟨w.heap.size, 1, none⟩ = some (.string (ofL c)) := HA.out.c 1 rfl
    have d2 : wz.cell? ⟨w.heap.size, 2, none⟩ = some (.int .i64 f) := HA.out.c 2 rfl
    have d3 : wz.cell? ⟨w.heap.size, 3, none⟩ = some (.int .i64 q) := HA.out.c 3 rfl
    have d4 : wz.cell? ⟨w.heap.size, 4, none⟩ = some (.int .i64 a) := HA.out.c 4 rfl
    have d5 : wz.cell? ⟨w.heap.size, 5, none⟩ = some (.int .i64 t) := HA.out.c 5 rfl
    have d6 : wz.cell? ⟨w.heap.size, 6, none⟩ = some (.slice A n d) := HA.out.c 6 rfl
    have hK := HKN.out wz
    cases hc : nameL c
    · rw [hc] at hK
      have HK := Lib.hid hK
      have Hcw2 := Lib.hid hc
      clear hK hc
      go_wp2_with fail
      (with_reducible refine HK.out.mono ?_); rintro e w2 ⟨rfl, hb⟩
      have HB := Lib.hid (HB.out.next hb)
      have HA := Lib.hid (HA.out.below hb)
      have HE := Lib.hid (HE.out.below hb)
      clear hb HK
      have d0 : w2.cell? ⟨w.heap.size, 0, none⟩ = some (.int .i64 3) := HA.out.c 0 rfl
      have d1 : w2.cell? ⟨w.heap.size, 1, none⟩ = some (.string (ofL c)) := HA.out.c 1 rfl
      have d2 : w2.cell? ⟨w.heap.size, 2, none⟩ = some (.int .i64 f) := HA.out.c 2 rfl
      have d3 : w2.cell? ⟨w.heap.size, 3, none⟩ = some (.int .i64 q) := HA.out.c 3 rfl
      have d4 : w2.cell? ⟨w.heap.size, 4, none⟩ = some (.int .i64 a) := HA.out.c 4 rfl
      have d5 : w2.cell? ⟨w.heap.size, 5, none⟩ = some (.int .i64 t) := HA.out.c 5 rfl
      have d6 : w2.cell? ⟨w.heap.size, 6, none⟩ = some (.slice A n d) := HA.out.c 6 rfl
      have e0 : w2.cell? ⟨vb, 0, none⟩ = some (.int .i64 3) := HE.out.c 0 rfl
      have e1 : w2.cell? ⟨vb, 1, none⟩ = some (.string ⟨#[]⟩) := HE.out.c 1 rfl
      have e2 : w2.cell? ⟨vb, 2, none⟩ = some (.int .i64 f) := HE.out.c 2 rfl
      have e3 : w2.cell? ⟨vb, 3, none⟩ = some (.int .i64 0) := HE.out.c 3 rfl
      have e4 : w2.cell? ⟨vb, 4, none⟩ = some (.int .i64 a) := HE.out.c 4 rfl
      have e5 : w2.cell? ⟨vb, 5, none⟩ = some (.int .i64 t) := HE.out.c 5 rfl
      have e6 : w2.cell? ⟨vb, 6, none⟩ = some (.slice A n d) := HE.out.c 6 rfl
      have Hf := Lib.hid (show r = false by rw [Hr.out, Hcw2.out]; rfl)
      go_wp2_with fail
      go_ret
      exact ⟨by rw [Hf.out]; rfl, HB.out⟩
    · rw [hc] at hK
      have HK := Lib.hid hK
      have Hcw2 := Lib.hid hc
      clear hK hc
      go_wp2_with fail
      (with_reducible refine HK.out.mono ?_); rintro e w2 ⟨rfl, hb⟩
      have HB := Lib.hid (HB.out.next hb)
      have HA := Lib.hid (HA.out.below hb)
      have HE := Lib.hid (HE.out.below hb)
      clear hb HK
      have d0 : w2.cell? ⟨w.heap.size, 0, none⟩ = some (.int .i64 3) := HA.out.c 0 rfl
      have d1 : w2.cell? ⟨w.heap.size, 1, none⟩ = some (.string (ofL c)) := HA.out.c 1 rfl
      have d2 : w2.cell? ⟨w.heap.size, 2, none⟩ = some (.int .i64 f) := HA.out.c 2 rfl
      have d3 : w2.cell? ⟨w.heap.size, 3, none⟩ = some (.int .i64 q) := HA.out.c 3 rfl
      have d4 : w2.cell? ⟨w.heap.size, 4, none⟩ = some (.int .i64 a) := HA.out.c 4 rfl
      have d5 : w2.cell? ⟨w.heap.size, 5, none⟩ = some (.int .i64 t) := HA.out.c 5 rfl
      have d6 : w2.cell? ⟨w.heap.size, 6, none⟩ = some (.slice A n d) := HA.out.c 6 rfl
      have e0 : w2.cell? ⟨vb, 0, none⟩ = some (.int .i64 3) := HE.out.c 0 rfl
      have e1 : w2.cell? ⟨vb, 1, none⟩ = some (.string ⟨#[]⟩) := HE.out.c 1 rfl
      have e2 : w2.cell? ⟨vb, 2, none⟩ = some (.int .i64 f) := HE.out.c 2 rfl
      have e3 : w2.cell? ⟨vb, 3, none⟩ = some (.int .i64 0) := HE.out.c 3 rfl
      have e4 : w2.cell? ⟨vb, 4, none⟩ = some (.int .i64 a) := HE.out.c 4 rfl
      have e5 : w2.cell? ⟨vb, 5, none⟩ = some (.int .i64 t) := HE.out.c 5 rfl
      have e6 : w2.cell? ⟨vb, 6, none⟩ = some (.slice A n d) := HE.out.c 6 rfl
      have hK := within_any q w2
      cases hc : verB q
      · rw [hc] at hK
        have HK := Lib.hid hK
        have Hcver := Lib.hid hc
        clear hK hc
        go_wp2_with fail
        (with_reducible refine HK.out.mono ?_); rintro e w7 ⟨rfl, rfl⟩
        clear HK
        have Hf := Lib.hid (show r = false by rw [Hr.out, Hcver.out]; simp)
        go_wp2_with fail
        go_ret
        exact ⟨by rw [Hf.out]; rfl, HB.out⟩
      · rw [hc] at hK
        have HK := Lib.hid hK
        have Hcver := Lib.hid hc
        clear hK hc
        go_wp2_with fail
        (with_reducible refine HK.out.mono ?_); rintro e w7 ⟨rfl, rfl⟩
        clear HK
        have hZ := zero_any 3 (f) ((0 : Int)) (a) (t) (⟨#[]⟩ : ByteArray) A n d w7
        obtain ⟨zz, hzv⟩ : ∃ zz, zz = (((⟨#[]⟩ : ByteArray)).toList.isEmpty && (f) == 0 && ((0 : Int)) == 0 && (a) == 0 && (t) == 0 && n == 0) := ⟨_, rfl⟩
        rw [← hzv] at hZ
        have HZ := Lib.hid hZ
        have Hf := Lib.hid (show r = zz by rw [Hr.out, Hcver.out, Hcw2.out, hzv]; cases f == 0 <;> cases a == 0 <;> cases t == 0 <;> simp)
        clear hZ hzv
        cases zz
        · have Hf2 := Hf
          go_wp2_with fail
          (with_reducible refine HZ.out.mono ?_); rintro e w9 ⟨rfl, hb9⟩
          have HB9 := Lib.hid (HB.out.next hb9)
          clear hb9
          go_wp2_with fail
          go_ret
          exact ⟨by rw [Hf2.out]; rfl, HB9.out⟩
        · have Hf2 := Hf
          go_wp2_with fail
          (with_reducible refine HZ.out.mono ?_); rintro e w9 ⟨rfl, hb9⟩
          have HB9 := Lib.hid (HB.out.next hb9)
          clear hb9
          go_wp2_with fail
          go_ret
          exact ⟨by rw [Hf2.out]; rfl, HB9.out⟩
  rw [if_neg k3] at hr
  by_cases k4 : k = 4
  · rw [if_pos k4] at hr
    have Hr := Lib.hid hr
    clear hr
    obtain rfl := k4
    have e0 := HE.out.c 0 rfl
    have v0 := HE.out.f 0
    have e1 := HE.out.c 1 rfl
    have v1 := HE.out.f 1
    have e2 := HE.out.c 2 rfl
    have v2 := HE.out.f 2
    have e3 := HE.out.c 3 rfl
    have v3 := HE.out.f 3
    have e4 := HE.out.c 4 rfl
    have v4 := HE.out.f 4
    have e5 := HE.out.c 5 rfl
    have v5 := HE.out.f 5
    have e6 := HE.out.c 6 rfl
    have v6 := HE.out.f 6
    go_upto_region 15 with fail
    have ht := ((((((Touch.refl (fun j => j = vb) w1).setCell (p := ⟨vb, 2, none⟩) rfl (.int .i64 0)).setCell (p := ⟨vb, 3, none⟩) rfl (.int .i64 0)).setCell (p := ⟨vb, 4, none⟩) rfl (.int .i64 0)).setCell (p := ⟨vb, 5, none⟩) rfl (.int .i64 0)).setCell (p := ⟨vb, 6, none⟩) rfl (.slice none 0 0))
    have HE := Lib.hid (((((HE.out.set 2 (.int .i64 0)).set 3 (.int .i64 0)).set 4 (.int .i64 0)).set 5 (.int .i64 0)).set 6 (.slice none 0 0))
    have HA := Lib.hid (HA.out.touch ht (by omega))
    have HB := Lib.hid (touch_ag HB.out ht (by omega))
    clear ht d0 d1 d2 d3 d4 d5 d6 e0 v0 e1 v1 e2 v2 e3 v3 e4 v4 e5 v5 e6 v6
    generalize (((((w1.setCell ⟨vb, 2, none⟩ (.int .i64 0)).setCell ⟨vb, 3, none⟩ (.int .i64 0)).setCell ⟨vb, 4, none⟩ (.int .i64 0)).setCell ⟨vb, 5, none⟩ (.int .i64 0)).setCell ⟨vb, 6, none⟩ (.slice none 0 0)) = wz at *
    have d0 : wz.cell? ⟨w.heap.size, 0, none⟩ = some (.int .i64 4) := HA.out.c 0 rfl
    have d1 : wz.cell? ⟨w.heap.size, 1, none⟩ = some (.string (ofL c)) := HA.out.c 1 rfl
    have d2 : wz.cell? ⟨w.heap.size, 2, none⟩ = some (.int .i64 f) := HA.out.c 2 rfl
    have d3 : wz.cell? ⟨w.heap.size, 3, none⟩ = some (.int .i64 q) := HA.out.c 3 rfl
    have d4 : wz.cell? ⟨w.heap.size, 4, none⟩ = some (.int .i64 a) := HA.out.c 4 rfl
    have d5 : wz.cell? ⟨w.heap.size, 5, none⟩ = some (.int .i64 t) := HA.out.c 5 rfl
    have d6 : wz.cell? ⟨w.heap.size, 6, none⟩ = some (.slice A n d) := HA.out.c 6 rfl
    have e0 : wz.cell? ⟨vb, 0, none⟩ = some (.int .i64 4) := HE.out.c 0 rfl
    have e1 : wz.cell? ⟨vb, 1, none⟩ = some (.string (ofL c)) := HE.out.c 1 rfl
    have e2 : wz.cell? ⟨vb, 2, none⟩ = some (.int .i64 0) := HE.out.c 2 rfl
    have e3 : wz.cell? ⟨vb, 3, none⟩ = some (.int .i64 0) := HE.out.c 3 rfl
    have e4 : wz.cell? ⟨vb, 4, none⟩ = some (.int .i64 0) := HE.out.c 4 rfl
    have e5 : wz.cell? ⟨vb, 5, none⟩ = some (.int .i64 0) := HE.out.c 5 rfl
    have e6 : wz.cell? ⟨vb, 6, none⟩ = some (.slice none 0 0) := HE.out.c 6 rfl
    have hK := within_any f wz
    cases hc : verB f
    · rw [hc] at hK
      have HK := Lib.hid hK
      have Hcvf := Lib.hid hc
      clear hK hc
      go_wp2_with fail
      (with_reducible refine HK.out.mono ?_); rintro e w7 ⟨rfl, rfl⟩
      clear HK
      have Hf := Lib.hid (show r = false by rw [Hr.out, Hcvf.out]; simp)
      go_wp2_with fail
      go_ret
      exact ⟨by rw [Hf.out]; rfl, HB.out⟩
    · rw [hc] at hK
      have HK := Lib.hid hK
      have Hcvf := Lib.hid hc
      clear hK hc
      go_wp2_with fail
      (with_reducible refine HK.out.mono ?_); rintro e w7 ⟨rfl, rfl⟩
      clear HK
      have hK := within_any t w7
      cases hc : verB t
      · rw [hc] at hK
        have HK := Lib.hid hK
        have Hcvt := Lib.hid hc
        clear hK hc
        go_wp2_with fail
        (with_reducible refine HK.out.mono ?_); rintro e w7 ⟨rfl, rfl⟩
        clear HK
        have Hf := Lib.hid (show r = false by rw [Hr.out, Hcvt.out]; simp)
        go_wp2_with fail
        go_ret
        exact ⟨by rw [Hf.out]; rfl, HB.out⟩
      · rw [hc] at hK
        have HK := Lib.hid hK
        have Hcvt := Lib.hid hc
        clear hK hc
        go_wp2_with fail
        (with_reducible refine HK.out.mono ?_); rintro e w7 ⟨rfl, rfl⟩
        clear HK
        by_cases ha : a ≥ 0
        · by_cases hqt : q ≤ t
          · have hwq : IntKind.i64.wrap (q - f) = q - f ∨ ¬ (IntKind.i64.wrap (q - f) = (n : Int)) := wrap_sub HIq.out Hcvf.out hnl
            obtain ⟨z, hz⟩ : ∃ z, IntKind.i64.wrap (q - f) = z := ⟨_, rfl⟩
            rw [hz] at hwq
            by_cases hq : z = (n : Int)
            · have Hqn := Lib.hid (show (q - f == (n : Int)) = true by rcases hwq with h | h; (rw [← h, hq]; exact beq_self_eq_true _); exact absurd hq h)
              obtain rfl := hq
              clear hwq
              have hK := HKL.out w7 HB.out
              cases hc : allB l
              · rw [hc] at hK
                have HK := Lib.hid hK
                have Hcw2 := Lib.hid hc
                clear hK hc
                go_wp2_with fail
                (with_reducible refine HK.out.mono ?_); rintro e w2 ⟨rfl, hb⟩
                have HB := Lib.hid (HB.out.next hb)
                have HA := Lib.hid (HA.out.below hb)
                have HE := Lib.hid (HE.out.below hb)
                clear hb HK
                have e0 : w2.cell? ⟨vb, 0, none⟩ = some (.int .i64 4) := HE.out.c 0 rfl
                have e1 : w2.cell? ⟨vb, 1, none⟩ = some (.string (ofL c)) := HE.out.c 1 rfl
                have e2 : w2.cell? ⟨vb, 2, none⟩ = some (.int .i64 0) := HE.out.c 2 rfl
                have e3 : w2.cell? ⟨vb, 3, none⟩ = some (.int .i64 0) := HE.out.c 3 rfl
                have e4 : w2.cell? ⟨vb, 4, none⟩ = some (.int .i64 0) := HE.out.c 4 rfl
                have e5 : w2.cell? ⟨vb, 5, none⟩ = some (.int .i64 0) := HE.out.c 5 rfl
                have e6 : w2.cell? ⟨vb, 6, none⟩ = some (.slice none 0 0) := HE.out.c 6 rfl
                have Hf := Lib.hid (show r = false by rw [Hr.out, Hcw2.out]; simp)
                go_wp2_with fail
                go_ret
                exact ⟨by rw [Hf.out]; rfl, HB.out⟩
              · rw [hc] at hK
                have HK := Lib.hid hK
                have Hcw2 := Lib.hid hc
                clear hK hc
                go_wp2_with fail
                (with_reducible refine HK.out.mono ?_); rintro e w2 ⟨rfl, hb⟩
                have HB := Lib.hid (HB.out.next hb)
                have HA := Lib.hid (HA.out.below hb)
                have HE := Lib.hid (HE.out.below hb)
                clear hb HK
                have e0 : w2.cell? ⟨vb, 0, none⟩ = some (.int .i64 4) := HE.out.c 0 rfl
                have e1 : w2.cell? ⟨vb, 1, none⟩ = some (.string (ofL c)) := HE.out.c 1 rfl
                have e2 : w2.cell? ⟨vb, 2, none⟩ = some (.int .i64 0) := HE.out.c 2 rfl
                have e3 : w2.cell? ⟨vb, 3, none⟩ = some (.int .i64 0) := HE.out.c 3 rfl
                have e4 : w2.cell? ⟨vb, 4, none⟩ = some (.int .i64 0) := HE.out.c 4 rfl
                have e5 : w2.cell? ⟨vb, 5, none⟩ = some (.int .i64 0) := HE.out.c 5 rfl
                have e6 : w2.cell? ⟨vb, 6, none⟩ = some (.slice none 0 0) := HE.out.c 6 rfl
                have hZ := zero_any 4 ((0 : Int)) ((0 : Int)) ((0 : Int)) ((0 : Int)) (ofL c) none 0 0 w2
                obtain ⟨zz, hzv⟩ : ∃ zz, zz = (((ofL c)).toList.isEmpty && ((0 : Int)) == 0 && ((0 : Int)) == 0 && ((0 : Int)) == 0 && ((0 : Int)) == 0 && 0 == 0) := ⟨_, rfl⟩
                rw [← hzv] at hZ
                have HZ := Lib.hid hZ
                have Hf := Lib.hid (show r = zz by rw [Hr.out, Hcvf.out, Hcvt.out, decide_eq_true (show 0 ≤ a from ha), decide_eq_true hqt, Hqn.out, Hcw2.out, hzv, HCe.out]; cases c.isEmpty <;> rfl)
                clear hZ hzv
                cases zz
                · have Hf2 := Hf
                  go_wp2_with fail
                  (with_reducible refine HZ.out.mono ?_); rintro e w9 ⟨rfl, hb9⟩
                  have HB9 := Lib.hid (HB.out.next hb9)
                  clear hb9
                  go_wp2_with fail
                  go_ret
                  exact ⟨by rw [Hf2.out]; rfl, HB9.out⟩
                · have Hf2 := Hf
                  go_wp2_with fail
                  (with_reducible refine HZ.out.mono ?_); rintro e w9 ⟨rfl, hb9⟩
                  have HB9 := Lib.hid (HB.out.next hb9)
                  clear hb9
                  go_wp2_with fail
                  go_ret
                  exact ⟨by rw [Hf2.out]; rfl, HB9.out⟩
            · have Hqn := Lib.hid (show (q - f == (n : Int)) = false by rw [beq_eq_false_iff_ne]; intro e; exact hq (by rw [← hz, IntWalk.i64_in _ (by omega)]; exact e))
              clear hwq
              have Hf := Lib.hid (show r = false by rw [Hr.out, Hqn.out]; simp)
              go_wp2_with fail
              go_ret
              exact ⟨by rw [Hf.out]; rfl, HB.out⟩
          · have Hf := Lib.hid (show r = false by rw [Hr.out, decide_eq_false hqt]; simp)
            go_wp2_with fail
            go_ret
            exact ⟨by rw [Hf.out]; rfl, HB.out⟩
        · have Hf := Lib.hid (show r = false by rw [Hr.out, decide_eq_false (show ¬ 0 ≤ a from ha)]; simp)
          go_wp2_with fail
          go_ret
          exact ⟨by rw [Hf.out]; rfl, HB.out⟩
  rw [if_neg k4] at hr
  by_cases k5 : k = 5
  · rw [if_pos k5] at hr
    have Hr := Lib.hid hr
    clear hr
    obtain rfl := k5
    have e0 := HE.out.c 0 rfl
    have v0 := HE.out.f 0
    have e1 := HE.out.c 1 rfl
    have v1 := HE.out.f 1
    have e2 := HE.out.c 2 rfl
    have v2 := HE.out.f 2
    have e3 := HE.out.c 3 rfl
    have v3 := HE.out.f 3
    have e4 := HE.out.c 4 rfl
    have v4 := HE.out.f 4
    have e5 := HE.out.c 5 rfl
    have v5 := HE.out.f 5
    have e6 := HE.out.c 6 rfl
    have v6 := HE.out.f 6
    go_upto_region 18 with fail
    have ht := ((Touch.refl (fun j => j = vb) w1).setCell (p := ⟨vb, 5, none⟩) rfl (.int .i64 0))
    have HE := Lib.hid (HE.out.set 5 (.int .i64 0))
    have HA := Lib.hid (HA.out.touch ht (by omega))
    have HB := Lib.hid (touch_ag HB.out ht (by omega))
    clear ht d0 d1 d2 d3 d4 d5 d6 e0 v0 e1 v1 e2 v2 e3 v3 e4 v4 e5 v5 e6 v6
    generalize (w1.setCell ⟨vb, 5, none⟩ (.int .i64 0)) = wz at *
    have d0 : wz.cell? ⟨w.heap.size, 0, none⟩ = some (.int .i64 5) := HA.out.c 0 rfl
    have d1 : wz.cell? ⟨w.heap.size, 1, none⟩ = some (.string (ofL c)) := HA.out.c 1 rfl
    have d2 : wz.cell? ⟨w.heap.size, 2, none⟩ = some (.int .i64 f) := HA.out.c 2 rfl
    have d3 : wz.cell? ⟨w.heap.size, 3, none⟩ = some (.int .i64 q) := HA.out.c 3 rfl
    have d4 : wz.cell? ⟨w.heap.size, 4, none⟩ = some (.int .i64 a) := HA.out.c 4 rfl
    have d5 : wz.cell? ⟨w.heap.size, 5, none⟩ = some (.int .i64 t) := HA.out.c 5 rfl
    have d6 : wz.cell? ⟨w.heap.size, 6, none⟩ = some (.slice A n d) := HA.out.c 6 rfl
    have e0 : wz.cell? ⟨vb, 0, none⟩ = some (.int .i64 5) := HE.out.c 0 rfl
    have e1 : wz.cell? ⟨vb, 1, none⟩ = some (.string (ofL c)) := HE.out.c 1 rfl
    have e2 : wz.cell? ⟨vb, 2, none⟩ = some (.int .i64 f) := HE.out.c 2 rfl
    have e3 : wz.cell? ⟨vb, 3, none⟩ = some (.int .i64 q) := HE.out.c 3 rfl
    have e4 : wz.cell? ⟨vb, 4, none⟩ = some (.int .i64 a) := HE.out.c 4 rfl
    have e5 : wz.cell? ⟨vb, 5, none⟩ = some (.int .i64 0) := HE.out.c 5 rfl
    have e6 : wz.cell? ⟨vb, 6, none⟩ = some (.slice A n d) := HE.out.c 6 rfl
    have hK := within_any t wz
    cases hc : verB t
    · rw [hc] at hK
      have HK := Lib.hid hK
      have Hcver := Lib.hid hc
      clear hK hc
      go_wp2_with fail
      (with_reducible refine HK.out.mono ?_); rintro e w7 ⟨rfl, rfl⟩
      clear HK
      have Hf := Lib.hid (show r = false by rw [Hr.out, Hcver.out]; rfl)
      go_wp2_with fail
      go_ret
      exact ⟨by rw [Hf.out]; rfl, HB.out⟩
    · rw [hc] at hK
      have HK := Lib.hid hK
      have Hcver := Lib.hid hc
      clear hK hc
      go_wp2_with fail
      (with_reducible refine HK.out.mono ?_); rintro e w7 ⟨rfl, rfl⟩
      clear HK
      have hZ := zero_any 5 (f) (q) (a) ((0 : Int)) (ofL c) A n d w7
      obtain ⟨zz, hzv⟩ : ∃ zz, zz = (((ofL c)).toList.isEmpty && (f) == 0 && (q) == 0 && (a) == 0 && ((0 : Int)) == 0 && n == 0) := ⟨_, rfl⟩
      rw [← hzv] at hZ
      have HZ := Lib.hid hZ
      have Hf := Lib.hid (show r = zz by rw [Hr.out, Hcver.out, hzv, HCe.out]; cases c.isEmpty <;> cases f == 0 <;> cases q == 0 <;> cases a == 0 <;> simp)
      clear hZ hzv
      cases zz
      · have Hf2 := Hf
        go_wp2_with fail
        (with_reducible refine HZ.out.mono ?_); rintro e w9 ⟨rfl, hb9⟩
        have HB9 := Lib.hid (HB.out.next hb9)
        clear hb9
        go_wp2_with fail
        go_ret
        exact ⟨by rw [Hf2.out]; rfl, HB9.out⟩
      · have Hf2 := Hf
        go_wp2_with fail
        (with_reducible refine HZ.out.mono ?_); rintro e w9 ⟨rfl, hb9⟩
        have HB9 := Lib.hid (HB.out.next hb9)
        clear hb9
        go_wp2_with fail
        go_ret
        exact ⟨by rw [Hf2.out]; rfl, HB9.out⟩
  rw [if_neg k5] at hr
  have Hf := Lib.hid hr
  clear hr
  have e0 := HE.out.c 0 rfl
  have e1 := HE.out.c 1 rfl
  have e2 := HE.out.c 2 rfl
  have e3 := HE.out.c 3 rfl
  have e4 := HE.out.c 4 rfl
  have e5 := HE.out.c 5 rfl
  have e6 := HE.out.c 6 rfl
  go_wp2_with fail
  go_ret
  exact ⟨by rw [Hf.out]; rfl, HB.out⟩
end Go.Proofs.YtigdjnfnkjfkmaaGreatDoor
