/- The items of just these names (msg's reader.object). Conditions: the value is small, the names few. -/
import Derived.Test.YtigdjnfnkjfkmaaGreatDoorMsgX
import Derived.Test.YtigdjnfnkjfkmaaGreatDoorMsgW
import Derived.OwnWalk
namespace Go.Proofs.YtigdjnfnkjfkmaaGreatDoor
open Go.RowKit
set_option linter.unusedVariables false
set_option linter.unusedSimpArgs false
set_option maxRecDepth 100000

theorem rjs_put {P : Nat → Prop} {w : World} {x : J} {a b c d e : Value} (hx : RJ P w x [a, b, c, d, e]) : ∀ (m : Nat) (l : List J) (xs : List Value), m < l.length → RJs P w l xs →
    RJs P w (l.set m x) (((((xs.set (m * 5) a).set (m * 5 + 1) b).set (m * 5 + 2) c).set (m * 5 + 3) d).set (m * 5 + 4) e)
  | m, [], xs, hm, h => by cases hm
  | 0, v :: l, xs, hm, h => by
    rw [RJs] at h
    obtain ⟨p, q, rfl, h1, h2⟩ := h
    have hl := h1.len
    match p, hl with
    | [p0, p1, p2, p3, p4], _ =>
      rw [List.set_cons_zero, RJs]
      exact ⟨[a, b, c, d, e], q, by simp, hx, h2⟩
  | m + 1, v :: l, xs, hm, h => by
    rw [RJs] at h
    obtain ⟨p, q, rfl, h1, h2⟩ := h
    have hl := h1.len
    have ih := rjs_put hx m l q (by simp at hm; omega) h2
    match p, hl with
    | [p0, p1, p2, p3, p4], _ =>
      rw [List.set_cons_succ, RJs]
      refine ⟨[p0, p1, p2, p3, p4], _, ?_, h1, ih⟩
      have e5 : (m + 1) * 5 = m * 5 + 5 := by omega
      have e6 : m * 5 + 5 + 1 = m * 5 + 1 + 5 ∧ m * 5 + 5 + 2 = m * 5 + 2 + 5 ∧ m * 5 + 5 + 3 = m * 5 + 3 + 5 ∧ m * 5 + 5 + 4 = m * 5 + 4 + 5 := by omega
      rw [e5, e6.1, e6.2.1, e6.2.2.1, e6.2.2.2]
      rfl
theorem own_put {w : World} {base g n cap : Nat} {e : TypeId} {size : Nat} {xs : List Value} (h : w.ownsRow base e size (.slice (some ⟨g, 0, none⟩) n cap) n xs) (o : Nat) (v0 v1 v2 v3 v4 : Value) :
    (((((w.setCell ⟨g, o, none⟩ v0).setCell ⟨g, o + 1, none⟩ v1).setCell ⟨g, o + 2, none⟩ v2).setCell ⟨g, o + 3, none⟩ v3).setCell ⟨g, o + 4, none⟩ v4).ownsRow base e size (.slice (some ⟨g, 0, none⟩) n cap) n (((((xs.set o v0).set (o + 1) v1).set (o + 2) v2).set (o + 3) v3).set (o + 4) v4) :=
  (((((h.stored o v0).1.stored (o + 1) v1).1.stored (o + 2) v2).1.stored (o + 3) v3).1.stored (o + 4) v4).1
theorem made_jsons (P : Nat → Prop) (w : World) : ∀ n : Nat, RJs P w (List.replicate n J0) (List.replicate n [Value.int .i64 0, .int .i64 0, .string ⟨#[]⟩, .slice none 0 0, .slice none 0 0]).flatten
  | 0 => by rw [List.replicate_zero, RJs]; rfl
  | n + 1 => by
    rw [List.replicate_succ, RJs, List.replicate_succ, List.flatten_cons]
    exact ⟨_, _, rfl, rj_plain 0 0 [], made_jsons P w n⟩
theorem made_five (n : Nat) : (madeCells (Value.agg #[.int .i64 0, .int .i64 0, .string ⟨#[]⟩, .slice none 0 0, .slice none 0 0]).cells (n * 5)).toList = (List.replicate n [Value.int .i64 0, .int .i64 0, .string ⟨#[]⟩, .slice none 0 0, .slice none 0 0]).flatten := by
  have e : ∀ n, (madeCells (Value.agg #[.int .i64 0, .int .i64 0, .string ⟨#[]⟩, .slice none 0 0, .slice none 0 0]).cells (n * 5)).toList = (List.range (n * 5)).map (#[Value.int .i64 0, .int .i64 0, .string ⟨#[]⟩, .slice none 0 0, .slice none 0 0][· % 5]!) := fun n => by
    unfold madeCells; rw [Array.toList_map, Array.toList_range]; rfl
  induction n with
  | zero => rw [e]; rfl
  | succ n ih =>
    rw [e] at ih ⊢
    have h5 : (n + 1) * 5 = n * 5 + 1 + 1 + 1 + 1 + 1 := by omega
    rw [h5, List.range_succ, List.range_succ, List.range_succ, List.range_succ, List.range_succ, List.replicate_succ', List.flatten_append, ← ih]
    have m0 : n * 5 % 5 = 0 := by omega
    have m1 : (n * 5 + 1) % 5 = 1 := by omega
    have m2 : (n * 5 + 1 + 1) % 5 = 2 := by omega
    have m3 : (n * 5 + 1 + 1 + 1) % 5 = 3 := by omega
    have m4 : (n * 5 + 1 + 1 + 1 + 1) % 5 = 4 := by omega
    simp only [List.map_append, List.map_cons, List.map_nil, m0, m1, m2, m3, m4, List.append_assoc]
    rfl
theorem set_next {α β : Type} (f : α → β) (l : List α) (d : β) {m : Nat} {a : α} (h : l[m]? = some a) (hm : m < l.length) : ((l.take m).map f ++ List.replicate (l.length - m) d).set m (f a) = (l.take (m + 1)).map f ++ List.replicate (l.length - (m + 1)) d := by
  rw [List.take_add_one, h, List.set_append_right _ _ (by simp; omega)]
  have e : l.length - m = l.length - (m + 1) + 1 := by omega
  have e2 : m - ((l.take m).map f).length = 0 := by simp; omega
  rw [e, e2, List.replicate_succ, List.set_cons_zero]
  simp
/-- Has one of the first names been missed? -/
def badN (b : Bool) (x : J) (ns : List B) (m : Nat) : Bool := b || !(decide (x.kind = 5) && x.names.length == ns.length) || (ns.take m).any fun s => !(getJ x s).isSome
theorem badN_step (b : Bool) (x : J) (ns : List B) (m : Nat) {s : B} (h : ns[m]? = some s) : badN b x ns (m + 1) = (badN b x ns m || !(getJ x s).isSome) := by
  unfold badN
  rw [List.take_add_one, h, List.any_append, Bool.or_assoc, Bool.or_assoc, Bool.or_assoc]
  simp
theorem badN_end (b : Bool) (x : J) (ns : List B) : badN b x ns ns.length = (b || (objR x ns).1) := by
  unfold badN objR
  rw [List.take_of_length_le (Nat.le_refl _)]
  have e : (ns.any fun s => !(getJ x s).isSome) = !(ns.all fun s => (getJ x s).isSome) := by
    rw [List.not_all_eq_any_not]
  rw [e]
  cases b <;> cases decide (x.kind = 5) <;> cases (x.names.length == ns.length) <;> cases (ns.all fun s => (getJ x s).isSome) <;> rfl
set_option maxHeartbeats 16000000 in
theorem robject_any (x : J) (N I nv : Value) (ns : List B) (rb : Nat) (b : Bool) (w : World)
    (hR : RJ (fun k => k < w.heap.size ∧ ¬ k = rb) w x [.int .i64 x.kind, .int .i64 x.int, .string (ofL x.text), N, I]) (hwt : wtJ x ≤ 1048576)
    (hN : RdP (fun k => k < w.heap.size ∧ ¬ k = rb) w 1 nv ns.length (strs ns)) (hl : ns.length ≤ 1000) (hB : RB w rb b) :
    Calls Tryz.prog 65 #[.pointer (some ⟨rb, 0, none⟩), .agg #[.int .i64 x.kind, .int .i64 x.int, .string (ofL x.text), N, I], nv] w fun e w' => ∃ A c ys, e = .returned (.slice A ns.length c) ∧
      RdP (fun k => w.heap.size ≤ k) w' 5 (.slice A ns.length c) ns.length ys ∧ RJs (fun k => w.heap.size ≤ k) w' (objR x ns).2 ys ∧ RB w' rb (b || (objR x ns).1) ∧ Touch (fun k => k = rb) w w' := by
  have hsl := rj_slices hR
  obtain ⟨⟨A1, nn, c1, rfl⟩, A2, m2, c2, rfl⟩ := hsl
  obtain ⟨A3, c3, rfl⟩ := hN.shape
  have hnn : nn = x.names.length := by
    cases x with
    | mk k n t ns' is =>
      rw [RJ] at hR
      obtain ⟨N', I', e, h1, _⟩ := hR
      simp only [List.cons.injEq, and_true] at e
      obtain ⟨A, c, h2⟩ := h1.shape
      rw [← e.2.2.2.1] at h2
      cases h2; rfl
  have hb0 : ∀ l : Nat, l = ns.length → badN b x ns 0 = (b || !(decide (x.kind = 5) && nn == l)) := fun l h => by
    unfold badN
    rw [hnn, h, List.take_zero]
    simp
  have KG := fun (s : B) (w' : World) (ht : Touch (fun k => k = rb) w w') => jget_any x _ _ s w' (RJ.mono (fun b hb _ => Nat.lt_of_lt_of_le hb.1 ht.size) _ _ (RJ.keep (touch_keeps ht (fun b hb e => hb.2 e)) _ _ hR)) hwt
  obtain ⟨L, hL⟩ : ∃ L, L = ns.length := ⟨_, rfl⟩
  rw [← hL] at hN hl ⊢
  have HL := Lib.hid hL
  have HN := Lib.hid hN
  have HKG := Lib.hid KG
  have hnl : L ≤ 1000 := hl
  have HB0 := Lib.hid (hb0 L hL)
  clear hR hN hL KG hl hnn hb0
  obtain ⟨b0, hb0⟩ : ∃ b0, b0 = badN b x ns 0 := ⟨_, rfl⟩
  rw [← hb0] at HB0
  have Hb0 := Lib.hid hb0
  clear hb0
  generalize x.kind = k at *
  generalize x.int = i at *
  generalize ofL x.text = t at *
  have hall : ∃ W, W = w.alloc (.cells #[.int .i64 k, .int .i64 i, .string t, .slice A1 nn c1, .slice A2 m2 c2] 49) ∧ JC W w.heap.size k i t (.slice A1 nn c1) (.slice A2 m2 c2) ∧ Below w.heap.size w W := ⟨_, rfl, heap_alloc_new w _, (Below.refl w.heap.size w).alloc (Nat.le_refl _) _⟩
  obtain ⟨w1, hw1, hj1, hb1⟩ := hall
  have hB1 := hB.below hb1
  have hz1 : w.heap.size < w1.heap.size := hj1.lt
  go_enter Tryz.func65, Tryz.ntmps65
  go_upto_region 1 with fail
  rw [← hw1]
  clear hw1
  have hlt := hB.lt
  obtain ⟨hbt, ⟨i0, hbi, hbz, hbs, hby⟩, hbc, -, -⟩ := rowJ
  go_upto_region 2 with (at_make; refine wpList_make_full w1 (by rfl) _ _ 47 (by rfl) w1.heap.size 49 i0 (.agg #[.int .i64 0, .int .i64 0, .string ⟨#[]⟩, .slice none 0 0, .slice none 0 0]) 5 hbt hbi hbz hbs _ _ _ _ L (by rfl) (by rfl) (by rfl) (by rfl) (by rw [hby]; omega) (by unfold maxLen; omega) (Nat.le_refl _) ?_; intro w2 hO2 hg2)
  have hb2 : Below w1.heap.size w1 w2 := (Below.refl w1.heap.size w1).grown hg2 (Nat.le_refl _) (fun k hk => by cases hk)
  have hB2 := hB1.below hb2
  have hj2 := hj1.below hb2
  have k0 := hj2.c0
  have k3 := hj2.c3
  have r0 := hB2.c
  have rf := hB2.f
  clear hbt hbi hbz hbs hby hbc
  go_cut [7] (fun a wx => a = .slice (some ⟨w1.heap.size, 0, none⟩) L L ∧ wx = w2.setCell ⟨rb, 0, none⟩ (.bool b0))
  case first =>
    have hq := HB0.out
    clear HB0
    cases b with
    | true =>
      have e : b0 = true := by rw [hq]; rfl
      go_wp2_with fail
      go_meet
      exact ⟨rfl, by rw [e]⟩
    | false =>
      by_cases h5 : k = 5
      · have h5n : (k != 5) = false := by rw [h5]; rfl
        have e : b0 = ((nn : Int) != (L : Int)) := by
          rw [hq, decide_eq_true h5, Bool.true_and, Bool.false_or]
          by_cases h : nn = L
          · subst h; simp
          · have : ¬ (nn : Int) = L := by omega
            rw [beq_eq_false_iff_ne.2 h, bne_iff_ne.2 this]; rfl
        have He := Lib.hid e
        clear e hq
        go_wp2_with fail
        go_meet
        exact ⟨rfl, by rw [He.out]⟩
      · have h5n : (k != 5) = true := bne_iff_ne.2 h5
        have e : b0 = true := by rw [hq, decide_eq_false h5]; rfl
        go_wp2_with fail
        go_meet
        exact ⟨rfl, by rw [e]⟩
  case rest =>
    obtain ⟨rfl, rfl⟩ := hcut
    have hT3 := (Touch.refl (fun q => q = rb) w2).setCell (p := ⟨rb, 0, none⟩) rfl (.bool b0)
    have hB3 := hB2.set b0
    have hj3 := hj2.touch hT3 (by omega)
    have hO3 := own_touch hO2 hT3 (row_ne hO2 (by omega))
    have hTw := (Touch.of_below (F := fun q => q = rb) (hb1.next hb2)).trans hT3
    generalize w2.setCell ⟨rb, 0, none⟩ (.bool b0) = w3 at *
    have hO3' : w3.ownsRow w1.heap.size 49 5 (.slice (some ⟨w1.heap.size, 0, none⟩) L L) L (List.replicate L [Value.int .i64 0, .int .i64 0, .string ⟨#[]⟩, .slice none 0 0, .slice none 0 0]).flatten := by
      have e : (madeCells (Value.agg #[.int .i64 0, .int .i64 0, .string ⟨#[]⟩, .slice none 0 0, .slice none 0 0]).cells (L * 5)).toList = (List.replicate L [Value.int .i64 0, .int .i64 0, .string ⟨#[]⟩, .slice none 0 0, .slice none 0 0]).flatten := made_five L
      rw [← e]; exact hO3
    rw [Hb0.out] at hB3
    have HO3 := Lib.hid hO3'
    have HJ3 := Lib.hid hj3
    have HB3 := Lib.hid hB3
    have HT3 := Lib.hid hTw
    clear hO3 hO3' hj3 hB3 hTw hT3 hj2 hB2 hO2 hb2 hg2 k0 k3 r0 rf hj1 hB1 hb1 HB0
    go_upto_region 4 with fail
    go_loopw [37] (fun ii wr => ∃ (m : Nat) (ys : List Value), m ≤ L ∧ ii = .int .i64 m ∧ RB wr rb (badN b x ns m) ∧ wr.ownsRow w1.heap.size 49 5 (.slice (some ⟨w1.heap.size, 0, none⟩) L L) L ys ∧ JC wr w.heap.size k i t (.slice A1 nn c1) (.slice A2 m2 c2) ∧ Hid (RJs (fun q => w.heap.size ≤ q ∧ ¬ q = w1.heap.size) wr ((ns.take m).map (fun s => (getJ x s).getD J0) ++ List.replicate (L - m) J0) ys) ∧ Hid (Touch (fun q => q = rb) w wr)) (fun ii _ => L - (intOf ii).toNat)
    case atStart => exact ⟨0, _, Nat.zero_le _, rfl, HB3.out, HO3.out, HJ3.out, made_jsons _ _ _, HT3.out⟩
    case round =>
      obtain ⟨m, ys, hm, rfl, hB, hO, hJ, hRJ, hT⟩ := hrel
      have HB := Lib.hid hB
      have HO := Lib.hid hO
      have HJ := Lib.hid hJ
      have hzr : w.heap.size < wr.heap.size := hJ.lt
      clear hB hO
      by_cases hlt' : m < L
      · obtain ⟨s, hs⟩ : ∃ s, ns[m]? = some s := ⟨_, List.getElem?_eq_getElem (by rw [← HL.out]; exact hlt')⟩
        obtain ⟨bs, os, rfl, _, hcs⟩ := (show RdP (fun q => q < w.heap.size ∧ ¬ q = rb) wr 1 (.slice A3 L c3) ns.length (strs ns) by have := HN.out.keep (touch_keeps hT.out (fun b hb e => hb.2 e)); rw [HL.out] at this ⊢; exact this).strAt hs
        have Hs := Lib.hid hs
        have K := Lib.hid (HKG.out s wr hT.out)
        have d0 := hJ.c0
        have d1 := hJ.c1
        have d2 := hJ.c2
        have d3 := hJ.c3
        have d4 := hJ.c4
        clear hs hJ
        go_upto_region 6 with fail
        go_wp2_with fail
        (with_reducible refine K.out.mono ?_); rintro e w4 ⟨A5, m5, c5, A6, m6, c6, rfl, hR4, hb4⟩
        clear d0 d1 d2 d3 d4 hcs K
        generalize hgy : getJ x s = y at *
        have hy2 : y.getD J0 = y.getD J0 := rfl
        generalize hgj : y.getD J0 = z at *
        generalize hok : y.isSome = ok at *
        have hw4 : wr.heap.size ≤ w4.heap.size := hb4.size
        have hall : ∃ W, W = w4.alloc (.cells #[.int .i64 z.kind, .int .i64 z.int, .string (ofL z.text), .slice A5 m5 c5, .slice A6 m6 c6] 49) ∧ W.heap[w4.heap.size]? = some (.cells #[.int .i64 z.kind, .int .i64 z.int, .string (ofL z.text), .slice A5 m5 c5, .slice A6 m6 c6] 49 (0, 0)) ∧ Below w4.heap.size w4 W := ⟨_, rfl, heap_alloc_new w4 _, (Below.refl _ _).alloc (Nat.le_refl _) _⟩
        obtain ⟨w5, hw5, hk5, hb5⟩ := hall
        go_upto_region 7 with fail
        rw [← hw5]
        clear hw5
        have hb45 := hb4.next hb5
        have hB5 := HB.out.below hb45
        have hO5 := own_below HO.out hb45
        have hJ5 := HJ.out.below hb45
        have hR5 := RJ.below (RJ.mono (Q := fun q => q < w4.heap.size ∧ wr.heap.size ≤ q) (fun q h1 h2 => ⟨h2, h1⟩) _ _ hR4 |> RJ.mono (Q := fun q => wr.heap.size ≤ q) (fun q h1 h2 => h1.2) _ _) hb5
        have r0 := hB5.c
        have rf := hB5.f
        have hz5 : w4.heap.size < w5.heap.size := (Array.getElem?_eq_some_iff.1 hk5).1
        have hbs : badN b x ns (m + 1) = (badN b x ns m || !ok) := by rw [badN_step b x ns m Hs.out, hgy, hok]
        have Hbs := Lib.hid hbs
        generalize badN b x ns m = bm at *
        obtain ⟨bn, hbn⟩ : ∃ bn, bn = (bm || !ok) := ⟨_, rfl⟩
        have Hbn := Lib.hid hbn
        clear hbs hbn
        go_cut [37] (fun a wx => a = .int .i64 m ∧ wx = w5.setCell ⟨rb, 0, none⟩ (.bool bn))
        case first =>
          have hq := Hbn.out
          clear Hbn
          cases bm with
          | true =>
            have e : bn = true := by rw [hq]; rfl
            go_wp2_with fail
            go_meet
            exact ⟨rfl, by rw [e]⟩
          | false =>
            have e : bn = !ok := by rw [hq]; rfl
            clear hq
            have He := Lib.hid e
            clear e
            go_wp2_with fail
            go_meet
            exact ⟨rfl, by rw [He.out]⟩
        case rest =>
          obtain ⟨rfl, rfl⟩ := hcut
          have hT6 := (Touch.refl (fun q => q = rb) w5).setCell (p := ⟨rb, 0, none⟩) rfl (.bool bn)
          have hB6 := hB5.set bn
          have hO6 := own_touch hO5 hT6 (row_ne hO5 (by omega))
          have hJ6 := hJ5.touch hT6 (by omega)
          have hk6 := (hT6.block _ hz5 (by omega)).trans hk5
          have hz6 : w5.heap.size ≤ (w5.setCell ⟨rb, 0, none⟩ (.bool bn)).heap.size := hT6.size
          have hR6 := RJ.keep (touch_keeps hT6 (fun q h1 e => by have h1' : wr.heap.size ≤ q := h1; have e' : q = rb := e; omega)) _ _ hR5
          have hS6 := RJs.keep (touch_keeps hT6 (fun q h1 e => by have h1' := h1.1; have e' : q = rb := e; omega)) (RJs.below hRJ.out hb45)
          have hTr := hT.out.trans ((Touch.of_below (F := fun q => q = rb) hb45).trans hT6)
          generalize w5.setCell ⟨rb, 0, none⟩ (.bool bn) = w6 at *
          obtain ⟨e0, e1, e2, e3, e4, -⟩ := box5b hk6
          have hml : m * 5 + 5 ≤ L * 5 := by omega
          have f80 := hO6.frozenAt (m * 5)
          have c80 := hO6.cellAt (m * 5) (by omega)
          have f81 := hO6.frozenAt (m * 5 + 1); have c81 := hO6.cellAt (m * 5 + 1) (by omega); have f82 := hO6.frozenAt (m * 5 + 2); have c82 := hO6.cellAt (m * 5 + 2) (by omega); have f83 := hO6.frozenAt (m * 5 + 3); have c83 := hO6.cellAt (m * 5 + 3) (by omega); have f84 := hO6.frozenAt (m * 5 + 4); have c84 := hO6.cellAt (m * 5 + 4) (by omega)
          have hm0 : (0 : Int) ≤ (m : Int) := by omega
          have hm1 : (m : Int) < (L : Int) := by omega
          have hOl : ys.length = L * 5 := hO6.1
          obtain ⟨y0, hy0⟩ : ∃ u, ys[m * 5]? = some u := ⟨_, List.getElem?_eq_getElem (by omega)⟩
          obtain ⟨y1, hy1⟩ : ∃ u, ys[m * 5 + 1]? = some u := ⟨_, List.getElem?_eq_getElem (by omega)⟩; obtain ⟨y2, hy2⟩ : ∃ u, ys[m * 5 + 2]? = some u := ⟨_, List.getElem?_eq_getElem (by omega)⟩; obtain ⟨y3, hy3⟩ : ∃ u, ys[m * 5 + 3]? = some u := ⟨_, List.getElem?_eq_getElem (by omega)⟩; obtain ⟨y4, hy4⟩ : ∃ u, ys[m * 5 + 4]? = some u := ⟨_, List.getElem?_eq_getElem (by omega)⟩
          rw [hy0] at c80
          rw [hy1] at c81
          rw [hy2] at c82
          rw [hy3] at c83
          rw [hy4] at c84
          have hlo : w1.heap.size < wr.heap.size := (HO.out.lt _ rfl).2
          have hO7 := own_put hO6 (m * 5) (.int .i64 z.kind) (.int .i64 z.int) (.string (ofL z.text)) (.slice A5 m5 c5) (.slice A6 m6 c6)
          have hT7 := (((((Touch.refl (fun q => q = w1.heap.size) w6).setCell (p := ⟨w1.heap.size, m * 5, none⟩) rfl (.int .i64 z.kind)).setCell (p := ⟨w1.heap.size, m * 5 + 1, none⟩) rfl (.int .i64 z.int)).setCell (p := ⟨w1.heap.size, m * 5 + 2, none⟩) rfl (.string (ofL z.text))).setCell (p := ⟨w1.heap.size, m * 5 + 3, none⟩) rfl (.slice A5 m5 c5)).setCell (p := ⟨w1.heap.size, m * 5 + 4, none⟩) rfl (.slice A6 m6 c6)
          have hS7 := RJs.keep (touch_keeps hT7 (fun q h1 e => h1.2 e)) hS6
          have hR7 := RJ.keep (touch_keeps hT7 (fun q h1 e => by have h1' : wr.heap.size ≤ q := h1; have e' : q = w1.heap.size := e; omega)) _ _ hR6
          have hR7' := RJ.mono (Q := fun q => w.heap.size ≤ q ∧ ¬ q = w1.heap.size) (fun q h1 _ => by have h1' : wr.heap.size ≤ q := h1; exact ⟨by omega, by omega⟩) _ _ hR7
          have hJs := rjs_put hR7' m _ ys (by rw [List.length_append, List.length_map, List.length_take, List.length_replicate, ← HL.out]; omega) hS7
          have hsn := set_next (fun s => (getJ x s).getD J0) ns J0 Hs.out (by rw [← HL.out]; exact hlt')
          simp only [hgy, hgj] at hsn
          rw [← HL.out] at hsn
          rw [hsn] at hJs
          have hJ7 := hJ6.touch hT7 (by omega)
          have hB7 := hB6.touch hT7 (by omega)
          have hTz := hTr.under hT7 (fun q h1 e => by have e' : q = w1.heap.size := e; omega)
          have HO7 := Lib.hid hO7
          have HJs := Lib.hid hJs
          have HJ7 := Lib.hid hJ7
          have HB7 := Lib.hid hB7
          have HTz := Lib.hid hTz
          clear hO7 hT7 hS7 hR7 hR7' hJs hJ7 hB7 hTz hTr hS6 hR6 hk6
          clear hJ6 hO6 hB6 hT6 hR5 hJ5 hO5 hB5 hb45
          clear hy0 hy1 hy2 hy3 hy4 r0 rf hOl
          clear hsn hgy hgj hok hR4 hb4 hk5 hb5
          go_upto_region 9 with fail
          generalize (((((w6.setCell ⟨w1.heap.size, m * 5, none⟩ (.int .i64 z.kind)).setCell ⟨w1.heap.size, m * 5 + 1, none⟩ (.int .i64 z.int)).setCell ⟨w1.heap.size, m * 5 + 2, none⟩ (.string (ofL z.text))).setCell ⟨w1.heap.size, m * 5 + 3, none⟩ (.slice A5 m5 c5)).setCell ⟨w1.heap.size, m * 5 + 4, none⟩ (.slice A6 m6 c6)) = wz at *
          go_wp2_with fail
          exact ⟨⟨m + 1, _, by omega, by go_num, by rw [Hbs.out, ← Hbn.out]; exact HB7.out, HO7.out, HJ7.out, HJs.out, HTz.out⟩, by simp [intOf]; omega⟩
      · have hmn : m = L := by omega
        subst hmn
        have hB := HB.out
        have hRJ := hRJ.out
        rw [List.take_of_length_le (by rw [HL.out]; exact Nat.le_refl _), Nat.sub_self, List.replicate_zero, List.append_nil] at hRJ
        have hbe : badN b x ns m = (b || (objR x ns).1) := by rw [HL.out]; exact badN_end b x ns
        rw [hbe] at hB
        have HF1 := Lib.hid hB
        have HF2 := Lib.hid (RJs.mono (Q := fun q => w.heap.size ≤ q) (fun q h1 _ => h1.1) hRJ)
        have HF3 := Lib.hid (own_rdp (P := fun q => w.heap.size ≤ q) HO.out (fun q h1 => by omega))
        clear hB hRJ hbe hJ HB
        go_wp2_with fail
        go_ret
        exact ⟨_, _, _, rfl, HF3.out, HF2.out, HF1.out, hT.out⟩
end Go.Proofs.YtigdjnfnkjfkmaaGreatDoor
