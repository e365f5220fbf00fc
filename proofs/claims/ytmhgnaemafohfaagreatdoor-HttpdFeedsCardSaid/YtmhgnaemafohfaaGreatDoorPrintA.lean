/- Headers' size, their lines, whether they are equal (blotterlaw08, httpd). Conditions: they are few. -/
import Derived.Test.YtmhgnaemafohfaaGreatDoorCatA
namespace Go.Proofs.YtmhgnaemafohfaaGreatDoor
open Go.RowKit
set_option linter.unusedVariables false
set_option linter.unusedSimpArgs false
set_option maxRecDepth 100000

theorem hdreq_any (hs gs : List (B × B)) (v u : Value) (w : World) (hR : Rd w 2 v hs.length (pairs hs)) (hS : Rd w 2 u gs.length (pairs gs)) (hn : hs.length ≤ maxLen) (hm : gs.length ≤ maxLen) :
    Calls Tryz.prog 50 #[v, u] w fun e w' => e = .returned (.bool (decide (hs = gs))) ∧ Below w.heap.size w w' := by
  have HR := Lib.hid hR
  have HS := Lib.hid hS
  obtain ⟨A, c, rfl⟩ := hR.shape
  obtain ⟨A', c', rfl⟩ := hS.shape
  clear hR hS
  unfold maxLen at hn hm
  by_cases hl : hs.length = gs.length
  · have Hl := Lib.hid hl
    go_enter Tryz.func50, Tryz.ntmps50
    go_wp2
    go_loopw [13] (fun i wr => ∃ k : Nat, k ≤ hs.length ∧ i = .int .i64 k ∧ hs.take k = gs.take k ∧ Below w.heap.size w wr) (fun i _ => hs.length - (intOf i).toNat)
    case atStart => exact ⟨0, Nat.zero_le _, rfl, rfl, Below.refl _ _⟩
    case round =>
      obtain ⟨k, hk, rfl, he, hb⟩ := hrel
      have He := Lib.hid he
      clear he
      by_cases hlt : k < hs.length
      · obtain ⟨h, hh⟩ : ∃ h, hs[k]? = some h := ⟨hs[k], List.getElem?_eq_getElem hlt⟩
        obtain ⟨g, hg⟩ : ∃ g, gs[k]? = some g := ⟨gs[k]'(by omega), List.getElem?_eq_getElem (by omega)⟩
        obtain ⟨b, o, rfl, hc1, hc2⟩ := (HR.out.below hb).pairAt hh
        obtain ⟨b', o', rfl, hd1, hd2⟩ := (HS.out.below hb).pairAt hg
        have hlt' : k < gs.length := by omega
        clear hl
        have kq := fun w' => hdr_eq w' (ofL h.1) (ofL g.1) (ofL h.2) (ofL g.2)
        rw [hdr_dec] at kq
        by_cases hhg : h = g
        · rw [decide_eq_true hhg] at kq
          have Hs : Hid (hs.take (k + 1) = gs.take (k + 1)) := by show _ = _; rw [take_snoc' hh, take_snoc' hg, He.out, hhg]
          clear hh hg hhg
          go_wp2
          go_quiet (fail)
          go_wp2
          go_roundw
          case rel => exact ⟨k + 1, by omega, by go_num, Hs.out, hb.trans (below_drewN _ _ _)⟩
          case measure => simp [intOf]; omega
        · rw [decide_eq_false hhg] at kq
          have Hs : Hid (hs ≠ gs) := fun e => by rw [e] at hh; rw [hh] at hg; exact hhg (Option.some.inj hg)
          clear hh hg hhg
          go_wp2
          go_quiet (fail)
          go_wp2
          go_ret
          exact ⟨ret_bool (by simp [Hs.out]), hb.trans (below_drewN _ _ _)⟩
      · have hk' : ¬ k < gs.length := by omega
        have Hf : Hid (hs = gs) := by show _ = _; have := He.out; rwa [List.take_of_length_le (by omega), List.take_of_length_le (by have := Hl.out; omega)] at this
        go_wp2
        go_ret
        exact ⟨ret_bool (by simp [Hf.out]), hb⟩
  · have Hf : Hid (hs ≠ gs) := fun e => hl (by rw [e])
    have hl' : ((hs.length : Int) != (gs.length : Int)) = true := by simp; omega
    go_enter Tryz.func50, Tryz.ntmps50
    go_wp2
    go_ret
    exact ⟨ret_bool (by simp [Hf.out]), Below.refl _ _⟩

/-- Headers as they are sent. -/
def lineH (h : B × B) : B := h.1 ++ 58 :: 32 :: (h.2 ++ [13, 10])
def linesH (hs : List (B × B)) : B := hs.flatMap lineH
theorem linesH_snoc {hs : List (B × B)} {k : Nat} {h : B × B} (hk : hs[k]? = some h) : linesH (hs.take (k + 1)) = linesH (hs.take k) ++ lineH h := by
  unfold linesH; rw [List.take_add_one, hk]; simp
theorem linesH_le (hs : List (B × B)) (k : Nat) : (linesH (hs.take k)).length ≤ (linesH hs).length := by
  conv => rhs; rw [← List.take_append_drop k hs]
  unfold linesH
  rw [List.flatMap_append, List.length_append]; omega
theorem linesH_many : ∀ hs : List (B × B), 4 * hs.length ≤ (linesH hs).length
  | [] => Nat.zero_le _
  | h :: t => by
    have := linesH_many t
    have e : linesH (h :: t) = lineH h ++ linesH t := by simp [linesH]
    rw [e, List.length_append]
    simp [lineH]; omega

/-- A row of bytes of one's own (closed to the walk). -/
def OwnB (w : World) (base : Nat) (v : Value) (l : B) : Prop := w.ownsRow base 5 1 v l.length (bytesV l)
theorem OwnB.touch {G : Nat → Prop} {w w' : World} {base : Nat} {v : Value} {l : B} (h : OwnB w base v l) (ht : Touch G w w') (hG : ∀ k, v.ownBlock = some k → ¬ G k) : OwnB w' base v l := own_touch h ht hG
theorem OwnB.below {w w' : World} {base : Nat} {v : Value} {l : B} (h : OwnB w base v l) (hb : Below w.heap.size w w') : OwnB w' base v l := own_below h hb
theorem wpList_strB {P : Program} (w : World) {ops : Array Oper} {rest : List Oper} {o : Oper} {a : Act} {Q : Exit → Act → World → Prop} (hgd : o.guard = none) (sl x : Operand) (t u : TypeId)
    (ho : o.op = .call { callee := .builtin .append, args := #[sl, x], argTypes := #[t, u] })
    (base : Nat) (hrow : Row P t 5 (.int .u8 0) 1 1) (hu : P.underlying u = some .string)
    (v : Value) (l : B) (hs : a.eval sl = v) (hown : OwnB w base v l) (s : ByteArray) (hx : a.eval x = .string s)
    (hbytes : l.length + s.size ≤ 140737488355328) (hbase : base ≤ w.heap.size)
    (h : ∀ v' w', OwnB w' base v' (l ++ s.toList) → Touch (fun k => v.ownBlock = some k) w w' → Below base w w' → wpList P ops Q rest (a.put o.dst v') w') : wpList P ops Q (o :: rest) a w :=
  wpList_pushStr w hgd sl x t u ho base hrow hu v l hs hown s hx hbytes hbase fun v' w' h1 h2 h3 => h v' w' h1 ((Touch.refl _ w).grown h2 (fun k hk => hk)) h3
/-- 'append(b, x..)', x bytes that were just laid. -/
theorem wpList_newB {P : Program} (w0 : World) {ops : Array Oper} {rest : List Oper} {o : Oper} {a : Act} {Q : Exit → Act → World → Prop} (hgd : o.guard = none) (sl x : Operand) (t : TypeId)
    (ho : o.op = .call { callee := .builtin .append, args := #[sl, x], argTypes := #[t, t] })
    (base : Nat) (hrow : Row P t 5 (.int .u8 0) 1 1)
    (v : Value) (l : B) (hs : a.eval sl = v) (hown : OwnB w0 base v l) (m : B) (g n : Nat) (hx : a.eval x = .slice (some ⟨g, 0, none⟩) n n) (hg : g = w0.heap.size) (hn : n = m.length)
    (hbytes : l.length + m.length ≤ 140737488355328) (hbase : base ≤ w0.heap.size)
    (h : ∀ v' w', OwnB w' base v' (l ++ m) → Touch (fun k => v.ownBlock = some k) w0 w' → Below base w0 w' → wpList P ops Q rest (a.put o.dst v') w') :
    wpList P ops Q (o :: rest) a (w0.alloc (.cells (bytesV m).toArray 5)) := by
  obtain ⟨ht, ⟨i, hi, hz, hsize, hby⟩, hzs, hsz, hbz⟩ := hrow
  subst hg hn
  refine wpList_append_own _ hgd sl x t ho base 5 i _ 1 1 ht hi hz hsize hby hzs hsz v l.length (bytesV l) hs ((show w0.ownsRow _ _ _ _ _ _ from hown).alloc _) ⟨w0.heap.size, 0, none⟩ m.length m.length (bytesV m) hx (by rw [bytesV_len, Nat.mul_one]) cells_new (oneCell_bytes m)
    (by unfold maxLen; omega) (by omega) (by simp; omega) fun v' w' h2 h3 h4 => ?_
  refine h v' w' ?_ ((Touch.of_below ((Below.refl w0.heap.size w0).alloc (Nat.le_refl _) _)).grown h3 (fun k hk => hk)) (((Below.refl base w0).alloc hbase _).grown h3 (by simp; omega) fun k hk => ((show w0.ownsRow _ _ _ _ _ _ from hown).lt k hk).1)
  show w'.ownsRow _ _ _ _ _ _
  rw [List.length_append, bytesV_append]; exact h2
/-- A header in a cell block of its own. -/
def BoxH (w : World) (b : Nat) (n v : ByteArray) : Prop := w.heap[b]? = some (.cells #[.string n, .string v] 72 (0, 0))
theorem BoxH.c0 {w : World} {b : Nat} {n v : ByteArray} (h : BoxH w b n v) : w.cell? ⟨b, 0, none⟩ = some (.string n) := by rw [Lib.cell_of_heap h]; rfl
theorem BoxH.c1 {w : World} {b : Nat} {n v : ByteArray} (h : BoxH w b n v) : w.cell? ⟨b, 1, none⟩ = some (.string v) := by rw [Lib.cell_of_heap h]; rfl
theorem BoxH.lt {w : World} {b : Nat} {n v : ByteArray} (h : BoxH w b n v) : b < w.heap.size := (Array.getElem?_eq_some_iff.1 h).1
theorem BoxH.touch {F : Nat → Prop} {w w' : World} {b : Nat} {n v : ByteArray} (h : BoxH w b n v) (ht : Touch F w w') (hf : ¬ F b) : BoxH w' b n v := by unfold BoxH; rw [ht.block b h.lt hf]; exact h
theorem BoxH.not_own {w : World} {b : Nat} {n v : ByteArray} (h : BoxH w b n v) {base : Nat} {x : Value} {l : B} (ho : OwnB w base x l) : ¬ x.ownBlock = some b := by
  intro hj
  obtain ⟨cs, hcs⟩ := own_elem ho hj
  unfold BoxH at h
  rw [h] at hcs
  simp only [Option.some.injEq, Obj.cells.injEq] at hcs
  exact absurd hcs.2.1 (by decide)

set_option maxHeartbeats 4000000 in
theorem lines_any (hs : List (B × B)) (v : Value) (w : World) (hR : Rd w 2 v hs.length (pairs hs)) (hl : (linesH hs).length ≤ 1099511627776) :
    Calls Tryz.prog 49 #[v] w fun e w' => ∃ v', e = .returned v' ∧ OwnB w' w.heap.size v' (linesH hs) ∧ Below w.heap.size w w' := by
  have HR := Lib.hid hR
  obtain ⟨A, c, rfl⟩ := hR.shape
  have hm := linesH_many hs
  clear hR
  go_enter Tryz.func49, Tryz.ntmps49
  go_wp2_with fail
  go_loopw [8, 3] (fun i bv wr => ∃ (k : Nat) (C : B), k ≤ hs.length ∧ i = .int .i64 k ∧ Hid (C = linesH (hs.take k)) ∧ OwnB wr w.heap.size bv C ∧ Below w.heap.size w wr) (fun i _ _ => hs.length - (intOf i).toNat)
  case atStart => exact ⟨0, [], Nat.zero_le _, rfl, (rfl : ([] : B) = linesH []), World.ownsRow_nil _ _ _ _, Below.refl _ _⟩
  case round =>
    obtain ⟨k, C, hk, rfl, HC, Hown, hr⟩ := hrel
    by_cases hlt : k < hs.length
    · obtain ⟨h, hh⟩ : ∃ h, hs[k]? = some h := ⟨hs[k], List.getElem?_eq_getElem hlt⟩
      obtain ⟨b, o, rfl, hc1, hc2⟩ := (HR.out.below hr).pairAt hh
      have Hs := Lib.hid (linesH_snoc hh)
      have hle := linesH_le hs (k + 1)
      rw [Hs.out, List.length_append, ← HC.out] at hle
      have hlen : (lineH h).length = h.1.length + h.2.length + 4 := by simp [lineH]; omega
      have hCl : C.length + (h.1.length + h.2.length + 4) ≤ 1099511627776 := by omega
      have hrA := hr.alloc hr.size (.cells #[.string (ofL h.1), .string (ofL h.2)] 72)
      have HoA := Hown.below ((Below.refl _ wr).alloc (Nat.le_refl _) (.cells #[.string (ofL h.1), .string (ofL h.2)] 72))
      have HBx := Lib.hid (show BoxH (wr.alloc (.cells #[.string (ofL h.1), .string (ofL h.2)] 72)) wr.heap.size (ofL h.1) (ofL h.2) from heap_alloc_new _ _)
      clear hh hle hlen
      go_wp2_with (at_builtin; refine wpList_strB _ rfl _ _ _ _ rfl w.heap.size rowB Tryz.underlying9 _ C rfl HoA (ofL h.1) rfl (by rw [size_ofL]; omega) hrA.size ?_)
      intro v1 w1 ho1 ht1 hb1
      rw [toL_ofL] at ho1
      have hbx1 := HBx.out.touch ht1 (HBx.out.not_own HoA)
      have hr1 := hrA.trans hb1
      have hl1 : (C ++ h.1).length = C.length + h.1.length := List.length_append
      generalize hC1 : C ++ h.1 = C1 at *
      have HC1 := Lib.hid hC1
      have k0 := hbx1.c0
      have k1 := hbx1.c1
      have HBx1 := Lib.hid hbx1
      clear hbx1 hC1 ht1 hb1 HoA hrA HBx
      go_wp2_with (at_builtin; refine wpList_strB _ rfl _ _ _ _ rfl w.heap.size rowB Tryz.underlying9 _ C1 rfl ho1 ⟨#[58, 32]⟩ rfl (by rw [show (⟨#[58, 32]⟩ : ByteArray).size = 2 from rfl]; omega) hr1.size ?_)
      intro v2 w2 ho2 ht2 hb2
      have hbx2 := HBx1.out.touch ht2 (HBx1.out.not_own ho1)
      have hr2 := hr1.trans hb2
      have hl2 : (C1 ++ [58, 32]).length = C1.length + 2 := List.length_append
      generalize hC2 : C1 ++ [58, 32] = C2 at *
      have HC2 := Lib.hid hC2
      have k0 := hbx2.c0
      have k1 := hbx2.c1
      have HBx2 := Lib.hid hbx2
      clear hbx2 hC2 ht2 hb2 ho1 hr1 HBx1
      go_wp2_with (at_builtin; refine wpList_strB _ rfl _ _ _ _ rfl w.heap.size rowB Tryz.underlying9 _ C2 rfl ho2 (ofL h.2) rfl (by rw [size_ofL]; omega) hr2.size ?_)
      intro v3 w3 ho3 ht3 hb3
      rw [toL_ofL] at ho3
      have hbx3 := HBx2.out.touch ht3 (HBx2.out.not_own ho2)
      have hr3 := hr2.trans hb3
      have hl3 : (C2 ++ h.2).length = C2.length + h.2.length := List.length_append
      generalize hC3 : C2 ++ h.2 = C3 at *
      have HC3 := Lib.hid hC3
      clear hbx3 hC3 ht3 hb3 ho2 hr2 HBx2 k0 k1
      go_wp2_with (at_builtin; refine wpList_newB _ rfl _ _ 22 rfl w.heap.size rowB _ C3 rfl ho3 [13, 10] _ 2 rfl (by simp) rfl (by simp; omega) hr3.size ?_)
      intro v4 w4 ho4 ht4 hb4
      have hr4 := hr3.trans hb4
      have Hf := Lib.hid (show C3 ++ [13, 10] = linesH (hs.take (k + 1)) by
        rw [Hs.out, ← HC3.out, ← HC2.out, ← HC1.out, HC.out]; simp [lineH])
      clear hb4 ht4 ho3 hr3
      generalize C3 ++ [13, 10] = C4 at *
      go_wp2_with fail
      go_roundw
      case rel => exact ⟨k + 1, C4, by omega, by go_num, Hf.out, ho4, hr4⟩
      case measure => simp [intOf]; omega
    · have hke : hs.length ≤ k := by omega
      have Hf := Lib.hid (show C = linesH hs by rw [HC.out, List.take_of_length_le hke])
      go_wp2_with fail
      go_ret
      exact ⟨_, rfl, by rw [← Hf.out]; exact Hown, hr⟩

/-- How many bytes headers have. -/
def sizeH (hs : List (B × B)) : Nat := (hs.map fun h => 8 + h.1.length + h.2.length).sum
def sizeG (n : Nat) : List (B × B) → Nat
  | [] => n
  | h :: t => if 262144 < n then n else sizeG (n + (8 + min h.1.length 262144 + min h.2.length 262144)) t
theorem sizeG_small : ∀ (hs : List (B × B)) (n : Nat), sizeG n hs ≤ 262144 → sizeG n hs = n + sizeH hs
  | [], n, _ => by simp [sizeG, sizeH]
  | h :: t, n, hc => by
    have e2 : sizeH (h :: t) = (8 + h.1.length + h.2.length) + sizeH t := by simp [sizeH]
    unfold sizeG at hc ⊢
    by_cases hn : 262144 < n
    · rw [if_pos hn] at hc; omega
    · rw [if_neg hn] at hc ⊢
      have := sizeG_small t _ hc
      rw [this] at hc
      rw [this, e2]
      omega
theorem sizeG_le : ∀ (hs : List (B × B)) (n : Nat), n ≤ 1000000 → sizeG n hs ≤ 1000000
  | [], n, h => h
  | h :: t, n, hc => by
    unfold sizeG
    by_cases hn : 262144 < n
    · rw [if_pos hn]; exact hc
    · rw [if_neg hn]; exact sizeG_le t _ (by omega)
set_option maxHeartbeats 4000000 in
theorem size_any (hs : List (B × B)) (v : Value) (w : World) (hR : Rd w 2 v hs.length (pairs hs)) (hn : hs.length ≤ 140737488355328) :
    Calls Tryz.prog 18 #[v] w fun e w' => e = .returned (.int .i64 (sizeG 0 hs)) ∧ ∃ m, w' = w.drewN m := by
  have HR := Lib.hid hR
  obtain ⟨A, c, rfl⟩ := hR.shape
  clear hR
  go_enter Tryz.func18, Tryz.ntmps18
  go_wp2_with fail
  go_loopw [5, 4, 3] (fun s5 i sn wr => ∃ (k n : Nat), k ≤ hs.length ∧ i = .int .i64 k ∧ sn = .int .i64 n ∧ n ≤ 1000000 ∧ Hid (sizeG n (hs.drop k) = sizeG 0 hs) ∧ Hid (∃ q, wr = w.drewN q)) (fun _ i _ _ => hs.length - (intOf i).toNat)
  case atStart => exact ⟨0, 0, Nat.zero_le _, rfl, rfl, by omega, (rfl : sizeG 0 hs = sizeG 0 hs), ⟨0, rfl⟩⟩
  case round =>
    obtain ⟨k, n, hk, rfl, rfl, hnb, Hn, Hq⟩ := hrel
    have hr : Below w.heap.size w wr := by obtain ⟨q, h⟩ := Hq.out; rw [h]; exact below_drewN _ _ _
    by_cases hlt : k < hs.length
    · obtain ⟨h, hh⟩ : ∃ h, hs[k]? = some h := ⟨hs[k], List.getElem?_eq_getElem hlt⟩
      have Hd := Lib.hid (show hs.drop k = h :: hs.drop (k + 1) by
        rw [List.drop_eq_getElem_cons hlt]; rw [List.getElem?_eq_getElem hlt] at hh; rw [Option.some.inj hh])
      by_cases hnm : n ≤ 262144
      · obtain ⟨b, o, rfl, hc1, hc2⟩ := (HR.out.below hr).pairAt hh
        have Hs := Lib.hid (show sizeG (n + (8 + min h.1.length 262144 + min h.2.length 262144)) (hs.drop (k + 1)) = sizeG 0 hs by
          rw [← Hn.out, Hd.out]; conv => rhs; unfold sizeG
          rw [if_neg (by omega)])
        have hm' : (n : Int) ≤ 262144 := by omega
        clear hh
        go_wp2_with fail
        go_quiet (fail)
        go_wp2_with fail
        go_roundw
        case rel => exact ⟨k + 1, n + (8 + min h.1.length 262144 + min h.2.length 262144), by omega, by go_num, congrArg _ (by rw [size_ofL, size_ofL]; omega), by omega, Hs.out, (by obtain ⟨q, h⟩ := Hq.out; exact ⟨q + nq, by rw [h, World.drewN_drewN]⟩ : ∃ q, wr.drewN nq = w.drewN q)⟩
        case measure => simp [intOf]; omega
      · have hm' : ¬ (n : Int) ≤ 262144 := by omega
        have Hf := Lib.hid (show sizeG 0 hs = n by
          rw [← Hn.out, Hd.out]; unfold sizeG; rw [if_pos (by omega)])
        clear hh
        go_wp2_with fail
        go_ret
        exact ⟨by rw [Hf.out]; rfl, Hq.out⟩
    · have Hf := Lib.hid (show sizeG 0 hs = n by
        rw [← Hn.out, List.drop_eq_nil_of_le (by omega)]; rfl)
      go_wp2_with fail
      go_ret
      exact ⟨by rw [Hf.out]; rfl, Hq.out⟩
theorem linesH_size (hs : List (B × B)) : (linesH hs).length ≤ sizeH hs := by
  induction hs with
  | nil => simp [linesH, sizeH]
  | cons h t ih =>
    have e : linesH (h :: t) = lineH h ++ linesH t := by simp [linesH]
    have e2 : sizeH (h :: t) = (8 + h.1.length + h.2.length) + sizeH t := by simp [sizeH]
    rw [e, e2, List.length_append]
    simp [lineH]; omega
end Go.Proofs.YtmhgnaemafohfaaGreatDoor
