/- The law JsonxOrder. Conditions: the value lies in memory and is right; the program's variables hold what they hold. -/
import Derived.Test.YthkpbgpgcpkiiaaGreatDoorJLawC
import Derived.Laws.OwnMore
import Derived.IntWalk
import Derived.Deep.RegionHeld3
namespace Go.Proofs.YthkpbgpgcpkiiaaGreatDoor
open Go.RowKit
set_option linter.unusedVariables false
set_option linter.unusedSimpArgs false
set_option maxRecDepth 100000

/-- The list from its end on, begun at j. -/
def turnL {α : Type} (l : List α) (j : Nat) : List α := l.reverse.drop (j % l.length) ++ l.reverse.take (j % l.length)
theorem turn_len {α : Type} (l : List α) (j : Nat) : (turnL l j).length = l.length := by unfold turnL; simp; omega
theorem turn_perm {α : Type} (l : List α) (j : Nat) : l.Perm (turnL l j) := by
  unfold turnL
  refine (List.reverse_perm l).symm.trans ?_
  have h : l.reverse.take (j % l.length) ++ l.reverse.drop (j % l.length) = l.reverse := List.take_append_drop _ _
  have h2 : l.reverse.Perm (l.reverse.take (j % l.length) ++ l.reverse.drop (j % l.length)) := List.Perm.of_eq h.symm
  exact h2.trans List.perm_append_comm
theorem mod_turn {i j n : Nat} (hi : i < n) : (i + j) % n = if i + j % n < n then i + j % n else i + j % n - n := by
  have hr : j % n < n := Nat.mod_lt _ (by omega)
  have h1 : (i + j) % n = (i + j % n) % n := by rw [Nat.add_mod, Nat.mod_eq_of_lt hi]
  rw [h1]
  split
  · rw [Nat.mod_eq_of_lt (by assumption)]
  · rw [Nat.mod_eq_sub_mod (by omega), Nat.mod_eq_of_lt (by omega)]
theorem turn_at {α : Type} (l : List α) (j i : Nat) (hi : i < l.length) : (turnL l j)[i]? = l[l.length - 1 - (i + j) % l.length]? := by
  have hr : j % l.length < l.length := Nat.mod_lt _ (by omega)
  rw [mod_turn hi]
  unfold turnL
  by_cases h : i + j % l.length < l.length
  · rw [if_pos h, List.getElem?_append_left (by simp; omega), List.getElem?_drop, List.getElem?_reverse (by omega)]
    congr 1; omega
  · rw [if_neg h, List.getElem?_append_right (by simp; omega), List.getElem?_take_of_lt (by simp; omega), List.getElem?_reverse (by simp; omega)]
    congr 1; simp; omega
theorem turn_zip {α β : Type} (l : List α) (m : List β) (h : l.length = m.length) (j : Nat) : turnL (l.zip m) j = (turnL l j).zip (turnL m j) := by
  refine List.ext_getElem? fun i => ?_
  by_cases hi : i < l.length
  · have hz : (l.zip m).length = l.length := by simp; omega
    rw [turn_at _ _ _ (by omega), hz]
    simp only [List.zip_eq_zipWith, List.getElem?_zipWith, turn_at l j i hi, turn_at m j i (by omega), h]
  · rw [List.getElem?_eq_none (by rw [turn_len]; simp; omega), List.getElem?_eq_none (by simp [turn_len]; omega)]
theorem wt_turn (k n : Int) (t : B) (ns : List B) (is : List J) (j : Nat) : wtJ (.mk k n t (turnL ns j) (turnL is j)) = wtJ (.mk k n t ns is) := by
  rw [wtJ, wtJ, wts_sum, wts_sum, turn_len, ((turn_perm ns j).map List.length).sum_nat, ((turn_perm is j).map wtJ).sum_nat]
/-- The order of an object's members changes no print. -/
theorem order_law {n : Int} {t : B} {ns : List B} {is : List J} (hw : wfJ (.mk 5 n t ns is) = true) (hc : checkJ 0 (.mk 5 n t ns is) = 0) (j : Nat) :
    ns.length = is.length ∧ wfJ (.mk 5 n t (turnL ns j) (turnL is j)) = true ∧ printJ (.mk 5 n t (turnL ns j) (turnL is j)) = printJ (.mk 5 n t ns is) ∧ sameJ (.mk 5 n t ns is) (.mk 5 n t (turnL ns j) (turnL is j)) = true ∧
      wtJ (.mk 5 n t (turnL ns j) (turnL is j)) = wtJ (.mk 5 n t ns is) := by
  have hl : ns.length = is.length := by
    rcases blank_kinds (check_parts hc).2.1 with ⟨h, _⟩ | ⟨h, _⟩ | ⟨h, _⟩ | ⟨h, _⟩ | ⟨h, _⟩ | ⟨-, _, _, h, _⟩
    · cases h
    · cases h
    · cases h
    · cases h
    · cases h
    · exact h
  have hp : (ns.zip is).Perm ((turnL ns j).zip (turnL is j)) := by rw [← turn_zip _ _ hl]; exact turn_perm _ _
  obtain ⟨h1, h2⟩ := order_same ⟨hc, hw⟩ (by rw [turn_len, turn_len, hl]) hp
  refine ⟨hl, h1.2, ?_, ?_, wt_turn ..⟩
  · rw [print_zero h1.1, print_zero hc, h2]
  · unfold sameJ; rw [hc, h1.1, h2]; simp
/-- One step of the turning: what has been written ahead, the old behind. -/
theorem turn_step {α : Type} (l : List α) (j m : Nat) (x : α) (hm : m < l.length) (hx : l[l.length - 1 - (m + j) % l.length]? = some x) :
    ((turnL l j).take m ++ l.drop m).set m x = (turnL l j).take (m + 1) ++ l.drop (m + 1) ∧ ((turnL l j).take m ++ l.drop m).length = l.length := by
  rw [← turn_at l j m hm] at hx
  have hlt : ((turnL l j).take m).length = m := by simp [turn_len]; omega
  refine ⟨?_, by simp [turn_len]; omega⟩
  rw [List.set_append_right _ _ (by omega), hlt, Nat.sub_self, List.take_add_one, hx]
  rw [List.drop_eq_getElem_cons hm, List.set_cons_zero]
  simp
theorem turn_start {α : Type} (l : List α) (j : Nat) : (turnL l j).take 0 ++ l.drop 0 = l := by simp
theorem turn_end {α : Type} (l : List α) (j m : Nat) (hm : m = l.length) : (turnL l j).take m ++ l.drop m = turnL l j := by
  subst hm; rw [List.drop_length, List.append_nil, List.take_of_length_le (by rw [turn_len]; exact Nat.le_refl _)]
theorem cells_set (a b c d e : Value) : ∀ (m : Nat) (xs : List Value), (m + 1) * 5 ≤ xs.length →
    (((((xs.set (m * 5) a).set (m * 5 + 1) b).set (m * 5 + 2) c).set (m * 5 + 3) d).set (m * 5 + 4) e) = xs.take (m * 5) ++ [a, b, c, d, e] ++ xs.drop (m * 5 + 5)
  | 0, x0 :: x1 :: x2 :: x3 :: x4 :: r, _ => by simp
  | m + 1, x0 :: x1 :: x2 :: x3 :: x4 :: r, h => by
    have e5 : (m + 1) * 5 = m * 5 + 5 := by omega
    have ih := cells_set a b c d e m r (by simp at h ⊢; omega)
    simp only [e5, List.set_cons_succ, List.take_succ_cons, List.drop_succ_cons, Nat.add_right_comm _ 5]
    rw [ih]
    simp
  | m, [], h => by simp at h
  | m, [_], h => by simp at h; omega
  | m, [_, _], h => by simp at h; omega
  | m, [_, _, _], h => by simp at h; omega
  | m, [_, _, _, _], h => by simp at h; omega
theorem rjs_set {P : Nat → Prop} {w : World} {x : J} {a b c d e : Value} (hx : RJ P w x [a, b, c, d, e]) : ∀ (m : Nat) (l : List J) (xs : List Value), m < l.length → RJs P w l xs →
    RJs P w (l.set m x) (((((xs.set (m * 5) a).set (m * 5 + 1) b).set (m * 5 + 2) c).set (m * 5 + 3) d).set (m * 5 + 4) e)
  | m, [], xs, hm, h => by cases hm
  | 0, v :: l, xs, hm, h => by
    rw [RJs] at h
    obtain ⟨p, q, rfl, h1, h2⟩ := h
    have hl := h1.len
    match p, hl with
    | [p0, p1, p2, p3, p4], _ =>
      rw [List.set_cons_zero, RJs]
      exact ⟨[a, b, c, d, e], q, by simp, hx, h2⟩
  | m + 1, v :: l, xs, hm, h => by
    rw [RJs] at h
    obtain ⟨p, q, rfl, h1, h2⟩ := h
    have hl := h1.len
    have ih := rjs_set hx m l q (by simp at hm; omega) h2
    match p, hl with
    | [p0, p1, p2, p3, p4], _ =>
      rw [List.set_cons_succ, RJs]
      refine ⟨[p0, p1, p2, p3, p4], _, ?_, h1, ih⟩
      have e5 : (m + 1) * 5 = m * 5 + 5 := by omega
      have e6 : m * 5 + 5 + 1 = m * 5 + 1 + 5 ∧ m * 5 + 5 + 2 = m * 5 + 2 + 5 ∧ m * 5 + 5 + 3 = m * 5 + 3 + 5 ∧ m * 5 + 5 + 4 = m * 5 + 4 + 5 := by omega
      rw [e5, e6.1, e6.2.1, e6.2.2.1, e6.2.2.2]
      rfl
theorem strs_set (l : List B) (m : Nat) (s : B) : (strs l).set m (.string (ofL s)) = strs (l.set m s) := by unfold strs; rw [List.map_set]
theorem own_some {w : World} {base : Nat} {e : TypeId} {size n : Nat} {A : Option Addr} {c : Nat} {xs : List Value} (h : w.ownsRow base e size (.slice A n c) n xs) (hn : 0 < n) : ∃ g, A = some ⟨g, 0, none⟩ := by
  rcases h.2 with ⟨h1, h2⟩ | ⟨g, cap, cur, h1, _⟩
  · omega
  · cases h1; exact ⟨g, rfl⟩
/-- Five cells of an own row, written. -/
theorem own_put5 {w : World} {base g n cap : Nat} {e : TypeId} {size : Nat} {xs : List Value} (h : w.ownsRow base e size (.slice (some ⟨g, 0, none⟩) n cap) n xs) (o : Nat) (v0 v1 v2 v3 v4 : Value) :
    (((((w.setCell ⟨g, o, none⟩ v0).setCell ⟨g, o + 1, none⟩ v1).setCell ⟨g, o + 2, none⟩ v2).setCell ⟨g, o + 3, none⟩ v3).setCell ⟨g, o + 4, none⟩ v4).ownsRow base e size (.slice (some ⟨g, 0, none⟩) n cap) n (((((xs.set o v0).set (o + 1) v1).set (o + 2) v2).set (o + 3) v3).set (o + 4) v4) :=
  (((((h.stored o v0).1.stored (o + 1) v1).1.stored (o + 2) v2).1.stored (o + 3) v3).1.stored (o + 4) v4).1
set_option maxHeartbeats 16000000 in
theorem lawOrder5_any (n : Int) (t : B) (ns : List B) (is : List J) (N I : Value) (z : Int) (w : World) (hR : RJ (fun b => b < w.heap.size) w (.mk 5 n t ns is) [.int .i64 5, .int .i64 n, .string (ofL t), N, I]) (hwf : wfJ (.mk 5 n t ns is) = true) (hlen : lenJ (.mk 5 n t ns is) = true) (hG : Good w) :
    Calls Tryz.prog 9 #[.agg #[.int .i64 5, .int .i64 n, .string (ofL t), N, I], .int .i64 z] w fun e w' => e = .returned (.bool true) ∧ Below w.heap.size w w' := by
  have hRv := hR
  rw [RJ] at hRv
  obtain ⟨N', I', e, hN, xs, hI, hxs⟩ := hRv
  have e1 : N = N' ∧ I = I' := by simp at e; exact e
  obtain ⟨rfl, rfl⟩ := e1
  clear e
  obtain ⟨A1, c1, rfl⟩ := hN.shape
  obtain ⟨A2, c2, rfl⟩ := hI.shape
  obtain ⟨nn, hnn⟩ : ∃ nn, nn = ns.length := ⟨_, rfl⟩
  obtain ⟨nm, hnm⟩ : ∃ nm, nm = is.length := ⟨_, rfl⟩
  rw [← hnn] at hN hR ⊢
  rw [← hnm] at hI hR ⊢
  have hb1 := (Below.refl w.heap.size w).alloc (Nat.le_refl _) (.cells #[.int .i64 5, .int .i64 n, .string (ofL t), .slice A1 nn c1, .slice A2 nm c2] 25)
  have hk1 : (w.alloc (.cells #[.int .i64 5, .int .i64 n, .string (ofL t), .slice A1 nn c1, .slice A2 nm c2] 25)).heap[w.heap.size]? = some (.cells #[.int .i64 5, .int .i64 n, .string (ofL t), .slice A1 nn c1, .slice A2 nm c2] 25 (0, 0)) := heap_alloc_new w _
  have HR := Lib.hid (hR.grow hb1)
  have HG := Lib.hid hG
  have HNN := Lib.hid hnn
  have HNM := Lib.hid hnm
  have HN := Lib.hid hN
  have HI := Lib.hid hI
  have HX := Lib.hid hxs
  have KA := Lib.hid (fun (w' : World) (hb : Below w.heap.size w w') => awake_any w' (hG.below hb))
  clear hR hG hN hI hxs hnn hnm
  have HWF := Lib.hid hwf
  go_enter Tryz.func9, Tryz.ntmps9
  go_upto_region 1 with fail
  generalize w.alloc (.cells #[.int .i64 5, .int .i64 n, .string (ofL t), .slice A1 nn c1, .slice A2 nm c2] 25) = w1 at *
  obtain ⟨d0, d1, d2, d3, d4, hz1⟩ := box5 hk1
  have HB1 := Lib.hid hb1
  have K2 : Hid (Calls Tryz.prog 10 #[.agg #[.int .i64 5, .int .i64 n, .string (ofL t), .slice A1 nn c1, .slice A2 nm c2]] w1 (CanP (.mk 5 n t ns is) w1)) := Lib.hid (can_any (.mk 5 n t ns is) _ _ w1 hlen HR.out)
  clear hb1 hk1
  go_wp2_with fail
  (with_reducible refine K2.out.mono ?_); rintro e w2 ⟨bc, rfl, hbc, hb2⟩
  have HB2 := Lib.hid (HB1.out.next hb2)
  have d0 := Below.keeps hb2 d0
  have d1 := Below.keeps hb2 d1
  have d2 := Below.keeps hb2 d2
  have d3 := Below.keeps hb2 d3
  have d4 := Below.keeps hb2 d4
  have HR2 := Lib.hid (HR.out.grow hb2)
  have K3 := Lib.hid (KA.out _ HB2.out)
  have HC := Lib.hid hbc
  clear hb2 K2 hbc HR
  cases bc
  · go_wp2_with fail
    (with_reducible refine K3.out.mono ?_); rintro e w3 ⟨rfl, hb3⟩
    have HB3 := Lib.hid (HB2.out.next hb3)
    clear hb3
    go_wp2_with fail
    go_ret
    exact ⟨rfl, HB3.out⟩
  · have hwt := HC.out rfl
    have K4 := Lib.hid (own_anyS 5 n t ns is (by omega) (.slice A1 nn c1) (.slice A2 nm c2) w2 HR2.out)
    clear K3 HC
    go_wp2_with fail
    (with_reducible refine K4.out.mono ?_); rintro e w3 ⟨A3, c3, A4, c4, y3, B3, rfl, hO3, hNl3, hBB3, hP3, hJ3, hb3⟩
    have HB3 := Lib.hid (HB2.out.next hb3)
    have d0 := Below.keeps hb3 d0
    have d1 := Below.keeps hb3 d1
    have d2 := Below.keeps hb3 d2
    have d3 := Below.keeps hb3 d3
    have d4 := Below.keeps hb3 d4
    have HR3v := Lib.hid (HR2.out.grow hb3)
    have HR3 : Hid (RJ (fun b => b < w3.heap.size) w3 (.mk 5 n t ns is) [.int .i64 5, .int .i64 n, .string (ofL t), .slice A3 ns.length c3, .slice A4 is.length c4]) := Lib.hid (RJ.mono (Q := fun b => b < w3.heap.size) (fun b _ hb => hb) _ _ (rj_mk (P := fun _ => True) rfl rfl (own_rdp hO3 (fun _ _ => trivial)) (own_rdp hP3 (fun _ _ => trivial)) (RJs.mono (Q := fun _ => True) (fun _ _ _ => trivial) hJ3)))
    clear hO3 hNl3 hBB3 hP3 hJ3 hb3 K4 HR2
    have K5 : Calls Tryz.prog 15 #[.agg #[.int .i64 5, .int .i64 n, .string (ofL t), .slice A3 ns.length c3, .slice A4 is.length c4]] w3 fun e w' => e = .returned (.int .i64 (checkJ 0 (.mk 5 n t ns is) : Nat)) ∧ Below w3.heap.size w3 w' := Check_any (.mk 5 n t ns is) _ _ w3 HR3.out (by omega)
    obtain ⟨cd, hcd⟩ : ∃ cd, cd = checkJ 0 (.mk 5 n t ns is) := ⟨_, rfl⟩
    rw [← hcd] at K5
    have K5 := Lib.hid K5
    have HCD := Lib.hid hcd
    clear hcd
    go_wp2_with fail
    (with_reducible refine K5.out.mono ?_); rintro e w4 ⟨rfl, hb4⟩
    have HB4 := Lib.hid (HB3.out.next hb4)
    have d0 := Below.keeps hb4 d0
    have d1 := Below.keeps hb4 d1
    have d2 := Below.keeps hb4 d2
    have d3 := Below.keeps hb4 d3
    have d4 := Below.keeps hb4 d4
    have HR4 := Lib.hid (HR3v.out.grow hb4)
    have K6 := Lib.hid (KA.out _ HB4.out)
    clear hb4 K5 HR3 HR3v
    by_cases hcz : cd = 0
    · subst hcz
      have e00 : ((0 : Nat) : Int) = 0 := rfl
      clear K6
      obtain ⟨hl, -⟩ := order_law HWF.out HCD.out.symm 0
      have hlaw : ∀ j, wfJ (.mk 5 n t (turnL ns j) (turnL is j)) = true ∧ printJ (.mk 5 n t (turnL ns j) (turnL is j)) = printJ (.mk 5 n t ns is) ∧ sameJ (.mk 5 n t ns is) (.mk 5 n t (turnL ns j) (turnL is j)) = true ∧ wtJ (.mk 5 n t (turnL ns j) (turnL is j)) = wtJ (.mk 5 n t ns is) := fun j => (order_law HWF.out HCD.out.symm j).2
      have hmn : nn = nm := by rw [HNM.out, HNN.out, hl]
      subst hmn
      have hnw : nn ≤ 80000 := by
        have h1 := hwt
        rw [wtJ] at h1
        have := HNN.out
        omega
      have HLAW := Lib.hid hlaw
      have K7 := own_anyS 5 n t ns is (by omega) (.slice A1 nn c1) (.slice A2 nn c2) w4 HR4.out
      have K7 := Lib.hid K7
      have e0 := d0
      clear hl hlaw
      go_wp2_with fail
      (with_reducible refine K7.out.mono ?_); rintro e w5 ⟨A7, c7, A8, c8, ys, BB, rfl, hO5, hNl, hBB, hP5, hJ5, hb5⟩
      rw [← HNN.out] at hO5 hNl ⊢
      rw [← HNM.out] at hP5 hJ5 ⊢
      have HB5 := Lib.hid (HB4.out.next hb5)
      have d0 := Below.keeps hb5 d0
      have d1 := Below.keeps hb5 d1
      have d2 := Below.keeps hb5 d2
      have d3 := Below.keeps hb5 d3
      have d4 := Below.keeps hb5 d4
      have HR5 := Lib.hid (HR4.out.grow hb5)
      have hz45 := hb5.size
      have HB45 := Lib.hid hb5
      clear hb5 K7
      have hb6 := (Below.refl w5.heap.size w5).alloc (Nat.le_refl _) (.cells #[.int .i64 5, .int .i64 n, .string (ofL t), .slice A7 nn c7, .slice A8 nn c8] 25)
      have hk6 : (w5.alloc (.cells #[.int .i64 5, .int .i64 n, .string (ofL t), .slice A7 nn c7, .slice A8 nn c8] 25)).heap[w5.heap.size]? = some (.cells #[.int .i64 5, .int .i64 n, .string (ofL t), .slice A7 nn c7, .slice A8 nn c8] 25 (0, 0)) := heap_alloc_new w5 _
      have hO6 := own_below hO5 hb6
      have hP6 := own_below hP5 hb6
      have hN6 := fun b hb => (hO5.lt b hb).2
      have hM6 := fun b hb => (hP5.lt b hb).2
      have hJ6 := RJs.mono (Q := fun b => w4.heap.size ≤ b ∧ ¬ b = w5.heap.size ∧ ¬ (Value.slice A7 nn c7).ownBlock = some b ∧ ¬ (Value.slice A8 nn c8).ownBlock = some b) (fun b hb hlt => hb) (RJs.below (RJs.mono (Q := fun b => w4.heap.size ≤ b ∧ ¬ b = w5.heap.size ∧ ¬ (Value.slice A7 nn c7).ownBlock = some b ∧ ¬ (Value.slice A8 nn c8).ownBlock = some b) (fun b hb hlt => ⟨by have := hb.1; omega, by omega, fun e => by have := hNl b e; have := hb.1; omega, hb.2⟩) hJ5) hb6)
      go_upto_region 4 with fail
      generalize w5.alloc (.cells #[.int .i64 5, .int .i64 n, .string (ofL t), .slice A7 nn c7, .slice A8 nn c8] 25) = w6 at *
      obtain ⟨g0, g1, g2, g3, g4, hz6⟩ := box5 hk6
      have HB6 := Lib.hid (HB5.out.next hb6)
      have d0 := Below.keeps hb6 d0
      have d1 := Below.keeps hb6 d1
      have d2 := Below.keeps hb6 d2
      have d3 := Below.keeps hb6 d3
      have d4 := Below.keeps hb6 d4
      have HR6 := Lib.hid (HR5.out.grow hb6)
      have HO6 := Lib.hid hO6
      have HP6 := Lib.hid hP6
      have HJ6 := Lib.hid hJ6
      have HN6 := Lib.hid hN6
      have HM6 := Lib.hid hM6
      have HNl := Lib.hid hNl
      obtain ⟨j, hj, hjl⟩ := uMod z (nn + 1) (by omega) (by omega)
      have hj' : wrap64 ((IntKind.u64.wrap z).tmod ((nn : Int) + 1)) = (j : Int) := hj
      have hj9 : j ≤ nn := by omega
      have HB46 := Lib.hid (HB45.out.next hb6)
      have hzw4 := lt_of_cell e0
      clear hj hjl hb6 hk6 hO6 hP6 hN6 hM6 hJ6 hNl hO5 hP5 hJ5 e0
      go_upto_region 6 with fail
      go_loopw [34] (fun i wr => ∃ (m : Nat) (zs : List Value), m ≤ nn ∧ i = .int .i64 m ∧ wr.ownsRow w4.heap.size 9 1 (.slice A7 nn c7) nn (strs ((turnL ns j).take m ++ ns.drop m)) ∧ wr.ownsRow BB 25 5 (.slice A8 nn c8) nn zs ∧
        Hid (RJs (fun b => w4.heap.size ≤ b ∧ ¬ b = w5.heap.size ∧ ¬ (Value.slice A7 nn c7).ownBlock = some b ∧ ¬ (Value.slice A8 nn c8).ownBlock = some b) wr ((turnL is j).take m ++ is.drop m) zs) ∧
        Hid (Touch (fun k => (Value.slice A7 nn c7).ownBlock = some k ∨ (Value.slice A8 nn c8).ownBlock = some k) w6 wr)) (fun i _ => nn - (intOf i).toNat)
      case atStart => exact ⟨0, ys, Nat.zero_le _, rfl, by rw [turn_start]; exact HO6.out, HP6.out, by show RJs _ _ _ _; rw [turn_start]; exact HJ6.out, Touch.refl _ _⟩
      case round =>
        obtain ⟨m, zs, hm, rfl, hO, hP, hJ, hT⟩ := hrel
        have hnb : ∀ k, (k < w4.heap.size ∨ k = w5.heap.size) → ¬ ((Value.slice A7 nn c7).ownBlock = some k ∨ (Value.slice A8 nn c8).ownBlock = some k) := fun k hk e => by
          rcases e with e | e
          · have h1 := (HO6.out.lt k e).1
            have h2 := HN6.out k e
            omega
          · have h1 := (HP6.out.lt k e).1
            have h2 := HM6.out k e
            omega
        have hBr : Below w4.heap.size w4 wr := HB46.out.trans (hT.out.below (fun k hk e => hnb k (.inl hk) e) (by have := HB46.out.size; omega))
        have hBw : Below w.heap.size w wr := HB4.out.next hBr
        have hkp : ∀ b o u, (b < w4.heap.size ∨ b = w5.heap.size) → w6.cell? ⟨b, o, none⟩ = some u → wr.cell? ⟨b, o, none⟩ = some u := touch_keeps hT.out hnb
        have d0 := hkp _ _ _ (.inl hzw4) d0
        have d1 := hkp _ _ _ (.inl hzw4) d1
        have d2 := hkp _ _ _ (.inl hzw4) d2
        have d3 := hkp _ _ _ (.inl hzw4) d3
        have d4 := hkp _ _ _ (.inl hzw4) d4
        have g0 := hkp _ _ _ (.inr rfl) g0
        have g1 := hkp _ _ _ (.inr rfl) g1
        have g2 := hkp _ _ _ (.inr rfl) g2
        have g3 := hkp _ _ _ (.inr rfl) g3
        have g4 := hkp _ _ _ (.inr rfl) g4
        by_cases hlt : m < nn
        · obtain ⟨k, hk⟩ : ∃ k, k = (m + j) % nn := ⟨_, rfl⟩
          obtain ⟨p, hp⟩ : ∃ p, p = nn - 1 - k := ⟨_, rfl⟩
          have hkl : k < nn := by rw [hk]; exact Nat.mod_lt _ (by omega)
          have hmod : ((m : Int) + (j : Int)).tmod (nn : Int) = (k : Int) := by rw [hk]; exact (Int.ofNat_tmod _ _).symm
          have hpn : ns.length - 1 - (m + j) % ns.length = p := by rw [← HNN.out, ← hk, ← hp]
          have hpi : is.length - 1 - (m + j) % is.length = p := by rw [← HNM.out, ← hk, ← hp]
          obtain ⟨s, hs⟩ : ∃ s, ns[p]? = some s := ⟨_, List.getElem?_eq_getElem (by rw [← HNN.out]; omega)⟩
          obtain ⟨x, hx⟩ : ∃ x, is[p]? = some x := ⟨_, List.getElem?_eq_getElem (by rw [← HNM.out]; omega)⟩
          have hT1 := turn_step ns j m s (by rw [← HNN.out]; exact hlt) (by rw [hpn]; exact hs)
          have hT2 := turn_step is j m x (by rw [← HNM.out]; exact hlt) (by rw [hpi]; exact hx)
          have HT1 := Lib.hid hT1
          have HT2 := Lib.hid hT2
          have hxw : wtJ x ≤ 1048576 := by
            have h1 := hwt
            rw [wtJ] at h1
            have := wts_mem (List.mem_of_getElem? hx)
            omega
          obtain ⟨bn, on, eA1, hbn, hcs⟩ := (show RdP (fun b => b < w.heap.size) wr 1 (.slice A1 nn c1) ns.length (strs ns) by have := HN.out.keep (below_keeps hBw); rw [HNN.out] at this ⊢; exact this).strAt hs
          obtain ⟨ba, oa, ca, Nx, Qx, eI, hba, hRx, j0, j1, j2, j3, j4⟩ := (show RdP (fun b => b < w.heap.size) wr 5 (.slice A2 nn c2) is.length xs by have := HI.out.keep (below_keeps hBw); rw [HNM.out] at this ⊢; exact this).jsonAt (RJs.keep (below_keeps hBw) HX.out) hx
          simp only [Value.slice.injEq] at eI
          obtain ⟨rfl, hjunk, rfl⟩ := eI
          subst eA1
          obtain ⟨⟨A5, m5, c5, rfl⟩, A6, m6, c6, rfl⟩ := rj_slices hRx
          obtain ⟨gn, rfl⟩ := own_some hO (by omega)
          obtain ⟨gi, rfl⟩ := own_some hP (by omega)
          have HRx := Lib.hid hRx
          have HO := Lib.hid hO
          have HP := Lib.hid hP
          have HBr := Lib.hid hBr
          have HBw := Lib.hid hBw
          have Hhp := Lib.hid hp
          have hs1 : IntKind.i64.wrap ((nn : Int) - 1) = (nn : Int) - 1 := IntWalk.i64_in _ (by omega)
          have hs2 : IntKind.i64.wrap ((nn : Int) - 1 - (k : Int)) = (p : Int) := by rw [IntWalk.i64_in _ (by omega)]; omega
          have hs4 : IntKind.i64.wrap (p : Int) = (p : Int) := IntWalk.i64_in _ (by omega)
          have hp0 : (0 : Int) ≤ (p : Int) := by omega
          have hp1 : (p : Int) < (nn : Int) := by omega
          have hm0 : (0 : Int) ≤ (m : Int) := by omega
          have hm1 : (m : Int) < (nn : Int) := by omega
          have hpl : p < nn := by omega
          have hnz : ¬ (nn : Int) = 0 := by omega
          clear hjunk hx hs hpn hpi hT1 hT2 hRx hO hP hBr hBw hk hp
          go_upto_region 9 with fail
          have hd := (Below.refl wr.heap.size wr).drew
          have q3 := Below.keeps hd d3
          have q4 := Below.keeps hd d4
          have r3 := Below.keeps hd g3
          have r4 := Below.keeps hd g4
          have qs := Below.keeps hd hcs
          have i0 := Below.keeps hd j0
          have i1 := Below.keeps hd j1
          have i2 := Below.keeps hd j2
          have i3 := Below.keeps hd j3
          have i4 := Below.keeps hd j4
          have HOd := Lib.hid (own_below HO.out hd)
          have HPd := Lib.hid (own_below HP.out hd)
          have hzw6 : w6.heap.size ≤ wr.heap.size := hT.out.size
          have hzd : wr.heap.size ≤ wr.drew.heap.size := hd.size
          have hw4r : w4.heap.size ≤ wr.heap.size := HBr.out.size
          have K := Lib.hid (own_any x hxw _ _ wr.drew (RJ.mono (fun b h _ => by have h' : b < w.heap.size := h; show b < wr.drew.heap.size; omega) _ _ (HRx.out.below hd)))
          have hgn := HO.out.lt gn rfl
          have hgi := HP.out.lt gi rfl
          have hgn5 := HN6.out gn rfl
          have hgi5 := HM6.out gi rfl
          have hgBB := HNl.out gn rfl
          have hgne : ¬ gi = gn := by omega
          have hbn' : bn < w.heap.size := hbn
          have hba' : ba < w.heap.size := hba
          have hzl : zs.length = nn * 5 := HP.out.1
          have hOl : (strs ((turnL ns j).take m ++ ns.drop m)).length = nn * 1 := HO.out.1
          obtain ⟨u0, hu0⟩ : ∃ u, (strs ((turnL ns j).take m ++ ns.drop m))[m]? = some u := ⟨_, List.getElem?_eq_getElem (by omega)⟩
          obtain ⟨y0, hy0⟩ : ∃ u, zs[m * 5]? = some u := ⟨_, List.getElem?_eq_getElem (by omega)⟩
          obtain ⟨y1, hy1⟩ : ∃ u, zs[m * 5 + 1]? = some u := ⟨_, List.getElem?_eq_getElem (by omega)⟩
          obtain ⟨y2, hy2⟩ : ∃ u, zs[m * 5 + 2]? = some u := ⟨_, List.getElem?_eq_getElem (by omega)⟩
          obtain ⟨y3, hy3⟩ : ∃ u, zs[m * 5 + 3]? = some u := ⟨_, List.getElem?_eq_getElem (by omega)⟩
          obtain ⟨y4, hy4⟩ : ∃ u, zs[m * 5 + 4]? = some u := ⟨_, List.getElem?_eq_getElem (by omega)⟩
          have HU0 := Lib.hid hu0
          have HY0 := Lib.hid hy0
          have HY1 := Lib.hid hy1
          have HY2 := Lib.hid hy2
          have HY3 := Lib.hid hy3
          have HY4 := Lib.hid hy4
          have hq : m * 5 + 4 < nn * 5 := by omega
          have hqm : m < nn * 1 := by omega
          clear hu0 hy0 hy1 hy2 hy3 hy4 hbn hba hzl hOl
          clear j0 j1 j2 j3 j4 hcs
          go_region_held3 (fun w' => w'.cell? ⟨w.heap.size, 3, none⟩ = some (.slice (some ⟨bn, on, none⟩) nn c1) ∧ w'.cell? ⟨w.heap.size, 4, none⟩ = some (.slice (some ⟨ba, oa, none⟩) nn c2) ∧ w'.cell? ⟨w5.heap.size, 3, none⟩ = some (.slice (some ⟨gn, 0, none⟩) nn c7) ∧ w'.cell? ⟨w5.heap.size, 4, none⟩ = some (.slice (some ⟨gi, 0, none⟩) nn c8) ∧
            w'.cell? ⟨bn, on + p, none⟩ = some (.string (ofL s)) ∧ w'.cell? ⟨ba, oa + p * 5, none⟩ = some (.int .i64 x.kind) ∧ w'.cell? ⟨ba, oa + p * 5 + 1, none⟩ = some (.int .i64 x.int) ∧ w'.cell? ⟨ba, oa + p * 5 + 2, none⟩ = some (.string (ofL x.text)) ∧ w'.cell? ⟨ba, oa + p * 5 + 3, none⟩ = some (.slice A5 m5 c5) ∧ w'.cell? ⟨ba, oa + p * 5 + 4, none⟩ = some (.slice A6 m6 c6))
            (first | (with_reducible exact ⟨q3, q4, r3, r4, qs, i0, i1, i2, i3, i4⟩) | (with_reducible exact ⟨q3a, q4a, r3a, r4a, qsa, i0a, i1a, i2a, i3a, i4a⟩) | (with_reducible exact ⟨q3b, q4b, r3b, r4b, qsb, i0b, i1b, i2b, i3b, i4b⟩) | (with_reducible exact ⟨q3c, q4c, r3c, r4c, qsc, i0c, i1c, i2c, i3c, i4c⟩))
            (first | (go_at_call 12; (with_reducible refine K.out.mono ?_); rintro e w7 ⟨A9, m9, c9, A0, m0, c0, rfl, hR7, hb7⟩; have q3a := Below.keeps hb7 q3; have q4a := Below.keeps hb7 q4; have r3a := Below.keeps hb7 r3; have r4a := Below.keeps hb7 r4; have qsa := Below.keeps hb7 qs; have i0a := Below.keeps hb7 i0; have i1a := Below.keeps hb7 i1; have i2a := Below.keeps hb7 i2; have i3a := Below.keeps hb7 i3; have i4a := Below.keeps hb7 i4; have hO7 := own_below HOd.out hb7; have hP7 := own_below HPd.out hb7; have f7 := hO7.frozenAt m; have cn7 := (hO7.cellAt m hqm).trans HU0.out; have hT8 := (Touch.refl (fun k => k = gn) w7).setCell (p := ⟨gn, m, none⟩) rfl (.string (ofL s)); have hk8 : ∀ b o u, ¬ b = gn → w7.cell? ⟨b, o, none⟩ = some u → (w7.setCell ⟨gn, m, none⟩ (.string (ofL s))).cell? ⟨b, o, none⟩ = some u := touch_keeps hT8 (fun b hb e => hb e); have q3b := hk8 _ _ _ (by omega) q3a; have q4b := hk8 _ _ _ (by omega) q4a; have r3b := hk8 _ _ _ (by omega) r3a; have r4b := hk8 _ _ _ (by omega) r4a; have qsb := hk8 _ _ _ (by omega) qsa; have i0b := hk8 _ _ _ (by omega) i0a; have i1b := hk8 _ _ _ (by omega) i1a; have i2b := hk8 _ _ _ (by omega) i2a; have i3b := hk8 _ _ _ (by omega) i3a; have i4b := hk8 _ _ _ (by omega) i4a; have hP8 := own_touch hP7 hT8 (fun k hk e => by cases hk; exact hgne e); have f80 := hP8.frozenAt (m * 5); have c80 := (hP8.cellAt (m * 5) (by omega)).trans HY0.out; have f81 := hP8.frozenAt (m * 5 + 1); have c81 := (hP8.cellAt (m * 5 + 1) (by omega)).trans HY1.out; have f82 := hP8.frozenAt (m * 5 + 2); have c82 := (hP8.cellAt (m * 5 + 2) (by omega)).trans HY2.out; have f83 := hP8.frozenAt (m * 5 + 3); have c83 := (hP8.cellAt (m * 5 + 3) (by omega)).trans HY3.out; have f84 := hP8.frozenAt (m * 5 + 4); have c84 := (hP8.cellAt (m * 5 + 4) (by omega)).trans HY4.out; have hT9 := (((((Touch.refl (fun k => k = gi) (w7.setCell ⟨gn, m, none⟩ (.string (ofL s)))).setCell (p := ⟨gi, m * 5, none⟩) rfl (.int .i64 x.kind)).setCell (p := ⟨gi, m * 5 + 1, none⟩) rfl (.int .i64 x.int)).setCell (p := ⟨gi, m * 5 + 2, none⟩) rfl (.string (ofL x.text))).setCell (p := ⟨gi, m * 5 + 3, none⟩) rfl (.slice A9 m9 c9)).setCell (p := ⟨gi, m * 5 + 4, none⟩) rfl (.slice A0 m0 c0); have hk9 : ∀ b o u, ¬ b = gi → (w7.setCell ⟨gn, m, none⟩ (.string (ofL s))).cell? ⟨b, o, none⟩ = some u → ((((((w7.setCell ⟨gn, m, none⟩ (.string (ofL s))).setCell ⟨gi, m * 5, none⟩ (.int .i64 x.kind)).setCell ⟨gi, m * 5 + 1, none⟩ (.int .i64 x.int)).setCell ⟨gi, m * 5 + 2, none⟩ (.string (ofL x.text))).setCell ⟨gi, m * 5 + 3, none⟩ (.slice A9 m9 c9)).setCell ⟨gi, m * 5 + 4, none⟩ (.slice A0 m0 c0)).cell? ⟨b, o, none⟩ = some u := touch_keeps hT9 (fun b hb e => hb e); have q3c := hk9 _ _ _ (by omega) q3b; have q4c := hk9 _ _ _ (by omega) q4b; have r3c := hk9 _ _ _ (by omega) r3b; have r4c := hk9 _ _ _ (by omega) r4b; have qsc := hk9 _ _ _ (by omega) qsb; have i0c := hk9 _ _ _ (by omega) i0b; have i1c := hk9 _ _ _ (by omega) i1b; have i2c := hk9 _ _ _ (by omega) i2b; have i3c := hk9 _ _ _ (by omega) i3b; have i4c := hk9 _ _ _ (by omega) i4b))
          have hOs := (hO7.stored m (.string (ofL s))).1
          rw [strs_set, HT1.out.1] at hOs
          have hOz := own_touch hOs hT9 (fun k hk e => by cases hk; exact hgne e.symm)
          have hPz := own_put5 hP8 (m * 5) (.int .i64 x.kind) (.int .i64 x.int) (.string (ofL x.text)) (.slice A9 m9 c9) (.slice A0 m0 c0)
          have hne1 : ∀ b, (w4.heap.size ≤ b ∧ ¬ b = w5.heap.size ∧ ¬ (Value.slice (some ⟨gn, 0, none⟩) nn c7).ownBlock = some b ∧ ¬ (Value.slice (some ⟨gi, 0, none⟩) nn c8).ownBlock = some b) → ¬ b = gn := fun b hb e => hb.2.2.1 (by rw [e]; rfl)
          have hne2 : ∀ b, (w4.heap.size ≤ b ∧ ¬ b = w5.heap.size ∧ ¬ (Value.slice (some ⟨gn, 0, none⟩) nn c7).ownBlock = some b ∧ ¬ (Value.slice (some ⟨gi, 0, none⟩) nn c8).ownBlock = some b) → ¬ b = gi := fun b hb e => hb.2.2.2 (by rw [e]; rfl)
          have hJ7 := RJs.keep (touch_keeps hT9 hne2) (RJs.keep (touch_keeps hT8 hne1) (RJs.below (RJs.below hJ.out hd) hb7))
          have hX7 := RJ.keep (touch_keeps hT9 hne2) _ _ (RJ.keep (touch_keeps hT8 hne1) _ _ (RJ.mono (Q := fun b => w4.heap.size ≤ b ∧ ¬ b = w5.heap.size ∧ ¬ (Value.slice (some ⟨gn, 0, none⟩) nn c7).ownBlock = some b ∧ ¬ (Value.slice (some ⟨gi, 0, none⟩) nn c8).ownBlock = some b) (fun b hb hlt => by
            have hb' : wr.drew.heap.size ≤ b := hb
            have e1 : ∀ q, (Value.slice (some ⟨q, 0, none⟩) nn c7).ownBlock = some b → q = b := fun q h => Option.some.inj h
            have e2 : ∀ q, (Value.slice (some ⟨q, 0, none⟩) nn c8).ownBlock = some b → q = b := fun q h => Option.some.inj h
            refine ⟨by omega, by omega, fun e => ?_, fun e => ?_⟩
            · have := e1 gn e; omega
            · have := e2 gi e; omega) _ _ hR7))
          have hJz := rjs_set hX7 m _ zs (by rw [HT2.out.2, ← HNM.out]; exact hlt) hJ7
          rw [HT2.out.1] at hJz
          have hTz := hT.out.under ((Touch.of_below (F := fun k => (Value.slice (some ⟨gn, 0, none⟩) nn c7).ownBlock = some k ∨ (Value.slice (some ⟨gi, 0, none⟩) nn c8).ownBlock = some k) (hd.next hb7)).trans ((hT8.mono fun k _ e => .inl (by rw [show k = gn from e]; rfl)).trans (hT9.mono fun k _ e => .inr (by rw [show k = gi from e]; rfl)))) (fun k hk h => h)
          have HOz := Lib.hid hOz
          have HPz := Lib.hid hPz
          have HJz := Lib.hid hJz
          have HTz := Lib.hid hTz
          clear hOs hOz hPz hJ7 hX7 hJz hTz hne1 hne2 hT8 hT9 hk8 hk9 hO7 hP7 hP8 hR7 hb7 f7 cn7 f80 f81 f82 f83 f84 c80 c81 c82 c83 c84
          clear q3 q4 r3 r4 qs i0 i1 i2 i3 i4 q3a q4a r3a r4a qsa i0a i1a i2a i3a i4a q3b q4b r3b r4b qsb i0b i1b i2b i3b i4b q3c q4c r3c r4c qsc i0c i1c i2c i3c i4c
          generalize (((((w7.setCell ⟨gn, m, none⟩ (.string (ofL s))).setCell ⟨gi, m * 5, none⟩ (.int .i64 x.kind)).setCell ⟨gi, m * 5 + 1, none⟩ (.int .i64 x.int)).setCell ⟨gi, m * 5 + 2, none⟩ (.string (ofL x.text))).setCell ⟨gi, m * 5 + 3, none⟩ (.slice A9 m9 c9)).setCell ⟨gi, m * 5 + 4, none⟩ (.slice A0 m0 c0) = wz at *
          go_wp2_with fail
          exact ⟨⟨m + 1, _, by omega, by go_num, HOz.out, HPz.out, HJz.out, HTz.out⟩, by simp [intOf]; omega⟩
        · have hmn : m = nn := by omega
          subst hmn
          have hT1 := turn_end ns j m HNN.out
          have hT2 := turn_end is j m HNM.out
          rw [hT1] at hO
          have hJ9 := hJ.out
          rw [hT2] at hJ9
          obtain ⟨l1, l2, l3, l4⟩ := HLAW.out j
          have hRw : RJ (fun b => b < wr.heap.size) wr (.mk 5 n t (turnL ns j) (turnL is j)) [.int .i64 5, .int .i64 n, .string (ofL t), .slice A7 m c7, .slice A8 m c8] :=
            RJ.mono (Q := fun b => b < wr.heap.size) (fun b _ hb => hb) _ _ (rj_mk (P := fun _ => True) (nn := m) (nm := m) (by rw [turn_len]; exact HNN.out) (by rw [turn_len]; exact HNM.out) (by have := own_rdp (P := fun _ => True) hO (fun _ _ => trivial); exact this) (own_rdp hP (fun _ _ => trivial)) (RJs.mono (Q := fun _ => True) (fun _ _ _ => trivial) hJ9))
          have HRw := Lib.hid hRw
          have HRv := Lib.hid (HR4.out.grow hBr)
          have HBw := Lib.hid hBw
          have HGr := Lib.hid (HG.out.below hBw)
          have K1 : Hid (Calls Tryz.prog 13 #[.agg #[.int .i64 5, .int .i64 n, .string (ofL t), .slice A1 m c1, .slice A2 m c2]] wr fun e w' => e = .returned (.tuple #[.string (ofL (printJ (.mk 5 n t ns is)).1), .int .i64 ((printJ (.mk 5 n t ns is)).2 : Nat)]) ∧ Below wr.heap.size wr w') :=
            Lib.hid (Print_any (.mk 5 n t ns is) _ _ wr HRv.out HWF.out (by omega) HGr.out.2.2 HGr.out.2.1)
          have K2 : Hid (∀ w', Below wr.heap.size wr w' → Calls Tryz.prog 13 #[.agg #[.int .i64 5, .int .i64 n, .string (ofL t), .slice A7 m c7, .slice A8 m c8]] w' fun e w2 => e = .returned (.tuple #[.string (ofL (printJ (.mk 5 n t ns is)).1), .int .i64 ((printJ (.mk 5 n t ns is)).2 : Nat)]) ∧ Below w'.heap.size w' w2) :=
            Lib.hid (fun w' hb => by
              have h := Print_any (.mk 5 n t (turnL ns j) (turnL is j)) _ _ w' (HRw.out.grow hb) l1 (by omega) (HGr.out.below hb).2.2 (HGr.out.below hb).2.1
              rw [l2] at h
              exact h)
          have K3 : Hid (∀ w', Below wr.heap.size wr w' → Calls Tryz.prog 20 #[.agg #[.int .i64 5, .int .i64 n, .string (ofL t), .slice A1 m c1, .slice A2 m c2], .agg #[.int .i64 5, .int .i64 n, .string (ofL t), .slice A7 m c7, .slice A8 m c8]] w' fun e w2 => e = .returned (.bool true) ∧ Below w'.heap.size w' w2) :=
            Lib.hid (fun w' hb => by
              have h := Same_any (.mk 5 n t ns is) (.mk 5 n t (turnL ns j) (turnL is j)) _ _ _ _ w' (HRv.out.grow hb) (HRw.out.grow hb) HWF.out (by omega) l1 (by omega) (HGr.out.below hb).2.2 (HGr.out.below hb).2.1
              rw [l3] at h
              exact h)
          generalize (printJ (.mk 5 n t ns is)).1 = pv at *
          generalize (printJ (.mk 5 n t ns is)).2 = ev at *
          clear hT1 hT2 hO hP hJ hJ9 l1 l2 l3 l4 hRw hBr hBw hkp hnb hlt
          go_wp2_with fail
          (with_reducible refine K1.out.mono ?_); rintro e wa ⟨rfl, hba⟩
          have d0 := Below.keeps hba d0
          have d1 := Below.keeps hba d1
          have d2 := Below.keeps hba d2
          have d3 := Below.keeps hba d3
          have d4 := Below.keeps hba d4
          have g0 := Below.keeps hba g0
          have g1 := Below.keeps hba g1
          have g2 := Below.keeps hba g2
          have g3 := Below.keeps hba g3
          have g4 := Below.keeps hba g4
          have HBa := Lib.hid (HBw.out.next hba)
          have K2 := Lib.hid (K2.out wa hba)
          have Hba := Lib.hid hba
          clear hba K1
          go_wp2_with fail
          (with_reducible refine K2.out.mono ?_); rintro e wb ⟨rfl, hbb⟩
          have d0 := Below.keeps hbb d0
          have d1 := Below.keeps hbb d1
          have d2 := Below.keeps hbb d2
          have d3 := Below.keeps hbb d3
          have d4 := Below.keeps hbb d4
          have g0 := Below.keeps hbb g0
          have g1 := Below.keeps hbb g1
          have g2 := Below.keeps hbb g2
          have g3 := Below.keeps hbb g3
          have g4 := Below.keeps hbb g4
          have HBb := Lib.hid (HBa.out.next hbb)
          have Hbb := Lib.hid (Hba.out.next hbb)
          have K3 := Lib.hid (K3.out wb Hbb.out)
          clear hbb K2
          go_wp2_with fail
          (with_reducible refine K3.out.mono ?_); rintro e wc ⟨rfl, hbc⟩
          have HBc := Lib.hid (HBb.out.next hbc)
          have K4 := Lib.hid (KA.out _ HBc.out)
          clear hbc K3
          go_wp2_with fail
          (with_reducible refine K4.out.mono ?_); rintro e wd ⟨rfl, hbz⟩
          have HBz := Lib.hid (HBc.out.next hbz)
          clear hbz K4
          go_wp2_with fail
          go_ret
          exact ⟨ret_bool (by simp), HBz.out⟩
    · have hni : ¬ (cd : Int) = 0 := by omega
      go_wp2_with fail
      (with_reducible refine K6.out.mono ?_); rintro e w5 ⟨rfl, hbz⟩
      have HBz := Lib.hid (HB4.out.next hbz)
      clear hbz K6
      go_wp2_with fail
      go_ret
      exact ⟨rfl, HBz.out⟩
set_option maxHeartbeats 4000000 in
theorem lawOrder_any (v : J) (N I : Value) (z : Int) (w : World) (hR : RJ (fun b => b < w.heap.size) w v [.int .i64 v.kind, .int .i64 v.int, .string (ofL v.text), N, I]) (hwf : wfJ v = true) (hlen : lenJ v = true) (hG : Good w) :
    Calls Tryz.prog 9 #[.agg #[.int .i64 v.kind, .int .i64 v.int, .string (ofL v.text), N, I], .int .i64 z] w fun e w' => e = .returned (.bool true) ∧ Below w.heap.size w w' := by
  by_cases hk5 : v.kind = 5
  · obtain ⟨k, n, t, ns, is⟩ := v
    have hk : k = 5 := hk5
    subst hk
    exact lawOrder5_any n t ns is N I z w hR hwf hlen hG
  obtain ⟨⟨A1, m1, c1, rfl⟩, A2, m2, c2, rfl⟩ := rj_slices hR
  have hb1 := (Below.refl w.heap.size w).alloc (Nat.le_refl _) (.cells #[.int .i64 v.kind, .int .i64 v.int, .string (ofL v.text), .slice A1 m1 c1, .slice A2 m2 c2] 25)
  have hk1 : (w.alloc (.cells #[.int .i64 v.kind, .int .i64 v.int, .string (ofL v.text), .slice A1 m1 c1, .slice A2 m2 c2] 25)).heap[w.heap.size]? = some (.cells #[.int .i64 v.kind, .int .i64 v.int, .string (ofL v.text), .slice A1 m1 c1, .slice A2 m2 c2] 25 (0, 0)) := heap_alloc_new w _
  have HR := Lib.hid (hR.grow hb1)
  have KA := Lib.hid (fun (w' : World) (hb : Below w.heap.size w w') => awake_any w' (hG.below hb))
  clear hR hG
  go_enter Tryz.func9, Tryz.ntmps9
  go_upto_region 1 with fail
  generalize w.alloc (.cells #[.int .i64 v.kind, .int .i64 v.int, .string (ofL v.text), .slice A1 m1 c1, .slice A2 m2 c2] 25) = w1 at *
  obtain ⟨d0, d1, d2, d3, d4, hz1⟩ := box5 hk1
  have HB1 := Lib.hid hb1
  have K2 := Lib.hid (can_any v _ _ w1 hlen HR.out)
  clear hb1 hk1
  go_wp2_with fail
  (with_reducible refine K2.out.mono ?_); rintro e w2 ⟨bc, rfl, hbc, hb2⟩
  have HB2 := Lib.hid (HB1.out.next hb2)
  have d0 := Below.keeps hb2 d0
  have d1 := Below.keeps hb2 d1
  have d2 := Below.keeps hb2 d2
  have d3 := Below.keeps hb2 d3
  have d4 := Below.keeps hb2 d4
  have K3 := Lib.hid (KA.out _ HB2.out)
  clear hb2 K2 hbc HR
  cases bc
  · go_wp2_with fail
    (with_reducible refine K3.out.mono ?_); rintro e w3 ⟨rfl, hbz⟩
    have HBz := Lib.hid (HB2.out.next hbz)
    clear hbz K3
    go_wp2_with fail
    go_ret
    exact ⟨rfl, HBz.out⟩
  · go_wp2_with fail
    (with_reducible refine K3.out.mono ?_); rintro e w3 ⟨rfl, hbz⟩
    have HBz := Lib.hid (HB2.out.next hbz)
    clear hbz K3
    go_wp2_with fail
    go_ret
    exact ⟨rfl, HBz.out⟩
end Go.Proofs.YthkpbgpgcpkiiaaGreatDoor
