/- A request is printed (httpd.Print). Conditions: the request is small. -/
import Derived.Test.YtmhgnaemafohfaaGreatDoorPrintA
import Derived.Deep.DeepCutAuto
namespace Go.Proofs.YtmhgnaemafohfaaGreatDoor
open Go.RowKit
set_option linter.unusedVariables false
set_option linter.unusedSimpArgs false
set_option maxRecDepth 100000

/-- A request's first line; the whole. -/
def firstR (r : Req) : B := r.m ++ 32 :: (r.p ++ [32, 72, 84, 84, 80, 47, 49, 46, 49, 13, 10])
def printR (r : Req) : B := firstR r ++ linesH r.h ++ [13, 10] ++ r.b
def PrintedIs (base : Nat) (r : Req) (e : Ending) (w : World) : Prop :=
  (∃ v, e = .returned (.tuple #[v, .int .i64 0]) ∧ OwnB w base v (printR r) ∧ progParse (printR r) = (r, (printR r).length, 0)) ∨ e = .returned (.tuple #[.slice none 0 0, .int .i64 1])
/-- What '[]byte(s)' makes, closed to the walk. -/
noncomputable def convG (W : World) : Nat := W.heap.size
noncomputable def convC (W : World) (s : ByteArray) : Nat := grownCap W s.size 0 5
noncomputable def convW (W : World) (s : ByteArray) : World := W.drew.alloc (.cells (bytesRow s (grownCap W s.size 0 5)) 5 ((bytesRow s (grownCap W s.size 0 5)).size, (bytesRow s (grownCap W s.size 0 5)).size + 1))
theorem conv_run (W : World) (s : ByteArray) : (convert 9 22 (.string s)).run Tryz.prog W = .ok (.slice (some ⟨convG W, 0, none⟩) s.size (convC W s)) (convW W s) :=
  run_bytes_of_string (P := Tryz.prog) W 9 22 5 s Tryz.underlying9 Tryz.underlying22 Tryz.underlying5
/-- A request that came in. -/
def ReqP (w : World) (r : Req) (v : Value) : Prop := ∃ Hv Bv, v = .agg #[.string (ofL r.m), .string (ofL r.p), Hv, Bv] ∧ Rd w 2 Hv r.h.length (pairs r.h) ∧ Part w (Bv, r.b)
theorem ReqP.req {w : World} {r : Req} {v : Value} (h : ReqP w r v) : ReqV w r v := by obtain ⟨Hv, Bv, rfl, h1, h2⟩ := h; exact ⟨_, _, rfl, h1, h2.1⟩
def BL (W W' : World) : Prop := Below W.heap.size W W'
theorem bl_refl (W : World) : BL W W := Below.refl _ _
theorem bl_alloc {W W' : World} (h : BL W W') (o : Obj) : BL W (W'.alloc o) := Below.alloc h h.size o
theorem bl_drew {W W' : World} (h : BL W W') : BL W W'.drew := Below.drew h
theorem bl_conv {W W' : World} (h : BL W W') (s : ByteArray) : BL W (convW W' s) := Below.alloc (Below.drew h) h.size _
theorem bl_next {W W' W'' : World} (h : BL W W') (hb : Below W'.heap.size W' W'') : BL W W'' := Below.next h hb
theorem part_conv (W : World) (s : ByteArray) (l : B) (n : Nat) (hl : s.toList = l) (hn : s.size = n) (hm : s.size ≤ 140737488355328) : Part (convW W s) (.slice (some ⟨convG W, 0, none⟩) n (convC W s), l) := by
  subst hl hn
  refine ⟨?_, fun n c h => by cases h⟩
  show Rd _ _ _ s.toList.length _
  rw [len_toL]
  exact rd_bytes (w := W.drew) (grownCap_ge _ _ _ _) (grownCap_le_maxLen _ _ _ _ (by unfold maxLen; omega))
theorem part_two (W : World) : Part (W.alloc (.cells #[.int .u8 13, .int .u8 10] 5)) (.slice (some ⟨W.heap.size, 0, none⟩) 2 2, [13, 10]) := by
  refine ⟨⟨rfl, _, _, rfl, by simp, by unfold maxLen; omega, (fun h => by cases h), fun a ha => ?_⟩, fun n c h => by cases h⟩
  cases ha
  refine ⟨rfl, fun j u hj => ?_⟩
  rw [Nat.zero_add, World.cell?_alloc_mark]
  have e : bytesV [13, 10] = [.int .u8 13, .int .u8 10] := rfl
  rw [e] at hj
  simpa using hj
theorem part_two' (W : World) : Part (W.drew.alloc (.cells #[.int .u8 13, .int .u8 10] 5)) (.slice (some ⟨W.heap.size, 0, none⟩) 2 2, [13, 10]) := part_two W.drew
theorem Part.bl {W W' : World} {p : Value × B} (h : Part W p) (hb : BL W W') : Part W' p := h.below hb
theorem keepS {w W W' : World} {b : Nat} {u0 u1 u2 u3 : Value} (h : W.cell? ⟨b, 0, none⟩ = some u0 ∧ W.cell? ⟨b, 1, none⟩ = some u1 ∧ W.cell? ⟨b, 2, none⟩ = some u2 ∧ W.cell? ⟨b, 3, none⟩ = some u3 ∧ BL w W) (hb : BL W W') :
    W'.cell? ⟨b, 0, none⟩ = some u0 ∧ W'.cell? ⟨b, 1, none⟩ = some u1 ∧ W'.cell? ⟨b, 2, none⟩ = some u2 ∧ W'.cell? ⟨b, 3, none⟩ = some u3 ∧ BL w W' :=
  ⟨Below.keeps hb h.1, Below.keeps hb h.2.1, Below.keeps hb h.2.2.1, Below.keeps hb h.2.2.2.1, bl_next h.2.2.2.2 hb⟩
theorem own_from {w w6 X : World} {v : Value} {l : B} (h : OwnB w6 X.heap.size v l) (hb : BL w X) : OwnB w6 w.heap.size v l :=
  own_rebase h (fun k hk => Nat.le_trans (show Below _ _ _ from hb).size ((show w6.ownsRow _ _ _ _ _ _ from h).lt k hk).1)
theorem concat4 (W : World) (e1 e2 e3 e4 : Value) (l1 l2 l3 l4 : B) (g : Nat) (hg : g = W.heap.size) (h1 : Part (W.alloc (.cells #[e1, e2, e3, e4] 22)) (e1, l1)) (h2 : Part (W.alloc (.cells #[e1, e2, e3, e4] 22)) (e2, l2))
    (h3 : Part (W.alloc (.cells #[e1, e2, e3, e4] 22)) (e3, l3)) (h4 : Part (W.alloc (.cells #[e1, e2, e3, e4] 22)) (e4, l4)) (hl : (l1 ++ l2 ++ l3 ++ l4).length ≤ 140737488355328) :
    Calls Tryz.prog 20 #[.slice (some ⟨g, 0, none⟩) 4 4] (W.alloc (.cells #[e1, e2, e3, e4] 22)) fun e w' => ∃ v, e = .returned v ∧ OwnB w' (W.alloc (.cells #[e1, e2, e3, e4] 22)).heap.size v (l1 ++ l2 ++ l3 ++ l4) ∧ Below (W.alloc (.cells #[e1, e2, e3, e4] 22)).heap.size (W.alloc (.cells #[e1, e2, e3, e4] 22)) w' := by
  subst hg
  have hf : flatP [(e1, l1), (e2, l2), (e3, l3), (e4, l4)] = l1 ++ l2 ++ l3 ++ l4 := by simp [flatP]
  refine (concat_any W.heap.size 4 [(e1, l1), (e2, l2), (e3, l3), (e4, l4)] _ ?_ (by rw [hf]; exact hl) (by simp)).mono ?_
  · intro j p hj
    match j with
    | 0 => simp at hj; subst hj; exact ⟨by simp, h1⟩
    | 1 => simp at hj; subst hj; exact ⟨by simp, h2⟩
    | 2 => simp at hj; subst hj; exact ⟨by simp, h3⟩
    | 3 => simp at hj; subst hj; exact ⟨by simp, h4⟩
    | j + 4 => simp at hj
  · rintro e w' ⟨v, rfl, ho, hb⟩
    rw [hf] at ho
    exact ⟨v, rfl, ho, hb⟩

set_option maxHeartbeats 8000000 in
theorem print_any (r : Req) (v : Value) (w : World) (hq : ReqP w r v) (hlin : (linesH r.h).length ≤ 1048576) (hl : (printR r).length ≤ 140737488355328) (hg : Glob w) :
    Calls Tryz.prog 19 #[v] w fun e w' => PrintedIs w.heap.size r e w' ∧ Below w.heap.size w w' := by
  obtain ⟨A, n, C, d, rfl⟩ := reqV_agg hq.req
  have HQ := Lib.hid hq
  have HG := Lib.hid hg
  clear hq hg
  have hRC : RC (w.alloc (.cells #[.string (ofL r.m), .string (ofL r.p), .slice A r.h.length n, .slice C r.b.length d] 27)) w.heap.size (ofL r.m) (ofL r.p) (.slice A r.h.length n) (.slice C r.b.length d) := heap_alloc_new _ _
  have hk : BL w (w.alloc (.cells #[.string (ofL r.m), .string (ofL r.p), .slice A r.h.length n, .slice C r.b.length d] 27)) := (Below.refl _ w).alloc (Nat.le_refl _) _
  have HR := Lib.hid (show Rd w 2 (.slice A r.h.length n) r.h.length (pairs r.h) by
    obtain ⟨Hv, Bv, he, h1, h2⟩ := HQ.out
    simp only [Value.agg.injEq, Array.mk.injEq, List.cons.injEq, and_true] at he
    obtain ⟨_, _, rfl, rfl⟩ := he
    exact h1)
  have HS := Lib.hid (show Part w (.slice C r.b.length d, r.b) by
    obtain ⟨Hv, Bv, he, h1, h2⟩ := HQ.out
    simp only [Value.agg.injEq, Array.mk.injEq, List.cons.injEq, and_true] at he
    obtain ⟨_, _, rfl, rfl⟩ := he
    exact h2)
  have hml : r.m.length + r.p.length + (linesH r.h).length + r.b.length ≤ 140737488355328 := by
    simp [printR, firstR] at hl; omega
  have hz1 : (ofL r.m).size ≤ 140737488355328 := by rw [size_ofL]; omega
  have hz2 : (ofL r.p).size ≤ 140737488355328 := by rw [size_ofL]; omega
  have hA1 : ¬ 9223372036854775807 < (ofL r.m).size + 1 := by omega
  have hA2 : ¬ 9223372036854775807 < (ofL r.m).size + 1 + (ofL r.p).size := by omega
  have hA3 : ¬ 9223372036854775807 < (ofL r.m).size + 1 + (ofL r.p).size + 11 := by omega
  have hfs : (ofL r.m ++ ⟨#[32]⟩ ++ ofL r.p ++ ⟨#[32, 72, 84, 84, 80, 47, 49, 46, 49, 13, 10]⟩ : ByteArray).toList = firstR r := by
    rw [append_toL, append_toL, append_toL, toL_ofL, toL_ofL, toL_eq, toL_eq]; simp [firstR]
  have hfz : (ofL r.m ++ ⟨#[32]⟩ ++ ofL r.p ++ ⟨#[32, 72, 84, 84, 80, 47, 49, 46, 49, 13, 10]⟩ : ByteArray).size ≤ 140737488355328 := by
    rw [size_eq, hfs]
    have : (printR r).length = (firstR r).length + (linesH r.h).length + 2 + r.b.length := by simp [printR]; omega
    omega
  have hpl : (firstR r ++ linesH r.h ++ [13, 10] ++ r.b).length ≤ 140737488355328 := hl
  have HFS := Lib.hid hfs
  have HFZ := Lib.hid hfz
  have HPL := Lib.hid hpl
  have hll : (linesH r.h).length ≤ 1099511627776 := by omega
  have HLL := Lib.hid hl
  clear hfs hfz hpl hl
  have kb := conv_run
  go_enter Tryz.func19, Tryz.ntmps19
  go_upto_region 1 with fail
  generalize w.alloc (.cells #[.string (ofL r.m), .string (ofL r.p), .slice A r.h.length n, .slice C r.b.length d] 27) = w1 at *
  go_cut [4] (fun s4 wx => OwnB wx w.heap.size s4 (printR r) ∧ wx.cell? ⟨w.heap.size, 0, none⟩ = some (.string (ofL r.m)) ∧ wx.cell? ⟨w.heap.size, 1, none⟩ = some (.string (ofL r.p)) ∧ wx.cell? ⟨w.heap.size, 2, none⟩ = some (.slice A r.h.length n) ∧ wx.cell? ⟨w.heap.size, 3, none⟩ = some (.slice C r.b.length d) ∧ BL w wx)
  case first =>
    have k0 : w1.drew.cell? ⟨w.heap.size, 0, none⟩ = _ := hRC.c0
    have k1 : w1.drew.cell? ⟨w.heap.size, 1, none⟩ = _ := hRC.c1
    have k2 : w1.drew.cell? ⟨w.heap.size, 2, none⟩ = _ := hRC.c2
    have k3 : w1.drew.cell? ⟨w.heap.size, 3, none⟩ = _ := hRC.c3
    have hk1 : BL w w1.drew := Below.drew hk
    refine wp_region_held_drew (S := fun w' => w'.cell? ⟨w.heap.size, 0, none⟩ = some (.string (ofL r.m)) ∧ w'.cell? ⟨w.heap.size, 1, none⟩ = some (.string (ofL r.p)) ∧ w'.cell? ⟨w.heap.size, 2, none⟩ = some (.slice A r.h.length n) ∧ w'.cell? ⟨w.heap.size, 3, none⟩ = some (.slice C r.b.length d) ∧ BL w w') (by kernel_rfl) ⟨k0, k1, k2, k3, hk1⟩ (fun hHeld => ?_)
    ((refine wpAnyH_take (i := 0) (v := ?_) rfl (by kernel_rfl) (by kernel_rfl) (by kernel_rfl) (fun _ _ _ h => h) (Or.inl ⟨by rfl, ?_⟩) hHeld ?_); (rotate_left 1); (next => (intro w hSw; (try dsimp only at hSw); go_simp; with_reducible rfl)); (try simp only [Act.put, List.setIfInBounds_toArray, List.set_cons_zero, List.set_cons_succ]))
    ((refine wpAnyH_take (i := 1) (v := ?_) rfl (by kernel_rfl) (by kernel_rfl) (by kernel_rfl) (fun _ _ _ h => h) (Or.inl ⟨by rfl, ?_⟩) hHeld ?_); (rotate_left 1); (next => (intro w hSw; (try dsimp only at hSw); go_simp; with_reducible rfl)); (try simp only [Act.put, List.setIfInBounds_toArray, List.set_cons_zero, List.set_cons_succ]))
    ((refine wpAnyH_take (i := 2) (v := ?_) rfl (by kernel_rfl) (by kernel_rfl) (by kernel_rfl) (fun _ _ _ h => h) (Or.inl ⟨by rfl, ?_⟩) hHeld ?_); (rotate_left 1); (next => (intro w hSw; (try dsimp only at hSw); go_simp; with_reducible rfl)); (try simp only [Act.put, List.setIfInBounds_toArray, List.set_cons_zero, List.set_cons_succ]))
    ((refine wpAnyH_take (i := 3) (v := ?_) rfl (by kernel_rfl) (by kernel_rfl) (by kernel_rfl) (fun _ _ _ h => h) (Or.inl ⟨by rfl, ?_⟩) hHeld ?_); (rotate_left 1); (next => (intro w hSw; (try dsimp only at hSw); go_simp; with_reducible rfl)); (try simp only [Act.put, List.setIfInBounds_toArray, List.set_cons_zero, List.set_cons_succ]))
    ((refine wpAnyH_take (i := 4) (v := ?_) rfl (by kernel_rfl) (by kernel_rfl) (by kernel_rfl) (fun _ _ _ h => h) (Or.inl ⟨by rfl, ?_⟩) hHeld ?_); (rotate_left 1); (next => (intro w hSw; (try dsimp only at hSw); go_simp; with_reducible rfl)); (try simp only [Act.put, List.setIfInBounds_toArray, List.set_cons_zero, List.set_cons_succ]))
    ((refine wpAnyH_take (i := 5) (v := ?_) rfl (by kernel_rfl) (by kernel_rfl) (by kernel_rfl) (fun _ _ _ h => h) (Or.inl ⟨by rfl, ?_⟩) hHeld ?_); (rotate_left 1); (next => (intro w hSw; (try dsimp only at hSw); go_simp; with_reducible rfl)); (try simp only [Act.put, List.setIfInBounds_toArray, List.set_cons_zero, List.set_cons_succ]))
    ((refine wpAnyH_take (i := 6) (v := ?_) rfl (by kernel_rfl) (by kernel_rfl) (by kernel_rfl) (fun _ _ _ h => h) (Or.inl ⟨by rfl, ?_⟩) hHeld ?_); (rotate_left 1); (next => (intro w hSw; (try dsimp only at hSw); go_simp; with_reducible rfl)); (try simp only [Act.put, List.setIfInBounds_toArray, List.set_cons_zero, List.set_cons_succ]))
    ((refine wpAnyH_take (i := 8) (v := ?_) rfl (by kernel_rfl) (by kernel_rfl) (by kernel_rfl) (fun _ _ _ h => h) (Or.inl ⟨by rfl, ?_⟩) hHeld ?_); (rotate_left 1); (next => (intro w hSw; (try dsimp only at hSw); go_simp; with_reducible rfl)); (try simp only [Act.put, List.setIfInBounds_toArray, List.set_cons_zero, List.set_cons_succ]))
    ((refine wpAnyH_take (i := 9) (v := ?_) rfl (by kernel_rfl) (by kernel_rfl) (by kernel_rfl) (fun _ _ _ h => h) (Or.inl ⟨by rfl, ?_⟩) hHeld ?_); (rotate_left 1); (next => (intro w hSw; (try dsimp only at hSw); go_simp; with_reducible rfl)); (try simp only [Act.put, List.setIfInBounds_toArray, List.set_cons_zero, List.set_cons_succ]))
    ((refine wpAnyH_take (i := 12) (v := ?_) rfl (by kernel_rfl) (by kernel_rfl) (by kernel_rfl) (fun _ _ _ h => h) (Or.inl ⟨by rfl, ?_⟩) hHeld ?_); (rotate_left 1); (next => (intro w hSw; (try dsimp only at hSw); go_simp; with_reducible rfl)); (try simp only [Act.put, List.setIfInBounds_toArray, List.set_cons_zero, List.set_cons_succ]))
    ((refine wpAnyH_take (i := 13) (v := ?_) rfl (by kernel_rfl) (by kernel_rfl) (by kernel_rfl) (fun _ _ _ h => h) (Or.inl ⟨by rfl, ?_⟩) hHeld ?_); (rotate_left 1); (next => (intro w hSw; (try dsimp only at hSw); go_simp; with_reducible rfl)); (try simp only [Act.put, List.setIfInBounds_toArray, List.set_cons_zero, List.set_cons_succ]))
    (refine wpAnyH_ready (rs := [7, 10, 11]) (by kernel_rfl) (by simp) (AllReadyH.cons rfl (fun K hK => ?_) (AllReadyH.cons rfl (fun K hK => ?_) (AllReadyH.cons rfl (fun K hK => ?_) AllReadyH.nil))))
    · (go_simp; (refine hK.out _ _ ?_ (fun hHeld => ?_)); (next => (first | with_reducible exact keepS hHeld (bl_alloc (bl_refl _) _) | with_reducible exact keepS hHeld (bl_conv (bl_refl _) _) | exact keepS hHeld hb6 | exact keepS hHeld hb5)); (clear hK K); (try simp only [Act.put, List.setIfInBounds_toArray, List.set_cons_zero, List.set_cons_succ]))
      (refine wpAnyH_ready (rs := [10, 11]) (by kernel_rfl) (by simp) (AllReadyH.cons rfl (fun K hK => ?_) (AllReadyH.cons rfl (fun K hK => ?_) AllReadyH.nil)))
      · (go_simp; (refine (lines_any r.h _ _ (HR.out.below hHeld.2.2.2.2) hll).mono ?_); (rintro e w5 ⟨v5, rfl, ho5, hb5⟩); (obtain ⟨A5, c5, rfl⟩ := (rd_of_own (show w5.ownsRow _ _ _ _ _ _ from ho5)).shape); (try go_wp2_with fail); (refine hK.out _ _ ?_ (fun hHeld => ?_)); (next => (first | with_reducible exact keepS hHeld (bl_alloc (bl_refl _) _) | with_reducible exact keepS hHeld (bl_conv (bl_refl _) _) | exact keepS hHeld hb6 | exact keepS hHeld hb5)); (clear hK K); (try simp only [Act.put, List.setIfInBounds_toArray, List.set_cons_zero, List.set_cons_succ]))
        (refine wpAnyH_ready (rs := [11]) (by kernel_rfl) (by simp) (AllReadyH.cons rfl (fun K hK => ?_) AllReadyH.nil))
        (go_simp; (refine hK.out _ _ ?_ (fun hHeld => ?_)); (next => (first | with_reducible exact keepS hHeld (bl_alloc (bl_refl _) _) | with_reducible exact keepS hHeld (bl_conv (bl_refl _) _) | exact keepS hHeld hb6 | exact keepS hHeld hb5)); (clear hK K); (try simp only [Act.put, List.setIfInBounds_toArray, List.set_cons_zero, List.set_cons_succ]))
        ((refine wpAnyH_ready (rs := [14]) (by kernel_rfl) (by simp) (AllReadyH.cons rfl (fun K hK => ?_) AllReadyH.nil)); (go_simp; (refine hK.out _ _ ?_ (fun hHeld => ?_)); (next => (first | with_reducible exact keepS hHeld (bl_alloc (bl_refl _) _) | with_reducible exact keepS hHeld (bl_conv (bl_refl _) _) | exact keepS hHeld hb6 | exact keepS hHeld hb5)); (clear hK K); (try simp only [Act.put, List.setIfInBounds_toArray, List.set_cons_zero, List.set_cons_succ])); (refine wpAnyH_ready (rs := [15]) (by kernel_rfl) (by simp) (AllReadyH.cons rfl (fun K hK => ?_) AllReadyH.nil)); (go_simp; (refine (concat4 _ _ _ _ _ (firstR r) (linesH r.h) [13, 10] r.b _ (by simp) ?_ ?_ ?_ (HS.out.bl hHeld.2.2.2.2) HPL.out).mono ?_); (next => ((refine (part_conv _ _ _ _ HFS.out (by simp; rfl) HFZ.out).bl ?_); (repeat (first | with_reducible exact bl_refl _ | with_reducible refine bl_alloc ?_ _ | with_reducible refine bl_drew ?_ | with_reducible refine bl_conv ?_ _ | with_reducible refine bl_next ?_ hb5)))); (next => ((refine (Part.own ho5).bl ?_); (repeat (first | with_reducible exact bl_refl _ | with_reducible refine bl_alloc ?_ _ | with_reducible refine bl_drew ?_ | with_reducible refine bl_conv ?_ _ | with_reducible refine bl_next ?_ hb5)))); (next => (first | ((refine (part_two _).bl ?_); (repeat (first | with_reducible exact bl_refl _ | with_reducible refine bl_alloc ?_ _ | with_reducible refine bl_drew ?_ | with_reducible refine bl_conv ?_ _ | with_reducible refine bl_next ?_ hb5)); done) | ((refine (part_two' _).bl ?_); (repeat (first | with_reducible exact bl_refl _ | with_reducible refine bl_alloc ?_ _ | with_reducible refine bl_drew ?_ | with_reducible refine bl_conv ?_ _ | with_reducible refine bl_next ?_ hb5)); done))); (rintro e w6 ⟨v6, rfl, ho6, hb6⟩); (replace ho6 := own_from ho6 hHeld.2.2.2.2); (try go_wp2_with fail); (refine hK.out _ _ ?_ (fun hHeld => ?_)); (next => (first | with_reducible exact keepS hHeld (bl_alloc (bl_refl _) _) | with_reducible exact keepS hHeld (bl_conv (bl_refl _) _) | exact keepS hHeld hb6 | exact keepS hHeld hb5)); (clear hK K); (try simp only [Act.put, List.setIfInBounds_toArray, List.set_cons_zero, List.set_cons_succ])); ((refine wpAnyH_take (i := 16) (oi := { dst := some 4, op := Op.assign (Operand.tmp 23), type := 22, pos := _, after := _, guard := none }) (v := ?_) rfl (by kernel_rfl) (by kernel_rfl) (by kernel_rfl) (fun _ _ _ h => h) (Or.inl ⟨by rfl, ?_⟩) hHeld ?_); (rotate_left 1); (next => (intro w hSw; (try dsimp only at hSw); go_simp; with_reducible rfl)); (try simp only [Act.put, List.setIfInBounds_toArray, List.set_cons_zero, List.set_cons_succ])); (refine wpAnyH_done (by kernel_rfl) ?_ _))
        ((try go_wp2_with fail); go_meet; exact ⟨ho6, hHeld⟩)
      · (go_simp; (refine hK.out _ _ ?_ (fun hHeld => ?_)); (next => (first | with_reducible exact keepS hHeld (bl_alloc (bl_refl _) _) | with_reducible exact keepS hHeld (bl_conv (bl_refl _) _) | exact keepS hHeld hb6 | exact keepS hHeld hb5)); (clear hK K); (try simp only [Act.put, List.setIfInBounds_toArray, List.set_cons_zero, List.set_cons_succ]))
        (refine wpAnyH_ready (rs := [10]) (by kernel_rfl) (by simp) (AllReadyH.cons rfl (fun K hK => ?_) AllReadyH.nil))
        (go_simp; (refine (lines_any r.h _ _ (HR.out.below hHeld.2.2.2.2) hll).mono ?_); (rintro e w5 ⟨v5, rfl, ho5, hb5⟩); (obtain ⟨A5, c5, rfl⟩ := (rd_of_own (show w5.ownsRow _ _ _ _ _ _ from ho5)).shape); (try go_wp2_with fail); (refine hK.out _ _ ?_ (fun hHeld => ?_)); (next => (first | with_reducible exact keepS hHeld (bl_alloc (bl_refl _) _) | with_reducible exact keepS hHeld (bl_conv (bl_refl _) _) | exact keepS hHeld hb6 | exact keepS hHeld hb5)); (clear hK K); (try simp only [Act.put, List.setIfInBounds_toArray, List.set_cons_zero, List.set_cons_succ]))
        ((refine wpAnyH_ready (rs := [14]) (by kernel_rfl) (by simp) (AllReadyH.cons rfl (fun K hK => ?_) AllReadyH.nil)); (go_simp; (refine hK.out _ _ ?_ (fun hHeld => ?_)); (next => (first | with_reducible exact keepS hHeld (bl_alloc (bl_refl _) _) | with_reducible exact keepS hHeld (bl_conv (bl_refl _) _) | exact keepS hHeld hb6 | exact keepS hHeld hb5)); (clear hK K); (try simp only [Act.put, List.setIfInBounds_toArray, List.set_cons_zero, List.set_cons_succ])); (refine wpAnyH_ready (rs := [15]) (by kernel_rfl) (by simp) (AllReadyH.cons rfl (fun K hK => ?_) AllReadyH.nil)); (go_simp; (refine (concat4 _ _ _ _ _ (firstR r) (linesH r.h) [13, 10] r.b _ (by simp) ?_ ?_ ?_ (HS.out.bl hHeld.2.2.2.2) HPL.out).mono ?_); (next => ((refine (part_conv _ _ _ _ HFS.out (by simp; rfl) HFZ.out).bl ?_); (repeat (first | with_reducible exact bl_refl _ | with_reducible refine bl_alloc ?_ _ | with_reducible refine bl_drew ?_ | with_reducible refine bl_conv ?_ _ | with_reducible refine bl_next ?_ hb5)))); (next => ((refine (Part.own ho5).bl ?_); (repeat (first | with_reducible exact bl_refl _ | with_reducible refine bl_alloc ?_ _ | with_reducible refine bl_drew ?_ | with_reducible refine bl_conv ?_ _ | with_reducible refine bl_next ?_ hb5)))); (next => (first | ((refine (part_two _).bl ?_); (repeat (first | with_reducible exact bl_refl _ | with_reducible refine bl_alloc ?_ _ | with_reducible refine bl_drew ?_ | with_reducible refine bl_conv ?_ _ | with_reducible refine bl_next ?_ hb5)); done) | ((refine (part_two' _).bl ?_); (repeat (first | with_reducible exact bl_refl _ | with_reducible refine bl_alloc ?_ _ | with_reducible refine bl_drew ?_ | with_reducible refine bl_conv ?_ _ | with_reducible refine bl_next ?_ hb5)); done))); (rintro e w6 ⟨v6, rfl, ho6, hb6⟩); (replace ho6 := own_from ho6 hHeld.2.2.2.2); (try go_wp2_with fail); (refine hK.out _ _ ?_ (fun hHeld => ?_)); (next => (first | with_reducible exact keepS hHeld (bl_alloc (bl_refl _) _) | with_reducible exact keepS hHeld (bl_conv (bl_refl _) _) | exact keepS hHeld hb6 | exact keepS hHeld hb5)); (clear hK K); (try simp only [Act.put, List.setIfInBounds_toArray, List.set_cons_zero, List.set_cons_succ])); ((refine wpAnyH_take (i := 16) (oi := { dst := some 4, op := Op.assign (Operand.tmp 23), type := 22, pos := _, after := _, guard := none }) (v := ?_) rfl (by kernel_rfl) (by kernel_rfl) (by kernel_rfl) (fun _ _ _ h => h) (Or.inl ⟨by rfl, ?_⟩) hHeld ?_); (rotate_left 1); (next => (intro w hSw; (try dsimp only at hSw); go_simp; with_reducible rfl)); (try simp only [Act.put, List.setIfInBounds_toArray, List.set_cons_zero, List.set_cons_succ])); (refine wpAnyH_done (by kernel_rfl) ?_ _))
        ((try go_wp2_with fail); go_meet; exact ⟨ho6, hHeld⟩)
    · (go_simp; (refine (lines_any r.h _ _ (HR.out.below hHeld.2.2.2.2) hll).mono ?_); (rintro e w5 ⟨v5, rfl, ho5, hb5⟩); (obtain ⟨A5, c5, rfl⟩ := (rd_of_own (show w5.ownsRow _ _ _ _ _ _ from ho5)).shape); (try go_wp2_with fail); (refine hK.out _ _ ?_ (fun hHeld => ?_)); (next => (first | with_reducible exact keepS hHeld (bl_alloc (bl_refl _) _) | with_reducible exact keepS hHeld (bl_conv (bl_refl _) _) | exact keepS hHeld hb6 | exact keepS hHeld hb5)); (clear hK K); (try simp only [Act.put, List.setIfInBounds_toArray, List.set_cons_zero, List.set_cons_succ]))
      (refine wpAnyH_ready (rs := [7, 11]) (by kernel_rfl) (by simp) (AllReadyH.cons rfl (fun K hK => ?_) (AllReadyH.cons rfl (fun K hK => ?_) AllReadyH.nil)))
      · (go_simp; (refine hK.out _ _ ?_ (fun hHeld => ?_)); (next => (first | with_reducible exact keepS hHeld (bl_alloc (bl_refl _) _) | with_reducible exact keepS hHeld (bl_conv (bl_refl _) _) | exact keepS hHeld hb6 | exact keepS hHeld hb5)); (clear hK K); (try simp only [Act.put, List.setIfInBounds_toArray, List.set_cons_zero, List.set_cons_succ]))
        (refine wpAnyH_ready (rs := [11]) (by kernel_rfl) (by simp) (AllReadyH.cons rfl (fun K hK => ?_) AllReadyH.nil))
        (go_simp; (refine hK.out _ _ ?_ (fun hHeld => ?_)); (next => (first | with_reducible exact keepS hHeld (bl_alloc (bl_refl _) _) | with_reducible exact keepS hHeld (bl_conv (bl_refl _) _) | exact keepS hHeld hb6 | exact keepS hHeld hb5)); (clear hK K); (try simp only [Act.put, List.setIfInBounds_toArray, List.set_cons_zero, List.set_cons_succ]))
        ((refine wpAnyH_ready (rs := [14]) (by kernel_rfl) (by simp) (AllReadyH.cons rfl (fun K hK => ?_) AllReadyH.nil)); (go_simp; (refine hK.out _ _ ?_ (fun hHeld => ?_)); (next => (first | with_reducible exact keepS hHeld (bl_alloc (bl_refl _) _) | with_reducible exact keepS hHeld (bl_conv (bl_refl _) _) | exact keepS hHeld hb6 | exact keepS hHeld hb5)); (clear hK K); (try simp only [Act.put, List.setIfInBounds_toArray, List.set_cons_zero, List.set_cons_succ])); (refine wpAnyH_ready (rs := [15]) (by kernel_rfl) (by simp) (AllReadyH.cons rfl (fun K hK => ?_) AllReadyH.nil)); (go_simp; (refine (concat4 _ _ _ _ _ (firstR r) (linesH r.h) [13, 10] r.b _ (by simp) ?_ ?_ ?_ (HS.out.bl hHeld.2.2.2.2) HPL.out).mono ?_); (next => ((refine (part_conv _ _ _ _ HFS.out (by simp; rfl) HFZ.out).bl ?_); (repeat (first | with_reducible exact bl_refl _ | with_reducible refine bl_alloc ?_ _ | with_reducible refine bl_drew ?_ | with_reducible refine bl_conv ?_ _ | with_reducible refine bl_next ?_ hb5)))); (next => ((refine (Part.own ho5).bl ?_); (repeat (first | with_reducible exact bl_refl _ | with_reducible refine bl_alloc ?_ _ | with_reducible refine bl_drew ?_ | with_reducible refine bl_conv ?_ _ | with_reducible refine bl_next ?_ hb5)))); (next => (first | ((refine (part_two _).bl ?_); (repeat (first | with_reducible exact bl_refl _ | with_reducible refine bl_alloc ?_ _ | with_reducible refine bl_drew ?_ | with_reducible refine bl_conv ?_ _ | with_reducible refine bl_next ?_ hb5)); done) | ((refine (part_two' _).bl ?_); (repeat (first | with_reducible exact bl_refl _ | with_reducible refine bl_alloc ?_ _ | with_reducible refine bl_drew ?_ | with_reducible refine bl_conv ?_ _ | with_reducible refine bl_next ?_ hb5)); done))); (rintro e w6 ⟨v6, rfl, ho6, hb6⟩); (replace ho6 := own_from ho6 hHeld.2.2.2.2); (try go_wp2_with fail); (refine hK.out _ _ ?_ (fun hHeld => ?_)); (next => (first | with_reducible exact keepS hHeld (bl_alloc (bl_refl _) _) | with_reducible exact keepS hHeld (bl_conv (bl_refl _) _) | exact keepS hHeld hb6 | exact keepS hHeld hb5)); (clear hK K); (try simp only [Act.put, List.setIfInBounds_toArray, List.set_cons_zero, List.set_cons_succ])); ((refine wpAnyH_take (i := 16) (oi := { dst := some 4, op := Op.assign (Operand.tmp 23), type := 22, pos := _, after := _, guard := none }) (v := ?_) rfl (by kernel_rfl) (by kernel_rfl) (by kernel_rfl) (fun _ _ _ h => h) (Or.inl ⟨by rfl, ?_⟩) hHeld ?_); (rotate_left 1); (next => (intro w hSw; (try dsimp only at hSw); go_simp; with_reducible rfl)); (try simp only [Act.put, List.setIfInBounds_toArray, List.set_cons_zero, List.set_cons_succ])); (refine wpAnyH_done (by kernel_rfl) ?_ _))
        ((try go_wp2_with fail); go_meet; exact ⟨ho6, hHeld⟩)
      · (go_simp; (refine hK.out _ _ ?_ (fun hHeld => ?_)); (next => (first | with_reducible exact keepS hHeld (bl_alloc (bl_refl _) _) | with_reducible exact keepS hHeld (bl_conv (bl_refl _) _) | exact keepS hHeld hb6 | exact keepS hHeld hb5)); (clear hK K); (try simp only [Act.put, List.setIfInBounds_toArray, List.set_cons_zero, List.set_cons_succ]))
        (refine wpAnyH_ready (rs := [7]) (by kernel_rfl) (by simp) (AllReadyH.cons rfl (fun K hK => ?_) AllReadyH.nil))
        (go_simp; (refine hK.out _ _ ?_ (fun hHeld => ?_)); (next => (first | with_reducible exact keepS hHeld (bl_alloc (bl_refl _) _) | with_reducible exact keepS hHeld (bl_conv (bl_refl _) _) | exact keepS hHeld hb6 | exact keepS hHeld hb5)); (clear hK K); (try simp only [Act.put, List.setIfInBounds_toArray, List.set_cons_zero, List.set_cons_succ]))
        ((refine wpAnyH_ready (rs := [14]) (by kernel_rfl) (by simp) (AllReadyH.cons rfl (fun K hK => ?_) AllReadyH.nil)); (go_simp; (refine hK.out _ _ ?_ (fun hHeld => ?_)); (next => (first | with_reducible exact keepS hHeld (bl_alloc (bl_refl _) _) | with_reducible exact keepS hHeld (bl_conv (bl_refl _) _) | exact keepS hHeld hb6 | exact keepS hHeld hb5)); (clear hK K); (try simp only [Act.put, List.setIfInBounds_toArray, List.set_cons_zero, List.set_cons_succ])); (refine wpAnyH_ready (rs := [15]) (by kernel_rfl) (by simp) (AllReadyH.cons rfl (fun K hK => ?_) AllReadyH.nil)); (go_simp; (refine (concat4 _ _ _ _ _ (firstR r) (linesH r.h) [13, 10] r.b _ (by simp) ?_ ?_ ?_ (HS.out.bl hHeld.2.2.2.2) HPL.out).mono ?_); (next => ((refine (part_conv _ _ _ _ HFS.out (by simp; rfl) HFZ.out).bl ?_); (repeat (first | with_reducible exact bl_refl _ | with_reducible refine bl_alloc ?_ _ | with_reducible refine bl_drew ?_ | with_reducible refine bl_conv ?_ _ | with_reducible refine bl_next ?_ hb5)))); (next => ((refine (Part.own ho5).bl ?_); (repeat (first | with_reducible exact bl_refl _ | with_reducible refine bl_alloc ?_ _ | with_reducible refine bl_drew ?_ | with_reducible refine bl_conv ?_ _ | with_reducible refine bl_next ?_ hb5)))); (next => (first | ((refine (part_two _).bl ?_); (repeat (first | with_reducible exact bl_refl _ | with_reducible refine bl_alloc ?_ _ | with_reducible refine bl_drew ?_ | with_reducible refine bl_conv ?_ _ | with_reducible refine bl_next ?_ hb5)); done) | ((refine (part_two' _).bl ?_); (repeat (first | with_reducible exact bl_refl _ | with_reducible refine bl_alloc ?_ _ | with_reducible refine bl_drew ?_ | with_reducible refine bl_conv ?_ _ | with_reducible refine bl_next ?_ hb5)); done))); (rintro e w6 ⟨v6, rfl, ho6, hb6⟩); (replace ho6 := own_from ho6 hHeld.2.2.2.2); (try go_wp2_with fail); (refine hK.out _ _ ?_ (fun hHeld => ?_)); (next => (first | with_reducible exact keepS hHeld (bl_alloc (bl_refl _) _) | with_reducible exact keepS hHeld (bl_conv (bl_refl _) _) | exact keepS hHeld hb6 | exact keepS hHeld hb5)); (clear hK K); (try simp only [Act.put, List.setIfInBounds_toArray, List.set_cons_zero, List.set_cons_succ])); ((refine wpAnyH_take (i := 16) (oi := { dst := some 4, op := Op.assign (Operand.tmp 23), type := 22, pos := _, after := _, guard := none }) (v := ?_) rfl (by kernel_rfl) (by kernel_rfl) (by kernel_rfl) (fun _ _ _ h => h) (Or.inl ⟨by rfl, ?_⟩) hHeld ?_); (rotate_left 1); (next => (intro w hSw; (try dsimp only at hSw); go_simp; with_reducible rfl)); (try simp only [Act.put, List.setIfInBounds_toArray, List.set_cons_zero, List.set_cons_succ])); (refine wpAnyH_done (by kernel_rfl) ?_ _))
        ((try go_wp2_with fail); go_meet; exact ⟨ho6, hHeld⟩)
    · (go_simp; (refine hK.out _ _ ?_ (fun hHeld => ?_)); (next => (first | with_reducible exact keepS hHeld (bl_alloc (bl_refl _) _) | with_reducible exact keepS hHeld (bl_conv (bl_refl _) _) | exact keepS hHeld hb6 | exact keepS hHeld hb5)); (clear hK K); (try simp only [Act.put, List.setIfInBounds_toArray, List.set_cons_zero, List.set_cons_succ]))
      (refine wpAnyH_ready (rs := [7, 10]) (by kernel_rfl) (by simp) (AllReadyH.cons rfl (fun K hK => ?_) (AllReadyH.cons rfl (fun K hK => ?_) AllReadyH.nil)))
      · (go_simp; (refine hK.out _ _ ?_ (fun hHeld => ?_)); (next => (first | with_reducible exact keepS hHeld (bl_alloc (bl_refl _) _) | with_reducible exact keepS hHeld (bl_conv (bl_refl _) _) | exact keepS hHeld hb6 | exact keepS hHeld hb5)); (clear hK K); (try simp only [Act.put, List.setIfInBounds_toArray, List.set_cons_zero, List.set_cons_succ]))
        (refine wpAnyH_ready (rs := [10]) (by kernel_rfl) (by simp) (AllReadyH.cons rfl (fun K hK => ?_) AllReadyH.nil))
        (go_simp; (refine (lines_any r.h _ _ (HR.out.below hHeld.2.2.2.2) hll).mono ?_); (rintro e w5 ⟨v5, rfl, ho5, hb5⟩); (obtain ⟨A5, c5, rfl⟩ := (rd_of_own (show w5.ownsRow _ _ _ _ _ _ from ho5)).shape); (try go_wp2_with fail); (refine hK.out _ _ ?_ (fun hHeld => ?_)); (next => (first | with_reducible exact keepS hHeld (bl_alloc (bl_refl _) _) | with_reducible exact keepS hHeld (bl_conv (bl_refl _) _) | exact keepS hHeld hb6 | exact keepS hHeld hb5)); (clear hK K); (try simp only [Act.put, List.setIfInBounds_toArray, List.set_cons_zero, List.set_cons_succ]))
        ((refine wpAnyH_ready (rs := [14]) (by kernel_rfl) (by simp) (AllReadyH.cons rfl (fun K hK => ?_) AllReadyH.nil)); (go_simp; (refine hK.out _ _ ?_ (fun hHeld => ?_)); (next => (first | with_reducible exact keepS hHeld (bl_alloc (bl_refl _) _) | with_reducible exact keepS hHeld (bl_conv (bl_refl _) _) | exact keepS hHeld hb6 | exact keepS hHeld hb5)); (clear hK K); (try simp only [Act.put, List.setIfInBounds_toArray, List.set_cons_zero, List.set_cons_succ])); (refine wpAnyH_ready (rs := [15]) (by kernel_rfl) (by simp) (AllReadyH.cons rfl (fun K hK => ?_) AllReadyH.nil)); (go_simp; (refine (concat4 _ _ _ _ _ (firstR r) (linesH r.h) [13, 10] r.b _ (by simp) ?_ ?_ ?_ (HS.out.bl hHeld.2.2.2.2) HPL.out).mono ?_); (next => ((refine (part_conv _ _ _ _ HFS.out (by simp; rfl) HFZ.out).bl ?_); (repeat (first | with_reducible exact bl_refl _ | with_reducible refine bl_alloc ?_ _ | with_reducible refine bl_drew ?_ | with_reducible refine bl_conv ?_ _ | with_reducible refine bl_next ?_ hb5)))); (next => ((refine (Part.own ho5).bl ?_); (repeat (first | with_reducible exact bl_refl _ | with_reducible refine bl_alloc ?_ _ | with_reducible refine bl_drew ?_ | with_reducible refine bl_conv ?_ _ | with_reducible refine bl_next ?_ hb5)))); (next => (first | ((refine (part_two _).bl ?_); (repeat (first | with_reducible exact bl_refl _ | with_reducible refine bl_alloc ?_ _ | with_reducible refine bl_drew ?_ | with_reducible refine bl_conv ?_ _ | with_reducible refine bl_next ?_ hb5)); done) | ((refine (part_two' _).bl ?_); (repeat (first | with_reducible exact bl_refl _ | with_reducible refine bl_alloc ?_ _ | with_reducible refine bl_drew ?_ | with_reducible refine bl_conv ?_ _ | with_reducible refine bl_next ?_ hb5)); done))); (rintro e w6 ⟨v6, rfl, ho6, hb6⟩); (replace ho6 := own_from ho6 hHeld.2.2.2.2); (try go_wp2_with fail); (refine hK.out _ _ ?_ (fun hHeld => ?_)); (next => (first | with_reducible exact keepS hHeld (bl_alloc (bl_refl _) _) | with_reducible exact keepS hHeld (bl_conv (bl_refl _) _) | exact keepS hHeld hb6 | exact keepS hHeld hb5)); (clear hK K); (try simp only [Act.put, List.setIfInBounds_toArray, List.set_cons_zero, List.set_cons_succ])); ((refine wpAnyH_take (i := 16) (oi := { dst := some 4, op := Op.assign (Operand.tmp 23), type := 22, pos := _, after := _, guard := none }) (v := ?_) rfl (by kernel_rfl) (by kernel_rfl) (by kernel_rfl) (fun _ _ _ h => h) (Or.inl ⟨by rfl, ?_⟩) hHeld ?_); (rotate_left 1); (next => (intro w hSw; (try dsimp only at hSw); go_simp; with_reducible rfl)); (try simp only [Act.put, List.setIfInBounds_toArray, List.set_cons_zero, List.set_cons_succ])); (refine wpAnyH_done (by kernel_rfl) ?_ _))
        ((try go_wp2_with fail); go_meet; exact ⟨ho6, hHeld⟩)
      · (go_simp; (refine (lines_any r.h _ _ (HR.out.below hHeld.2.2.2.2) hll).mono ?_); (rintro e w5 ⟨v5, rfl, ho5, hb5⟩); (obtain ⟨A5, c5, rfl⟩ := (rd_of_own (show w5.ownsRow _ _ _ _ _ _ from ho5)).shape); (try go_wp2_with fail); (refine hK.out _ _ ?_ (fun hHeld => ?_)); (next => (first | with_reducible exact keepS hHeld (bl_alloc (bl_refl _) _) | with_reducible exact keepS hHeld (bl_conv (bl_refl _) _) | exact keepS hHeld hb6 | exact keepS hHeld hb5)); (clear hK K); (try simp only [Act.put, List.setIfInBounds_toArray, List.set_cons_zero, List.set_cons_succ]))
        (refine wpAnyH_ready (rs := [7]) (by kernel_rfl) (by simp) (AllReadyH.cons rfl (fun K hK => ?_) AllReadyH.nil))
        (go_simp; (refine hK.out _ _ ?_ (fun hHeld => ?_)); (next => (first | with_reducible exact keepS hHeld (bl_alloc (bl_refl _) _) | with_reducible exact keepS hHeld (bl_conv (bl_refl _) _) | exact keepS hHeld hb6 | exact keepS hHeld hb5)); (clear hK K); (try simp only [Act.put, List.setIfInBounds_toArray, List.set_cons_zero, List.set_cons_succ]))
        ((refine wpAnyH_ready (rs := [14]) (by kernel_rfl) (by simp) (AllReadyH.cons rfl (fun K hK => ?_) AllReadyH.nil)); (go_simp; (refine hK.out _ _ ?_ (fun hHeld => ?_)); (next => (first | with_reducible exact keepS hHeld (bl_alloc (bl_refl _) _) | with_reducible exact keepS hHeld (bl_conv (bl_refl _) _) | exact keepS hHeld hb6 | exact keepS hHeld hb5)); (clear hK K); (try simp only [Act.put, List.setIfInBounds_toArray, List.set_cons_zero, List.set_cons_succ])); (refine wpAnyH_ready (rs := [15]) (by kernel_rfl) (by simp) (AllReadyH.cons rfl (fun K hK => ?_) AllReadyH.nil)); (go_simp; (refine (concat4 _ _ _ _ _ (firstR r) (linesH r.h) [13, 10] r.b _ (by simp) ?_ ?_ ?_ (HS.out.bl hHeld.2.2.2.2) HPL.out).mono ?_); (next => ((refine (part_conv _ _ _ _ HFS.out (by simp; rfl) HFZ.out).bl ?_); (repeat (first | with_reducible exact bl_refl _ | with_reducible refine bl_alloc ?_ _ | with_reducible refine bl_drew ?_ | with_reducible refine bl_conv ?_ _ | with_reducible refine bl_next ?_ hb5)))); (next => ((refine (Part.own ho5).bl ?_); (repeat (first | with_reducible exact bl_refl _ | with_reducible refine bl_alloc ?_ _ | with_reducible refine bl_drew ?_ | with_reducible refine bl_conv ?_ _ | with_reducible refine bl_next ?_ hb5)))); (next => (first | ((refine (part_two _).bl ?_); (repeat (first | with_reducible exact bl_refl _ | with_reducible refine bl_alloc ?_ _ | with_reducible refine bl_drew ?_ | with_reducible refine bl_conv ?_ _ | with_reducible refine bl_next ?_ hb5)); done) | ((refine (part_two' _).bl ?_); (repeat (first | with_reducible exact bl_refl _ | with_reducible refine bl_alloc ?_ _ | with_reducible refine bl_drew ?_ | with_reducible refine bl_conv ?_ _ | with_reducible refine bl_next ?_ hb5)); done))); (rintro e w6 ⟨v6, rfl, ho6, hb6⟩); (replace ho6 := own_from ho6 hHeld.2.2.2.2); (try go_wp2_with fail); (refine hK.out _ _ ?_ (fun hHeld => ?_)); (next => (first | with_reducible exact keepS hHeld (bl_alloc (bl_refl _) _) | with_reducible exact keepS hHeld (bl_conv (bl_refl _) _) | exact keepS hHeld hb6 | exact keepS hHeld hb5)); (clear hK K); (try simp only [Act.put, List.setIfInBounds_toArray, List.set_cons_zero, List.set_cons_succ])); ((refine wpAnyH_take (i := 16) (oi := { dst := some 4, op := Op.assign (Operand.tmp 23), type := 22, pos := _, after := _, guard := none }) (v := ?_) rfl (by kernel_rfl) (by kernel_rfl) (by kernel_rfl) (fun _ _ _ h => h) (Or.inl ⟨by rfl, ?_⟩) hHeld ?_); (rotate_left 1); (next => (intro w hSw; (try dsimp only at hSw); go_simp; with_reducible rfl)); (try simp only [Act.put, List.setIfInBounds_toArray, List.set_cons_zero, List.set_cons_succ])); (refine wpAnyH_done (by kernel_rfl) ?_ _))
        ((try go_wp2_with fail); go_meet; exact ⟨ho6, hHeld⟩)
  case rest =>
    obtain ⟨ho, q0, q1, q2, q3, hbx⟩ := hcut
    have hl := HLL.out
    have hP := Lib.hid (rfl : printR r = printR r)
    have hx := prog_any (printR r) _ wc (rd_of_own (show wc.ownsRow _ _ _ _ _ _ from ho)) hl (HG.out.next hbx)
    have hcl := fun h => (cut_law (printR r) h).1.2
    have hsm := req_small (printR r)
    generalize hPP : printR r = P at *
    generalize hxx : progParse P = x at *
    obtain ⟨x1, nn, st⟩ := x
    simp only at hcl hsm
    obtain ⟨A6, c6, rfl⟩ := (rd_of_own (show wc.ownsRow _ _ _ _ _ _ from ho)).shape
    have HX := Lib.hid hx
    have HPP := Lib.hid hPP
    have HXX := Lib.hid hxx
    have HO := Lib.hid ho
    have HBX := Lib.hid hbx
    clear hx hPP hxx ho hbx
    go_wp2_with fail
    refine HX.out.mono ?_
    rintro e w7 ⟨⟨v7, rfl, hq7⟩, hb7⟩
    obtain ⟨A7, c7, B7, d7, rfl⟩ := req_agg hq7
    dsimp only at hq7
    dsimp only
    have HQ7 := Lib.hid hq7
    have hb8 := (Below.refl w7.heap.size w7).alloc (Nat.le_refl _) (.cells #[.string (ofL x1.m), .string (ofL x1.p), .slice A7 x1.h.length c7, .slice B7 x1.b.length d7] 27)
    have hbw8 : BL w (w7.alloc (.cells #[.string (ofL x1.m), .string (ofL x1.p), .slice A7 x1.h.length c7, .slice B7 x1.b.length d7] 27)) := bl_alloc (bl_next HBX.out hb7) _
    have k0 := Below.keeps (hb7.next hb8) q0
    have k1 := Below.keeps (hb7.next hb8) q1
    have k2 := Below.keeps (hb7.next hb8) q2
    have k3 := Below.keeps (hb7.next hb8) q3
    have HO8 := Lib.hid (HO.out.below (hb7.next hb8))
    have hR1 : Rd w7 2 (.slice A7 x1.h.length c7) x1.h.length (pairs x1.h) ∧ Rd w7 1 (.slice B7 x1.b.length d7) x1.b.length (bytesV x1.b) := by
      obtain ⟨Hv, Bv, he, h1, h2⟩ := HQ7.out
      simp only [Value.agg.injEq, Array.mk.injEq, List.cons.injEq, and_true] at he
      obtain ⟨_, _, rfl, rfl⟩ := he
      exact ⟨rd_of_own h1, rd_of_own h2⟩
    have kc1 := conv_rd (P := Tryz.prog) 22 9 5 Tryz.underlying22 Tryz.underlying5 Tryz.underlying9 (hR1.2.below hb8)
    have kc2 := conv_rd (P := Tryz.prog) 22 9 5 Tryz.underlying22 Tryz.underlying5 Tryz.underlying9 (HS.out.below hbw8).1
    have HEQ := Lib.hid (hdreq_any x1.h r.h _ _ _ (hR1.1.below hb8) (HR.out.below hbw8) (by unfold maxLen; omega) (by have := linesH_many r.h; unfold maxLen; omega))
    have HB8 := Lib.hid hbw8
    clear q0 q1 q2 q3 hb8 hbw8 hR1 hq7 hb7 HX hRC hk kb HO HBX hsm
    by_cases hs : st = 0
    case neg =>
      have e1 : ((st : Int) != 0) = true := by simp; omega
      clear hcl
      (go_wp2_with fail; go_ret2; exact ⟨.inr rfl, HB8.out⟩)
    subst hs
    have hn := hcl rfl
    clear hcl
    by_cases hnP : nn = P.length
    case neg =>
      have hlt : nn < P.length := by omega
      have hlt' : (nn : Int) < P.length := by omega
      clear hnP
      (go_wp2_with fail; go_ret2; exact ⟨.inr rfl, HB8.out⟩)
    subst hnP
    by_cases hm : x1.m = r.m
    case neg =>
      have e3 : ¬ (ofL x1.m).toList = (ofL r.m).toList := by rw [toL_ofL, toL_ofL]; exact hm
      clear hm
      (go_wp2_with fail; go_ret2; exact ⟨.inr rfl, HB8.out⟩)
    have e3 : (ofL x1.m).toList = (ofL r.m).toList := by rw [hm]
    by_cases hp : x1.p = r.p
    case neg =>
      have e4 : ¬ (ofL x1.p).toList = (ofL r.p).toList := by rw [toL_ofL, toL_ofL]; exact hp
      clear hm hp
      (go_wp2_with fail; go_ret2; exact ⟨.inr rfl, HB8.out⟩)
    have e4 : (ofL x1.p).toList = (ofL r.p).toList := by rw [hp]
    by_cases hb : x1.b = r.b
    case neg =>
      have e5 : ¬ (ofL x1.b).toList = (ofL r.b).toList := by rw [toL_ofL, toL_ofL]; exact hb
      clear hm hp hb
      (go_wp2_with fail; go_ret2; exact ⟨.inr rfl, HB8.out⟩)
    have e5 : (ofL x1.b).toList = (ofL r.b).toList := by rw [hb]
    by_cases hh : x1.h = r.h
    case neg =>
      have hd := HEQ.out
      rw [decide_eq_false hh] at hd
      have HD := Lib.hid hd
      clear hm hp hb hh hd
      go_wp2_with fail
      refine HD.out.mono ?_
      rintro e w9 ⟨rfl, hb9⟩
      go_wp2_with fail
      go_ret2
      exact ⟨.inr rfl, (show Below _ _ _ from HB8.out).next hb9⟩
    have hd := HEQ.out
    rw [decide_eq_true hh] at hd
    have HD := Lib.hid hd
    have hxr : x1 = r := by
      cases x1; cases r
      simp only at hm hp hb hh
      subst hm hp hb hh; rfl
    have HXR := Lib.hid hxr
    clear hm hp hb hh hd hxr
    go_wp2_with fail
    refine HD.out.mono ?_
    rintro e w9 ⟨rfl, hb9⟩
    go_wp2_with fail
    go_ret2
    have hpx := HXX.out
    rw [HXR.out] at hpx
    exact ⟨.inl ⟨_, rfl, by rw [HPP.out]; exact HO8.out.below hb9, by rw [HPP.out]; exact hpx⟩, (show Below _ _ _ from HB8.out).next hb9⟩
end Go.Proofs.YtmhgnaemafohfaaGreatDoor
