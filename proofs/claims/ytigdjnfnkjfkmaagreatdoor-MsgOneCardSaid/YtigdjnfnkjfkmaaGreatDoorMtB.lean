/- Mutations as a list (msg.list: with whose they are). Conditions: they lie in memory. -/
import Derived.Test.YtigdjnfnkjfkmaaGreatDoorMsgM
namespace Go.Proofs.YtigdjnfnkjfkmaaGreatDoor
open Go.RowKit
set_option linter.unusedVariables false
set_option linter.unusedSimpArgs false
set_option maxRecDepth 100000

/-- What msg.list answers. -/
def ListP (js : List J) (w : World) (e : Ending) (w' : World) : Prop := ∃ A n c, e = .returned (.agg #[.string ⟨#[108, 105, 115, 116]⟩, .int .i64 4, .int .i64 0, .string ⟨#[]⟩, .slice none 0 0, .slice A n c]) ∧
  RJ (fun b => w.heap.size ≤ b) w' (listJ js) [.int .i64 4, .int .i64 0, .string ⟨#[]⟩, .slice none 0 0, .slice A n c] ∧ Below w.heap.size w w'
set_option maxHeartbeats 16000000 in
theorem mlist_true (l : List Lo) (v : Value) (w : World) (hR : RdP (fun b => b < w.heap.size) w 6 v l.length (logsV l)) (hl : l.length ≤ 1048576) :
    Calls Tryz.prog 26 #[v, .bool true] w (ListP (l.map logJ) w) := by
  obtain ⟨A, c, rfl⟩ := hR.shape
  obtain ⟨n, hn⟩ : ∃ n, n = l.length := ⟨_, rfl⟩
  rw [← hn] at hR hl ⊢
  have HN := Lib.hid hn
  have HR := Lib.hid hR
  have hnl : n ≤ 1048576 := hl
  clear hn hR hl
  have hall : ∃ W, W = (w.alloc (.cells #[.string ⟨#[]⟩, .int .i64 0, .int .i64 0, .string ⟨#[]⟩, .slice none 0 0, .slice none 0 0] 56)).alloc (.cells #[.int .i64 4, .int .i64 0, .string ⟨#[]⟩, .slice none 0 0, .slice none 0 0] 49) ∧ CB W w.heap.size #[.string ⟨#[]⟩, .int .i64 0, .int .i64 0, .string ⟨#[]⟩, .slice none 0 0, .slice none 0 0] 56 ∧ JC W (w.heap.size + 1) 4 0 ⟨#[]⟩ (.slice none 0 0) (.slice none 0 0) ∧ Below w.heap.size w W := by
    have h2 := (Below.refl (w.alloc (.cells #[.string ⟨#[]⟩, .int .i64 0, .int .i64 0, .string ⟨#[]⟩, .slice none 0 0, .slice none 0 0] 56)).heap.size (w.alloc (.cells #[.string ⟨#[]⟩, .int .i64 0, .int .i64 0, .string ⟨#[]⟩, .slice none 0 0, .slice none 0 0] 56))).alloc (Nat.le_refl _) (.cells #[.int .i64 4, .int .i64 0, .string ⟨#[]⟩, .slice none 0 0, .slice none 0 0] 49)
    refine ⟨_, rfl, (CB.new w _ _).below h2, ?_, ((Below.refl w.heap.size w).alloc (Nat.le_refl _) _).next h2⟩
    have := heap_alloc_new (w.alloc (.cells #[.string ⟨#[]⟩, .int .i64 0, .int .i64 0, .string ⟨#[]⟩, .slice none 0 0, .slice none 0 0] 56)) (.cells #[.int .i64 4, .int .i64 0, .string ⟨#[]⟩, .slice none 0 0, .slice none 0 0] 49)
    rw [World.size_alloc] at this; exact this
  obtain ⟨w1, hw1, hA, hj1, hb1⟩ := hall
  go_enter Tryz.func26, Tryz.ntmps26
  go_upto_region 2 with fail
  rw [← hw1]
  clear hw1
  generalize hvb : w.heap.size + 1 = vb at *
  have HA := Lib.hid hA
  have HJ := Lib.hid hj1
  have HB1 := Lib.hid hb1
  have hzv : vb < w1.heap.size := hj1.lt
  clear hA hj1 hb1
  go_upto_region 3 with fail
  go_loopw [11] (fun ii wr => ∃ (m : Nat) (L : Value) (ys : List Value), m ≤ n ∧ ii = .int .i64 m ∧ Hid (JC wr vb 4 0 ⟨#[]⟩ (.slice none 0 0) L) ∧ Hid (wr.ownsRow w1.heap.size 49 5 L m ys) ∧ Hid (RJs (fun b => w1.heap.size ≤ b ∧ ¬ L.ownBlock = some b) wr ((l.take m).map logJ) ys) ∧ Hid (Touch (fun k => k = vb) w1 wr)) (fun ii _ => n - (intOf ii).toNat)
  case atStart => exact ⟨0, .slice none 0 0, [], Nat.zero_le _, rfl, HJ, Lib.hid (World.ownsRow_nil _ _ _ _), Lib.hid (by show RJs _ _ _ _; rw [List.take_zero, List.map_nil, RJs]), Lib.hid (Touch.refl _ _)⟩
  case round =>
    obtain ⟨m, L, ys, hm, rfl, HJr, HO, HRJ, HT⟩ := hrel
    obtain ⟨AL, cL, rfl⟩ := (rd_of_own HO.out).shape
    have hzr : w1.heap.size ≤ wr.heap.size := HT.out.size
    by_cases hlt : m < n
    · have hbr : Below w.heap.size w wr := HB1.out.trans (HT.out.below (fun k hk e => by have e' : k = vb := e; omega) HB1.out.size)
      obtain ⟨x, hx⟩ : ∃ x, l[m]? = some x := ⟨_, List.getElem?_eq_getElem (by rw [← HN.out]; exact hlt)⟩
      obtain ⟨ba, oa, ca, eA, hba, j0, j1, j2, j3, j4, j5⟩ := (show RdP (fun b => b < w.heap.size) wr 6 (.slice A n c) l.length (logsV l) by have := HR.out.keep (below_keeps hbr); rw [HN.out] at this ⊢; exact this).logAt hx
      simp only [Value.slice.injEq] at eA
      obtain ⟨rfl, hjunk, rfl⟩ := eA
      have htk : (l.take (m + 1)).map logJ = (l.take m).map logJ ++ [logJ x] := by rw [List.take_add_one, hx]; simp
      have Htk := Lib.hid htk
      clear hjunk hx hbr htk
      have hall6 : ∃ W, W = wr.alloc (.cells #[.string (ofL x.client), .int .i64 x.id, .int .i64 x.m.kind, .string (ofL x.m.issue), .string (ofL x.m.name), .string (ofL x.m.text)] 31) ∧ W.heap[wr.heap.size]? = some (.cells #[.string (ofL x.client), .int .i64 x.id, .int .i64 x.m.kind, .string (ofL x.m.issue), .string (ofL x.m.name), .string (ofL x.m.text)] 31 (0, 0)) ∧ Below wr.heap.size wr W := ⟨_, rfl, heap_alloc_new wr _, (Below.refl _ _).alloc (Nat.le_refl _) _⟩
      obtain ⟨w6, hw6, hk6, hb6⟩ := hall6
      go_upto_region 6 with fail
      rw [← hw6]
      clear hw6
      obtain ⟨f0, f1, f2, f3, f4, f5, hz6⟩ := box6 hk6
      have hd := (Below.refl w6.heap.size w6).drew
      have HBC := Lib.hid (hb6.next hd)
      have hj6 := HJr.out.below HBC.out
      have q0 := Below.keeps hd f0
      have q1 := Below.keeps hd f1
      have q2 := Below.keeps hd f2
      have q3 := Below.keeps hd f3
      have q4 := Below.keeps hd f4
      have q5 := Below.keeps hd f5
      have y4c : w6.drew.cell? ⟨vb, 4, none⟩ = some (.slice AL m cL) := hj6.c4
      have hlr : ∀ k, (Value.slice AL m cL).ownBlock = some k → w1.heap.size ≤ k ∧ k < wr.heap.size := fun k hk => HO.out.lt k hk
      have Hlr := Lib.hid hlr
      have hmx : m ≤ 1048576 := by omega
      clear f0 f1 f2 f3 f4 f5 hb6 hk6 hj6 hd hlr j0 j1 j2 j3 j4 j5
      refine wp_region_noPanic ?_
      refine wp_region_held_drew (S := fun w' => w'.cell? ⟨wr.heap.size, 0, none⟩ = some (.string (ofL x.client)) ∧ w'.cell? ⟨wr.heap.size, 1, none⟩ = some (.int .i64 x.id) ∧ w'.cell? ⟨wr.heap.size, 2, none⟩ = some (.int .i64 x.m.kind) ∧ w'.cell? ⟨wr.heap.size, 3, none⟩ = some (.string (ofL x.m.issue)) ∧ w'.cell? ⟨wr.heap.size, 4, none⟩ = some (.string (ofL x.m.name)) ∧ w'.cell? ⟨wr.heap.size, 5, none⟩ = some (.string (ofL x.m.text))) (by kernel_rfl) (by (try dsimp only); (first | (with_reducible exact ⟨z0, z1, z2, z3, z4, z5⟩) | (with_reducible exact ⟨b0, b1, b2, b3, b4, b5⟩) | (with_reducible exact ⟨a0, a1, a2, a3, a4, a5⟩) | (with_reducible exact ⟨q0, q1, q2, q3, q4, q5⟩))) (fun hHeld => ?_)
      ((refine wpAnyH_take (i := 0) (oi := { dst := some 16, op := Op.fieldAddr _ (Operand.tmp 5) 4, type := _, pos := _, after := _, guard := none }) (v := ?_) rfl (by kernel_rfl) (by kernel_rfl) (by kernel_rfl) (fun _ _ _ h => h) (Or.inl ⟨by kernel_rfl, ?_⟩) hHeld ?_); (rotate_left 1); (next => (intro w hSw; (try dsimp only at hSw); go_simp; try with_reducible rfl)); (try simp only [Act.put, List.setIfInBounds_toArray, List.set_cons_zero, List.set_cons_succ]))
      ((refine wpAnyH_take (i := 2) (oi := { dst := some 18, op := Op.load _ (Operand.tmp 7), type := _, pos := _, after := _, guard := none }) (v := ?_) rfl (by kernel_rfl) (by kernel_rfl) (by kernel_rfl) (fun _ _ _ h => h) (Or.inl ⟨by kernel_rfl, ?_⟩) hHeld ?_); (rotate_left 1); (next => (intro w hSw; (try dsimp only at hSw); go_simp; try with_reducible rfl)); (try simp only [Act.put, List.setIfInBounds_toArray, List.set_cons_zero, List.set_cons_succ]))
      refine wpAnyH_ready (rs := [1, 3]) (by kernel_rfl) (by simp) (AllReadyH.cons (o := { dst := some 17, op := Op.load _ (Operand.tmp 16), type := _, pos := _, after := _, guard := none }) rfl (fun K hK => ?_) (AllReadyH.cons (o := { dst := some 19, op := Op.call { callee := Callee.value (Operand.func 51), args := #[Operand.tmp 18], argTypes := _ }, type := _, pos := _, after := _, guard := none }) rfl (fun K hK => ?_) AllReadyH.nil))
      · go_simp
        clear hHeld
        refine hK.out _ _ ?_ (fun hHeld => ?_)
        (next => ((try dsimp only); (first | (with_reducible exact ⟨z0, z1, z2, z3, z4, z5⟩) | (with_reducible exact ⟨b0, b1, b2, b3, b4, b5⟩) | (with_reducible exact ⟨a0, a1, a2, a3, a4, a5⟩) | (with_reducible exact ⟨q0, q1, q2, q3, q4, q5⟩))))
        clear hK K
        (try simp only [Act.put, List.setIfInBounds_toArray, List.set_cons_zero, List.set_cons_succ])
        refine wpAnyH_ready (rs := [3]) (by kernel_rfl) (by simp) (AllReadyH.cons (o := { dst := some 19, op := Op.call { callee := Callee.value (Operand.func 51), args := #[Operand.tmp 18], argTypes := _ }, type := _, pos := _, after := _, guard := none }) rfl (fun K hK => ?_) AllReadyH.nil)
        go_simp
        (with_reducible refine (mlogged_any x _).mono ?_); rintro e w9 ⟨A7, n7, c7, A8, n8, c8, rfl, hR9', hb9⟩; have hR9 := RJ.mono (Q := fun b => wr.heap.size ≤ b) (fun b hb _ => Nat.le_trans HBC.out.size hb) _ _ hR9'; have q0 := Below.keeps hb9 q0; have q1 := Below.keeps hb9 q1; have q2 := Below.keeps hb9 q2; have q3 := Below.keeps hb9 q3; have q4 := Below.keeps hb9 q4; have q5 := Below.keeps hb9 q5; have y4c := Below.keeps hb9 y4c; have HBC := Lib.hid (HBC.out.next hb9); have y4a := keeps_alloc y4c (.cells ([Value.int .i64 5, .int .i64 0, .string ⟨#[]⟩, .slice A7 n7 c7, .slice A8 n8 c8]).toArray 49); have a0 := keeps_alloc q0 (.cells ([Value.int .i64 5, .int .i64 0, .string ⟨#[]⟩, .slice A7 n7 c7, .slice A8 n8 c8]).toArray 49); have a1 := keeps_alloc q1 (.cells ([Value.int .i64 5, .int .i64 0, .string ⟨#[]⟩, .slice A7 n7 c7, .slice A8 n8 c8]).toArray 49); have a2 := keeps_alloc q2 (.cells ([Value.int .i64 5, .int .i64 0, .string ⟨#[]⟩, .slice A7 n7 c7, .slice A8 n8 c8]).toArray 49); have a3 := keeps_alloc q3 (.cells ([Value.int .i64 5, .int .i64 0, .string ⟨#[]⟩, .slice A7 n7 c7, .slice A8 n8 c8]).toArray 49); have a4 := keeps_alloc q4 (.cells ([Value.int .i64 5, .int .i64 0, .string ⟨#[]⟩, .slice A7 n7 c7, .slice A8 n8 c8]).toArray 49); have a5 := keeps_alloc q5 (.cells ([Value.int .i64 5, .int .i64 0, .string ⟨#[]⟩, .slice A7 n7 c7, .slice A8 n8 c8]).toArray 49); have hO9 := own_below HO.out HBC.out; have hz9 := HBC.out.size; have hj9 := HJr.out.below HBC.out
        (try go_wp2_with fail)
        clear hHeld
        refine hK.out _ _ ?_ (fun hHeld => ?_)
        (next => ((try dsimp only); (first | (with_reducible exact ⟨z0, z1, z2, z3, z4, z5⟩) | (with_reducible exact ⟨b0, b1, b2, b3, b4, b5⟩) | (with_reducible exact ⟨a0, a1, a2, a3, a4, a5⟩) | (with_reducible exact ⟨q0, q1, q2, q3, q4, q5⟩))))
        clear hK K
        (try simp only [Act.put, List.setIfInBounds_toArray, List.set_cons_zero, List.set_cons_succ])
        refine wpAnyH_ready (rs := [4]) (by kernel_rfl) (by simp) (AllReadyH.cons (o := { dst := some 20, op := Op.buildSlice _ 1 #[(0, Operand.tmp 19)], type := _, pos := _, after := _, guard := none }) rfl (fun K hK => ?_) AllReadyH.nil)
        go_simp
        clear hHeld
        refine hK.out _ _ ?_ (fun hHeld => ?_)
        (next => ((try dsimp only); (first | (with_reducible exact ⟨z0, z1, z2, z3, z4, z5⟩) | (with_reducible exact ⟨b0, b1, b2, b3, b4, b5⟩) | (with_reducible exact ⟨a0, a1, a2, a3, a4, a5⟩) | (with_reducible exact ⟨q0, q1, q2, q3, q4, q5⟩))))
        clear hK K
        (try simp only [Act.put, List.setIfInBounds_toArray, List.set_cons_zero, List.set_cons_succ])
        refine wpAnyH_ready (rs := [5]) (by kernel_rfl) (by simp) (AllReadyH.cons (o := { dst := some 21, op := Op.call { callee := Callee.builtin Builtin.append, args := #[Operand.tmp 17, Operand.tmp 20], argTypes := _ }, type := _, pos := _, after := _, guard := none }) rfl (fun K hK => ?_) AllReadyH.nil)
        (refine step_pushAt (by rfl) _ _ _ (by rfl) w1.heap.size rowJ (.slice AL m cL) m _ (by rfl) hO9 [Value.int .i64 5, .int .i64 0, .string ⟨#[]⟩, .slice A7 n7 c7, .slice A8 n8 c8] _ (by rfl) rfl rfl (one_json hR9) (by omega) (by omega) ?_; intro v10 w10 hO10 hT10 hL10; obtain ⟨A10, c10, rfl⟩ := (rd_of_own hO10).shape; have htk := touch_keeps (P := fun k => ¬ (Value.slice AL m cL).ownBlock = some k) hT10 (fun k hk e => hk e); have hgl : ¬ (Value.slice AL m cL).ownBlock = some wr.heap.size := fun e => (by have := (Hlr.out _ e).2; omega); have b0 := htk _ _ _ hgl q0; have b1 := htk _ _ _ hgl q1; have b2 := htk _ _ _ hgl q2; have b3 := htk _ _ _ hgl q3; have b4 := htk _ _ _ hgl q4; have b5 := htk _ _ _ hgl q5; have hj10 := hj9.touch hT10 (fun e => by have := (Hlr.out _ e).1; omega); have k4 := hj10.c4; have v4 := hj10.fz 4; have hts := (Touch.refl (fun k => k = vb) w10).setCell (p := ⟨vb, 4, none⟩) rfl (.slice A10 (m + 1) c10); have hjs := hj10.set4 (.slice A10 (m + 1) c10); have htk := touch_keeps (P := fun k => ¬ k = vb) hts (fun k hk e => hk e); have z0 := htk _ _ _ (by omega) b0; have z1 := htk _ _ _ (by omega) b1; have z2 := htk _ _ _ (by omega) b2; have z3 := htk _ _ _ (by omega) b3; have z4 := htk _ _ _ (by omega) b4; have z5 := htk _ _ _ (by omega) b5)
        clear hHeld
        refine hK.out _ _ ?_ (fun hHeld => ?_)
        (next => ((try dsimp only); (first | (with_reducible exact ⟨z0, z1, z2, z3, z4, z5⟩) | (with_reducible exact ⟨b0, b1, b2, b3, b4, b5⟩) | (with_reducible exact ⟨a0, a1, a2, a3, a4, a5⟩) | (with_reducible exact ⟨q0, q1, q2, q3, q4, q5⟩))))
        clear hK K
        (try simp only [Act.put, List.setIfInBounds_toArray, List.set_cons_zero, List.set_cons_succ])
        ((refine wpAnyH_take (i := 6) (oi := { dst := some 22, op := Op.fieldAddr _ (Operand.tmp 5) 4, type := _, pos := _, after := _, guard := none }) (v := ?_) rfl (by kernel_rfl) (by kernel_rfl) (by kernel_rfl) (fun _ _ _ h => h) (Or.inl ⟨by kernel_rfl, ?_⟩) hHeld ?_); (rotate_left 1); (next => (intro w hSw; (try dsimp only at hSw); go_simp; try with_reducible rfl)); (try simp only [Act.put, List.setIfInBounds_toArray, List.set_cons_zero, List.set_cons_succ]))
        refine wpAnyH_ready (rs := [7]) (by kernel_rfl) (by simp) (AllReadyH.cons (o := { dst := none, op := Op.store _ (Operand.tmp 22) (Operand.tmp 21), type := _, pos := _, after := _, guard := none }) rfl (fun K hK => ?_) AllReadyH.nil)
        go_simp
        clear hHeld
        refine hK.out _ _ ?_ (fun hHeld => ?_)
        (next => ((try dsimp only); (first | (with_reducible exact ⟨z0, z1, z2, z3, z4, z5⟩) | (with_reducible exact ⟨b0, b1, b2, b3, b4, b5⟩) | (with_reducible exact ⟨a0, a1, a2, a3, a4, a5⟩) | (with_reducible exact ⟨q0, q1, q2, q3, q4, q5⟩))))
        clear hK K
        (try simp only [Act.put, List.setIfInBounds_toArray, List.set_cons_zero, List.set_cons_succ])
        refine wpAnyH_done (by kernel_rfl) ?_ _
        refine NoPanic.normal ?_
        have hTs : Touch (fun k => (Value.slice AL m cL).ownBlock = some k ∨ k = vb) w9 (w10.setCell ⟨vb, 4, none⟩ (.slice A10 (m + 1) c10)) := (hT10.mono fun k _ e => .inl e).trans (hts.mono fun k _ e => .inr e)
        have hIb := fun k hk => (Hlr.out k hk).2
        have hIa := fun k hk => (Hlr.out k hk).1
        have HJz := Lib.hid hjs
        have HOz := Lib.hid (own_touch hO10 hts (row_ne hO10 (by omega)))
        have hOld := RJs.keep (touch_keeps hTs (fun b hb e => by
          rcases e with e | e
          · exact hb.2.1 e
          · have := hb.1; omega)) (RJs.mono (Q := fun b => w1.heap.size ≤ b ∧ ¬ (Value.slice AL m cL).ownBlock = some b ∧ ¬ (Value.slice A10 (m + 1) c10).ownBlock = some b) (fun b hb _ => hb) (RJs.below (RJs.mono (Q := fun b => w1.heap.size ≤ b ∧ ¬ (Value.slice AL m cL).ownBlock = some b ∧ ¬ (Value.slice A10 (m + 1) c10).ownBlock = some b) (fun b hb hlt => ⟨hb.1, hb.2, fun e => by
            rcases hL10 b e with h | h
            · exact hb.2 h
            · omega⟩) HRJ.out) HBC.out))
        have hNew := RJ.keep (touch_keeps hTs (fun b hb e => by
          rcases e with e | e
          · exact hb.2.2 e
          · have := hb.1; omega)) _ _ (RJ.mono (Q := fun b => w1.heap.size ≤ b ∧ ¬ (Value.slice A10 (m + 1) c10).ownBlock = some b ∧ ¬ (Value.slice AL m cL).ownBlock = some b) (fun b hb hlt => by
            have h1 : wr.heap.size ≤ b := hb
            refine ⟨by omega, fun e => ?_, fun e => by have := hIb b e; omega⟩
            rcases hL10 b e with h | h
            · have := hIb b h; omega
            · omega) _ _ hR9)
        have HRz := Lib.hid (RJs.snoc (RJ.mono (Q := fun b => w1.heap.size ≤ b ∧ ¬ (Value.slice A10 (m + 1) c10).ownBlock = some b) (fun b hb _ => ⟨hb.1, hb.2.1⟩) _ _ hNew) (RJs.mono (Q := fun b => w1.heap.size ≤ b ∧ ¬ (Value.slice A10 (m + 1) c10).ownBlock = some b) (fun b hb _ => ⟨hb.1, hb.2.2⟩) hOld))
        have HTz := Lib.hid (HT.out.under ((Touch.of_below (F := fun k => (Value.slice AL m cL).ownBlock = some k ∨ k = vb) HBC.out).trans hTs) (fun k hk e => by
          rcases e with e | e
          · have := hIa k e; omega
          · exact e))
        clear hTs hIb hIa hjs hts htk hOld hNew hj10 k4 v4 hT10 hL10 hO10 hgl hO9 hj9 hR9
        generalize w10.setCell ⟨vb, 4, none⟩ (.slice A10 (m + 1) c10) = wz at *
        go_wp2_with fail
        exact ⟨⟨m + 1, .slice A10 (m + 1) c10, _, by omega, by go_num, HJz, HOz, Lib.hid (by rw [Htk.out]; exact HRz.out), HTz⟩, by simp [intOf]; omega⟩
      · go_simp
        (with_reducible refine (mlogged_any x _).mono ?_); rintro e w9 ⟨A7, n7, c7, A8, n8, c8, rfl, hR9', hb9⟩; have hR9 := RJ.mono (Q := fun b => wr.heap.size ≤ b) (fun b hb _ => Nat.le_trans HBC.out.size hb) _ _ hR9'; have q0 := Below.keeps hb9 q0; have q1 := Below.keeps hb9 q1; have q2 := Below.keeps hb9 q2; have q3 := Below.keeps hb9 q3; have q4 := Below.keeps hb9 q4; have q5 := Below.keeps hb9 q5; have y4c := Below.keeps hb9 y4c; have HBC := Lib.hid (HBC.out.next hb9); have y4a := keeps_alloc y4c (.cells ([Value.int .i64 5, .int .i64 0, .string ⟨#[]⟩, .slice A7 n7 c7, .slice A8 n8 c8]).toArray 49); have a0 := keeps_alloc q0 (.cells ([Value.int .i64 5, .int .i64 0, .string ⟨#[]⟩, .slice A7 n7 c7, .slice A8 n8 c8]).toArray 49); have a1 := keeps_alloc q1 (.cells ([Value.int .i64 5, .int .i64 0, .string ⟨#[]⟩, .slice A7 n7 c7, .slice A8 n8 c8]).toArray 49); have a2 := keeps_alloc q2 (.cells ([Value.int .i64 5, .int .i64 0, .string ⟨#[]⟩, .slice A7 n7 c7, .slice A8 n8 c8]).toArray 49); have a3 := keeps_alloc q3 (.cells ([Value.int .i64 5, .int .i64 0, .string ⟨#[]⟩, .slice A7 n7 c7, .slice A8 n8 c8]).toArray 49); have a4 := keeps_alloc q4 (.cells ([Value.int .i64 5, .int .i64 0, .string ⟨#[]⟩, .slice A7 n7 c7, .slice A8 n8 c8]).toArray 49); have a5 := keeps_alloc q5 (.cells ([Value.int .i64 5, .int .i64 0, .string ⟨#[]⟩, .slice A7 n7 c7, .slice A8 n8 c8]).toArray 49); have hO9 := own_below HO.out HBC.out; have hz9 := HBC.out.size; have hj9 := HJr.out.below HBC.out
        (try go_wp2_with fail)
        clear hHeld
        refine hK.out _ _ ?_ (fun hHeld => ?_)
        (next => ((try dsimp only); (first | (with_reducible exact ⟨z0, z1, z2, z3, z4, z5⟩) | (with_reducible exact ⟨b0, b1, b2, b3, b4, b5⟩) | (with_reducible exact ⟨a0, a1, a2, a3, a4, a5⟩) | (with_reducible exact ⟨q0, q1, q2, q3, q4, q5⟩))))
        clear hK K
        (try simp only [Act.put, List.setIfInBounds_toArray, List.set_cons_zero, List.set_cons_succ])
        refine wpAnyH_ready (rs := [1, 4]) (by kernel_rfl) (by simp) (AllReadyH.cons (o := { dst := some 17, op := Op.load _ (Operand.tmp 16), type := _, pos := _, after := _, guard := none }) rfl (fun K hK => ?_) (AllReadyH.cons (o := { dst := some 20, op := Op.buildSlice _ 1 #[(0, Operand.tmp 19)], type := _, pos := _, after := _, guard := none }) rfl (fun K hK => ?_) AllReadyH.nil))
        · go_simp
          clear hHeld
          refine hK.out _ _ ?_ (fun hHeld => ?_)
          (next => ((try dsimp only); (first | (with_reducible exact ⟨z0, z1, z2, z3, z4, z5⟩) | (with_reducible exact ⟨b0, b1, b2, b3, b4, b5⟩) | (with_reducible exact ⟨a0, a1, a2, a3, a4, a5⟩) | (with_reducible exact ⟨q0, q1, q2, q3, q4, q5⟩))))
          clear hK K
          (try simp only [Act.put, List.setIfInBounds_toArray, List.set_cons_zero, List.set_cons_succ])
          refine wpAnyH_ready (rs := [4]) (by kernel_rfl) (by simp) (AllReadyH.cons (o := { dst := some 20, op := Op.buildSlice _ 1 #[(0, Operand.tmp 19)], type := _, pos := _, after := _, guard := none }) rfl (fun K hK => ?_) AllReadyH.nil)
          go_simp
          clear hHeld
          refine hK.out _ _ ?_ (fun hHeld => ?_)
          (next => ((try dsimp only); (first | (with_reducible exact ⟨z0, z1, z2, z3, z4, z5⟩) | (with_reducible exact ⟨b0, b1, b2, b3, b4, b5⟩) | (with_reducible exact ⟨a0, a1, a2, a3, a4, a5⟩) | (with_reducible exact ⟨q0, q1, q2, q3, q4, q5⟩))))
          clear hK K
          (try simp only [Act.put, List.setIfInBounds_toArray, List.set_cons_zero, List.set_cons_succ])
          refine wpAnyH_ready (rs := [5]) (by kernel_rfl) (by simp) (AllReadyH.cons (o := { dst := some 21, op := Op.call { callee := Callee.builtin Builtin.append, args := #[Operand.tmp 17, Operand.tmp 20], argTypes := _ }, type := _, pos := _, after := _, guard := none }) rfl (fun K hK => ?_) AllReadyH.nil)
          (refine step_pushAt (by rfl) _ _ _ (by rfl) w1.heap.size rowJ (.slice AL m cL) m _ (by rfl) hO9 [Value.int .i64 5, .int .i64 0, .string ⟨#[]⟩, .slice A7 n7 c7, .slice A8 n8 c8] _ (by rfl) rfl rfl (one_json hR9) (by omega) (by omega) ?_; intro v10 w10 hO10 hT10 hL10; obtain ⟨A10, c10, rfl⟩ := (rd_of_own hO10).shape; have htk := touch_keeps (P := fun k => ¬ (Value.slice AL m cL).ownBlock = some k) hT10 (fun k hk e => hk e); have hgl : ¬ (Value.slice AL m cL).ownBlock = some wr.heap.size := fun e => (by have := (Hlr.out _ e).2; omega); have b0 := htk _ _ _ hgl q0; have b1 := htk _ _ _ hgl q1; have b2 := htk _ _ _ hgl q2; have b3 := htk _ _ _ hgl q3; have b4 := htk _ _ _ hgl q4; have b5 := htk _ _ _ hgl q5; have hj10 := hj9.touch hT10 (fun e => by have := (Hlr.out _ e).1; omega); have k4 := hj10.c4; have v4 := hj10.fz 4; have hts := (Touch.refl (fun k => k = vb) w10).setCell (p := ⟨vb, 4, none⟩) rfl (.slice A10 (m + 1) c10); have hjs := hj10.set4 (.slice A10 (m + 1) c10); have htk := touch_keeps (P := fun k => ¬ k = vb) hts (fun k hk e => hk e); have z0 := htk _ _ _ (by omega) b0; have z1 := htk _ _ _ (by omega) b1; have z2 := htk _ _ _ (by omega) b2; have z3 := htk _ _ _ (by omega) b3; have z4 := htk _ _ _ (by omega) b4; have z5 := htk _ _ _ (by omega) b5)
          clear hHeld
          refine hK.out _ _ ?_ (fun hHeld => ?_)
          (next => ((try dsimp only); (first | (with_reducible exact ⟨z0, z1, z2, z3, z4, z5⟩) | (with_reducible exact ⟨b0, b1, b2, b3, b4, b5⟩) | (with_reducible exact ⟨a0, a1, a2, a3, a4, a5⟩) | (with_reducible exact ⟨q0, q1, q2, q3, q4, q5⟩))))
          clear hK K
          (try simp only [Act.put, List.setIfInBounds_toArray, List.set_cons_zero, List.set_cons_succ])
          ((refine wpAnyH_take (i := 6) (oi := { dst := some 22, op := Op.fieldAddr _ (Operand.tmp 5) 4, type := _, pos := _, after := _, guard := none }) (v := ?_) rfl (by kernel_rfl) (by kernel_rfl) (by kernel_rfl) (fun _ _ _ h => h) (Or.inl ⟨by kernel_rfl, ?_⟩) hHeld ?_); (rotate_left 1); (next => (intro w hSw; (try dsimp only at hSw); go_simp; try with_reducible rfl)); (try simp only [Act.put, List.setIfInBounds_toArray, List.set_cons_zero, List.set_cons_succ]))
          refine wpAnyH_ready (rs := [7]) (by kernel_rfl) (by simp) (AllReadyH.cons (o := { dst := none, op := Op.store _ (Operand.tmp 22) (Operand.tmp 21), type := _, pos := _, after := _, guard := none }) rfl (fun K hK => ?_) AllReadyH.nil)
          go_simp
          clear hHeld
          refine hK.out _ _ ?_ (fun hHeld => ?_)
          (next => ((try dsimp only); (first | (with_reducible exact ⟨z0, z1, z2, z3, z4, z5⟩) | (with_reducible exact ⟨b0, b1, b2, b3, b4, b5⟩) | (with_reducible exact ⟨a0, a1, a2, a3, a4, a5⟩) | (with_reducible exact ⟨q0, q1, q2, q3, q4, q5⟩))))
          clear hK K
          (try simp only [Act.put, List.setIfInBounds_toArray, List.set_cons_zero, List.set_cons_succ])
          refine wpAnyH_done (by kernel_rfl) ?_ _
          refine NoPanic.normal ?_
          have hTs : Touch (fun k => (Value.slice AL m cL).ownBlock = some k ∨ k = vb) w9 (w10.setCell ⟨vb, 4, none⟩ (.slice A10 (m + 1) c10)) := (hT10.mono fun k _ e => .inl e).trans (hts.mono fun k _ e => .inr e)
          have hIb := fun k hk => (Hlr.out k hk).2
          have hIa := fun k hk => (Hlr.out k hk).1
          have HJz := Lib.hid hjs
          have HOz := Lib.hid (own_touch hO10 hts (row_ne hO10 (by omega)))
          have hOld := RJs.keep (touch_keeps hTs (fun b hb e => by
            rcases e with e | e
            · exact hb.2.1 e
            · have := hb.1; omega)) (RJs.mono (Q := fun b => w1.heap.size ≤ b ∧ ¬ (Value.slice AL m cL).ownBlock = some b ∧ ¬ (Value.slice A10 (m + 1) c10).ownBlock = some b) (fun b hb _ => hb) (RJs.below (RJs.mono (Q := fun b => w1.heap.size ≤ b ∧ ¬ (Value.slice AL m cL).ownBlock = some b ∧ ¬ (Value.slice A10 (m + 1) c10).ownBlock = some b) (fun b hb hlt => ⟨hb.1, hb.2, fun e => by
              rcases hL10 b e with h | h
              · exact hb.2 h
              · omega⟩) HRJ.out) HBC.out))
          have hNew := RJ.keep (touch_keeps hTs (fun b hb e => by
            rcases e with e | e
            · exact hb.2.2 e
            · have := hb.1; omega)) _ _ (RJ.mono (Q := fun b => w1.heap.size ≤ b ∧ ¬ (Value.slice A10 (m + 1) c10).ownBlock = some b ∧ ¬ (Value.slice AL m cL).ownBlock = some b) (fun b hb hlt => by
              have h1 : wr.heap.size ≤ b := hb
              refine ⟨by omega, fun e => ?_, fun e => by have := hIb b e; omega⟩
              rcases hL10 b e with h | h
              · have := hIb b h; omega
              · omega) _ _ hR9)
          have HRz := Lib.hid (RJs.snoc (RJ.mono (Q := fun b => w1.heap.size ≤ b ∧ ¬ (Value.slice A10 (m + 1) c10).ownBlock = some b) (fun b hb _ => ⟨hb.1, hb.2.1⟩) _ _ hNew) (RJs.mono (Q := fun b => w1.heap.size ≤ b ∧ ¬ (Value.slice A10 (m + 1) c10).ownBlock = some b) (fun b hb _ => ⟨hb.1, hb.2.2⟩) hOld))
          have HTz := Lib.hid (HT.out.under ((Touch.of_below (F := fun k => (Value.slice AL m cL).ownBlock = some k ∨ k = vb) HBC.out).trans hTs) (fun k hk e => by
            rcases e with e | e
            · have := hIa k e; omega
            · exact e))
          clear hTs hIb hIa hjs hts htk hOld hNew hj10 k4 v4 hT10 hL10 hO10 hgl hO9 hj9 hR9
          generalize w10.setCell ⟨vb, 4, none⟩ (.slice A10 (m + 1) c10) = wz at *
          go_wp2_with fail
          exact ⟨⟨m + 1, .slice A10 (m + 1) c10, _, by omega, by go_num, HJz, HOz, Lib.hid (by rw [Htk.out]; exact HRz.out), HTz⟩, by simp [intOf]; omega⟩
        · go_simp
          clear hHeld
          refine hK.out _ _ ?_ (fun hHeld => ?_)
          (next => ((try dsimp only); (first | (with_reducible exact ⟨z0, z1, z2, z3, z4, z5⟩) | (with_reducible exact ⟨b0, b1, b2, b3, b4, b5⟩) | (with_reducible exact ⟨a0, a1, a2, a3, a4, a5⟩) | (with_reducible exact ⟨q0, q1, q2, q3, q4, q5⟩))))
          clear hK K
          (try simp only [Act.put, List.setIfInBounds_toArray, List.set_cons_zero, List.set_cons_succ])
          refine wpAnyH_ready (rs := [1]) (by kernel_rfl) (by simp) (AllReadyH.cons (o := { dst := some 17, op := Op.load _ (Operand.tmp 16), type := _, pos := _, after := _, guard := none }) rfl (fun K hK => ?_) AllReadyH.nil)
          go_simp
          clear hHeld
          refine hK.out _ _ ?_ (fun hHeld => ?_)
          (next => ((try dsimp only); (first | (with_reducible exact ⟨z0, z1, z2, z3, z4, z5⟩) | (with_reducible exact ⟨b0, b1, b2, b3, b4, b5⟩) | (with_reducible exact ⟨a0, a1, a2, a3, a4, a5⟩) | (with_reducible exact ⟨q0, q1, q2, q3, q4, q5⟩))))
          clear hK K
          (try simp only [Act.put, List.setIfInBounds_toArray, List.set_cons_zero, List.set_cons_succ])
          refine wpAnyH_ready (rs := [5]) (by kernel_rfl) (by simp) (AllReadyH.cons (o := { dst := some 21, op := Op.call { callee := Callee.builtin Builtin.append, args := #[Operand.tmp 17, Operand.tmp 20], argTypes := _ }, type := _, pos := _, after := _, guard := none }) rfl (fun K hK => ?_) AllReadyH.nil)
          (refine step_pushAt (by rfl) _ _ _ (by rfl) w1.heap.size rowJ (.slice AL m cL) m _ (by rfl) hO9 [Value.int .i64 5, .int .i64 0, .string ⟨#[]⟩, .slice A7 n7 c7, .slice A8 n8 c8] _ (by rfl) rfl rfl (one_json hR9) (by omega) (by omega) ?_; intro v10 w10 hO10 hT10 hL10; obtain ⟨A10, c10, rfl⟩ := (rd_of_own hO10).shape; have htk := touch_keeps (P := fun k => ¬ (Value.slice AL m cL).ownBlock = some k) hT10 (fun k hk e => hk e); have hgl : ¬ (Value.slice AL m cL).ownBlock = some wr.heap.size := fun e => (by have := (Hlr.out _ e).2; omega); have b0 := htk _ _ _ hgl q0; have b1 := htk _ _ _ hgl q1; have b2 := htk _ _ _ hgl q2; have b3 := htk _ _ _ hgl q3; have b4 := htk _ _ _ hgl q4; have b5 := htk _ _ _ hgl q5; have hj10 := hj9.touch hT10 (fun e => by have := (Hlr.out _ e).1; omega); have k4 := hj10.c4; have v4 := hj10.fz 4; have hts := (Touch.refl (fun k => k = vb) w10).setCell (p := ⟨vb, 4, none⟩) rfl (.slice A10 (m + 1) c10); have hjs := hj10.set4 (.slice A10 (m + 1) c10); have htk := touch_keeps (P := fun k => ¬ k = vb) hts (fun k hk e => hk e); have z0 := htk _ _ _ (by omega) b0; have z1 := htk _ _ _ (by omega) b1; have z2 := htk _ _ _ (by omega) b2; have z3 := htk _ _ _ (by omega) b3; have z4 := htk _ _ _ (by omega) b4; have z5 := htk _ _ _ (by omega) b5)
          clear hHeld
          refine hK.out _ _ ?_ (fun hHeld => ?_)
          (next => ((try dsimp only); (first | (with_reducible exact ⟨z0, z1, z2, z3, z4, z5⟩) | (with_reducible exact ⟨b0, b1, b2, b3, b4, b5⟩) | (with_reducible exact ⟨a0, a1, a2, a3, a4, a5⟩) | (with_reducible exact ⟨q0, q1, q2, q3, q4, q5⟩))))
          clear hK K
          (try simp only [Act.put, List.setIfInBounds_toArray, List.set_cons_zero, List.set_cons_succ])
          ((refine wpAnyH_take (i := 6) (oi := { dst := some 22, op := Op.fieldAddr _ (Operand.tmp 5) 4, type := _, pos := _, after := _, guard := none }) (v := ?_) rfl (by kernel_rfl) (by kernel_rfl) (by kernel_rfl) (fun _ _ _ h => h) (Or.inl ⟨by kernel_rfl, ?_⟩) hHeld ?_); (rotate_left 1); (next => (intro w hSw; (try dsimp only at hSw); go_simp; try with_reducible rfl)); (try simp only [Act.put, List.setIfInBounds_toArray, List.set_cons_zero, List.set_cons_succ]))
          refine wpAnyH_ready (rs := [7]) (by kernel_rfl) (by simp) (AllReadyH.cons (o := { dst := none, op := Op.store _ (Operand.tmp 22) (Operand.tmp 21), type := _, pos := _, after := _, guard := none }) rfl (fun K hK => ?_) AllReadyH.nil)
          go_simp
          clear hHeld
          refine hK.out _ _ ?_ (fun hHeld => ?_)
          (next => ((try dsimp only); (first | (with_reducible exact ⟨z0, z1, z2, z3, z4, z5⟩) | (with_reducible exact ⟨b0, b1, b2, b3, b4, b5⟩) | (with_reducible exact ⟨a0, a1, a2, a3, a4, a5⟩) | (with_reducible exact ⟨q0, q1, q2, q3, q4, q5⟩))))
          clear hK K
          (try simp only [Act.put, List.setIfInBounds_toArray, List.set_cons_zero, List.set_cons_succ])
          refine wpAnyH_done (by kernel_rfl) ?_ _
          refine NoPanic.normal ?_
          have hTs : Touch (fun k => (Value.slice AL m cL).ownBlock = some k ∨ k = vb) w9 (w10.setCell ⟨vb, 4, none⟩ (.slice A10 (m + 1) c10)) := (hT10.mono fun k _ e => .inl e).trans (hts.mono fun k _ e => .inr e)
          have hIb := fun k hk => (Hlr.out k hk).2
          have hIa := fun k hk => (Hlr.out k hk).1
          have HJz := Lib.hid hjs
          have HOz := Lib.hid (own_touch hO10 hts (row_ne hO10 (by omega)))
          have hOld := RJs.keep (touch_keeps hTs (fun b hb e => by
            rcases e with e | e
            · exact hb.2.1 e
            · have := hb.1; omega)) (RJs.mono (Q := fun b => w1.heap.size ≤ b ∧ ¬ (Value.slice AL m cL).ownBlock = some b ∧ ¬ (Value.slice A10 (m + 1) c10).ownBlock = some b) (fun b hb _ => hb) (RJs.below (RJs.mono (Q := fun b => w1.heap.size ≤ b ∧ ¬ (Value.slice AL m cL).ownBlock = some b ∧ ¬ (Value.slice A10 (m + 1) c10).ownBlock = some b) (fun b hb hlt => ⟨hb.1, hb.2, fun e => by
              rcases hL10 b e with h | h
              · exact hb.2 h
              · omega⟩) HRJ.out) HBC.out))
          have hNew := RJ.keep (touch_keeps hTs (fun b hb e => by
            rcases e with e | e
            · exact hb.2.2 e
            · have := hb.1; omega)) _ _ (RJ.mono (Q := fun b => w1.heap.size ≤ b ∧ ¬ (Value.slice A10 (m + 1) c10).ownBlock = some b ∧ ¬ (Value.slice AL m cL).ownBlock = some b) (fun b hb hlt => by
              have h1 : wr.heap.size ≤ b := hb
              refine ⟨by omega, fun e => ?_, fun e => by have := hIb b e; omega⟩
              rcases hL10 b e with h | h
              · have := hIb b h; omega
              · omega) _ _ hR9)
          have HRz := Lib.hid (RJs.snoc (RJ.mono (Q := fun b => w1.heap.size ≤ b ∧ ¬ (Value.slice A10 (m + 1) c10).ownBlock = some b) (fun b hb _ => ⟨hb.1, hb.2.1⟩) _ _ hNew) (RJs.mono (Q := fun b => w1.heap.size ≤ b ∧ ¬ (Value.slice A10 (m + 1) c10).ownBlock = some b) (fun b hb _ => ⟨hb.1, hb.2.2⟩) hOld))
          have HTz := Lib.hid (HT.out.under ((Touch.of_below (F := fun k => (Value.slice AL m cL).ownBlock = some k ∨ k = vb) HBC.out).trans hTs) (fun k hk e => by
            rcases e with e | e
            · have := hIa k e; omega
            · exact e))
          clear hTs hIb hIa hjs hts htk hOld hNew hj10 k4 v4 hT10 hL10 hO10 hgl hO9 hj9 hR9
          generalize w10.setCell ⟨vb, 4, none⟩ (.slice A10 (m + 1) c10) = wz at *
          go_wp2_with fail
          exact ⟨⟨m + 1, .slice A10 (m + 1) c10, _, by omega, by go_num, HJz, HOz, Lib.hid (by rw [Htk.out]; exact HRz.out), HTz⟩, by simp [intOf]; omega⟩
    · have hmn : m = n := by omega
      subst hmn
      have hRJ := HRJ.out
      rw [List.take_of_length_le (by rw [HN.out]; exact Nat.le_refl _)] at hRJ
      have hAr := HA.out.touch HT.out (by omega)
      have hJr := HJr.out
      have hbr : Below w.heap.size w wr := HB1.out.trans (HT.out.below (fun k hk e => by have e' : k = vb := e; omega) HB1.out.size)
      have k0 := hJr.c0
      have k1 := hJr.c1
      have k2 := hJr.c2
      have k3 := hJr.c3
      have k4 := hJr.c4
      have a0 := hAr.c 0 rfl
      have v0 := hAr.f 0
      have a1 := hAr.c 1 rfl
      have v1 := hAr.f 1
      have a2 := hAr.c 2 rfl
      have v2 := hAr.f 2
      have a3 := hAr.c 3 rfl
      have v3 := hAr.f 3
      have a4 := hAr.c 4 rfl
      have v4 := hAr.f 4
      have a5 := hAr.c 5 rfl
      have v5 := hAr.f 5
      have ht := (((((((Touch.refl (fun k => k = w.heap.size) wr).setCell (p := ⟨w.heap.size, 0, none⟩) rfl (.string ⟨#[108, 105, 115, 116]⟩)).setCell (p := ⟨w.heap.size, 1, none⟩) rfl (.int .i64 4)).setCell (p := ⟨w.heap.size, 2, none⟩) rfl (.int .i64 0)).setCell (p := ⟨w.heap.size, 3, none⟩) rfl (.string ⟨#[]⟩)).setCell (p := ⟨w.heap.size, 4, none⟩) rfl (.slice none 0 0)).setCell (p := ⟨w.heap.size, 5, none⟩) rfl (.slice AL m cL))
      have HAz := Lib.hid ((((((hAr.set 0 (.string ⟨#[108, 105, 115, 116]⟩)).set 1 (.int .i64 4)).set 2 (.int .i64 0)).set 3 (.string ⟨#[]⟩)).set 4 (.slice none 0 0)).set 5 (.slice AL m cL))
      have HF : Hid (ListP (l.map logJ) w (.returned (.agg #[.string ⟨#[108, 105, 115, 116]⟩, .int .i64 4, .int .i64 0, .string ⟨#[]⟩, .slice none 0 0, .slice AL m cL])) ((((((wr.setCell ⟨w.heap.size, 0, none⟩ (.string ⟨#[108, 105, 115, 116]⟩)).setCell ⟨w.heap.size, 1, none⟩ (.int .i64 4)).setCell ⟨w.heap.size, 2, none⟩ (.int .i64 0)).setCell ⟨w.heap.size, 3, none⟩ (.string ⟨#[]⟩)).setCell ⟨w.heap.size, 4, none⟩ (.slice none 0 0)).setCell ⟨w.heap.size, 5, none⟩ (.slice AL m cL))) := Lib.hid ⟨AL, m, cL, rfl, by
        refine rj_mk (t := []) (ns := []) (xs := ys) (nn := 0) (nm := m) rfl (by rw [List.length_map]; exact HN.out) RdP.nil ?_ ?_
        · exact own_rdp (own_touch HO.out ht (row_ne HO.out (by omega))) (fun b hb => by omega)
        · exact RJs.mono (fun b hb _ => by have := hb.1; show w.heap.size ≤ b; omega) (RJs.keep (touch_keeps ht (fun b hb e => by have := hb.1; have e' : b = w.heap.size := e; omega)) hRJ),
        hbr.trans (ht.below (fun k hk e => by have e' : k = w.heap.size := e; omega) hbr.size)⟩
      clear ht hAr hJr hRJ hbr
      go_wp2_with fail
      generalize ((((((wr.setCell ⟨w.heap.size, 0, none⟩ (.string ⟨#[108, 105, 115, 116]⟩)).setCell ⟨w.heap.size, 1, none⟩ (.int .i64 4)).setCell ⟨w.heap.size, 2, none⟩ (.int .i64 0)).setCell ⟨w.heap.size, 3, none⟩ (.string ⟨#[]⟩)).setCell ⟨w.heap.size, 4, none⟩ (.slice none 0 0)).setCell ⟨w.heap.size, 5, none⟩ (.slice AL m cL)) = wz at *
      have c0' : wz.cell? ⟨w.heap.size, 0, none⟩ = some (.string ⟨#[108, 105, 115, 116]⟩) := HAz.out.c 0 rfl
      have c1' : wz.cell? ⟨w.heap.size, 1, none⟩ = some (.int .i64 4) := HAz.out.c 1 rfl
      have c2' : wz.cell? ⟨w.heap.size, 2, none⟩ = some (.int .i64 0) := HAz.out.c 2 rfl
      have c3' : wz.cell? ⟨w.heap.size, 3, none⟩ = some (.string ⟨#[]⟩) := HAz.out.c 3 rfl
      have c4' : wz.cell? ⟨w.heap.size, 4, none⟩ = some (.slice none 0 0) := HAz.out.c 4 rfl
      have c5' : wz.cell? ⟨w.heap.size, 5, none⟩ = some (.slice AL m cL) := HAz.out.c 5 rfl
      refine bodyPost_ret (v := .agg #[.string ⟨#[108, 105, 115, 116]⟩, .int .i64 4, .int .i64 0, .string ⟨#[]⟩, .slice none 0 0, .slice AL m cL]) (by simp [results, Tryz.results26, go_sem, c0', c1', c2', c3', c4', c5']) rfl ?_
      exact HF.out
end Go.Proofs.YtigdjnfnkjfkmaaGreatDoor
