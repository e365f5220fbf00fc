/- An answer's head (blotterref08.head). Conditions: the lines are few and short. -/
import Derived.Test.YtgdelmkgdfhdpaaGreatDoorReadC
namespace Go.Proofs.YtgdelmkgdfhdpaaGreatDoor
open Go.RowKit
set_option linter.unusedVariables false
set_option linter.unusedSimpArgs false
set_option maxRecDepth 100000

theorem keepR {wr W W' : World} {g o : Nat} {u : Value} (h : W.cell? ⟨g, o, none⟩ = some u ∧ Below wr.heap.size wr W) (hb : Below W.heap.size W W') : W'.cell? ⟨g, o, none⟩ = some u ∧ Below wr.heap.size wr W' := ⟨Below.keeps hb h.1, h.2.next hb⟩
theorem keepB {wr W W' : World} (h : Below wr.heap.size wr W) (hb : Below W.heap.size W W') : Below wr.heap.size wr W' := h.next hb
/-- A status is told just by its own first line. -/
theorem status_iff {f : B} {n : Nat} (hr : reasonL n ≠ []) : firstA n = f ↔ statusL f = n := by
  constructor
  · rintro rfl; exact (status_law hr).1
  · intro h
    unfold statusL at h
    cases hf : wordsT.find? (fun p => firstA p.1.toNat == f) with
    | none =>
      rw [hf] at h
      simp only at h
      obtain ⟨p, hp, he⟩ := word_of hr
      have := word_lt p hp
      omega
    | some p =>
      rw [hf] at h
      simp only at h
      have hs := List.find?_some hf
      simp only [beq_iff_eq] at hs
      rw [← h]; exact hs
theorem status_word {f : B} (h : statusL f ≠ 0) : reasonL (statusL f) ≠ [] ∧ 101 ≤ statusL f ∧ statusL f ≤ 507 := by
  unfold statusL at h ⊢
  cases hf : wordsT.find? (fun p => firstA p.1.toNat == f) with
  | none => rw [hf] at h; exact absurd rfl h
  | some p =>
    have hm := List.mem_of_find?_eq_some hf
    have hb := word_lt p hm
    have : ∀ p ∈ wordsT, reasonL p.1 ≠ [] := by decide +kernel
    simp only
    rw [show ((p.1.toNat : Nat) : Int) = p.1 by omega]
    exact ⟨this p hm, by omega, by omega⟩
/-- The status that the first i numbers have told. -/
def stB (f : B) (i : Nat) : Nat := if statusL f < i then statusL f else 0
theorem stB_yes {f : B} {i : Nat} (hr : reasonL i ≠ []) (he : firstA i = f) : stB f (i + 1) = i := by
  have := (status_iff hr).1 he
  unfold stB; rw [this, if_pos (by omega)]
theorem stB_no {f : B} {i : Nat} (h : ¬ (reasonL i ≠ [] ∧ firstA i = f)) : stB f (i + 1) = stB f i := by
  unfold stB
  by_cases h0 : statusL f = i
  · by_cases hi : i = 0
    · subst hi; rw [h0]; simp
    · have hw := status_word (f := f) (by omega)
      rw [h0] at hw
      exact absurd ⟨hw.1, (status_iff hw.1).2 h0⟩ h
  · by_cases h1 : statusL f < i
    · rw [if_pos (by omega), if_pos h1]
    · rw [if_neg (by omega), if_neg h1]
theorem stB_end {f : B} : stB f 600 = statusL f := by
  unfold stB
  by_cases h : statusL f = 0
  · rw [h]; rfl
  · have := status_word h
    rw [if_pos (by omega)]
theorem stB_100 {f : B} : stB f 100 = 0 := by
  unfold stB
  by_cases h : statusL f = 0
  · rw [h]; rfl
  · have := status_word h
    rw [if_neg (by omega)]
theorem rdS_tail {w : World} {g o c : Nat} {F : B} {L : List B} (h : Rd w 1 (.slice (some ⟨g, o, none⟩) (F :: L).length c) (F :: L).length (strs (F :: L))) (hc : 1 < c) : Rd w 1 (.slice (some ⟨g, o + 1, none⟩) L.length (c - 1)) L.length (strs L) := by
  obtain ⟨_, A', c', h2, h3, h4, h5, h6⟩ := h
  cases h2
  rw [List.length_cons] at h3
  refine ⟨by rw [strs_len]; omega, _, _, rfl, by omega, by unfold maxLen at *; omega, (fun e => by cases e), fun a ha => ?_⟩
  cases ha
  obtain ⟨g1, g2⟩ := h6 _ rfl
  refine ⟨rfl, fun j u hj => ?_⟩
  have := g2 (j + 1) u (by
    have e : strs (F :: L) = [.string (ofL F)] ++ strs L := by simp [strs]
    rw [e, List.getElem?_append_right (by simp)]
    simpa using hj)
  rw [show o + 1 + j = o + (j + 1) by omega]
  exact this
theorem rdS_zero (w : World) (g o : Nat) : Rd w 1 (.slice (some ⟨g, o, none⟩) 0 0) ([] : List B).length (strs []) := ⟨rfl, _, _, rfl, Nat.le_refl _, by decide, fun _ => rfl, fun a ha => by cases ha; exact ⟨rfl, fun j u hj => by cases hj⟩⟩
theorem dig_neg {d : B} (h : numL d < 0) : digL d = -1 := by unfold digL; rw [if_neg (fun e => by omega)]
theorem dig_ne {d : B} {m : Nat} (h : numL d = m) (he : Lib.decDigits m ≠ d) : digL d = -1 := by unfold digL; rw [h, Int.toNat_natCast, if_neg (fun e => he e.2)]
theorem dig_eq {d : B} {m : Nat} (h : numL d = m) (he : Lib.decDigits m = d) : digL d = m := by unfold digL; rw [h, Int.toNat_natCast, if_pos ⟨by omega, he⟩]
theorem numL_max (d : B) : numL d < 1000000000 := by
  unfold numL
  split
  · rename_i h
    have := numL_lt h
    omega
  · omega
/-- What stands ahead of the loop over the lines. -/
def GoingR (w : World) (st : Nat) (ls : List B) (s0 s6 : Value) (wx : World) : Prop := ∃ (L : List B) (N : Nat) (A : Option Addr) (c : Nat), s0 = .slice A L.length c ∧ s6 = .int .i64 N ∧ Rd w 1 (.slice A L.length c) L.length (strs L) ∧
  AC wx w.heap.size 0 (.slice none 0 0) (.slice none 0 0) ∧ AC wx (w.heap.size + 1) st (.slice none 0 0) (.slice none 0 0) ∧ BL w wx ∧ (∀ x ∈ L, x.length ≤ 1048576) ∧ L.length ≤ 32 ∧ headR ls = (fieldsA L).map fun h => (st, h, N)
set_option maxHeartbeats 8000000 in
theorem refHead_any (ls : List B) (v : Value) (w : World) (hR : Rd w 1 v ls.length (strs ls)) (hne : ls ≠ []) (hl : ls.length ≤ 1048576) (hs : ∀ x ∈ ls, x.length ≤ 1048576) :
    Calls Tryz.prog 33 #[v] w fun e w' => HeadOk w.heap.size e w' (headR ls) ∧ BL w w' := by
  obtain ⟨A, c, rfl⟩ := hR.shape
  obtain ⟨F, L, rfl⟩ : ∃ F L, ls = F :: L := by
    cases ls with
    | nil => exact absurd rfl hne
    | cons F L => exact ⟨F, L, rfl⟩
  obtain ⟨gl, o, rfl, hcell⟩ := hR.strAt (k := 0) (s := F) rfl
  have HR := Lib.hid hR
  have HLS := Lib.hid hs
  have HH := Lib.hid (show headR (F :: L) = if statusL F = 0 then none else (bodyA (statusL F) L).map fun p => (statusL F, p.1, p.2) from rfl)
  rw [Nat.add_zero] at hcell
  have hg2 : AC ((w.alloc (.cells #[.int .i64 0, .slice none 0 0, .slice none 0 0] 25)).alloc (.cells #[.int .i64 0, .slice none 0 0, .slice none 0 0] 25)) w.heap.size 0 (.slice none 0 0) (.slice none 0 0) :=
    AC.below (heap_alloc_new _ _) ((Below.refl _ _).alloc (Nat.le_refl _) _)
  have hg5 : AC ((w.alloc (.cells #[.int .i64 0, .slice none 0 0, .slice none 0 0] 25)).alloc (.cells #[.int .i64 0, .slice none 0 0, .slice none 0 0] 25)) (w.heap.size + 1) 0 (.slice none 0 0) (.slice none 0 0) := by
    have := heap_alloc_new (w.alloc (.cells #[.int .i64 0, .slice none 0 0, .slice none 0 0] 25)) (.cells #[.int .i64 0, .slice none 0 0, .slice none 0 0] 25)
    simpa [AC] using this
  have hk : BL w ((w.alloc (.cells #[.int .i64 0, .slice none 0 0, .slice none 0 0] 25)).alloc (.cells #[.int .i64 0, .slice none 0 0, .slice none 0 0] 25)) := bl_alloc (bl_alloc (bl_refl _) _) _
  clear hR hs hne
  go_enter Tryz.func33, Tryz.ntmps33
  go_wp2_with fail
  generalize (w.alloc (.cells #[.int .i64 0, .slice none 0 0, .slice none 0 0] 25)).alloc (.cells #[.int .i64 0, .slice none 0 0, .slice none 0 0] 25) = w1 at *
  have hglt := lt_of_cell hcell
  have hcell1 := Below.keeps hk hcell
  have HC1 := Lib.hid hcell1
  have HG2 := Lib.hid hg2
  have HG5 := Lib.hid hg5
  have HK1 := Lib.hid hk
  have hg5lt := hg5.lt
  clear hcell hcell1 hg2 hg5 hk
  go_loopw [7] (fun i wr => ∃ k : Nat, 100 ≤ k ∧ k ≤ 600 ∧ i = .int .i64 k ∧ Hid (AC wr (w.heap.size + 1) (stB F k) (.slice none 0 0) (.slice none 0 0)) ∧ Hid (Touch (fun j => j = w.heap.size + 1) w1 wr)) (fun i _ => 600 - (intOf i).toNat)
  case atStart => exact ⟨100, Nat.le_refl _, by omega, rfl, (show AC _ _ _ _ _ by rw [stB_100]; exact HG5.out), Touch.refl _ _⟩
  case round =>
    obtain ⟨k, hk1, hk2, rfl, Ha, Ht⟩ := hrel
    by_cases hlt : k < 600
    · have HRE := Lib.hid (fun wx => refReason_any k wx)
      have HFI := Lib.hid (fun wx => first_any k (by omega) wx)
      have kc : wr.drew.cell? ⟨gl, o, none⟩ = some (.string (ofL F)) := (Ht.out.cell (p := ⟨gl, o, none⟩) (lt_of_cell HC1.out) (by simp only; omega)).trans HC1.out
      have kb := below_drewN wr.heap.size wr 1
      have HYE := Lib.hid (fun h1 h2 => stB_yes (f := F) (i := k) h1 h2)
      have HNO := Lib.hid (fun h => stB_no (f := F) (i := k) h)
      have hlt' : (k : Int) < 600 := by omega
      obtain ⟨r, hr⟩ : ∃ r, reasonL (k : Int) = r := ⟨_, rfl⟩
      obtain ⟨fk, hfk⟩ : ∃ fk, firstA k = fk := ⟨_, rfl⟩
      rw [hr] at HRE HYE HNO
      rw [hfk] at HFI HYE HNO
      clear hr hfk
      by_cases hr : r = []
      · have hS := Lib.hid (HNO.out (fun h => h.1 hr))
        subst hr
        have q1 : (ofL []).toList = [] := toL_ofL []
        have q2 : (ofL []).toList.isEmpty = true := by rw [q1]; rfl
        go_upto_region 5 with fail
        (refine wp_region_held_drew (S := fun w' => w'.cell? ⟨gl, o, none⟩ = some (.string (ofL F)) ∧ Below wr.heap.size wr w') (by kernel_rfl) ⟨kc, kb⟩ (fun hHeld => ?_))
        ((refine wpAnyH_take (i := 0) (oi := { dst := some 17, op := Op.move (Operand.tmp 7), type := 3, pos := _, after := _, guard := none }) (v := .int .i64 k) rfl (by kernel_rfl) (by kernel_rfl) (by kernel_rfl) (fun _ _ _ h => h) (Or.inl ⟨by kernel_rfl, ?_⟩) hHeld ?_); (next => (intro w hSw; (try dsimp only at hSw); go_simp)); (try simp only [Act.put, List.setIfInBounds_toArray, List.set_cons_zero, List.set_cons_succ])); ((refine wpAnyH_ready (rs := [1]) (by kernel_rfl) (by simp) (AllReadyH.cons (o := { dst := some 18, op := Op.call { callee := Callee.value (Operand.func 24), args := #[Operand.tmp 17], argTypes := #[3] }, type := 9, pos := _, after := _, guard := none }) rfl (fun K hK => ?_) AllReadyH.nil)); go_simp; (refine (HRE.out _).mono ?_); (rintro e w5 ⟨rfl, hb5⟩); (try go_wp2_with fail); (refine hK.out _ _ ?_ (fun hHeld => ?_)); (next => exact keepR hHeld hb5); (clear hK K); (try simp only [Act.put, List.setIfInBounds_toArray, List.set_cons_zero, List.set_cons_succ])); ((refine wpAnyH_take (i := 2) (oi := { dst := some 19, op := Op.binOp BinOp.neq 9 (Operand.tmp 18) (Operand.const (.string ⟨#[]⟩)) 9, type := 4, pos := _, after := _, guard := none }) (v := .bool false) rfl (by kernel_rfl) (by kernel_rfl) (by kernel_rfl) (fun _ _ _ h => h) (Or.inl ⟨by kernel_rfl, ?_⟩) hHeld ?_); (next => (intro w hSw; (try dsimp only at hSw); go_simp)); (try simp only [Act.put, List.setIfInBounds_toArray, List.set_cons_zero, List.set_cons_succ])); ((refine wpAnyH_take (i := 3) (oi := { dst := some 20, op := Op.move (Operand.tmp 19), type := 4, pos := _, after := _, guard := none }) (v := .bool false) rfl (by kernel_rfl) (by kernel_rfl) (by kernel_rfl) (fun _ _ _ h => h) (Or.inl ⟨by kernel_rfl, ?_⟩) hHeld ?_); (next => (intro w hSw; (try dsimp only at hSw); go_simp)); (try simp only [Act.put, List.setIfInBounds_toArray, List.set_cons_zero, List.set_cons_succ])); ((refine wpAnyH_take (i := 4) (oi := { dst := some 21, op := Op.move (Operand.tmp 0), type := 60, pos := _, after := _, guard := some (3, true) }) (v := undef) rfl (by kernel_rfl) (by kernel_rfl) (by kernel_rfl) (fun _ _ _ h => h) (Or.inr ⟨by kernel_rfl, rfl⟩) hHeld ?_); (try simp only [Act.put, List.setIfInBounds_toArray, List.set_cons_zero, List.set_cons_succ])); ((refine wpAnyH_take (i := 5) (oi := { dst := some 22, op := Op.indexAddr 60 (Operand.tmp 21) (Operand.const (.int .i64 0)), type := 0, pos := _, after := _, guard := some (3, true) }) (v := undef) rfl (by kernel_rfl) (by kernel_rfl) (by kernel_rfl) (fun _ _ _ h => h) (Or.inr ⟨by kernel_rfl, rfl⟩) hHeld ?_); (try simp only [Act.put, List.setIfInBounds_toArray, List.set_cons_zero, List.set_cons_succ])); ((refine wpAnyH_take (i := 6) (oi := { dst := some 23, op := Op.load 9 (Operand.tmp 22), type := 9, pos := _, after := _, guard := some (3, true) }) (v := undef) rfl (by kernel_rfl) (by kernel_rfl) (by kernel_rfl) (fun _ _ _ h => h) (Or.inr ⟨by kernel_rfl, rfl⟩) hHeld ?_); (try simp only [Act.put, List.setIfInBounds_toArray, List.set_cons_zero, List.set_cons_succ])); ((refine wpAnyH_take (i := 7) (oi := { dst := some 24, op := Op.move (Operand.tmp 7), type := 3, pos := _, after := _, guard := some (3, true) }) (v := undef) rfl (by kernel_rfl) (by kernel_rfl) (by kernel_rfl) (fun _ _ _ h => h) (Or.inr ⟨by kernel_rfl, rfl⟩) hHeld ?_); (try simp only [Act.put, List.setIfInBounds_toArray, List.set_cons_zero, List.set_cons_succ])); ((refine wpAnyH_take (i := 8) (oi := { dst := some 25, op := Op.call { callee := Callee.value (Operand.func 26), args := #[Operand.tmp 24], argTypes := #[3] }, type := 9, pos := _, after := _, guard := some (3, true) }) (v := undef) rfl (by kernel_rfl) (by kernel_rfl) (by kernel_rfl) (fun _ _ _ h => h) (Or.inr ⟨by kernel_rfl, rfl⟩) hHeld ?_); (try simp only [Act.put, List.setIfInBounds_toArray, List.set_cons_zero, List.set_cons_succ])); ((refine wpAnyH_take (i := 9) (oi := { dst := some 26, op := Op.binOp BinOp.eql 9 (Operand.tmp 23) (Operand.tmp 25) 9, type := 4, pos := _, after := _, guard := some (3, true) }) (v := undef) rfl (by kernel_rfl) (by kernel_rfl) (by kernel_rfl) (fun _ _ _ h => h) (Or.inr ⟨by kernel_rfl, rfl⟩) hHeld ?_); (try simp only [Act.put, List.setIfInBounds_toArray, List.set_cons_zero, List.set_cons_succ])); ((refine wpAnyH_take (i := 10) (oi := { dst := some 27, op := Op.pick (Operand.tmp 20) (Operand.tmp 26) (Operand.const (.bool false)), type := 4, pos := _, after := _, guard := none }) (v := .bool false) rfl (by kernel_rfl) (by kernel_rfl) (by kernel_rfl) (fun _ _ _ h => h) (Or.inl ⟨by kernel_rfl, ?_⟩) hHeld ?_); (next => (intro w hSw; (try dsimp only at hSw); go_simp)); (try simp only [Act.put, List.setIfInBounds_toArray, List.set_cons_zero, List.set_cons_succ]))
        (refine wpAnyH_done (by kernel_rfl) ?_ _)
        (try go_wp2_with fail)
        exact ⟨⟨k + 1, by omega, by omega, by go_num, (show AC _ _ _ _ _ by rw [hS.out]; exact Ha.out.below hHeld.2), Ht.out.next hHeld.2⟩, by simp [intOf]; omega⟩
      · have q1 : (ofL r).toList.isEmpty = false := by
          rw [toL_ofL]
          cases r with
          | nil => exact absurd rfl hr
          | cons a l => rfl
        have q2 : ¬ (ofL r).toList = [] := by rw [toL_ofL]; exact hr
        by_cases he : fk = F
        · have hS := Lib.hid (HYE.out hr he)
          have he' := he.symm
          clear he
          subst he'
          have q3 : ((ofL F).toList == (ofL F).toList) = true := by simp
          clear hr
          go_upto_region 5 with fail
          (refine wp_region_held_drew (S := fun w' => w'.cell? ⟨gl, o, none⟩ = some (.string (ofL F)) ∧ Below wr.heap.size wr w') (by kernel_rfl) ⟨kc, kb⟩ (fun hHeld => ?_))
          ((refine wpAnyH_take (i := 0) (oi := { dst := some 17, op := Op.move (Operand.tmp 7), type := 3, pos := _, after := _, guard := none }) (v := .int .i64 k) rfl (by kernel_rfl) (by kernel_rfl) (by kernel_rfl) (fun _ _ _ h => h) (Or.inl ⟨by kernel_rfl, ?_⟩) hHeld ?_); (next => (intro w hSw; (try dsimp only at hSw); go_simp)); (try simp only [Act.put, List.setIfInBounds_toArray, List.set_cons_zero, List.set_cons_succ])); ((refine wpAnyH_ready (rs := [1]) (by kernel_rfl) (by simp) (AllReadyH.cons (o := { dst := some 18, op := Op.call { callee := Callee.value (Operand.func 24), args := #[Operand.tmp 17], argTypes := #[3] }, type := 9, pos := _, after := _, guard := none }) rfl (fun K hK => ?_) AllReadyH.nil)); go_simp; (refine (HRE.out _).mono ?_); (rintro e w5 ⟨rfl, hb5⟩); (try go_wp2_with fail); (refine hK.out _ _ ?_ (fun hHeld => ?_)); (next => exact keepR hHeld hb5); (clear hK K); (try simp only [Act.put, List.setIfInBounds_toArray, List.set_cons_zero, List.set_cons_succ])); ((refine wpAnyH_take (i := 2) (oi := { dst := some 19, op := Op.binOp BinOp.neq 9 (Operand.tmp 18) (Operand.const (.string ⟨#[]⟩)) 9, type := 4, pos := _, after := _, guard := none }) (v := .bool true) rfl (by kernel_rfl) (by kernel_rfl) (by kernel_rfl) (fun _ _ _ h => h) (Or.inl ⟨by kernel_rfl, ?_⟩) hHeld ?_); (next => (intro w hSw; (try dsimp only at hSw); go_simp)); (try simp only [Act.put, List.setIfInBounds_toArray, List.set_cons_zero, List.set_cons_succ])); ((refine wpAnyH_take (i := 3) (oi := { dst := some 20, op := Op.move (Operand.tmp 19), type := 4, pos := _, after := _, guard := none }) (v := .bool true) rfl (by kernel_rfl) (by kernel_rfl) (by kernel_rfl) (fun _ _ _ h => h) (Or.inl ⟨by kernel_rfl, ?_⟩) hHeld ?_); (next => (intro w hSw; (try dsimp only at hSw); go_simp)); (try simp only [Act.put, List.setIfInBounds_toArray, List.set_cons_zero, List.set_cons_succ])); ((refine wpAnyH_take (i := 4) (oi := { dst := some 21, op := Op.move (Operand.tmp 0), type := 60, pos := _, after := _, guard := some (3, true) }) (v := .slice (some ⟨gl, o, none⟩) (F :: L).length c) rfl (by kernel_rfl) (by kernel_rfl) (by kernel_rfl) (fun _ _ _ h => h) (Or.inl ⟨by kernel_rfl, ?_⟩) hHeld ?_); (next => (intro w hSw; (try dsimp only at hSw); go_simp)); (try simp only [Act.put, List.setIfInBounds_toArray, List.set_cons_zero, List.set_cons_succ])); ((refine wpAnyH_take (i := 5) (oi := { dst := some 22, op := Op.indexAddr 60 (Operand.tmp 21) (Operand.const (.int .i64 0)), type := 0, pos := _, after := _, guard := some (3, true) }) (v := .pointer (some ⟨gl, o, none⟩)) rfl (by kernel_rfl) (by kernel_rfl) (by kernel_rfl) (fun _ _ _ h => h) (Or.inl ⟨by kernel_rfl, ?_⟩) hHeld ?_); (next => (intro w hSw; (try dsimp only at hSw); go_simp)); (try simp only [Act.put, List.setIfInBounds_toArray, List.set_cons_zero, List.set_cons_succ])); ((refine wpAnyH_take (i := 6) (oi := { dst := some 23, op := Op.load 9 (Operand.tmp 22), type := 9, pos := _, after := _, guard := some (3, true) }) (v := .string (ofL F)) rfl (by kernel_rfl) (by kernel_rfl) (by kernel_rfl) (fun _ _ _ h => h) (Or.inl ⟨by kernel_rfl, ?_⟩) hHeld ?_); (next => (intro w hSw; (try dsimp only at hSw); go_simp)); (try simp only [Act.put, List.setIfInBounds_toArray, List.set_cons_zero, List.set_cons_succ])); ((refine wpAnyH_take (i := 7) (oi := { dst := some 24, op := Op.move (Operand.tmp 7), type := 3, pos := _, after := _, guard := some (3, true) }) (v := .int .i64 k) rfl (by kernel_rfl) (by kernel_rfl) (by kernel_rfl) (fun _ _ _ h => h) (Or.inl ⟨by kernel_rfl, ?_⟩) hHeld ?_); (next => (intro w hSw; (try dsimp only at hSw); go_simp)); (try simp only [Act.put, List.setIfInBounds_toArray, List.set_cons_zero, List.set_cons_succ])); ((refine wpAnyH_ready (rs := [8]) (by kernel_rfl) (by simp) (AllReadyH.cons (o := { dst := some 25, op := Op.call { callee := Callee.value (Operand.func 26), args := #[Operand.tmp 24], argTypes := #[3] }, type := 9, pos := _, after := _, guard := some (3, true) }) rfl (fun K hK => ?_) AllReadyH.nil)); go_simp; (refine (HFI.out _).mono ?_); (rintro e w5 ⟨rfl, hb5⟩); (try go_wp2_with fail); (refine hK.out _ _ ?_ (fun hHeld => ?_)); (next => exact keepR hHeld hb5); (clear hK K); (try simp only [Act.put, List.setIfInBounds_toArray, List.set_cons_zero, List.set_cons_succ])); ((refine wpAnyH_take (i := 9) (oi := { dst := some 26, op := Op.binOp BinOp.eql 9 (Operand.tmp 23) (Operand.tmp 25) 9, type := 4, pos := _, after := _, guard := some (3, true) }) (v := .bool true) rfl (by kernel_rfl) (by kernel_rfl) (by kernel_rfl) (fun _ _ _ h => h) (Or.inl ⟨by kernel_rfl, ?_⟩) hHeld ?_); (next => (intro w hSw; (try dsimp only at hSw); go_simp)); (try simp only [Act.put, List.setIfInBounds_toArray, List.set_cons_zero, List.set_cons_succ])); ((refine wpAnyH_take (i := 10) (oi := { dst := some 27, op := Op.pick (Operand.tmp 20) (Operand.tmp 26) (Operand.const (.bool false)), type := 4, pos := _, after := _, guard := none }) (v := .bool true) rfl (by kernel_rfl) (by kernel_rfl) (by kernel_rfl) (fun _ _ _ h => h) (Or.inl ⟨by kernel_rfl, ?_⟩) hHeld ?_); (next => (intro w hSw; (try dsimp only at hSw); go_simp)); (try simp only [Act.put, List.setIfInBounds_toArray, List.set_cons_zero, List.set_cons_succ]))
          (refine wpAnyH_done (by kernel_rfl) ?_ _)
          have hac := Ha.out.below hHeld.2
          have f0 := hac.fz 0
          have c0 := hac.c0
          have HA2 := Lib.hid (hac.set0 k)
          clear hac
          (try go_wp2_with fail)
          exact ⟨⟨k + 1, by omega, by omega, by go_num, (show AC _ _ _ _ _ by rw [hS.out]; exact HA2.out), (Ht.out.next hHeld.2).setCell (p := ⟨w.heap.size + 1, 0, none⟩) rfl _⟩, by simp [intOf]; omega⟩
        · have hS := Lib.hid (HNO.out (fun h => he h.2))
          have q3 : ((ofL F).toList == (ofL fk).toList) = false := by rw [toL_ofL, toL_ofL, beq_eq_false_iff_ne]; exact fun e => he e.symm
          clear hr he
          go_upto_region 5 with fail
          (refine wp_region_held_drew (S := fun w' => w'.cell? ⟨gl, o, none⟩ = some (.string (ofL F)) ∧ Below wr.heap.size wr w') (by kernel_rfl) ⟨kc, kb⟩ (fun hHeld => ?_))
          ((refine wpAnyH_take (i := 0) (oi := { dst := some 17, op := Op.move (Operand.tmp 7), type := 3, pos := _, after := _, guard := none }) (v := .int .i64 k) rfl (by kernel_rfl) (by kernel_rfl) (by kernel_rfl) (fun _ _ _ h => h) (Or.inl ⟨by kernel_rfl, ?_⟩) hHeld ?_); (next => (intro w hSw; (try dsimp only at hSw); go_simp)); (try simp only [Act.put, List.setIfInBounds_toArray, List.set_cons_zero, List.set_cons_succ])); ((refine wpAnyH_ready (rs := [1]) (by kernel_rfl) (by simp) (AllReadyH.cons (o := { dst := some 18, op := Op.call { callee := Callee.value (Operand.func 24), args := #[Operand.tmp 17], argTypes := #[3] }, type := 9, pos := _, after := _, guard := none }) rfl (fun K hK => ?_) AllReadyH.nil)); go_simp; (refine (HRE.out _).mono ?_); (rintro e w5 ⟨rfl, hb5⟩); (try go_wp2_with fail); (refine hK.out _ _ ?_ (fun hHeld => ?_)); (next => exact keepR hHeld hb5); (clear hK K); (try simp only [Act.put, List.setIfInBounds_toArray, List.set_cons_zero, List.set_cons_succ])); ((refine wpAnyH_take (i := 2) (oi := { dst := some 19, op := Op.binOp BinOp.neq 9 (Operand.tmp 18) (Operand.const (.string ⟨#[]⟩)) 9, type := 4, pos := _, after := _, guard := none }) (v := .bool true) rfl (by kernel_rfl) (by kernel_rfl) (by kernel_rfl) (fun _ _ _ h => h) (Or.inl ⟨by kernel_rfl, ?_⟩) hHeld ?_); (next => (intro w hSw; (try dsimp only at hSw); go_simp)); (try simp only [Act.put, List.setIfInBounds_toArray, List.set_cons_zero, List.set_cons_succ])); ((refine wpAnyH_take (i := 3) (oi := { dst := some 20, op := Op.move (Operand.tmp 19), type := 4, pos := _, after := _, guard := none }) (v := .bool true) rfl (by kernel_rfl) (by kernel_rfl) (by kernel_rfl) (fun _ _ _ h => h) (Or.inl ⟨by kernel_rfl, ?_⟩) hHeld ?_); (next => (intro w hSw; (try dsimp only at hSw); go_simp)); (try simp only [Act.put, List.setIfInBounds_toArray, List.set_cons_zero, List.set_cons_succ])); ((refine wpAnyH_take (i := 4) (oi := { dst := some 21, op := Op.move (Operand.tmp 0), type := 60, pos := _, after := _, guard := some (3, true) }) (v := .slice (some ⟨gl, o, none⟩) (F :: L).length c) rfl (by kernel_rfl) (by kernel_rfl) (by kernel_rfl) (fun _ _ _ h => h) (Or.inl ⟨by kernel_rfl, ?_⟩) hHeld ?_); (next => (intro w hSw; (try dsimp only at hSw); go_simp)); (try simp only [Act.put, List.setIfInBounds_toArray, List.set_cons_zero, List.set_cons_succ])); ((refine wpAnyH_take (i := 5) (oi := { dst := some 22, op := Op.indexAddr 60 (Operand.tmp 21) (Operand.const (.int .i64 0)), type := 0, pos := _, after := _, guard := some (3, true) }) (v := .pointer (some ⟨gl, o, none⟩)) rfl (by kernel_rfl) (by kernel_rfl) (by kernel_rfl) (fun _ _ _ h => h) (Or.inl ⟨by kernel_rfl, ?_⟩) hHeld ?_); (next => (intro w hSw; (try dsimp only at hSw); go_simp)); (try simp only [Act.put, List.setIfInBounds_toArray, List.set_cons_zero, List.set_cons_succ])); ((refine wpAnyH_take (i := 6) (oi := { dst := some 23, op := Op.load 9 (Operand.tmp 22), type := 9, pos := _, after := _, guard := some (3, true) }) (v := .string (ofL F)) rfl (by kernel_rfl) (by kernel_rfl) (by kernel_rfl) (fun _ _ _ h => h) (Or.inl ⟨by kernel_rfl, ?_⟩) hHeld ?_); (next => (intro w hSw; (try dsimp only at hSw); go_simp)); (try simp only [Act.put, List.setIfInBounds_toArray, List.set_cons_zero, List.set_cons_succ])); ((refine wpAnyH_take (i := 7) (oi := { dst := some 24, op := Op.move (Operand.tmp 7), type := 3, pos := _, after := _, guard := some (3, true) }) (v := .int .i64 k) rfl (by kernel_rfl) (by kernel_rfl) (by kernel_rfl) (fun _ _ _ h => h) (Or.inl ⟨by kernel_rfl, ?_⟩) hHeld ?_); (next => (intro w hSw; (try dsimp only at hSw); go_simp)); (try simp only [Act.put, List.setIfInBounds_toArray, List.set_cons_zero, List.set_cons_succ])); ((refine wpAnyH_ready (rs := [8]) (by kernel_rfl) (by simp) (AllReadyH.cons (o := { dst := some 25, op := Op.call { callee := Callee.value (Operand.func 26), args := #[Operand.tmp 24], argTypes := #[3] }, type := 9, pos := _, after := _, guard := some (3, true) }) rfl (fun K hK => ?_) AllReadyH.nil)); go_simp; (refine (HFI.out _).mono ?_); (rintro e w5 ⟨rfl, hb5⟩); (try go_wp2_with fail); (refine hK.out _ _ ?_ (fun hHeld => ?_)); (next => exact keepR hHeld hb5); (clear hK K); (try simp only [Act.put, List.setIfInBounds_toArray, List.set_cons_zero, List.set_cons_succ])); ((refine wpAnyH_take (i := 9) (oi := { dst := some 26, op := Op.binOp BinOp.eql 9 (Operand.tmp 23) (Operand.tmp 25) 9, type := 4, pos := _, after := _, guard := some (3, true) }) (v := .bool false) rfl (by kernel_rfl) (by kernel_rfl) (by kernel_rfl) (fun _ _ _ h => h) (Or.inl ⟨by kernel_rfl, ?_⟩) hHeld ?_); (next => (intro w hSw; (try dsimp only at hSw); go_simp)); (try simp only [Act.put, List.setIfInBounds_toArray, List.set_cons_zero, List.set_cons_succ])); ((refine wpAnyH_take (i := 10) (oi := { dst := some 27, op := Op.pick (Operand.tmp 20) (Operand.tmp 26) (Operand.const (.bool false)), type := 4, pos := _, after := _, guard := none }) (v := .bool false) rfl (by kernel_rfl) (by kernel_rfl) (by kernel_rfl) (fun _ _ _ h => h) (Or.inl ⟨by kernel_rfl, ?_⟩) hHeld ?_); (next => (intro w hSw; (try dsimp only at hSw); go_simp)); (try simp only [Act.put, List.setIfInBounds_toArray, List.set_cons_zero, List.set_cons_succ]))
          (refine wpAnyH_done (by kernel_rfl) ?_ _)
          (try go_wp2_with fail)
          exact ⟨⟨k + 1, by omega, by omega, by go_num, (show AC _ _ _ _ _ by rw [hS.out]; exact Ha.out.below hHeld.2), Ht.out.next hHeld.2⟩, by simp [intOf]; omega⟩
    · have hk600 : k = 600 := by omega
      subst hk600
      rw [show (((600 : Nat) : Nat) : Int) = 600 from rfl]
      obtain ⟨st, hst⟩ : ∃ st, statusL F = st := ⟨_, rfl⟩
      have hac0 := Ha.out
      rw [stB_end, hst] at hac0
      rw [hst] at HH
      have hac2 := HG2.out.touch Ht.out (by omega)
      have hbl : BL w wr := (show Below _ _ _ from HK1.out).trans (Ht.out.below (fun k hk e => by omega) (show Below _ _ _ from HK1.out).size)
      have hcg : (F :: L).length ≤ c := by
        obtain ⟨_, A', c', h2, h3, _⟩ := HR.out
        cases h2
        exact h3
      have HBL := Lib.hid hbl
      have HA2 := Lib.hid hac2
      have HA5 := Lib.hid hac0
      clear hst hac0 hac2 hbl Ha Ht HC1 HG2 HG5 HK1
      go_upto_region 7 with fail
      go_cut [0] (fun s0 wx => (∃ A c', s0 = .slice A L.length c' ∧ Rd w 1 (.slice A L.length c') L.length (strs L)) ∧ wx = wr)
      case first =>
        by_cases hc1 : 1 < c
        · have HRT := Lib.hid (rdS_tail HR.out hc1)
          go_wp2_with fail
          go_meet
          exact ⟨⟨_, _, rfl, HRT.out⟩, rfl⟩
        · have hL0 : L = [] := by
            rw [List.length_cons] at hcg
            exact List.eq_nil_of_length_eq_zero (by omega)
          have hce : c = 1 := by rw [List.length_cons] at hcg; omega
          subst hL0 hce
          go_wp2_with fail
          go_meet
          exact ⟨⟨_, _, rfl, rdS_zero w gl o⟩, rfl⟩
      case rest =>
        obtain ⟨⟨A0, cp0, rfl, hrl⟩, rfl⟩ := hcut
        have HRL := Lib.hid hrl
        have HKX := HBL
        have hac2 := HA2.out
        have hac5 := HA5.out
        clear hrl
        ((have d0 := hac5.c0); (have d1 := hac5.c1); (have d2 := hac5.c2); (have e0 := hac5.fz 0); (have e1 := hac5.fz 1); (have e2 := hac5.fz 2); (have c0 := hac2.c0); (have c1 := hac2.c1); (have c2 := hac2.c2); (have f0 := hac2.fz 0); (have f1 := hac2.fz 1); (have f2 := hac2.fz 2))
        by_cases h0 : st = 0
        · have q0 : ((st : Int) == 0) = true := by simpa using h0
          have HX := Lib.hid (show headR (F :: L) = none by rw [HH.out, if_pos h0])
          clear h0 hac2 hac5
          ((go_wp2_with fail); (have hx := ((HA2.out.set0 st).set1 (.slice none 0 0)).set2 (.slice none 0 0)); (have hbx := bl_back HKX.out (Nat.le_refl _) (.int .i64 st) (.slice none 0 0) (.slice none 0 0)); (have hc0 := hx.c0); (have hc1 := hx.c1); (have hc2 := hx.c2); (exact bodyPost_ret (v := .tuple #[.agg #[.int .i64 st, .slice none 0 0, .slice none 0 0], .int .i64 0, .bool false]) (by simp [results, Tryz.results33, go_sem, hc0, hc1, hc2]) rfl ⟨headOk_none HX.out _ _ _ _ _, hbx⟩))
        have q0 : ((st : Int) == 0) = false := by simpa using h0
        have HX0 := Lib.hid (show headR (F :: L) = (bodyA st L).map fun p => (st, p.1, p.2) by rw [HH.out, if_neg h0])
        clear HH h0
        by_cases h32 : 32 < L.length
        · have HX := Lib.hid (show headR (F :: L) = none by rw [HX0.out]; unfold bodyA; rw [if_pos h32]; rfl)
          clear hac2 hac5
          ((go_wp2_with fail); (have hx := ((HA2.out.set0 st).set1 (.slice none 0 0)).set2 (.slice none 0 0)); (have hbx := bl_back HKX.out (Nat.le_refl _) (.int .i64 st) (.slice none 0 0) (.slice none 0 0)); (have hc0 := hx.c0); (have hc1 := hx.c1); (have hc2 := hx.c2); (exact bodyPost_ret (v := .tuple #[.agg #[.int .i64 st, .slice none 0 0, .slice none 0 0], .int .i64 0, .bool false]) (by simp [results, Tryz.results33, go_sem, hc0, hc1, hc2]) rfl ⟨headOk_none HX.out _ _ _ _ _, hbx⟩))
        obtain ⟨bt, hbt⟩ : ∃ bt, ((st : Int) != 101) = bt := ⟨_, rfl⟩
        have HBT := Lib.hid hbt
        go_upto_if 43 with fail
        clear hbt
        go_cut [0, 6] (fun s0 s6 wx => GoingR w st (F :: L) s0 s6 wx)
        case first =>
          cases bt with
          | false =>
            have h101 : st = 101 := by have := HBT.out; simp only [bne_eq_false_iff_eq] at this; omega
            have HB0 := Lib.hid (show headR (F :: L) = (fieldsA L).map fun h => (st, h, 0) by
              rw [HX0.out]; unfold bodyA; rw [if_neg h32, if_pos h101, Option.map_map]; rfl)
            clear h101
            go_wp2_with fail
            go_meet
            exact ⟨L, 0, A0, cp0, rfl, rfl, HRL.out, HA2.out, HA5.out, HBL.out, fun x hx => HLS.out x (List.mem_cons_of_mem _ hx), by omega, HB0.out⟩
          | true =>
            have h101 : ¬ st = 101 := by have := HBT.out; simp only [bne_iff_ne, ne_eq] at this; omega
            rcases List.eq_nil_or_concat L with rfl | ⟨L', x, hLx⟩
            · have HX := Lib.hid (show headR (F :: []) = none by rw [HX0.out]; unfold bodyA; rw [if_neg h32, if_neg h101, if_pos rfl]; rfl)
              clear h101 hac2 hac5
              ((go_wp2_with fail); (have hx := ((HA2.out.set0 st).set1 (.slice none 0 0)).set2 (.slice none 0 0)); (have hbx := bl_back HKX.out (Nat.le_refl _) (.int .i64 st) (.slice none 0 0) (.slice none 0 0)); (have hc0 := hx.c0); (have hc1 := hx.c1); (have hc2 := hx.c2); (exact bodyPost_ret (v := .tuple #[.agg #[.int .i64 st, .slice none 0 0, .slice none 0 0], .int .i64 0, .bool false]) (by simp [results, Tryz.results33, go_sem, hc0, hc1, hc2]) rfl ⟨headOk_none HX.out _ _ _ _ _, hbx⟩))
            · have hLx' : L = L' ++ [x] := by rw [hLx, List.concat_eq_append]
              subst hLx'
              have hlast : lastL (L' ++ [x]) = x := by unfold lastL; simp
              have hdl : (L' ++ [x]).dropLast = L' := List.dropLast_concat
              have HB0 := Lib.hid (show headR (F :: (L' ++ [x])) = if lenL x < 0 then none else (fieldsA L').map fun h => (st, h, (lenL x).toNat) by
                rw [HX0.out]; unfold bodyA
                rw [if_neg h32, if_neg h101, if_neg (by simp), hlast, hdl]
                by_cases hn : lenL x < 0
                · rw [if_pos hn, if_pos hn]; rfl
                · rw [if_neg hn, if_neg hn, Option.map_map]; rfl)
              have hxs : x.length ≤ 1048576 := HLS.out x (by simp)
              have hmax : (1048576 : Nat) ≤ maxLen := by unfold maxLen; omega
              have hr6 := HRL.out.below HBL.out
              obtain ⟨b, o', rfl, hcx⟩ := hr6.strAt (k := L'.length) (s := x) (by simp)
              have hll : (L' ++ [x]).length = L'.length + 1 := by simp
              rw [hll] at h32
              have hl32 : L'.length < 32 := by omega
              have HBG := Lib.hid (begins_any (ofL x) ⟨#[99, 111, 110, 116, 101, 110, 116, 45, 108, 101, 110, 103, 116, 104, 58, 32]⟩ (by rw [size_ofL]; omega) wc)
              rw [toL_ofL, show (⟨#[99, 111, 110, 116, 101, 110, 116, 45, 108, 101, 110, 103, 116, 104, 58, 32]⟩ : ByteArray).toList = clPre from toL_eq _] at HBG
              have hcapl : L'.length + 1 ≤ cp0 := by
                obtain ⟨_, A', c', h2, h3, _⟩ := hr6
                cases h2
                rw [hll] at h3
                exact h3
              clear hr6 hlast hdl h101 hLx
              cases hp : clPre.isPrefixOf x
              · have HX := Lib.hid (show headR (F :: (L' ++ [x])) = none by rw [HB0.out, len_no hp]; rfl)
                rw [hp] at HBG
                clear hp hac2 hac5
                go_wp2_with fail
                refine HBG.out.mono ?_
                rintro e w6 ⟨rfl, rfl⟩
                ((go_wp2_with fail); (have hx := ((HA2.out.set0 st).set1 (.slice none 0 0)).set2 (.slice none 0 0)); (have hbx := bl_back HKX.out (Nat.le_refl _) (.int .i64 st) (.slice none 0 0) (.slice none 0 0)); (have hc0 := hx.c0); (have hc1 := hx.c1); (have hc2 := hx.c2); (exact bodyPost_ret (v := .tuple #[.agg #[.int .i64 st, .slice none 0 0, .slice none 0 0], .int .i64 0, .bool false]) (by simp [results, Tryz.results33, go_sem, hc0, hc1, hc2]) rfl ⟨headOk_none HX.out _ _ _ _ _, hbx⟩))
              · have HLY := Lib.hid (len_yes hp)
                rw [hp] at HBG
                have h16 : 16 ≤ x.length := by
                  have := (List.isPrefixOf_iff_prefix.1 hp).length_le
                  exact this
                have h16s : ¬ (ofL x).size < 16 := by rw [size_ofL]; omega
                have hds : ((ofL x).extract 16 (ofL x).size).toList = x.drop 16 := by rw [toL_from, toL_ofL]
                have hdz : ((ofL x).extract 16 (ofL x).size).size ≤ 1048576 := by rw [ByteArray.size_extract, size_ofL]; omega
                have HNU := Lib.hid (fun wx => number_any ((ofL x).extract 16 (ofL x).size) (by omega) wx)
                rw [hds] at HNU
                have HDS := Lib.hid hds
                clear hp hds
                go_wp2_with fail
                refine HBG.out.mono ?_
                rintro e w6 ⟨rfl, rfl⟩
                go_wp2_with fail
                generalize (ofL x).extract 16 (ofL x).size = Dx at *
                generalize x.drop 16 = d at *
                refine (HNU.out _).mono ?_
                rintro e w7 ⟨rfl, hb7⟩
                replace hac2 := hac2.below hb7
                replace hac5 := hac5.below hb7
                have HA2' := Lib.hid hac2
                have HA5' := Lib.hid hac5
                have HKX' := Lib.hid (bl_next HKX.out hb7)
                clear c0 c1 c2 f0 f1 f2 d0 d1 d2 e0 e1 e2 HA2 HA5 HKX hb7
                have HA2 := HA2'
                have HKX := HKX'
                clear HA2' HKX'
                ((have d0 := hac5.c0); (have d1 := hac5.c1); (have d2 := hac5.c2); (have e0 := hac5.fz 0); (have e1 := hac5.fz 1); (have e2 := hac5.fz 2); (have c0 := hac2.c0); (have c1 := hac2.c1); (have c2 := hac2.c2); (have f0 := hac2.fz 0); (have f1 := hac2.fz 1); (have f2 := hac2.fz 2))
                by_cases hn : numL d < 0
                · have HX := Lib.hid (show headR (F :: (L' ++ [x])) = none by rw [HB0.out, HLY.out, dig_neg hn]; rfl)
                  clear hac2 hac5
                  ((go_wp2_with fail); (have hx := ((HA2.out.set0 st).set1 (.slice none 0 0)).set2 (.slice none 0 0)); (have hbx := bl_back HKX.out (Nat.le_refl _) (.int .i64 st) (.slice none 0 0) (.slice none 0 0)); (have hc0 := hx.c0); (have hc1 := hx.c1); (have hc2 := hx.c2); (exact bodyPost_ret (v := .tuple #[.agg #[.int .i64 st, .slice none 0 0, .slice none 0 0], .int .i64 0, .bool false]) (by simp [results, Tryz.results33, go_sem, hc0, hc1, hc2]) rfl ⟨headOk_none HX.out _ _ _ _ _, hbx⟩))
                obtain ⟨m, hm⟩ : ∃ m : Nat, numL d = m := ⟨(numL d).toNat, by omega⟩
                have hm9 : m < 1000000000 := by have := numL_max d; omega
                have HDG := Lib.hid (digits_any m hm9 w7)
                have hnm : ¬ (m : Int) < 0 := by omega
                rw [hm]
                by_cases he : Lib.decDigits m = d
                · have HE1 := Lib.hid (dig_eq hm he)
                  have HB1 := Lib.hid (show headR (F :: (L' ++ [x])) = (fieldsA L').map fun h => (st, h, m) by rw [HB0.out, HLY.out, HE1.out, if_neg (by omega), Int.toNat_natCast])
                  have q3 : ((ofL d).toList == Dx.toList) = true := by rw [toL_ofL, HDS.out]; simp
                  have q4 : (ofL d).toList = Dx.toList := by rw [toL_ofL, HDS.out]
                  rw [he] at HDG
                  clear hac2 hac5 hm hn he
                  go_wp2_with fail
                  refine HDG.out.mono ?_
                  rintro e w8 ⟨rfl, hb8⟩
                  have HB8 := Lib.hid hb8
                  clear hb8
                  go_wp2_with fail
                  go_meet
                  exact ⟨L', m, _, cp0, rfl, rfl, rdS_front HRL.out, HA2.out.below HB8.out, HA5'.out.below HB8.out, bl_next HKX.out HB8.out, fun y hy => HLS.out y (by simp [hy]), by omega, HB1.out⟩
                · have HX := Lib.hid (show headR (F :: (L' ++ [x])) = none by rw [HB0.out, HLY.out, dig_ne hm he]; rfl)
                  have q3 : ((ofL (Lib.decDigits m)).toList == Dx.toList) = false := by rw [toL_ofL, HDS.out, beq_eq_false_iff_ne]; exact he
                  have q4 : ¬ (ofL (Lib.decDigits m)).toList = Dx.toList := by rw [toL_ofL, HDS.out]; exact he
                  clear hm hn he
                  go_wp2_with fail
                  refine HDG.out.mono ?_
                  rintro e w8 ⟨rfl, hb8⟩
                  replace hac2 := hac2.below hb8
                  replace hac5 := hac5.below hb8
                  have HA2' := Lib.hid hac2
                  have HKX' := Lib.hid (bl_next HKX.out hb8)
                  clear c0 c1 c2 f0 f1 f2 d0 d1 d2 e0 e1 e2 HA2 HKX hb8
                  have HA2 := HA2'
                  have HKX := HKX'
                  ((have d0 := hac5.c0); (have d1 := hac5.c1); (have d2 := hac5.c2); (have e0 := hac5.fz 0); (have e1 := hac5.fz 1); (have e2 := hac5.fz 2); (have c0 := hac2.c0); (have c1 := hac2.c1); (have c2 := hac2.c2); (have f0 := hac2.fz 0); (have f1 := hac2.fz 1); (have f2 := hac2.fz 2))
                  clear hac2 hac5
                  ((go_wp2_with fail); (have hx := ((HA2.out.set0 st).set1 (.slice none 0 0)).set2 (.slice none 0 0)); (have hbx := bl_back HKX.out (Nat.le_refl _) (.int .i64 st) (.slice none 0 0) (.slice none 0 0)); (have hc0 := hx.c0); (have hc1 := hx.c1); (have hc2 := hx.c2); (exact bodyPost_ret (v := .tuple #[.agg #[.int .i64 st, .slice none 0 0, .slice none 0 0], .int .i64 0, .bool false]) (by simp [results, Tryz.results33, go_sem, hc0, hc1, hc2]) rfl ⟨headOk_none HX.out _ _ _ _ _, hbx⟩))
        case rest =>
          obtain ⟨L0, N, A1, cp1, rfl, rfl, hrl, hac2, hac5, hk, hls, hmx, hbd⟩ := hcut
          have HRL1 := Lib.hid hrl
          have HBD0 := Lib.hid hbd
          have HKC := Lib.hid hk
          have HA20 := Lib.hid hac2
          have HA50 := Lib.hid hac5
          have HLS1 := Lib.hid hls
          have hgl5 := hac5.lt
          clear hrl hbd hk hac2 hac5 hls c0 c1 c2 f0 f1 f2 d0 d1 d2 e0 e1 e2 HA2 HA5 HKX HBL HRL
          go_wp2_with fail
          go_loopw [83] (fun i wr => ∃ (k : Nat) (hv : Value) (hq : List (B × B)), k ≤ L0.length ∧ i = .int .i64 k ∧ Hid (fieldsA (L0.take k) = some hq) ∧ Hid (AC wr (w.heap.size + 1) st hv (.slice none 0 0)) ∧ Hid (OwnH wr wc.heap.size hv hq) ∧ Hid (Touch (fun j => j = w.heap.size + 1) wc wr)) (fun i _ => L0.length - (intOf i).toNat)
          case atStart => exact ⟨0, _, [], Nat.zero_le _, rfl, (rfl : fieldsA [] = some []), HA50.out, World.ownsRow_nil _ _ _ _, Touch.refl _ _⟩
          case round =>
            obtain ⟨k, hv, hq, hk, rfl, Hf, Ha, Ho, Ht⟩ := hrel
            obtain ⟨A4, n4, rfl⟩ := (rd_of_own (show wr.ownsRow _ _ _ _ _ _ from Ho.out)).shape
            have hkr : BL w wr := (show Below _ _ _ from HKC.out).trans (Ht.out.below (fun k hk e => by omega) (show Below _ _ _ from HKC.out).size)
            have HKR := Lib.hid hkr
            have HA2R := Lib.hid (HA20.out.touch Ht.out (by omega))
            by_cases hlt : k < L0.length
            · obtain ⟨x, hx⟩ : ∃ x, L0[k]? = some x := ⟨L0[k], List.getElem?_eq_getElem hlt⟩
              have hxm := List.mem_of_getElem? hx
              have hxl := HLS1.out x hxm
              obtain ⟨b, o', rfl, hcx⟩ := (HRL1.out.below hkr).strAt hx
              have hmax : (1048576 : Nat) ≤ maxLen := by unfold maxLen; omega
              have HWH := Lib.hid (where_any (ofL x) ⟨#[58, 32]⟩ (by rw [size_ofL]; omega) wr)
              rw [toL_ofL, show (⟨#[58, 32]⟩ : ByteArray).toList = [58, 32] from toL_eq _] at HWH
              have HNO := Lib.hid (fun h => field_no (x := x) h)
              have HBA := Lib.hid (fun h => field_bad (x := x) h)
              have HYE := Lib.hid (fun h1 h => field_yes (x := x) h1 h)
              have HFB := Lib.hid (fun h => show headR (F :: L) = none by rw [HBD0.out, fields_bad L0 x hxm h]; rfl)
              have HFS := Lib.hid (fun h q => show fieldsA (L0.take (k + 1)) = some (hq ++ [h]) by rw [take_snoc' hx]; exact fields_snoc _ _ _ _ Hf.out q)
              have hn1 : (x.take (whereL [58, 32] x)).length ≤ 1048576 := by rw [List.length_take]; omega
              have hn2 : (x.drop (whereL [58, 32] x + 2)).length ≤ 1048576 := by rw [List.length_drop]; omega
              have hql : hq.length ≤ 32 := by have := fields_len _ _ Hf.out; rw [List.length_take] at this; omega
              unfold colL at HNO HBA HYE
              have hwl := whereL_le [58, 32] x
              have hwr : whereL [58, 32] x < x.length → whereL [58, 32] x + 2 ≤ x.length := fun h => whereL_room (t := [58, 32]) h
              have eN : (ofL x).extract 0 (whereL [58, 32] x) = ofL (x.take (whereL [58, 32] x)) := by rw [← ofL_toL ((ofL x).extract _ _), toL_to, toL_ofL]
              have eV : (ofL x).extract (whereL [58, 32] x + 2) (ofL x).size = ofL (x.drop (whereL [58, 32] x + 2)) := by rw [← ofL_toL ((ofL x).extract _ _), toL_from, toL_ofL]
              have hXs : (ofL x).size = x.length := size_ofL x
              generalize x.take (whereL [58, 32] x) = N1 at *
              generalize x.drop (whereL [58, 32] x + 2) = V1 at *
              generalize whereL [58, 32] x = K at *
              generalize ofL x = X at *
              have hxl2 : X.size ≤ 1048576 := by omega
              have HNO2 := Lib.hid (fun (h : ¬ K < X.size) => HNO.out (by omega))
              have HYE2 := Lib.hid (fun (h : K < X.size) => HYE.out (by omega))
              have hwr2 : K < X.size → K + 2 ≤ X.size := fun h => by have := hwr (by omega); omega
              have hwl2 : K ≤ X.size := by omega
              clear hx hxm hkr hXs hwl hwr HNO HYE hxl
              have kb := below_drewN wr.heap.size wr 1
              by_cases hKe : K < X.size
              case neg =>
                have hKe2 : X.size = K := by omega
                have q1 : ((K : Int) == (X.size : Int)) = true := by rw [hKe2]; simp
                have HX := Lib.hid (HFB.out (HNO2.out hKe))
                clear eN eV hKe hKe2 hwr2 hwl2
                go_wp2_with fail
                refine HWH.out.mono ?_
                rintro e w6 ⟨rfl, rfl⟩
                go_upto_region 22 with fail
                (refine wp_region_held_drew (S := fun w' => Below wr.heap.size wr w') (by kernel_rfl) kb (fun hHeld => ?_))
                ((refine wpAnyH_take (i := 0) (oi := { dst := some 89, op := Op.move (Operand.tmp 11), type := 3, pos := _, after := _, guard := none }) (v := .int .i64 K) rfl (by kernel_rfl) (by kernel_rfl) (by kernel_rfl) (fun _ _ _ h => h) (Or.inl ⟨by kernel_rfl, ?_⟩) hHeld ?_); (next => (intro w hSw; (try dsimp only at hSw); go_simp)); (try simp only [Act.put, List.setIfInBounds_toArray, List.set_cons_zero, List.set_cons_succ])); ((refine wpAnyH_take (i := 1) (oi := { dst := some 90, op := Op.move (Operand.tmp 10), type := 9, pos := _, after := _, guard := none }) (v := .string X) rfl (by kernel_rfl) (by kernel_rfl) (by kernel_rfl) (fun _ _ _ h => h) (Or.inl ⟨by kernel_rfl, ?_⟩) hHeld ?_); (next => (intro w hSw; (try dsimp only at hSw); go_simp)); (try simp only [Act.put, List.setIfInBounds_toArray, List.set_cons_zero, List.set_cons_succ])); ((refine wpAnyH_take (i := 2) (oi := { dst := some 91, op := Op.call { callee := Callee.builtin Builtin.len, args := #[Operand.tmp 90], argTypes := #[9] }, type := 3, pos := _, after := _, guard := none }) (v := .int .i64 X.size) rfl (by kernel_rfl) (by kernel_rfl) (by kernel_rfl) (fun _ _ _ h => h) (Or.inl ⟨by kernel_rfl, ?_⟩) hHeld ?_); (next => (intro w hSw; (try dsimp only at hSw); go_simp)); (try simp only [Act.put, List.setIfInBounds_toArray, List.set_cons_zero, List.set_cons_succ])); ((refine wpAnyH_take (i := 3) (oi := { dst := some 92, op := Op.binOp BinOp.eql 3 (Operand.tmp 89) (Operand.tmp 91) 3, type := 4, pos := _, after := _, guard := none }) (v := .bool true) rfl (by kernel_rfl) (by kernel_rfl) (by kernel_rfl) (fun _ _ _ h => h) (Or.inl ⟨by kernel_rfl, ?_⟩) hHeld ?_); (next => (intro w hSw; (try dsimp only at hSw); go_simp)); (try simp only [Act.put, List.setIfInBounds_toArray, List.set_cons_zero, List.set_cons_succ])); ((refine wpAnyH_take (i := 4) (oi := { dst := some 93, op := Op.move (Operand.tmp 92), type := 4, pos := _, after := _, guard := none }) (v := .bool true) rfl (by kernel_rfl) (by kernel_rfl) (by kernel_rfl) (fun _ _ _ h => h) (Or.inl ⟨by kernel_rfl, ?_⟩) hHeld ?_); (next => (intro w hSw; (try dsimp only at hSw); go_simp)); (try simp only [Act.put, List.setIfInBounds_toArray, List.set_cons_zero, List.set_cons_succ])); ((refine wpAnyH_take (i := 5) (oi := { dst := some 94, op := Op.move (Operand.tmp 10), type := 9, pos := _, after := _, guard := some (4, false) }) (v := undef) rfl (by kernel_rfl) (by kernel_rfl) (by kernel_rfl) (fun _ _ _ h => h) (Or.inr ⟨by kernel_rfl, rfl⟩) hHeld ?_); (try simp only [Act.put, List.setIfInBounds_toArray, List.set_cons_zero, List.set_cons_succ])); ((refine wpAnyH_take (i := 6) (oi := { dst := some 95, op := Op.move (Operand.tmp 11), type := 3, pos := _, after := _, guard := some (4, false) }) (v := undef) rfl (by kernel_rfl) (by kernel_rfl) (by kernel_rfl) (fun _ _ _ h => h) (Or.inr ⟨by kernel_rfl, rfl⟩) hHeld ?_); (try simp only [Act.put, List.setIfInBounds_toArray, List.set_cons_zero, List.set_cons_succ])); ((refine wpAnyH_take (i := 7) (oi := { dst := some 96, op := Op.slice 9 (Operand.tmp 94) none (some (Operand.tmp 95)) none, type := 9, pos := _, after := _, guard := some (4, false) }) (v := undef) rfl (by kernel_rfl) (by kernel_rfl) (by kernel_rfl) (fun _ _ _ h => h) (Or.inr ⟨by kernel_rfl, rfl⟩) hHeld ?_); (try simp only [Act.put, List.setIfInBounds_toArray, List.set_cons_zero, List.set_cons_succ])); ((refine wpAnyH_take (i := 8) (oi := { dst := some 97, op := Op.move (Operand.tmp 10), type := 9, pos := _, after := _, guard := some (4, false) }) (v := undef) rfl (by kernel_rfl) (by kernel_rfl) (by kernel_rfl) (fun _ _ _ h => h) (Or.inr ⟨by kernel_rfl, rfl⟩) hHeld ?_); (try simp only [Act.put, List.setIfInBounds_toArray, List.set_cons_zero, List.set_cons_succ])); ((refine wpAnyH_take (i := 9) (oi := { dst := some 98, op := Op.move (Operand.tmp 11), type := 3, pos := _, after := _, guard := some (4, false) }) (v := undef) rfl (by kernel_rfl) (by kernel_rfl) (by kernel_rfl) (fun _ _ _ h => h) (Or.inr ⟨by kernel_rfl, rfl⟩) hHeld ?_); (try simp only [Act.put, List.setIfInBounds_toArray, List.set_cons_zero, List.set_cons_succ])); ((refine wpAnyH_take (i := 10) (oi := { dst := some 99, op := Op.binOp BinOp.add 3 (Operand.tmp 98) (Operand.const (.int .i64 2)) 3, type := 3, pos := _, after := _, guard := some (4, false) }) (v := undef) rfl (by kernel_rfl) (by kernel_rfl) (by kernel_rfl) (fun _ _ _ h => h) (Or.inr ⟨by kernel_rfl, rfl⟩) hHeld ?_); (try simp only [Act.put, List.setIfInBounds_toArray, List.set_cons_zero, List.set_cons_succ])); ((refine wpAnyH_take (i := 11) (oi := { dst := some 100, op := Op.slice 9 (Operand.tmp 97) (some (Operand.tmp 99)) none none, type := 9, pos := _, after := _, guard := some (4, false) }) (v := undef) rfl (by kernel_rfl) (by kernel_rfl) (by kernel_rfl) (fun _ _ _ h => h) (Or.inr ⟨by kernel_rfl, rfl⟩) hHeld ?_); (try simp only [Act.put, List.setIfInBounds_toArray, List.set_cons_zero, List.set_cons_succ])); ((refine wpAnyH_take (i := 12) (oi := { dst := some 101, op := Op.build 30 #[(0, Operand.tmp 96), (1, Operand.tmp 100)], type := 30, pos := _, after := _, guard := some (4, false) }) (v := undef) rfl (by kernel_rfl) (by kernel_rfl) (by kernel_rfl) (fun _ _ _ h => h) (Or.inr ⟨by kernel_rfl, rfl⟩) hHeld ?_); (try simp only [Act.put, List.setIfInBounds_toArray, List.set_cons_zero, List.set_cons_succ])); ((refine wpAnyH_take (i := 13) (oi := { dst := some 102, op := Op.call { callee := Callee.value (Operand.func 25), args := #[Operand.tmp 101], argTypes := #[30] }, type := 4, pos := _, after := _, guard := some (4, false) }) (v := undef) rfl (by kernel_rfl) (by kernel_rfl) (by kernel_rfl) (fun _ _ _ h => h) (Or.inr ⟨by kernel_rfl, rfl⟩) hHeld ?_); (try simp only [Act.put, List.setIfInBounds_toArray, List.set_cons_zero, List.set_cons_succ])); ((refine wpAnyH_take (i := 14) (oi := { dst := some 103, op := Op.unOp UnOp.not 4 (Operand.tmp 102), type := 4, pos := _, after := _, guard := some (4, false) }) (v := undef) rfl (by kernel_rfl) (by kernel_rfl) (by kernel_rfl) (fun _ _ _ h => h) (Or.inr ⟨by kernel_rfl, rfl⟩) hHeld ?_); (try simp only [Act.put, List.setIfInBounds_toArray, List.set_cons_zero, List.set_cons_succ])); ((refine wpAnyH_take (i := 15) (oi := { dst := some 104, op := Op.pick (Operand.tmp 93) (Operand.const (.bool true)) (Operand.tmp 103), type := 4, pos := _, after := _, guard := none }) (v := .bool true) rfl (by kernel_rfl) (by kernel_rfl) (by kernel_rfl) (fun _ _ _ h => h) (Or.inl ⟨by kernel_rfl, ?_⟩) hHeld ?_); (next => (intro w hSw; (try dsimp only at hSw); go_simp)); (try simp only [Act.put, List.setIfInBounds_toArray, List.set_cons_zero, List.set_cons_succ]))
                (refine wpAnyH_done (by kernel_rfl) ?_ _)
                generalize wr.drew = wz at *
                have hac2 := HA2R.out.below hHeld
                have hac5 := Ha.out.below hHeld
                have HA2 := Lib.hid hac2
                have HKX := Lib.hid (bl_next HKR.out hHeld)
                ((have d0 := hac5.c0); (have d1 := hac5.c1); (have d2 := hac5.c2); (have e0 := hac5.fz 0); (have e1 := hac5.fz 1); (have e2 := hac5.fz 2); (have c0 := hac2.c0); (have c1 := hac2.c1); (have c2 := hac2.c2); (have f0 := hac2.fz 0); (have f1 := hac2.fz 1); (have f2 := hac2.fz 2))
                clear hac2 hac5
                ((go_wp2_with fail); (have hx := ((HA2.out.set0 st).set1 (.slice A4 hq.length n4)).set2 (.slice none 0 0)); (have hbx := bl_back HKX.out (Nat.le_refl _) (.int .i64 st) (.slice A4 hq.length n4) (.slice none 0 0)); (have hc0 := hx.c0); (have hc1 := hx.c1); (have hc2 := hx.c2); (exact bodyPost_ret (v := .tuple #[.agg #[.int .i64 st, .slice A4 hq.length n4, .slice none 0 0], .int .i64 0, .bool false]) (by simp [results, Tryz.results33, go_sem, hc0, hc1, hc2]) rfl ⟨headOk_none HX.out _ _ _ _ _, hbx⟩))
              case pos =>
                have hK2 := hwr2 hKe
                have q1 : ((K : Int) == (X.size : Int)) = false := by rw [beq_eq_false_iff_ne]; omega
                have x1 : (0 : Int) ≤ (K : Int) := by omega
                have x2 : ((K : Int)).toNat = K := by omega
                have x3 : (K : Int) ≤ X.size := by omega
                have x4 : IntKind.i64.wrap ((K : Int) + 2) = (K : Int) + 2 := IntWalk.i64_in _ (by omega)
                have x5 : (0 : Int) ≤ (K : Int) + 2 := by omega
                have x6 : ((K : Int) + 2).toNat = K + 2 := by omega
                have x7 : (K : Int) + 2 ≤ X.size := by omega
                have HPL := Lib.hid (fun wx => plainR_any N1 V1 hn1 hn2 wx)
                obtain ⟨bw, hbw⟩ : ∃ bw, writtenL N1 V1 = bw := ⟨_, rfl⟩
                rw [hbw] at HPL
                have HBW := Lib.hid hbw
                have HYE3 := Lib.hid (HYE2.out hKe)
                clear hbw hKe hwr2 hwl2
                go_wp2_with fail
                refine HWH.out.mono ?_
                rintro e w6 ⟨rfl, rfl⟩
                go_upto_region 22 with fail
                cases bw with
                | false =>
                  have HX := Lib.hid (HFB.out (HBA.out HBW.out))
                  (refine wp_region_held_drew (S := fun w' => Below wr.heap.size wr w') (by kernel_rfl) kb (fun hHeld => ?_))
                  ((refine wpAnyH_take (i := 0) (oi := { dst := some 89, op := Op.move (Operand.tmp 11), type := 3, pos := _, after := _, guard := none }) (v := .int .i64 K) rfl (by kernel_rfl) (by kernel_rfl) (by kernel_rfl) (fun _ _ _ h => h) (Or.inl ⟨by kernel_rfl, ?_⟩) hHeld ?_); (next => (intro w hSw; (try dsimp only at hSw); go_simp)); (try simp only [Act.put, List.setIfInBounds_toArray, List.set_cons_zero, List.set_cons_succ])); ((refine wpAnyH_take (i := 1) (oi := { dst := some 90, op := Op.move (Operand.tmp 10), type := 9, pos := _, after := _, guard := none }) (v := .string X) rfl (by kernel_rfl) (by kernel_rfl) (by kernel_rfl) (fun _ _ _ h => h) (Or.inl ⟨by kernel_rfl, ?_⟩) hHeld ?_); (next => (intro w hSw; (try dsimp only at hSw); go_simp)); (try simp only [Act.put, List.setIfInBounds_toArray, List.set_cons_zero, List.set_cons_succ])); ((refine wpAnyH_take (i := 2) (oi := { dst := some 91, op := Op.call { callee := Callee.builtin Builtin.len, args := #[Operand.tmp 90], argTypes := #[9] }, type := 3, pos := _, after := _, guard := none }) (v := .int .i64 X.size) rfl (by kernel_rfl) (by kernel_rfl) (by kernel_rfl) (fun _ _ _ h => h) (Or.inl ⟨by kernel_rfl, ?_⟩) hHeld ?_); (next => (intro w hSw; (try dsimp only at hSw); go_simp)); (try simp only [Act.put, List.setIfInBounds_toArray, List.set_cons_zero, List.set_cons_succ])); ((refine wpAnyH_take (i := 3) (oi := { dst := some 92, op := Op.binOp BinOp.eql 3 (Operand.tmp 89) (Operand.tmp 91) 3, type := 4, pos := _, after := _, guard := none }) (v := .bool false) rfl (by kernel_rfl) (by kernel_rfl) (by kernel_rfl) (fun _ _ _ h => h) (Or.inl ⟨by kernel_rfl, ?_⟩) hHeld ?_); (next => (intro w hSw; (try dsimp only at hSw); go_simp)); (try simp only [Act.put, List.setIfInBounds_toArray, List.set_cons_zero, List.set_cons_succ])); ((refine wpAnyH_take (i := 4) (oi := { dst := some 93, op := Op.move (Operand.tmp 92), type := 4, pos := _, after := _, guard := none }) (v := .bool false) rfl (by kernel_rfl) (by kernel_rfl) (by kernel_rfl) (fun _ _ _ h => h) (Or.inl ⟨by kernel_rfl, ?_⟩) hHeld ?_); (next => (intro w hSw; (try dsimp only at hSw); go_simp)); (try simp only [Act.put, List.setIfInBounds_toArray, List.set_cons_zero, List.set_cons_succ])); ((refine wpAnyH_take (i := 5) (oi := { dst := some 94, op := Op.move (Operand.tmp 10), type := 9, pos := _, after := _, guard := some (4, false) }) (v := .string X) rfl (by kernel_rfl) (by kernel_rfl) (by kernel_rfl) (fun _ _ _ h => h) (Or.inl ⟨by kernel_rfl, ?_⟩) hHeld ?_); (next => (intro w hSw; (try dsimp only at hSw); go_simp)); (try simp only [Act.put, List.setIfInBounds_toArray, List.set_cons_zero, List.set_cons_succ])); ((refine wpAnyH_take (i := 6) (oi := { dst := some 95, op := Op.move (Operand.tmp 11), type := 3, pos := _, after := _, guard := some (4, false) }) (v := .int .i64 K) rfl (by kernel_rfl) (by kernel_rfl) (by kernel_rfl) (fun _ _ _ h => h) (Or.inl ⟨by kernel_rfl, ?_⟩) hHeld ?_); (next => (intro w hSw; (try dsimp only at hSw); go_simp)); (try simp only [Act.put, List.setIfInBounds_toArray, List.set_cons_zero, List.set_cons_succ])); ((refine wpAnyH_take (i := 7) (oi := { dst := some 96, op := Op.slice 9 (Operand.tmp 94) none (some (Operand.tmp 95)) none, type := 9, pos := _, after := _, guard := some (4, false) }) (v := .string (ofL N1)) rfl (by kernel_rfl) (by kernel_rfl) (by kernel_rfl) (fun _ _ _ h => h) (Or.inl ⟨by kernel_rfl, ?_⟩) hHeld ?_); (next => (intro w hSw; (try dsimp only at hSw); go_simp)); (try simp only [Act.put, List.setIfInBounds_toArray, List.set_cons_zero, List.set_cons_succ])); ((refine wpAnyH_take (i := 8) (oi := { dst := some 97, op := Op.move (Operand.tmp 10), type := 9, pos := _, after := _, guard := some (4, false) }) (v := .string X) rfl (by kernel_rfl) (by kernel_rfl) (by kernel_rfl) (fun _ _ _ h => h) (Or.inl ⟨by kernel_rfl, ?_⟩) hHeld ?_); (next => (intro w hSw; (try dsimp only at hSw); go_simp)); (try simp only [Act.put, List.setIfInBounds_toArray, List.set_cons_zero, List.set_cons_succ])); ((refine wpAnyH_take (i := 9) (oi := { dst := some 98, op := Op.move (Operand.tmp 11), type := 3, pos := _, after := _, guard := some (4, false) }) (v := .int .i64 K) rfl (by kernel_rfl) (by kernel_rfl) (by kernel_rfl) (fun _ _ _ h => h) (Or.inl ⟨by kernel_rfl, ?_⟩) hHeld ?_); (next => (intro w hSw; (try dsimp only at hSw); go_simp)); (try simp only [Act.put, List.setIfInBounds_toArray, List.set_cons_zero, List.set_cons_succ])); ((refine wpAnyH_take (i := 10) (oi := { dst := some 99, op := Op.binOp BinOp.add 3 (Operand.tmp 98) (Operand.const (.int .i64 2)) 3, type := 3, pos := _, after := _, guard := some (4, false) }) (v := .int .i64 (K + 2)) rfl (by kernel_rfl) (by kernel_rfl) (by kernel_rfl) (fun _ _ _ h => h) (Or.inl ⟨by kernel_rfl, ?_⟩) hHeld ?_); (next => (intro w hSw; (try dsimp only at hSw); go_simp)); (try simp only [Act.put, List.setIfInBounds_toArray, List.set_cons_zero, List.set_cons_succ])); ((refine wpAnyH_take (i := 11) (oi := { dst := some 100, op := Op.slice 9 (Operand.tmp 97) (some (Operand.tmp 99)) none none, type := 9, pos := _, after := _, guard := some (4, false) }) (v := .string (ofL V1)) rfl (by kernel_rfl) (by kernel_rfl) (by kernel_rfl) (fun _ _ _ h => h) (Or.inl ⟨by kernel_rfl, ?_⟩) hHeld ?_); (next => (intro w hSw; (try dsimp only at hSw); go_simp)); (try simp only [Act.put, List.setIfInBounds_toArray, List.set_cons_zero, List.set_cons_succ])); ((refine wpAnyH_take (i := 12) (oi := { dst := some 101, op := Op.build 30 #[(0, Operand.tmp 96), (1, Operand.tmp 100)], type := 30, pos := _, after := _, guard := some (4, false) }) (v := .agg #[.string (ofL N1), .string (ofL V1)]) rfl (by kernel_rfl) (by kernel_rfl) (by kernel_rfl) (fun _ _ _ h => h) (Or.inl ⟨by kernel_rfl, ?_⟩) hHeld ?_); (next => (intro w hSw; (try dsimp only at hSw); go_simp)); (try simp only [Act.put, List.setIfInBounds_toArray, List.set_cons_zero, List.set_cons_succ])); ((refine wpAnyH_ready (rs := [13]) (by kernel_rfl) (by simp) (AllReadyH.cons (o := { dst := some 102, op := Op.call { callee := Callee.value (Operand.func 25), args := #[Operand.tmp 101], argTypes := #[30] }, type := 4, pos := _, after := _, guard := some (4, false) }) rfl (fun K hK => ?_) AllReadyH.nil)); go_simp; (refine (HPL.out _).mono ?_); (rintro e w5 ⟨rfl, hb5⟩); (try go_wp2_with fail); (refine hK.out _ _ ?_ (fun hHeld => ?_)); (next => exact keepB hHeld hb5); (clear hK K); (try simp only [Act.put, List.setIfInBounds_toArray, List.set_cons_zero, List.set_cons_succ])); ((refine wpAnyH_take (i := 14) (oi := { dst := some 103, op := Op.unOp UnOp.not 4 (Operand.tmp 102), type := 4, pos := _, after := _, guard := some (4, false) }) (v := .bool true) rfl (by kernel_rfl) (by kernel_rfl) (by kernel_rfl) (fun _ _ _ h => h) (Or.inl ⟨by kernel_rfl, ?_⟩) hHeld ?_); (next => (intro w hSw; (try dsimp only at hSw); go_simp)); (try simp only [Act.put, List.setIfInBounds_toArray, List.set_cons_zero, List.set_cons_succ])); ((refine wpAnyH_take (i := 15) (oi := { dst := some 104, op := Op.pick (Operand.tmp 93) (Operand.const (.bool true)) (Operand.tmp 103), type := 4, pos := _, after := _, guard := none }) (v := .bool true) rfl (by kernel_rfl) (by kernel_rfl) (by kernel_rfl) (fun _ _ _ h => h) (Or.inl ⟨by kernel_rfl, ?_⟩) hHeld ?_); (next => (intro w hSw; (try dsimp only at hSw); go_simp)); (try simp only [Act.put, List.setIfInBounds_toArray, List.set_cons_zero, List.set_cons_succ]))
                  (refine wpAnyH_done (by kernel_rfl) ?_ _)
                  have hac2 := HA2R.out.below hHeld
                  have hac5 := Ha.out.below hHeld
                  have HA2 := Lib.hid hac2
                  have HKX := Lib.hid (bl_next HKR.out hHeld)
                  ((have d0 := hac5.c0); (have d1 := hac5.c1); (have d2 := hac5.c2); (have e0 := hac5.fz 0); (have e1 := hac5.fz 1); (have e2 := hac5.fz 2); (have c0 := hac2.c0); (have c1 := hac2.c1); (have c2 := hac2.c2); (have f0 := hac2.fz 0); (have f1 := hac2.fz 1); (have f2 := hac2.fz 2))
                  clear hac2 hac5
                  ((go_wp2_with fail); (have hx := ((HA2.out.set0 st).set1 (.slice A4 hq.length n4)).set2 (.slice none 0 0)); (have hbx := bl_back HKX.out (Nat.le_refl _) (.int .i64 st) (.slice A4 hq.length n4) (.slice none 0 0)); (have hc0 := hx.c0); (have hc1 := hx.c1); (have hc2 := hx.c2); (exact bodyPost_ret (v := .tuple #[.agg #[.int .i64 st, .slice A4 hq.length n4, .slice none 0 0], .int .i64 0, .bool false]) (by simp [results, Tryz.results33, go_sem, hc0, hc1, hc2]) rfl ⟨headOk_none HX.out _ _ _ _ _, hbx⟩))
                | true =>
                  have HFX := Lib.hid (HFS.out _ (HYE3.out HBW.out))
                  (refine wp_region_held_drew (S := fun w' => Below wr.heap.size wr w') (by kernel_rfl) kb (fun hHeld => ?_))
                  ((refine wpAnyH_take (i := 0) (oi := { dst := some 89, op := Op.move (Operand.tmp 11), type := 3, pos := _, after := _, guard := none }) (v := .int .i64 K) rfl (by kernel_rfl) (by kernel_rfl) (by kernel_rfl) (fun _ _ _ h => h) (Or.inl ⟨by kernel_rfl, ?_⟩) hHeld ?_); (next => (intro w hSw; (try dsimp only at hSw); go_simp)); (try simp only [Act.put, List.setIfInBounds_toArray, List.set_cons_zero, List.set_cons_succ])); ((refine wpAnyH_take (i := 1) (oi := { dst := some 90, op := Op.move (Operand.tmp 10), type := 9, pos := _, after := _, guard := none }) (v := .string X) rfl (by kernel_rfl) (by kernel_rfl) (by kernel_rfl) (fun _ _ _ h => h) (Or.inl ⟨by kernel_rfl, ?_⟩) hHeld ?_); (next => (intro w hSw; (try dsimp only at hSw); go_simp)); (try simp only [Act.put, List.setIfInBounds_toArray, List.set_cons_zero, List.set_cons_succ])); ((refine wpAnyH_take (i := 2) (oi := { dst := some 91, op := Op.call { callee := Callee.builtin Builtin.len, args := #[Operand.tmp 90], argTypes := #[9] }, type := 3, pos := _, after := _, guard := none }) (v := .int .i64 X.size) rfl (by kernel_rfl) (by kernel_rfl) (by kernel_rfl) (fun _ _ _ h => h) (Or.inl ⟨by kernel_rfl, ?_⟩) hHeld ?_); (next => (intro w hSw; (try dsimp only at hSw); go_simp)); (try simp only [Act.put, List.setIfInBounds_toArray, List.set_cons_zero, List.set_cons_succ])); ((refine wpAnyH_take (i := 3) (oi := { dst := some 92, op := Op.binOp BinOp.eql 3 (Operand.tmp 89) (Operand.tmp 91) 3, type := 4, pos := _, after := _, guard := none }) (v := .bool false) rfl (by kernel_rfl) (by kernel_rfl) (by kernel_rfl) (fun _ _ _ h => h) (Or.inl ⟨by kernel_rfl, ?_⟩) hHeld ?_); (next => (intro w hSw; (try dsimp only at hSw); go_simp)); (try simp only [Act.put, List.setIfInBounds_toArray, List.set_cons_zero, List.set_cons_succ])); ((refine wpAnyH_take (i := 4) (oi := { dst := some 93, op := Op.move (Operand.tmp 92), type := 4, pos := _, after := _, guard := none }) (v := .bool false) rfl (by kernel_rfl) (by kernel_rfl) (by kernel_rfl) (fun _ _ _ h => h) (Or.inl ⟨by kernel_rfl, ?_⟩) hHeld ?_); (next => (intro w hSw; (try dsimp only at hSw); go_simp)); (try simp only [Act.put, List.setIfInBounds_toArray, List.set_cons_zero, List.set_cons_succ])); ((refine wpAnyH_take (i := 5) (oi := { dst := some 94, op := Op.move (Operand.tmp 10), type := 9, pos := _, after := _, guard := some (4, false) }) (v := .string X) rfl (by kernel_rfl) (by kernel_rfl) (by kernel_rfl) (fun _ _ _ h => h) (Or.inl ⟨by kernel_rfl, ?_⟩) hHeld ?_); (next => (intro w hSw; (try dsimp only at hSw); go_simp)); (try simp only [Act.put, List.setIfInBounds_toArray, List.set_cons_zero, List.set_cons_succ])); ((refine wpAnyH_take (i := 6) (oi := { dst := some 95, op := Op.move (Operand.tmp 11), type := 3, pos := _, after := _, guard := some (4, false) }) (v := .int .i64 K) rfl (by kernel_rfl) (by kernel_rfl) (by kernel_rfl) (fun _ _ _ h => h) (Or.inl ⟨by kernel_rfl, ?_⟩) hHeld ?_); (next => (intro w hSw; (try dsimp only at hSw); go_simp)); (try simp only [Act.put, List.setIfInBounds_toArray, List.set_cons_zero, List.set_cons_succ])); ((refine wpAnyH_take (i := 7) (oi := { dst := some 96, op := Op.slice 9 (Operand.tmp 94) none (some (Operand.tmp 95)) none, type := 9, pos := _, after := _, guard := some (4, false) }) (v := .string (ofL N1)) rfl (by kernel_rfl) (by kernel_rfl) (by kernel_rfl) (fun _ _ _ h => h) (Or.inl ⟨by kernel_rfl, ?_⟩) hHeld ?_); (next => (intro w hSw; (try dsimp only at hSw); go_simp)); (try simp only [Act.put, List.setIfInBounds_toArray, List.set_cons_zero, List.set_cons_succ])); ((refine wpAnyH_take (i := 8) (oi := { dst := some 97, op := Op.move (Operand.tmp 10), type := 9, pos := _, after := _, guard := some (4, false) }) (v := .string X) rfl (by kernel_rfl) (by kernel_rfl) (by kernel_rfl) (fun _ _ _ h => h) (Or.inl ⟨by kernel_rfl, ?_⟩) hHeld ?_); (next => (intro w hSw; (try dsimp only at hSw); go_simp)); (try simp only [Act.put, List.setIfInBounds_toArray, List.set_cons_zero, List.set_cons_succ])); ((refine wpAnyH_take (i := 9) (oi := { dst := some 98, op := Op.move (Operand.tmp 11), type := 3, pos := _, after := _, guard := some (4, false) }) (v := .int .i64 K) rfl (by kernel_rfl) (by kernel_rfl) (by kernel_rfl) (fun _ _ _ h => h) (Or.inl ⟨by kernel_rfl, ?_⟩) hHeld ?_); (next => (intro w hSw; (try dsimp only at hSw); go_simp)); (try simp only [Act.put, List.setIfInBounds_toArray, List.set_cons_zero, List.set_cons_succ])); ((refine wpAnyH_take (i := 10) (oi := { dst := some 99, op := Op.binOp BinOp.add 3 (Operand.tmp 98) (Operand.const (.int .i64 2)) 3, type := 3, pos := _, after := _, guard := some (4, false) }) (v := .int .i64 (K + 2)) rfl (by kernel_rfl) (by kernel_rfl) (by kernel_rfl) (fun _ _ _ h => h) (Or.inl ⟨by kernel_rfl, ?_⟩) hHeld ?_); (next => (intro w hSw; (try dsimp only at hSw); go_simp)); (try simp only [Act.put, List.setIfInBounds_toArray, List.set_cons_zero, List.set_cons_succ])); ((refine wpAnyH_take (i := 11) (oi := { dst := some 100, op := Op.slice 9 (Operand.tmp 97) (some (Operand.tmp 99)) none none, type := 9, pos := _, after := _, guard := some (4, false) }) (v := .string (ofL V1)) rfl (by kernel_rfl) (by kernel_rfl) (by kernel_rfl) (fun _ _ _ h => h) (Or.inl ⟨by kernel_rfl, ?_⟩) hHeld ?_); (next => (intro w hSw; (try dsimp only at hSw); go_simp)); (try simp only [Act.put, List.setIfInBounds_toArray, List.set_cons_zero, List.set_cons_succ])); ((refine wpAnyH_take (i := 12) (oi := { dst := some 101, op := Op.build 30 #[(0, Operand.tmp 96), (1, Operand.tmp 100)], type := 30, pos := _, after := _, guard := some (4, false) }) (v := .agg #[.string (ofL N1), .string (ofL V1)]) rfl (by kernel_rfl) (by kernel_rfl) (by kernel_rfl) (fun _ _ _ h => h) (Or.inl ⟨by kernel_rfl, ?_⟩) hHeld ?_); (next => (intro w hSw; (try dsimp only at hSw); go_simp)); (try simp only [Act.put, List.setIfInBounds_toArray, List.set_cons_zero, List.set_cons_succ])); ((refine wpAnyH_ready (rs := [13]) (by kernel_rfl) (by simp) (AllReadyH.cons (o := { dst := some 102, op := Op.call { callee := Callee.value (Operand.func 25), args := #[Operand.tmp 101], argTypes := #[30] }, type := 4, pos := _, after := _, guard := some (4, false) }) rfl (fun K hK => ?_) AllReadyH.nil)); go_simp; (refine (HPL.out _).mono ?_); (rintro e w5 ⟨rfl, hb5⟩); (try go_wp2_with fail); (refine hK.out _ _ ?_ (fun hHeld => ?_)); (next => exact keepB hHeld hb5); (clear hK K); (try simp only [Act.put, List.setIfInBounds_toArray, List.set_cons_zero, List.set_cons_succ])); ((refine wpAnyH_take (i := 14) (oi := { dst := some 103, op := Op.unOp UnOp.not 4 (Operand.tmp 102), type := 4, pos := _, after := _, guard := some (4, false) }) (v := .bool false) rfl (by kernel_rfl) (by kernel_rfl) (by kernel_rfl) (fun _ _ _ h => h) (Or.inl ⟨by kernel_rfl, ?_⟩) hHeld ?_); (next => (intro w hSw; (try dsimp only at hSw); go_simp)); (try simp only [Act.put, List.setIfInBounds_toArray, List.set_cons_zero, List.set_cons_succ])); ((refine wpAnyH_take (i := 15) (oi := { dst := some 104, op := Op.pick (Operand.tmp 93) (Operand.const (.bool true)) (Operand.tmp 103), type := 4, pos := _, after := _, guard := none }) (v := .bool false) rfl (by kernel_rfl) (by kernel_rfl) (by kernel_rfl) (fun _ _ _ h => h) (Or.inl ⟨by kernel_rfl, ?_⟩) hHeld ?_); (next => (intro w hSw; (try dsimp only at hSw); go_simp)); (try simp only [Act.put, List.setIfInBounds_toArray, List.set_cons_zero, List.set_cons_succ]))
                  (refine wpAnyH_done (by kernel_rfl) ?_ _)
                  have hac2 := HA2R.out.below hHeld
                  have hac5 := Ha.out.below hHeld
                  have HB5 := Lib.hid hHeld
                  have HAC5 := Lib.hid hac5
                  have d1 := hac5.c1
                  have e1 := hac5.fz 1
                  clear hac2
                  (try go_wp2_with fail)
                  have hgl9 : w.heap.size + 1 < wc.heap.size := hgl5
                  replace hac5 := HAC5.out.below (below_drewN w5.heap.size w5 1)
                  have HAD := Lib.hid hac5
                  have k1d : w5.drew.cell? ⟨w.heap.size + 1, 1, none⟩ = some (.slice A4 hq.length n4) := hac5.c1
                  have ho9 := own_below Ho.out (Below.next hHeld (below_drewN w5.heap.size w5 1))
                  have HO9 := Lib.hid ho9
                  have hws : wc.heap.size ≤ w5.drew.heap.size := Nat.le_trans Ht.out.size (show Below _ _ _ from hHeld).size
                  have k1a := keeps_alloc d1 (.cells #[.string (ofL N1), .string (ofL V1)] 30)
                  clear ho9 hac5
                  go_region_law (first | (refine step_push (by rfl) _ _ _ (by rfl) wc.heap.size rowH _ _ _ (by rfl) HO9.out [.string (ofL N1), .string (ofL V1)] _ (by rfl) (by simp) rfl (oneCell_pair _ _) (by omega) hws ?_; intro v10 w10 hown10 hg10 hb10 hne10; obtain ⟨A10, c10, rfl⟩ := (rd_of_own hown10).shape; have hac10 := AC.under HAD.out hb10 hgl9; have f10 := hac10.fz 1; have j10 := hac10.c1))
                  all_goals
                    go_wp2_with fail
                  all_goals
                    have e1' : hq.length + 1 = (hq ++ [(N1, V1)]).length := by simp
                    have e2' : pairs hq ++ [.string (ofL N1), .string (ofL V1)] = pairs (hq ++ [(N1, V1)]) := (pairs_snoc hq (N1, V1)).symm
                    have hown11 : w10.ownsRow wc.heap.size 30 2 (.slice A10 (hq.length + 1) c10) (hq ++ [(N1, V1)]).length (pairs (hq ++ [(N1, V1)])) := by rw [← e1', ← e2']; exact hown10
                    have HT9 := Ht.out.next (Below.next HB5.out (below_drewN w5.heap.size w5 1))
                    have HAC10 := hac10.set1 (.slice A10 (hq.length + 1) c10)
                    have HT10 := (touch_under HT9 hb10).setCell (p := ⟨w.heap.size + 1, 1, none⟩) rfl (.slice A10 (hq.length + 1) c10)
                    have HO10 := ownsRow_setCell_below hown11 (a := ⟨w.heap.size + 1, 1, none⟩) hgl9 (.slice A10 (hq.length + 1) c10)
                    exact ⟨⟨k + 1, .slice A10 (hq.length + 1) c10, hq ++ [(N1, V1)], by omega, by go_num, HFX.out, HAC10, HO10, HT10⟩, by simp [intOf]; omega⟩
            · have hke : L0.length ≤ k := by omega
              have HX := Lib.hid (show headR (F :: L) = some (st, hq, N) by have := Hf.out; rw [List.take_of_length_le hke] at this; rw [HBD0.out, this]; rfl)
              have hac5 := Ha.out
              have hac2 := HA2R.out
              ((have d0 := hac5.c0); (have d1 := hac5.c1); (have d2 := hac5.c2); (have e0 := hac5.fz 0); (have e1 := hac5.fz 1); (have e2 := hac5.fz 2); (have c0 := hac2.c0); (have c1 := hac2.c1); (have c2 := hac2.c2); (have f0 := hac2.fz 0); (have f1 := hac2.fz 1); (have f2 := hac2.fz 2))
              clear hac5 hac2
              go_wp2_with fail
              have hx := ((HA2R.out.set0 st).set1 (.slice A4 hq.length n4)).set2 (.slice none 0 0)
              have hbx := bl_back HKR.out (Nat.le_refl _) (.int .i64 st) (.slice A4 hq.length n4) (.slice none 0 0)
              have hc0 := hx.c0
              have hc1 := hx.c1
              have hc2 := hx.c2
              refine bodyPost_ret (v := .tuple #[.agg #[.int .i64 st, .slice A4 hq.length n4, .slice none 0 0], .int .i64 N, .bool true]) (by simp [results, Tryz.results33, go_sem, hc0, hc1, hc2]) rfl ⟨?_, hbx⟩
              rw [HX.out]
              refine ⟨_, rfl, ?_⟩
              exact own_rebase (own_touch Ho.out (touch_back w.heap.size wr (.int .i64 st) (.slice A4 hq.length n4) (.slice none 0 0)) (fun k hk e => by
                have e' : k = w.heap.size := e
                have := ((show wr.ownsRow _ _ _ _ _ _ from Ho.out).lt k hk).1
                omega)) (fun k hk => by
                have := ((show wr.ownsRow _ _ _ _ _ _ from Ho.out).lt k hk).1
                omega)
end Go.Proofs.YtgdelmkgdfhdpaaGreatDoor
