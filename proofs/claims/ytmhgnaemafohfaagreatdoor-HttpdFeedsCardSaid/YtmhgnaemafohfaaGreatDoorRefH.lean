/- The reference's Parse (blotterref08): the request with which bytes begin. Conditions: the bytes are few. -/
import Derived.Test.YtmhgnaemafohfaaGreatDoorRefG
namespace Go.Proofs.YtmhgnaemafohfaaGreatDoor
open Go.RowKit
set_option linter.unusedVariables false
set_option linter.unusedSimpArgs false
set_option maxRecDepth 100000

/-- A request; none. -/
structure Req where
  m : B
  p : B
  h : List (B × B)
  b : B
def noReq : Req := ⟨[], [], [], []⟩
def crL : B := [13, 10, 13, 10]
/-- What stands behind the head's first line. -/
def parse3 (m t : B) (h : List (B × B)) (n : Nat) (p : B × Nat × Nat) : Req × Nat × Nat :=
  if p.2.2 ≠ 0 then (noReq, 0, p.2.2) else (⟨m, t, h, p.1⟩, n + 4 + p.2.1, 0)
def parse2 (n : Nat) (ls : List B) (rest : B) : Req × Nat × Nat :=
  if (lineL (ls.headD [])).2.2 ≠ 0 then (noReq, 0, (lineL (ls.headD [])).2.2)
  else if (fieldsL 0 ls.tail).2 ≠ 0 then (noReq, 0, (fieldsL 0 ls.tail).2)
  else parse3 (lineL (ls.headD [])).1 (lineL (ls.headD [])).2.1 (fieldsL 0 ls.tail).1 n (bodyL (fieldsL 0 ls.tail).1 rest)
def hasCR (x : B) : Bool := memB 13 x || memB 10 x
def refParse (l : B) : Req × Nat × Nat :=
  if 8192 < whereL crL l ∧ (whereL crL l < l.length ∨ 8196 ≤ whereL crL l) then (noReq, 0, 431)
  else if whereL crL l = l.length then (noReq, 0, 1)
  else if (cutL (l.take (whereL crL l))).any hasCR then (noReq, 0, 400)
  else parse2 (whereL crL l) (cutL (l.take (whereL crL l))) (l.drop (whereL crL l + 4))

/-- A request as a value. -/
def ReqV (w : World) (r : Req) (v : Value) : Prop :=
  ∃ hv bv, v = .agg #[.string (ofL r.m), .string (ofL r.p), hv, bv] ∧ Rd w 2 hv r.h.length (pairs r.h) ∧ Rd w 1 bv r.b.length (bytesV r.b)
def ParsedIs (x : Req × Nat × Nat) (e : Ending) (w : World) : Prop :=
  ∃ v, e = .returned (.tuple #[v, .int .i64 x.2.1, .int .i64 x.2.2]) ∧ ReqV w x.1 v
def zReq : Value := .agg #[.string ⟨#[]⟩, .string ⟨#[]⟩, .slice none 0 0, .slice none 0 0]
theorem rd_nil (w : World) (size : Nat) : Rd w size (.slice none 0 0) 0 [] := ⟨by simp, none, 0, rfl, Nat.le_refl _, by decide, fun _ => rfl, fun a ha => by cases ha⟩
theorem reqV_none (w : World) : ReqV w noReq zReq := ⟨_, _, rfl, rd_nil _ _, rd_nil _ _⟩
theorem parsed_none {x : Req × Nat × Nat} {n : Nat} (h : x = (noReq, 0, n)) (w : World) : ParsedIs x (.returned (.tuple #[.agg #[.string ⟨#[]⟩, .string ⟨#[]⟩, .slice none 0 0, .slice none 0 0], .int .i64 0, .int .i64 n])) w := by
  subst h; exact ⟨_, rfl, reqV_none w⟩
theorem conv_rd {P : Program} {w : World} {v : Value} {l : B} (src dst e : TypeId) (hs : P.underlying src = some (.slice e)) (he : P.underlying e = some (.int .u8)) (hd : P.underlying dst = some .string) (hR : Rd w 1 v l.length (bytesV l)) :
    (convert src dst v).run P w = .ok (.string (ofL l)) w := by
  obtain ⟨h1, A, c, rfl, h3, h4, h5, h6⟩ := hR
  cases A with
  | none =>
    have h0 := h5 rfl
    have hl := List.eq_nil_of_length_eq_zero h0
    subst hl
    rw [run_convert_bytes_string w src dst e none _ c hs he hd]
    rfl
  | some a =>
    obtain ⟨hsp, hc⟩ := h6 a rfl
    refine run_convert_bytes_back w src dst e a c l hs he hd fun j hj => ?_
    have := hc j _ (bytesV_at (List.getElem?_eq_getElem hj))
    have ha : a.add j = ⟨a.block, a.off + j, none⟩ := by
      unfold Addr.add; split
      · rename_i h; subst h; cases a; simp at hsp; subst hsp; rfl
      · rfl
    rw [ha]; exact this
theorem where4_any (s : ByteArray) (hs : s.size ≤ maxLen) (w : World) :
    Calls Tryz.prog 42 #[.string ⟨#[13, 10, 13, 10]⟩, .string s] w fun e w' => e = .returned (.int .i64 (whereL crL s.toList)) ∧ w = w' := by
  have h := where_any s ⟨#[13, 10, 13, 10]⟩ hs w
  rwa [show (⟨#[13, 10, 13, 10]⟩ : ByteArray).toList = crL from ByteArray.toList_mk [13, 10, 13, 10]] at h
/-- The result's own cells, as yet empty. -/
def Z0 (w : World) (b : Nat) : Prop :=
  (w.cell? ⟨b, 0, none⟩ = some (.string ⟨#[]⟩) ∧ w.cell? ⟨b, 1, none⟩ = some (.string ⟨#[]⟩) ∧ w.cell? ⟨b, 2, none⟩ = some (.slice none 0 0) ∧ w.cell? ⟨b, 3, none⟩ = some (.slice none 0 0)) ∧
  w.frozen? ⟨b, 0, none⟩ = false ∧ w.frozen? ⟨b, 1, none⟩ = false ∧ w.frozen? ⟨b, 2, none⟩ = false ∧ w.frozen? ⟨b, 3, none⟩ = false
theorem frozen_keeps {w w' : World} (hb : Below w.heap.size w w') {b o : Nat} (hl : b < w.heap.size) (h : w.frozen? ⟨b, o, none⟩ = false) : w'.frozen? ⟨b, o, none⟩ = false := by
  rw [hb.frozen (p := ⟨b, o, none⟩) hl]; exact h
theorem Z0.next {w w' : World} {b : Nat} (h : Z0 w b) (hb : Below w.heap.size w w') : Z0 w' b := by
  obtain ⟨⟨h0, h1, h2, h3⟩, f0, f1, f2, f3⟩ := h
  have hl := lt_of_cell h0
  exact ⟨⟨Below.keeps hb h0, Below.keeps hb h1, Below.keeps hb h2, Below.keeps hb h3⟩, frozen_keeps hb hl f0, frozen_keeps hb hl f1, frozen_keeps hb hl f2, frozen_keeps hb hl f3⟩
theorem z0_alloc (w : World) : Z0 (w.alloc (.cells #[.string ⟨#[]⟩, .string ⟨#[]⟩, .slice none 0 0, .slice none 0 0] 27)) w.heap.size := by
  unfold Z0; simp only [World.cell?_alloc_mark, World.frozen?_alloc_mark]; simp
theorem cutL_ne (s : B) : cutL s ≠ [] := by rw [cutL]; split <;> simp
theorem cutL_len : ∀ s : B, (cutL s).length ≤ s.length + 1 := by
  intro s
  induction h : s.length using Nat.strongRecOn generalizing s with
  | _ n ih =>
    rw [cutL]; split
    · rename_i hw
      have := ih (s.drop (whereL [13, 10] s + 2)).length (by rw [List.length_drop]; omega) _ rfl
      rw [List.length_cons]; rw [List.length_drop] at this; omega
    · simp
theorem cutL_mem : ∀ s : B, ∀ x ∈ cutL s, x.length ≤ s.length := by
  intro s
  induction h : s.length using Nat.strongRecOn generalizing s with
  | _ n ih =>
    intro x hx
    rw [cutL] at hx; split at hx
    · rename_i hw
      rcases List.mem_cons.1 hx with rfl | hx
      · rw [List.length_take]; omega
      · have := ih (s.drop (whereL [13, 10] s + 2)).length (by rw [List.length_drop]; omega) _ rfl x hx
        rw [List.length_drop] at this; omega
    · simp at hx; subst hx; omega
theorem of13 (s : ByteArray) (hs : s.size ≤ maxLen) (w : World) :
    Calls Tryz.prog 44 #[.int .u8 13, .string s] w fun e w' => e = .returned (.bool (memB 13 s.toList)) ∧ Below w.heap.size w w' := of_any 13 s hs w
theorem of10 (s : ByteArray) (hs : s.size ≤ maxLen) (w : World) :
    Calls Tryz.prog 44 #[.int .u8 10, .string s] w fun e w' => e = .returned (.bool (memB 10 s.toList)) ∧ Below w.heap.size w w' := of_any 10 s hs w
theorem below_set4 {B : Nat} {a w : World} (h : Below B a w) (v0 v1 v2 v3 : Value) : Below B a ((((w.setCell ⟨B, 0, none⟩ v0).setCell ⟨B, 1, none⟩ v1).setCell ⟨B, 2, none⟩ v2).setCell ⟨B, 3, none⟩ v3) :=
  (((h.setCell (p := ⟨B, 0, none⟩) (Nat.le_refl _) v0).setCell (p := ⟨B, 1, none⟩) (Nat.le_refl _) v1).setCell (p := ⟨B, 2, none⟩) (Nat.le_refl _) v2).setCell (p := ⟨B, 3, none⟩) (Nat.le_refl _) v3
theorem own_set4 {w : World} {base B : Nat} {e : TypeId} {size : Nat} {v : Value} {n : Nat} {xs : List Value} (h : w.ownsRow base e size v n xs) (hB : B < base) (v0 v1 v2 v3 : Value) :
    ((((w.setCell ⟨B, 0, none⟩ v0).setCell ⟨B, 1, none⟩ v1).setCell ⟨B, 2, none⟩ v2).setCell ⟨B, 3, none⟩ v3).ownsRow base e size v n xs :=
  ownsRow_setCell_below (ownsRow_setCell_below (ownsRow_setCell_below (ownsRow_setCell_below h (a := ⟨B, 0, none⟩) hB v0) (a := ⟨B, 1, none⟩) hB v1) (a := ⟨B, 2, none⟩) hB v2) (a := ⟨B, 3, none⟩) hB v3
theorem cell_set_other {w : World} {a : Addr} {u : Value} {b o : Nat} (h : ¬ (b = a.block ∧ o = a.off)) : (w.setCell a u).cell? ⟨b, o, none⟩ = w.cell? ⟨b, o, none⟩ := by
  by_cases hb : b = a.block
  · subst hb
    have ho : o ≠ a.off := fun e => h ⟨rfl, e⟩
    simp only [World.cell?, World.setCell, Array.getElem?_modify, if_true]
    cases hx : w.heap[a.block]? with
    | none => rfl
    | some x =>
      cases x <;> simp
      split
      · rfl
      · rw [Array.getElem?_setIfInBounds_ne (by omega)]
  · rw [World.cell?_of_block (w := w) (Below.heap_setCell w a u b (by simpa using hb))]
/-- A store into a cell that held no byte changes no bytes that are read. -/
theorem rd_set {w : World} {v : Value} {l : B} {a : Addr} {old u : Value} (h : Rd w 1 v l.length (bytesV l)) (ha : w.cell? ⟨a.block, a.off, none⟩ = some old) (ho : ∀ c : UInt8, old ≠ .int .u8 c.toNat) :
    Rd (w.setCell a u) 1 v l.length (bytesV l) := by
  obtain ⟨h1, A, c, h2, h3, h4, h5, h6⟩ := h
  refine ⟨h1, A, c, h2, h3, h4, h5, fun x hx => ⟨(h6 x hx).1, fun j y hj => ?_⟩⟩
  have hc := (h6 x hx).2 j y hj
  rw [cell_set_other ?_]
  · exact hc
  · rintro ⟨e1, e2⟩
    rw [e1, e2, ha] at hc
    have hm := List.mem_of_getElem? hj
    unfold bytesV at hm
    obtain ⟨d, _, rfl⟩ := List.mem_map.1 hm
    exact ho d (Option.some.inj hc)
theorem rd_set4 {w : World} {v : Value} {l : B} {B : Nat} (h : Rd w 1 v l.length (bytesV l))
    (hz : w.cell? ⟨B, 0, none⟩ = some (.string ⟨#[]⟩) ∧ w.cell? ⟨B, 1, none⟩ = some (.string ⟨#[]⟩) ∧ w.cell? ⟨B, 2, none⟩ = some (.slice none 0 0) ∧ w.cell? ⟨B, 3, none⟩ = some (.slice none 0 0)) (v0 v1 v2 v3 : Value) :
    Rd ((((w.setCell ⟨B, 0, none⟩ v0).setCell ⟨B, 1, none⟩ v1).setCell ⟨B, 2, none⟩ v2).setCell ⟨B, 3, none⟩ v3) 1 v l.length (bytesV l) := by
  obtain ⟨h0, h1, h2, h3⟩ := hz
  have q : ∀ (w : World) (i j : Nat) (u : Value), i ≠ j → (w.setCell ⟨B, i, none⟩ u).cell? ⟨B, j, none⟩ = w.cell? ⟨B, j, none⟩ := fun w i j u hij => cell_set_other (fun e => hij e.2.symm)
  refine rd_set (rd_set (rd_set (rd_set h h0 (fun c => by simp)) (old := .string ⟨#[]⟩) ?_ (fun c => by simp)) (old := .slice none 0 0) ?_ (fun c => by simp)) (old := .slice none 0 0) ?_ (fun c => by simp)
  · rw [q _ _ _ _ (by simp)]; exact h1
  · rw [q _ _ _ _ (by simp), q _ _ _ _ (by simp)]; exact h2
  · rw [q _ _ _ _ (by simp), q _ _ _ _ (by simp), q _ _ _ _ (by simp)]; exact h3
theorem chunkL_le : ∀ (n : Nat) (acc : B) (p : Nat) (l : B), l.length = n → (chunkL acc p l).2.1 ≤ p + l.length := by
  intro n
  induction n using Nat.strongRecOn with
  | _ n ih =>
    intro acc p l hl
    rw [chunkL]
    split; · simp
    split; · simp
    split; · simp
    split; · simp
    split; · simp
    rename_i h5
    split; · simp
    rename_i h6
    have h0 : endsL (l.drop (digitsN l + 2 + hexF (l.take (digitsN l)))) = 0 := by omega
    have he := ends0 h0
    rw [List.length_drop] at he
    split
    · show p + (digitsN l + 4) ≤ p + l.length
      omega
    split; · simp
    have := ih (l.drop (digitsN l + 4 + hexF (l.take (digitsN l)))).length (by rw [List.length_drop]; omega) (acc ++ (l.drop (digitsN l + 2)).take (hexF (l.take (digitsN l)))) (p + (digitsN l + 4 + hexF (l.take (digitsN l)))) _ rfl
    rw [List.length_drop] at this
    omega
theorem bodyL_le (h : List (B × B)) (s : B) : (bodyL h s).2.1 ≤ s.length := by
  unfold bodyL
  split; · simp
  split; · simp
  split
  · have := chunkL_le _ [] 0 s rfl; omega
  · unfold plainL
    generalize (if (valuesL h clL).length = 1 then numL ((valuesL h clL).getD 0 []) else 0) = m
    split; · simp
    split; · simp
    split; · simp
    rename_i h1 h2 h3
    show m.toNat ≤ s.length
    omega
theorem rd_tail {w : World} {b o n c : Nat} {x : B} {l : List B} (h : Rd w 1 (.slice (some ⟨b, o, none⟩) n c) (x :: l).length (strs (x :: l))) :
    Rd w 1 (.slice (if c = 1 then some ⟨b, o, none⟩ else some ⟨b, o + 1, none⟩) l.length (c - 1)) l.length (strs l) := by
  obtain ⟨h1, A, c', h2, h3, h4, h5, h6⟩ := h
  simp only [Value.slice.injEq] at h2
  obtain ⟨rfl, rfl, rfl⟩ := h2
  refine ⟨by rw [strs_len]; omega, _, _, rfl, by simp at h3; omega, by omega, (fun h => by split at h <;> cases h), fun a ha => ?_⟩
  by_cases hc : c = 1
  · rw [if_pos hc] at ha
    cases ha
    have hl : l = [] := List.eq_nil_of_length_eq_zero (by simp at h3; omega)
    subst hl
    exact ⟨rfl, fun j u hj => by simp [strs] at hj⟩
  · rw [if_neg hc] at ha
    cases ha
    refine ⟨rfl, fun j u hj => ?_⟩
    have := (h6 _ rfl).2 (j + 1) u (by simpa [strs] using hj)
    have he : o + 1 + j = o + (j + 1) := by omega
    rw [he]; exact this
theorem fieldsL_len : ∀ (i : Nat) (l : List B), (fieldsL i l).1.length ≤ 32 - i
  | _, [] => by simp [fieldsL]
  | i, s :: l => by
    have ih := fieldsL_len (i + 1) l
    unfold fieldsL; split
    · simp
    · split
      · simp
      · unfold fin; split <;> simp; omega
theorem fieldsL_val : ∀ (i : Nat) (l : List B) (n : Nat), (∀ y ∈ l, y.length ≤ n) → ∀ x ∈ (fieldsL i l).1, x.2.length ≤ n
  | _, [], _, _ => by simp [fieldsL]
  | i, s :: l, n, hl => by
    have ih := fieldsL_val (i + 1) l n (fun y hy => hl y (List.mem_cons_of_mem _ hy))
    unfold fieldsL; split
    · simp
    · split
      · simp
      · unfold fin; split
        · intro x hx
          simp only [List.singleton_append, List.mem_cons] at hx
          rcases hx with rfl | hx
          · show (trimL _).length ≤ n
            refine Nat.le_trans (trimL_le _) ?_
            have := hl s (by simp); rw [List.length_drop]; omega
          · exact ih x hx
        · simp
set_option maxHeartbeats 4000000 in
theorem refParse_any (l : B) (v : Value) (w : World) (hR : Rd w 1 v l.length (bytesV l)) (hn : l.length ≤ 524288) :
    Calls Tryz.prog 15 #[v] w fun e w' => ParsedIs (refParse l) e w' ∧ Below w.heap.size w w' := by
  have kc := fun o => conv_rd (P := Tryz.prog) 22 9 5 Tryz.underlying22 Tryz.underlying5 Tryz.underlying9 (hR.alloc o)
  have hSl := size_ofL l
  have HS := Lib.hid (toL_ofL l)
  have hw := whereL_le crL l
  generalize ofL l = S at kc hSl HS
  have hSm : S.size ≤ maxLen := by unfold maxLen; omega
  have HSl := Lib.hid hSl
  have Hw : Hid (whereL crL S.toList = whereL crL l) := by show _ = _; rw [HS.out]
  generalize hN : whereL crL l = n at hw Hw
  have HN := Lib.hid hN
  have hnS : n ≤ S.size := by omega
  have hS1 : S.size ≤ 1048576 := by omega
  clear hN hSl
  go_enter Tryz.func15, Tryz.ntmps15
  by_cases h1 : 8192 < n ∧ (n < S.size ∨ 8196 ≤ n)
  case pos =>
    have Hf := Lib.hid (show refParse l = (noReq, 0, 431) by unfold refParse; rw [HN.out, if_pos (by rw [← HSl.out]; exact h1)])
    obtain ⟨h1a, h1b⟩ := h1
    by_cases h1c : n < S.size
    all_goals
      go_wp2_with (first | (go_at_call 42; refine (where4_any S hSm _).mono ?_; rintro e w4 ⟨rfl, rfl⟩; rw [Hw.out]))
      refine bodyPost_ret (v := .tuple #[.agg #[.string ⟨#[]⟩, .string ⟨#[]⟩, .slice none 0 0, .slice none 0 0], .int .i64 0, .int .i64 431]) (by simp [results, Tryz.results15, go_sem]) rfl ⟨parsed_none Hf.out _, (Below.refl _ _).alloc (Nat.le_refl _) _⟩
  by_cases h2 : n = S.size
  case pos =>
    have Hf := Lib.hid (show refParse l = (noReq, 0, 1) by unfold refParse; rw [HN.out, if_neg (by rw [← HSl.out]; exact h1), if_pos (by rw [← HSl.out]; exact h2)])
    by_cases h3 : 8192 < n
    · have h4 : n < 8196 := by omega
      have h5 : ¬ n < S.size := by omega
      have h6 : ((n : Int) == S.size) = true := by simp; omega
      clear h1 h2
      go_wp2_with (first | (go_at_call 42; refine (where4_any S hSm _).mono ?_; rintro e w4 ⟨rfl, rfl⟩; rw [Hw.out]))
      refine bodyPost_ret (v := .tuple #[.agg #[.string ⟨#[]⟩, .string ⟨#[]⟩, .slice none 0 0, .slice none 0 0], .int .i64 0, .int .i64 1]) (by simp [results, Tryz.results15, go_sem]) rfl ⟨parsed_none Hf.out _, (Below.refl _ _).alloc (Nat.le_refl _) _⟩
    · have h6 : ((n : Int) == S.size) = true := by simp; omega
      clear h1 h2
      go_wp2_with (first | (go_at_call 42; refine (where4_any S hSm _).mono ?_; rintro e w4 ⟨rfl, rfl⟩; rw [Hw.out]))
      refine bodyPost_ret (v := .tuple #[.agg #[.string ⟨#[]⟩, .string ⟨#[]⟩, .slice none 0 0, .slice none 0 0], .int .i64 0, .int .i64 1]) (by simp [results, Tryz.results15, go_sem]) rfl ⟨parsed_none Hf.out _, (Below.refl _ _).alloc (Nat.le_refl _) _⟩
  have h3 : n < S.size := by omega
  have h4 : n ≤ 8192 := by omega
  have h6 : ((n : Int) == S.size) = false := by simp; omega
  have hroom := whereL_room (t := crL) (s := l) (by rw [HN.out, ← HSl.out]; exact h3)
  rw [HN.out] at hroom
  have hr4 : n + 4 ≤ S.size := by rw [HSl.out]; exact hroom
  have Hf := Lib.hid (show refParse l = if (cutL (l.take n)).any hasCR then (noReq, 0, 400) else parse2 n (cutL (l.take n)) (l.drop (n + 4)) by
    unfold refParse; rw [HN.out, if_neg (by rw [← HSl.out]; exact h1), if_neg (by rw [← HSl.out]; exact h2)])
  have Hto := Lib.hid (show (S.extract 0 n).toList = l.take n by rw [toL_to, HS.out])
  have Hfr := Lib.hid (show (S.extract (n + 4) S.size).toList = l.drop (n + 4) by rw [toL_from, HS.out])
  have hzo : (S.extract 0 n).size ≤ 1048576 := by rw [ByteArray.size_extract]; omega
  have hlx := cutL_mem (l.take n)
  have hln := cutL_len (l.take n)
  rw [List.length_take] at hlx hln
  generalize hls : cutL (l.take n) = ls at Hf hlx hln
  have Hls := Lib.hid hls
  have hne := cutL_ne (l.take n)
  rw [hls] at hne
  clear h1 h2 hroom hls
  go_wp2_with (first | (go_at_call 42; refine (where4_any S hSm _).mono ?_; rintro e w4 ⟨rfl, rfl⟩; rw [Hw.out]))
  have hcut := cut_any (S.extract 0 n) hzo
  rw [Hto.out, Hls.out] at hcut
  refine (hcut _).mono ?_
  clear hcut
  rintro e w4 ⟨v4, rfl, hown, hb4⟩
  have hz := (z0_alloc w).next hb4
  have hb := ((Below.refl w.heap.size w).alloc (Nat.le_refl _) _).trans (hb4.mono (by simp))
  have hR := rd_of_own hown
  clear hown hb4 kc
  obtain ⟨A, c, rfl⟩ := hR.shape
  have HR := Lib.hid hR
  clear hR
  go_wp2
  go_loopw [44] (fun i wr => ∃ k : Nat, k ≤ ls.length ∧ i = .int .i64 k ∧ Hid ((ls.take k).any hasCR = false) ∧ Below w4.heap.size w4 wr) (fun i _ => ls.length - (intOf i).toNat)
  case atStart => exact ⟨0, Nat.zero_le _, rfl, rfl, Below.refl _ _⟩
  case round =>
    obtain ⟨k, hk, rfl, Hany, hr⟩ := hrel
    by_cases hlt : k < ls.length
    · obtain ⟨x, hh⟩ : ∃ x, ls[k]? = some x := ⟨ls[k], List.getElem?_eq_getElem hlt⟩
      have hxl := hlx x (List.mem_of_getElem? hh)
      have hxm : (ofL x).size ≤ maxLen := by rw [size_ofL]; unfold maxLen; omega
      have Hd := Lib.hid (take_snoc' hh)
      obtain ⟨b, o, rfl, hc⟩ := (HR.out.below hr).strAt hh
      have Hm := Lib.hid (List.mem_of_getElem? hh)
      clear hh hxl
      cases h13 : memB 13 x
      all_goals
        have H13 := Lib.hid h13
        cases h10 : memB 10 x
      all_goals
        have H10 := Lib.hid h10
        clear h13 h10
        go_wp2_with (first | (go_at_call 44; (with_reducible refine (of13 (ofL x) hxm _).mono ?_); rintro e w5 ⟨rfl, hb5⟩; replace hr := hr.next hb5; clear hb5; (try clear hc0 hc1 hc2 hc3 f0 f1 f2 f3); obtain ⟨⟨hc0, hc1, hc2, hc3⟩, f0, f1, f2, f3⟩ := hz.next hr; rw [toL_ofL, H13.out]) | (go_at_call 44; (with_reducible refine (of10 (ofL x) hxm _).mono ?_); rintro e w5 ⟨rfl, hb5⟩; replace hr := hr.next hb5; clear hb5; (try clear hc0 hc1 hc2 hc3 f0 f1 f2 f3); obtain ⟨⟨hc0, hc1, hc2, hc3⟩, f0, f1, f2, f3⟩ := hz.next hr; rw [toL_ofL, H10.out]))
      · go_roundw
        case rel => exact ⟨k + 1, by omega, by go_num, by show _ = _; rw [Hd.out, List.any_append, Hany.out]; simp [hasCR, H13.out, H10.out], hr⟩
        case measure => simp [intOf]; omega
      all_goals
        have Hg := Lib.hid (show refParse l = (noReq, 0, 400) by rw [Hf.out, if_pos (List.any_eq_true.2 ⟨x, Hm.out, by simp [hasCR, H13.out, H10.out]⟩)])
        refine bodyPost_ret (v := .tuple #[.agg #[.string ⟨#[]⟩, .string ⟨#[]⟩, .slice none 0 0, .slice none 0 0], .int .i64 0, .int .i64 400]) (by simp [results, Tryz.results15, go_sem, hc0, hc1, hc2, hc3]) rfl ⟨parsed_none Hg.out _, below_set4 (hb.trans (hr.mono hb.size)) _ _ _ _⟩
    · have hke : k = ls.length := by omega
      obtain ⟨x0, tl, rfl⟩ : ∃ x0 tl, ls = x0 :: tl := by cases ls with | nil => exact absurd rfl hne | cons a t => exact ⟨a, t, rfl⟩
      have Hg := Lib.hid (show refParse l = parse2 n (x0 :: tl) (l.drop (n + 4)) by
        have ha := Hany.out
        rw [hke, List.take_length] at ha
        rw [Hf.out, if_neg (by rw [ha]; simp)])
      have hx0 := hlx x0 (by simp)
      have hxm : (ofL x0).size ≤ 1048576 := by rw [size_ofL]; omega
      obtain ⟨b, o, rfl, hc⟩ := (HR.out.below hr).strAt (k := 0) (s := x0) rfl
      rw [Nat.add_zero] at hc
      have hlen : (x0 :: tl).length = tl.length + 1 := rfl
      clear hke hx0
      have hline := line_any (ofL x0) hxm
      rw [toL_ofL] at hline
      by_cases hst : (lineL x0).2.2 = 0
      case neg =>
        have Hst := Lib.hid hst
        have hst1 : (((lineL x0).2.2 : Int) != 0) = true := by simp; omega
        have Hh := Lib.hid (show refParse l = (noReq, 0, (lineL x0).2.2) by rw [Hg.out]; unfold parse2; rw [List.headD_cons, if_pos hst])
        clear hst
        go_wp2_with (first | (go_at_call 45; refine (hline _).mono ?_; rintro e w5 ⟨hli, hb5⟩; replace hr := hr.next hb5; clear hb5; (try clear hc0 hc1 hc2 hc3 f0 f1 f2 f3); obtain ⟨⟨hc0, hc1, hc2, hc3⟩, f0, f1, f2, f3⟩ := hz.next hr; unfold LineIs at hli; subst hli))
        refine bodyPost_ret (v := .tuple #[.agg #[.string ⟨#[]⟩, .string ⟨#[]⟩, .slice none 0 0, .slice none 0 0], .int .i64 0, .int .i64 (lineL x0).2.2]) (by simp [results, Tryz.results15, go_sem, hc0, hc1, hc2, hc3]) rfl ⟨parsed_none Hh.out _, below_set4 (hb.trans (hr.mono hb.size)) _ _ _ _⟩
      have Hst := Lib.hid hst
      have Hi := Lib.hid (show refParse l = if (fieldsL 0 tl).2 ≠ 0 then (noReq, 0, (fieldsL 0 tl).2) else parse3 (lineL x0).1 (lineL x0).2.1 (fieldsL 0 tl).1 n (bodyL (fieldsL 0 tl).1 (l.drop (n + 4))) by
        rw [Hg.out]; unfold parse2; rw [List.headD_cons, if_neg (by rw [hst]; simp), List.tail_cons])
      clear hst
      by_cases hcc : c = 1
      · have Hcc := Lib.hid hcc
        clear hcc
        go_wp2_with (first | (go_at_call 45; refine (hline _).mono ?_; rintro e w5 ⟨hli, hb5⟩; replace hr := hr.next hb5; clear hb5; (try clear hc0 hc1 hc2 hc3 f0 f1 f2 f3); obtain ⟨⟨hc0, hc1, hc2, hc3⟩, f0, f1, f2, f3⟩ := hz.next hr; unfold LineIs at hli; rw [Hst.out] at hli; subst hli))
        have ht : Rd w5 1 (.slice (some ⟨b, o, none⟩) tl.length 0) tl.length (strs tl) := by
          have := rd_tail (HR.out.below hr); rw [if_pos Hcc.out, Hcc.out] at this; exact this
        refine (fields_any tl _ _ ht (by simp only [hlen] at hln; omega) (fun x hx => Nat.le_trans (hlx x (List.mem_cons_of_mem _ hx)) (by omega))).mono ?_
        rintro e w6 ⟨hfi, hb6⟩
        obtain ⟨hv, rfl, hown⟩ := hfi
        have hr' := hr.next hb6
        have hbase : w.heap.size < w5.heap.size := Nat.lt_of_lt_of_le (lt_of_cell hz.1.1) hr.size
        clear hr hc0 hc1 hc2 hc3 f0 f1 f2 f3 hb6
        have hr := hr'
        clear hr'
        obtain ⟨⟨hc0, hc1, hc2, hc3⟩, f0, f1, f2, f3⟩ := hz.next hr
        by_cases hfs : (fieldsL 0 tl).2 = 0
        case neg =>
          have Hh := Lib.hid (show refParse l = (noReq, 0, (fieldsL 0 tl).2) by rw [Hi.out, if_pos hfs])
          have hfs1 : (((fieldsL 0 tl).2 : Int) != 0) = true := by simp; omega
          clear hfs
          go_wp2_with fail
          refine bodyPost_ret (v := .tuple #[.agg #[.string ⟨#[]⟩, .string ⟨#[]⟩, .slice none 0 0, .slice none 0 0], .int .i64 0, .int .i64 (fieldsL 0 tl).2]) (by simp [results, Tryz.results15, go_sem, hc0, hc1, hc2, hc3]) rfl ⟨parsed_none Hh.out _, below_set4 (hb.trans (hr.mono hb.size)) _ _ _ _⟩
        have Hj := Lib.hid (show refParse l = parse3 (lineL x0).1 (lineL x0).2.1 (fieldsL 0 tl).1 n (bodyL (fieldsL 0 tl).1 (l.drop (n + 4))) by rw [Hi.out, if_neg (by rw [hfs]; simp)])
        rw [hfs]
        have hbody := body_any (fieldsL 0 tl).1 hv (S.extract (n + 4) S.size) w6 (rd_of_own hown) (Nat.le_trans (fieldsL_len 0 tl) (by decide)) (fun x hx => Nat.le_trans (fieldsL_val 0 tl _ (fun y hy => hlx y (List.mem_cons_of_mem _ hy)) x hx) (by omega)) (size_from hS1)
        rw [Hfr.out] at hbody
        clear hfs
        generalize (fieldsL 0 tl).1 = hs at hown Hj hbody
        go_wp2_with fail
        refine hbody.mono ?_
        rintro e w7 ⟨hbo, hb7⟩
        obtain ⟨bv, rfl, hbv⟩ := hbo
        have hr' := hr.next hb7
        have hown := own_below hown hb7
        clear hr hc0 hc1 hc2 hc3 f0 f1 f2 f3 hb7 hbody
        have hr := hr'
        clear hr'
        obtain ⟨⟨hc0, hc1, hc2, hc3⟩, f0, f1, f2, f3⟩ := hz.next hr
        have hPl := bodyL_le hs (l.drop (n + 4))
        rw [List.length_drop] at hPl
        generalize hP : bodyL hs (l.drop (n + 4)) = P at Hj hbv hPl ⊢
        by_cases hps : P.2.2 = 0
        case neg =>
          have Hh := Lib.hid (show refParse l = (noReq, 0, P.2.2) by rw [Hj.out]; unfold parse3; rw [if_pos hps])
          have hps1 : ((P.2.2 : Int) != 0) = true := by simp; omega
          clear hps
          go_wp2_with fail
          refine bodyPost_ret (v := .tuple #[.agg #[.string ⟨#[]⟩, .string ⟨#[]⟩, .slice none 0 0, .slice none 0 0], .int .i64 0, .int .i64 P.2.2]) (by simp [results, Tryz.results15, go_sem, hc0, hc1, hc2, hc3]) rfl ⟨parsed_none Hh.out _, below_set4 (hb.trans (hr.mono hb.size)) _ _ _ _⟩
        have Hk := Lib.hid (show refParse l = (⟨(lineL x0).1, (lineL x0).2.1, hs, P.1⟩, n + 4 + P.2.1, 0) by rw [Hj.out]; unfold parse3; rw [if_neg (by rw [hps]; simp)])
        rw [hps]
        clear hps
        obtain ⟨hA, hc', rfl⟩ := (rd_of_own hown).shape
        obtain ⟨bA, bc', rfl⟩ := hbv.shape
        go_wp2_with fail
        refine bodyPost_ret (v := .tuple #[.agg #[.string (ofL (lineL x0).1), .string (ofL (lineL x0).2.1), .slice hA hs.length hc', .slice bA P.1.length bc'], .int .i64 (n + 4 + P.2.1), .int .i64 0]) (by simp [results, Tryz.results15, go_sem, hc0, hc1, hc2, hc3]) rfl ⟨?_, below_set4 (hb.trans (hr.mono hb.size)) _ _ _ _⟩
        unfold ParsedIs
        rw [Hk.out]
        refine ⟨_, rfl, _, _, rfl, rd_of_own (own_set4 hown hbase _ _ _ _), ?_⟩
        exact rd_set4 hbv ⟨hc0, hc1, hc2, hc3⟩ _ _ _ _
      · have Hcc := Lib.hid hcc
        clear hcc
        go_wp2_with (first | (go_at_call 45; refine (hline _).mono ?_; rintro e w5 ⟨hli, hb5⟩; replace hr := hr.next hb5; clear hb5; (try clear hc0 hc1 hc2 hc3 f0 f1 f2 f3); obtain ⟨⟨hc0, hc1, hc2, hc3⟩, f0, f1, f2, f3⟩ := hz.next hr; unfold LineIs at hli; rw [Hst.out] at hli; subst hli))
        have ht : Rd w5 1 (.slice (some ⟨b, o + 1, none⟩) tl.length (c - 1)) tl.length (strs tl) := by
          have := rd_tail (HR.out.below hr); rw [if_neg Hcc.out] at this; exact this
        refine (fields_any tl _ _ ht (by simp only [hlen] at hln; omega) (fun x hx => Nat.le_trans (hlx x (List.mem_cons_of_mem _ hx)) (by omega))).mono ?_
        rintro e w6 ⟨hfi, hb6⟩
        obtain ⟨hv, rfl, hown⟩ := hfi
        have hr' := hr.next hb6
        have hbase : w.heap.size < w5.heap.size := Nat.lt_of_lt_of_le (lt_of_cell hz.1.1) hr.size
        clear hr hc0 hc1 hc2 hc3 f0 f1 f2 f3 hb6
        have hr := hr'
        clear hr'
        obtain ⟨⟨hc0, hc1, hc2, hc3⟩, f0, f1, f2, f3⟩ := hz.next hr
        by_cases hfs : (fieldsL 0 tl).2 = 0
        case neg =>
          have Hh := Lib.hid (show refParse l = (noReq, 0, (fieldsL 0 tl).2) by rw [Hi.out, if_pos hfs])
          have hfs1 : (((fieldsL 0 tl).2 : Int) != 0) = true := by simp; omega
          clear hfs
          go_wp2_with fail
          refine bodyPost_ret (v := .tuple #[.agg #[.string ⟨#[]⟩, .string ⟨#[]⟩, .slice none 0 0, .slice none 0 0], .int .i64 0, .int .i64 (fieldsL 0 tl).2]) (by simp [results, Tryz.results15, go_sem, hc0, hc1, hc2, hc3]) rfl ⟨parsed_none Hh.out _, below_set4 (hb.trans (hr.mono hb.size)) _ _ _ _⟩
        have Hj := Lib.hid (show refParse l = parse3 (lineL x0).1 (lineL x0).2.1 (fieldsL 0 tl).1 n (bodyL (fieldsL 0 tl).1 (l.drop (n + 4))) by rw [Hi.out, if_neg (by rw [hfs]; simp)])
        rw [hfs]
        have hbody := body_any (fieldsL 0 tl).1 hv (S.extract (n + 4) S.size) w6 (rd_of_own hown) (Nat.le_trans (fieldsL_len 0 tl) (by decide)) (fun x hx => Nat.le_trans (fieldsL_val 0 tl _ (fun y hy => hlx y (List.mem_cons_of_mem _ hy)) x hx) (by omega)) (size_from hS1)
        rw [Hfr.out] at hbody
        clear hfs
        generalize (fieldsL 0 tl).1 = hs at hown Hj hbody
        go_wp2_with fail
        refine hbody.mono ?_
        rintro e w7 ⟨hbo, hb7⟩
        obtain ⟨bv, rfl, hbv⟩ := hbo
        have hr' := hr.next hb7
        have hown := own_below hown hb7
        clear hr hc0 hc1 hc2 hc3 f0 f1 f2 f3 hb7 hbody
        have hr := hr'
        clear hr'
        obtain ⟨⟨hc0, hc1, hc2, hc3⟩, f0, f1, f2, f3⟩ := hz.next hr
        have hPl := bodyL_le hs (l.drop (n + 4))
        rw [List.length_drop] at hPl
        generalize hP : bodyL hs (l.drop (n + 4)) = P at Hj hbv hPl ⊢
        by_cases hps : P.2.2 = 0
        case neg =>
          have Hh := Lib.hid (show refParse l = (noReq, 0, P.2.2) by rw [Hj.out]; unfold parse3; rw [if_pos hps])
          have hps1 : ((P.2.2 : Int) != 0) = true := by simp; omega
          clear hps
          go_wp2_with fail
          refine bodyPost_ret (v := .tuple #[.agg #[.string ⟨#[]⟩, .string ⟨#[]⟩, .slice none 0 0, .slice none 0 0], .int .i64 0, .int .i64 P.2.2]) (by simp [results, Tryz.results15, go_sem, hc0, hc1, hc2, hc3]) rfl ⟨parsed_none Hh.out _, below_set4 (hb.trans (hr.mono hb.size)) _ _ _ _⟩
        have Hk := Lib.hid (show refParse l = (⟨(lineL x0).1, (lineL x0).2.1, hs, P.1⟩, n + 4 + P.2.1, 0) by rw [Hj.out]; unfold parse3; rw [if_neg (by rw [hps]; simp)])
        rw [hps]
        clear hps
        obtain ⟨hA, hc', rfl⟩ := (rd_of_own hown).shape
        obtain ⟨bA, bc', rfl⟩ := hbv.shape
        go_wp2_with fail
        refine bodyPost_ret (v := .tuple #[.agg #[.string (ofL (lineL x0).1), .string (ofL (lineL x0).2.1), .slice hA hs.length hc', .slice bA P.1.length bc'], .int .i64 (n + 4 + P.2.1), .int .i64 0]) (by simp [results, Tryz.results15, go_sem, hc0, hc1, hc2, hc3]) rfl ⟨?_, below_set4 (hb.trans (hr.mono hb.size)) _ _ _ _⟩
        unfold ParsedIs
        rw [Hk.out]
        refine ⟨_, rfl, _, _, rfl, rd_of_own (own_set4 hown hbase _ _ _ _), ?_⟩
        exact rd_set4 hbv ⟨hc0, hc1, hc2, hc3⟩ _ _ _ _
end Go.Proofs.YtmhgnaemafohfaaGreatDoor
