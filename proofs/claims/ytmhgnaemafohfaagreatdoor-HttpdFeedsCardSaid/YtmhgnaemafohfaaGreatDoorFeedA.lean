/- The reference's parser (blotterref08): Feed, Next; the program's Rest. Conditions: what waits is no longer than 65536 bytes. -/
import Derived.Test.YtmhgnaemafohfaaGreatDoorParsC
import Derived.Test.YtmhgnaemafohfaaGreatDoorPrintA
namespace Go.Proofs.YtmhgnaemafohfaaGreatDoor
open Go.RowKit
set_option linter.unusedVariables false
set_option linter.unusedSimpArgs false
set_option maxRecDepth 100000

/-- The reference's parser: its cells. -/
def XP (w : World) (bx : Nat) (Wv : Value) (st : Int) : Prop := w.heap[bx]? = some (.cells #[Wv, .int .i64 st] 64 (0, 0))
theorem XP.c0 {w : World} {bx : Nat} {Wv : Value} {st : Int} (h : XP w bx Wv st) : w.cell? ⟨bx, 0, none⟩ = some Wv := by rw [Lib.cell_of_heap h]; rfl
theorem XP.c1 {w : World} {bx : Nat} {Wv : Value} {st : Int} (h : XP w bx Wv st) : w.cell? ⟨bx, 1, none⟩ = some (.int .i64 st) := by rw [Lib.cell_of_heap h]; rfl
theorem XP.fz {w : World} {bx : Nat} {Wv : Value} {st : Int} (h : XP w bx Wv st) (i : Nat) : w.frozen? ⟨bx, i, none⟩ = false := Lib.frozen_of_heap h i
theorem XP.lt {w : World} {bx : Nat} {Wv : Value} {st : Int} (h : XP w bx Wv st) : bx < w.heap.size := (Array.getElem?_eq_some_iff.1 h).1
theorem XP.touch {G : Nat → Prop} {w w' : World} {bx : Nat} {Wv : Value} {st : Int} (h : XP w bx Wv st) (ht : Touch G w w') (hf : ¬ G bx) : XP w' bx Wv st := by unfold XP; rw [ht.block bx h.lt hf]; exact h
theorem XP.below {w w' : World} {bx : Nat} {Wv : Value} {st : Int} (h : XP w bx Wv st) (hb : Below w.heap.size w w') : XP w' bx Wv st := h.touch (.of_below (F := fun _ => False) hb) id
theorem XP.set0 {w : World} {bx : Nat} {Wv : Value} {st : Int} (h : XP w bx Wv st) (u : Value) : XP (w.setCell ⟨bx, 0, none⟩ u) bx u st := heap_set_own h 0 _
theorem XP.set1 {w : World} {bx : Nat} {Wv : Value} {st : Int} (h : XP w bx Wv st) (u : Int) : XP (w.setCell ⟨bx, 1, none⟩ (.int .i64 u)) bx Wv u := heap_set_own h 1 _
/-- Where a slice lies. -/
def NB (v : Value) (Q : Nat → Prop) : Prop := ∀ a n c, v = .slice (some a) n c → Q a.block
theorem nb_own {v : Value} {Q : Nat → Prop} (h : ∀ k, v.ownBlock = some k → Q k) (hv : ∀ a n c, v = .slice (some a) n c → v.ownBlock = some a.block) : NB v Q := fun a n c e => h _ (hv a n c e)
theorem ownBlock_slice {w : World} {base : Nat} {e : TypeId} {size : Nat} {v : Value} {n : Nat} {xs : List Value} (h : w.ownsRow base e size v n xs) : ∀ a n c, v = .slice (some a) n c → v.ownBlock = some a.block := by
  rintro a m c rfl
  rfl

/-- Bytes that lie in a cell; with none of them, whatever the address. -/
def PartS (w : World) (v : Value) (l : B) : Prop := Part w (v, l) ∨ ∃ a c, v = .slice (some a) 0 c ∧ l = []
theorem PartS.shape {w : World} {v : Value} {l : B} (h : PartS w v l) : ∃ A c, v = .slice A l.length c := by
  rcases h with h | ⟨a, c, rfl, rfl⟩
  · obtain ⟨A, c, hv⟩ := h.1.shape
    exact ⟨A, c, hv⟩
  · exact ⟨_, _, rfl⟩
theorem PartS.below {w w' : World} {v : Value} {l : B} (h : PartS w v l) (hb : Below w.heap.size w w') : PartS w' v l := h.imp (fun h => h.below hb) id
set_option maxHeartbeats 4000000 in
theorem clone_s (l : B) (v : Value) (w : World) (hS : PartS w v l) (hl : l.length ≤ 140737488351232) :
    Calls Tryz.prog 13 #[v] w fun e w' => ∃ v', e = .returned v' ∧ w'.ownsRow w.heap.size 5 1 v' l.length (bytesV l) ∧ Below w.heap.size w w' := by
  rcases hS with h | ⟨a, c, rfl, rfl⟩
  · exact clone_any l v w h.1 hl
  · have q22 : ∀ (w : World) (a : Option Addr) (n c n' c' : Nat), (binOp .eql 22 (.slice a n c) (.slice none n' c')).run Tryz.prog w = .ok (.bool a.isNone) w := fun w a n c n' c' => Lib.run_eql_slice_nil w _ _ a n c n' c' Tryz.underlying22
    obtain ⟨htu, ⟨i0, hi, hz, hsize, hby⟩, hzs, hsz, hbz⟩ := rowB
    go_enter Tryz.func13, Tryz.ntmps13
    go_wp2_with (at_builtin; refine wpList_append_own _ rfl _ _ 22 rfl w.heap.size 5 i0 _ 1 1 htu hi hz hsize hby hzs hsz _ _ _ rfl (World.ownsRow_made w #[] 0 (Nat.le_refl _) (Nat.zero_le _) (by simp)) a 0 c [] rfl (by simp) ?qc2 (fun u hu => by cases hu) ?qc4 ?qc5 ?qc6 ?_)
    case qc2 =>
      intro j u hj
      simp at hj
    case qc4 => unfold maxLen; omega
    case qc5 => omega
    case qc6 => exact ((Below.refl w.heap.size w).alloc (Nat.le_refl _) _).size
    intro v' w1 hown hgrow hnil
    go_wp2
    go_ret
    refine ⟨v', rfl, by simpa [bytesV] using hown, ?_⟩
    exact ((Below.refl _ w).alloc (Nat.le_refl _) _).grown hgrow (by simp) (by intro k hk; simp [Value.ownBlock] at hk; omega)
/-- 'append(b, s...)', s bytes that lie somewhere. -/
theorem wpList_catB {P : Program} (w : World) {ops : Array Oper} {rest : List Oper} {o : Oper} {a : Act} {Q : Exit → Act → World → Prop} (hgd : o.guard = none) (sl x : Operand) (t : TypeId)
    (ho : o.op = .call { callee := .builtin .append, args := #[sl, x], argTypes := #[t, t] })
    (base : Nat) (hrow : Row P t 5 (.int .u8 0) 1 1)
    (v : Value) (l : B) (hs : a.eval sl = v) (hown : OwnB w base v l) (sv : Value) (m : B) (hx : a.eval x = sv) (hS : PartS w sv m)
    (hbytes : l.length + m.length ≤ 140737488355328) (hbase : base ≤ w.heap.size)
    (h : ∀ v' w', OwnB w' base v' (l ++ m) → Touch (fun k => v.ownBlock = some k) w w' → Below base w w' → wpList P ops Q rest (a.put o.dst v') w') :
    wpList P ops Q (o :: rest) a w := by
  obtain ⟨ht, ⟨i, hi, hz, hsize, hby⟩, hzs, hsz, hbz⟩ := hrow
  have hown' : w.ownsRow base 5 1 v l.length (bytesV l) := hown
  rcases hS with hS | ⟨a0, c0, rfl, rfl⟩
  rotate_left
  · refine wpList_append_own_at w hgd sl x t ho base 5 i _ 1 1 ht hi hz hsize hby hzs hsz v l.length (bytesV l) hs hown' a0 0 c0 [] hx rfl (fun j u hj => by simp at hj) (fun u hu => by cases hu) (by unfold maxLen; simp at hbytes; omega) (by simp at hbytes ⊢; omega) hbase fun v' w' h2 h3 h4 h5 => ?_
    refine h v' w' ?_ ((Touch.refl _ w).grown h3 (fun k hk => hk)) ((Below.refl base w).grown h3 hbase fun k hk => (hown'.lt k hk).1)
    rw [List.append_nil]
    show w'.ownsRow _ _ _ _ _ _
    simpa using h2
  rcases own_part hS.1 hS.2 with ⟨h1, h2⟩ | ⟨b, of, c, h1, hc⟩
  · have h1' : sv = .slice none 0 0 := h1
    have h2' : m = [] := h2
    subst h1' h2'
    refine wpList_append_own_none hgd sl x t ho base 5 i 1 ht hi v l.length (bytesV l) hs hown' hx ?_
    exact h v w (by rw [List.append_nil]; exact hown) (Touch.refl _ _) (Below.refl _ _)
  · have h1' : sv = .slice (some ⟨b, of, none⟩) m.length c := h1
    refine wpList_append_own_at w hgd sl x t ho base 5 i _ 1 1 ht hi hz hsize hby hzs hsz v l.length (bytesV l) hs hown' ⟨b, of, none⟩ m.length c (bytesV m) (hx.trans h1') (by rw [bytesV_len, Nat.mul_one]) ?_ (oneCell_bytes m) (by unfold maxLen; omega) (by omega) hbase fun v' w' h2 h3 h4 h5 => ?_
    · intro j u hj
      rw [show (⟨b, of, none⟩ : Addr).add j = ⟨b, of + j, none⟩ by unfold Addr.add; split <;> simp_all]
      exact hc j u hj
    · refine h v' w' ?_ ((Touch.refl _ w).grown h3 (fun k hk => hk)) ((Below.refl base w).grown h3 hbase fun k hk => (hown'.lt k hk).1)
      show w'.ownsRow _ _ _ _ _ _
      rw [List.length_append, bytesV_append]; exact h2

set_option maxHeartbeats 4000000 in
theorem xfeed_any (bx st : Nat) (wait l : B) (v Wv : Value) (w : World) (h : XP w bx Wv st) (hW : Rd w 1 Wv wait.length (bytesV wait)) (hWn : ∀ n c, Wv = .slice none n c → c = 0) (hN : NB Wv (fun k => k ≠ bx)) (hR : PartS w v l)
    (hwl : wait.length ≤ 65536) (hl : l.length ≤ 1099511627776) :
    Calls Tryz.prog 30 #[.pointer (some ⟨bx, 0, none⟩), v] w fun e w' => e = .returned (.int .i64 (feedE wait l st)) ∧ ∃ Wv', XP w' bx Wv' st ∧ Part w' (Wv', feedW wait l st) ∧ (Wv' = Wv ∨ NB Wv' (fun k => w.heap.size ≤ k ∧ k < w'.heap.size)) ∧ Touch (fun k => k = bx) w w' := by
  obtain ⟨A0, c0, rfl⟩ := hW.shape
  obtain ⟨A, c, hv⟩ := hR.shape
  have k0 := h.c0
  have k1 := h.c1
  have f0 := h.fz 0
  have hlt := h.lt
  have HX := Lib.hid h
  have HW := Lib.hid hW
  have HR := Lib.hid hR
  have HN := Lib.hid hN
  have HWN := Lib.hid hWn
  clear h hN hWn
  by_cases hst : st = 0
  case neg =>
    have hs : ((st : Int) != 0) = true := by simp; omega
    have e1 : feedE wait l st = 31 := by unfold feedE; rw [if_pos hst]
    have e2 : feedW wait l st = wait := by unfold feedW; rw [if_pos hst]
    rw [e1, e2]
    clear hst e1 e2 hW hR
    go_enter Tryz.func30, Tryz.ntmps30
    go_wp2_with fail
    go_ret
    exact ⟨rfl, _, HX.out, ⟨HW.out, HWN.out⟩, .inl rfl, Touch.refl _ _⟩
  subst hst
  by_cases hbig : 65536 < wait.length + l.length
  · have e1 : feedE wait l 0 = 7 := by unfold feedE; rw [if_neg (by simp), if_pos hbig]
    have e2 : feedW wait l 0 = wait := by unfold feedW; rw [if_neg (by simp), if_pos hbig]
    rw [e1, e2]
    subst hv
    have y1 : IntKind.i64.wrap ((wait.length : Int) + (l.length : Int)) = (wait.length : Int) + l.length := IntWalk.i64_in _ (by omega)
    have y2 : (65536 : Int) < (wait.length : Int) + l.length := by omega
    clear e1 e2 hW hR
    go_enter Tryz.func30, Tryz.ntmps30
    go_wp2_with fail
    go_ret
    exact ⟨rfl, _, HX.out, ⟨HW.out, HWN.out⟩, .inl rfl, Touch.refl _ _⟩
  have e1 : feedE wait l 0 = 0 := by unfold feedE; rw [if_neg (by simp), if_neg hbig]
  have e2 : feedW wait l 0 = wait ++ l := by unfold feedW; rw [if_neg (by simp), if_neg hbig]
  rw [e1, e2]
  subst hv
  have y1 : IntKind.i64.wrap ((wait.length : Int) + (l.length : Int)) = (wait.length : Int) + l.length := IntWalk.i64_in _ (by omega)
  have y2 : ¬ (65536 : Int) < (wait.length : Int) + l.length := by omega
  clear e1 e2 hW
  have hm0 : OwnB (w.alloc (.cells #[] 5)) w.heap.size (.slice (some ⟨w.heap.size, 0, none⟩) 0 0) [] := World.ownsRow_made w #[] 0 (Nat.le_refl _) (Nat.zero_le _) (by simp)
  have hb0 := (Below.refl w.heap.size w).alloc (Nat.le_refl _) (.cells #[] 5)
  have hPW := Lib.hid (show Part (w.alloc (.cells #[] 5)) (.slice A0 wait.length c0, wait) from (show Part w (.slice A0 wait.length c0, wait) from ⟨HW.out, HWN.out⟩).below hb0)
  have hPL := Lib.hid (show PartS w (.slice A l.length c) l from HR.out)
  clear hR
  go_enter Tryz.func30, Tryz.ntmps30
  go_wp2_with (at_builtin; refine wpList_catB _ rfl _ _ 22 rfl w.heap.size rowB _ [] rfl hm0 _ wait rfl (.inl hPW.out) (by simp; omega) hb0.size ?_)
  intro v1 w1 ho1 ht1 hb1
  have hr1 := hb0.trans hb1
  go_wp2_with (at_builtin; refine wpList_catB _ rfl _ _ 22 rfl w.heap.size rowB _ wait rfl ho1 _ l rfl (hPL.out.below hr1) (by omega) hr1.size ?_)
  intro v2 w2 ho2 ht2 hb2
  have hr2 := hr1.trans hb2
  have HX2 := Lib.hid (HX.out.below hr2)
  have g0 := HX2.out.c0
  have z0 := HX2.out.fz 0
  have hlt2 := HX2.out.lt
  obtain ⟨A2, c2, rfl⟩ := (rd_of_own (show w2.ownsRow _ _ _ _ _ _ from ho2)).shape
  have HO2 := Lib.hid ho2
  have HR2 := Lib.hid hr2
  generalize hC : wait ++ l = C at *
  have HCe := Lib.hid hC
  clear ho1 ht1 hb1 hr1 ho2 ht2 hb2 hr2 k0 k1 f0 hm0 hC
  go_wp2_with fail
  go_ret
  have hbk : ∀ k, (Value.slice A2 C.length c2).ownBlock = some k → w.heap.size ≤ k ∧ k < (w2.setCell ⟨bx, 0, none⟩ (.slice A2 C.length c2)).heap.size := fun k hk => by
    have h := (show w2.ownsRow _ _ _ _ _ _ from HO2.out).lt k hk
    exact ⟨h.1, by simp [World.setCell]; exact h.2⟩
  have ht3 := (Touch.refl (fun k => k = bx) w2).setCell (p := ⟨bx, 0, none⟩) rfl (.slice A2 C.length c2)
  rw [HCe.out]
  exact ⟨rfl, _, HX2.out.set0 _, Part.own (HO2.out.touch ht3 (fun k hk e => by have := hbk k hk; omega)), .inr (nb_own hbk (ownBlock_slice (show w2.ownsRow _ _ _ _ _ _ from HO2.out))), (Touch.of_below HR2.out).trans (touch_new (Touch.refl _ w2) ht3 (fun j _ h => h))⟩

theorem fields_names : ∀ (l : List B) (i : Nat), ∀ x ∈ (fieldsL i l).1, x.1 ≠ []
  | [], _, x, hx => by cases hx
  | s :: l, i, x, hx => by
    unfold fieldsL at hx
    by_cases h1 : 32 ≤ i
    · rw [if_pos h1] at hx; cases hx
    rw [if_neg h1] at hx
    by_cases h2 : fieldOk s = false
    · rw [if_pos h2] at hx; cases hx
    rw [if_neg h2] at hx
    unfold fin at hx
    split at hx
    · rcases List.mem_append.1 hx with hx | hx
      · simp only [List.mem_singleton] at hx
        subst hx
        have hk : fieldOk s = true := by simpa using h2
        unfold fieldOk at hk
        simp only [Bool.and_eq_true, decide_eq_true_eq] at hk
        intro e
        have hl : (fieldOf s).1.length = (s.take (eatL 4 s)).length := by unfold fieldOf lowL; simp
        rw [e, List.length_take] at hl
        simp only [List.length_nil] at hl
        omega
      · exact fields_names l (i + 1) x hx
    · cases hx
theorem taken_names (l : B) : ∀ x ∈ (progParse l).1.h, x.1 ≠ [] := by
  by_cases h : (progParse l).2.2 = 0
  case neg => intro x hx; rw [(not_law l h).2] at hx; cases hx
  rw [parse_law] at h ⊢
  unfold refParse at h ⊢
  by_cases k1 : 8192 < whereL crL l ∧ (whereL crL l < l.length ∨ 8196 ≤ whereL crL l)
  · rw [if_pos k1] at h; cases h
  rw [if_neg k1] at h ⊢
  by_cases k2 : whereL crL l = l.length
  · rw [if_pos k2] at h; cases h
  rw [if_neg k2] at h ⊢
  by_cases k3 : (cutL (l.take (whereL crL l))).any hasCR = true
  · rw [if_pos k3] at h; cases h
  rw [if_neg k3] at h ⊢
  unfold parse2 parse3 at h ⊢
  split at h
  · rename_i h1; exact absurd h h1
  rename_i h1
  split at h
  · rename_i h2; exact absurd h h2
  rename_i h2
  split at h
  · rename_i h3; exact absurd h h3
  rename_i h3
  rw [if_neg h1, if_neg h2, if_neg h3]
  exact fields_names _ _
/-- A block of a parser's, or of a request's, in which no row of an answer lies. -/
def NoRow (w : World) (b : Nat) : Prop := ∀ o, (∀ n : Int, w.cell? ⟨b, o, none⟩ ≠ some (.int .u8 n)) ∧ ∀ s : ByteArray, s.toList ≠ [] → w.cell? ⟨b, o, none⟩ ≠ some (.string s)
theorem XP.noRow {w : World} {bx : Nat} {A : Option Addr} {n c : Nat} {st : Int} (h : XP w bx (.slice A n c) st) : NoRow w bx := by
  intro o
  have e := Lib.cell_of_heap h o
  match o with
  | 0 => rw [e]; exact ⟨fun n hh => by simp at hh, fun s _ hh => by simp at hh⟩
  | 1 => rw [e]; exact ⟨fun n hh => by simp at hh, fun s _ hh => by simp at hh⟩
  | o + 2 => rw [e]; exact ⟨fun n hh => by simp at hh, fun s _ hh => by simp at hh⟩
theorem RC.noRow {w : World} {b : Nat} (h : RC w b ⟨#[]⟩ ⟨#[]⟩ (.slice none 0 0) (.slice none 0 0)) : NoRow w b := by
  intro o
  have e := h.cell o
  match o with
  | 0 => rw [e]; exact ⟨fun n hh => by simp at hh, fun s hs hh => by simp at hh; subst hh; exact hs (by simp [toL_eq])⟩
  | 1 => rw [e]; exact ⟨fun n hh => by simp at hh, fun s hs hh => by simp at hh; subst hh; exact hs (by simp [toL_eq])⟩
  | 2 => rw [e]; exact ⟨fun n hh => by simp at hh, fun s _ hh => by simp at hh⟩
  | 3 => rw [e]; exact ⟨fun n hh => by simp at hh, fun s _ hh => by simp at hh⟩
  | o + 4 => rw [e]; exact ⟨fun n hh => by simp at hh, fun s _ hh => by simp at hh⟩
theorem rd_zero {w w' : World} {size : Nat} {v : Value} (h : Rd w size v 0 []) : Rd w' size v 0 [] := by
  obtain ⟨h1, A, c, h2, h3, h4, h5, h6⟩ := h
  exact ⟨h1, A, c, h2, h3, h4, h5, fun a ha => ⟨(h6 a ha).1, fun j u hj => by cases hj⟩⟩
/-- A request that was read stays, where only such blocks are written. -/
theorem reqV_touch {w w' : World} {F : Nat → Prop} {r : Req} {v : Value} (h : ReqV w r v) (hn : ∀ x ∈ r.h, x.1 ≠ []) (ht : Touch F w w') (hF : ∀ k, F k → NoRow w k) : ReqV w' r v := by
  obtain ⟨Hv, Bv, rfl, h1, h2⟩ := h
  refine ⟨_, _, rfl, ?_, ?_⟩
  · cases hh : r.h with
    | nil => rw [hh] at h1; exact rd_zero h1
    | cons x t =>
      rw [← hh]
      refine rd_touch h1 ht fun a n c e hFa => ?_
      obtain ⟨_, A, c', e', _, _, _, h6⟩ := h1
      rw [e] at e'
      simp only [Value.slice.injEq] at e'
      obtain ⟨rfl, _, _⟩ := e'
      have hc := (h6 a rfl).2 0 (.string (ofL x.1)) (by rw [hh]; rfl)
      obtain ⟨b, o, q⟩ := a
      have hq := (h6 _ rfl).1
      simp only at hq
      subst hq
      exact (hF b hFa (o + 0)).2 (ofL x.1) (by rw [toL_ofL]; exact hn x (by rw [hh]; exact List.mem_cons_self ..)) hc
  · cases hh : r.b with
    | nil => rw [hh] at h2; exact rd_zero h2
    | cons x t =>
      rw [← hh]
      refine rd_touch h2 ht fun a n c e hFa => ?_
      obtain ⟨_, A, c', e', _, _, _, h6⟩ := h2
      rw [e] at e'
      simp only [Value.slice.injEq] at e'
      obtain ⟨rfl, _, _⟩ := e'
      have hc := (h6 a rfl).2 0 (.int .u8 x.toNat) (by rw [hh]; rfl)
      obtain ⟨b, o, q⟩ := a
      have hq := (h6 _ rfl).1
      simp only at hq
      subst hq
      exact (hF b hFa (o + 0)).1 _ hc

theorem part_from {w : World} {b o c k : Nat} {l : B} (h : Part w (.slice (some ⟨b, o, none⟩) l.length c, l)) (hk : k ≤ l.length) :
    Part w (.slice (some ⟨b, o + k, none⟩) (l.length - k) (c - k), l.drop k) := by
  refine ⟨?_, fun n' c' e => by simp at e⟩
  obtain ⟨_, A, c', h2, h3, h4, h5, h6⟩ := h.1
  cases h2
  have hl : (l.drop k).length = l.length - k := List.length_drop ..
  refine ⟨by rw [bytesV_len]; omega, _, _, by rw [hl], by simp only at h3 ⊢; omega, by omega, (fun h => by cases h), fun a ha => ?_⟩
  cases ha
  refine ⟨rfl, fun j u hj => ?_⟩
  have := (h6 ⟨b, o, none⟩ rfl).2 (k + j) u (by unfold bytesV at hj ⊢; rw [List.getElem?_map] at hj ⊢; rwa [List.getElem?_drop] at hj)
  rw [← Nat.add_assoc] at this; exact this
theorem part_keep {w w' : World} {F : Nat → Prop} {V : Value} {l : B} (h : Part w (V, l)) (ht : Touch F w w') (hn : l = [] ∨ ∀ a n c, V = .slice (some a) n c → ¬ F a.block) : Part w' (V, l) := by
  rcases hn with rfl | hn
  · exact ⟨rd_zero h.1, h.2⟩
  · exact ⟨rd_touch h.1 ht hn, h.2⟩
theorem part_lt {w : World} {b o c : Nat} {l : B} {n : Nat} (h : Part w (.slice (some ⟨b, o, none⟩) n c, l)) : l = [] ∨ b < w.heap.size := by
  cases hw : l with
  | nil => exact .inl rfl
  | cons x t =>
    obtain ⟨_, A, c', he, _, _, _, h6⟩ := h.1
    simp only [Value.slice.injEq] at he
    obtain ⟨rfl, _, _⟩ := he
    exact .inr (lt_of_cell ((h6 _ rfl).2 0 (.int .u8 x.toNat) (by rw [hw]; rfl)))
theorem part_emp (w : World) (b o : Nat) : Part w (.slice (some ⟨b, o, none⟩) 0 0, []) :=
  ⟨⟨rfl, _, _, rfl, Nat.le_refl _, by decide, fun _ => rfl, fun a ha => by cases ha; exact ⟨rfl, fun j u hj => by cases hj⟩⟩, fun n c e => by cases e⟩
def PK (w : World) (V : Value) (l : B) : Prop := l = [] ∨ ∀ a n c, V = .slice (some a) n c → a.block < w.heap.size
theorem slice_cases {w : World} {A0 : Option Addr} {c0 : Nat} {wait : B} (h : Part w (.slice A0 wait.length c0, wait)) (n : Nat) (hn : n ≤ wait.length) :
    (A0 = none ∧ wait = [] ∧ c0 = 0 ∧ n = 0) ∨ (∃ b o, A0 = some ⟨b, o, none⟩ ∧ wait.length ≤ c0 ∧ c0 = n) ∨ ∃ b o, A0 = some ⟨b, o, none⟩ ∧ wait.length ≤ c0 ∧ c0 ≠ n := by
  obtain ⟨_, A, c, he, h3, h4, h5, h6⟩ := h.1
  simp only [Value.slice.injEq] at he
  obtain ⟨rfl, _, rfl⟩ := he
  cases A0 with
  | none =>
    have h0 := h5 rfl
    have hc := h.2 _ _ rfl
    have hw : wait = [] := List.eq_nil_of_length_eq_zero h0
    exact .inl ⟨rfl, hw, hc, by rw [hw] at hn; simpa using hn⟩
  | some a =>
    obtain ⟨hsp, _⟩ := h6 a rfl
    obtain ⟨b, o, q⟩ := a
    simp only at hsp
    subst hsp
    by_cases hc : c0 = n
    · exact .inr (.inl ⟨b, o, rfl, h3, hc⟩)
    · exact .inr (.inr ⟨b, o, rfl, h3, hc⟩)

/-- The world behind the answer's box and the cut of what waits. -/
theorem xw6 {w4 : World} {bx br : Nat} {A0 : Option Addr} {k0 c0 : Nat} {st : Int} {r : Req} {A4 B4 : Option Addr} {n4 d4 : Nat} (V : Value) {l : B}
    (hX : XP w4 bx (.slice A0 k0 c0) st) (hZ : RC w4 br ⟨#[]⟩ ⟨#[]⟩ (.slice none 0 0) (.slice none 0 0)) (hne : bx ≠ br) (hQ : ReqV w4 r (.agg #[.string (ofL r.m), .string (ofL r.p), .slice A4 r.h.length n4, .slice B4 r.b.length d4])) (hn : ∀ x ∈ r.h, x.1 ≠ [])
    (hV : Part w4 (V, l)) (hN : NB V (fun k => k ≠ bx)) :
    XP ((w4.setCell ⟨bx, 0, none⟩ V).alloc (.cells #[.string (ofL r.m), .string (ofL r.p), .slice A4 r.h.length n4, .slice B4 r.b.length d4] 27)) bx V st ∧
    RC ((w4.setCell ⟨bx, 0, none⟩ V).alloc (.cells #[.string (ofL r.m), .string (ofL r.p), .slice A4 r.h.length n4, .slice B4 r.b.length d4] 27)) w4.heap.size (ofL r.m) (ofL r.p) (.slice A4 r.h.length n4) (.slice B4 r.b.length d4) ∧
    RC ((w4.setCell ⟨bx, 0, none⟩ V).alloc (.cells #[.string (ofL r.m), .string (ofL r.p), .slice A4 r.h.length n4, .slice B4 r.b.length d4] 27)) br ⟨#[]⟩ ⟨#[]⟩ (.slice none 0 0) (.slice none 0 0) ∧
    ReqV ((w4.setCell ⟨bx, 0, none⟩ V).alloc (.cells #[.string (ofL r.m), .string (ofL r.p), .slice A4 r.h.length n4, .slice B4 r.b.length d4] 27)) r (.agg #[.string (ofL r.m), .string (ofL r.p), .slice A4 r.h.length n4, .slice B4 r.b.length d4]) ∧
    Part ((w4.setCell ⟨bx, 0, none⟩ V).alloc (.cells #[.string (ofL r.m), .string (ofL r.p), .slice A4 r.h.length n4, .slice B4 r.b.length d4] 27)) (V, l) ∧
    Touch (fun k => k = bx) w4 ((w4.setCell ⟨bx, 0, none⟩ V).alloc (.cells #[.string (ofL r.m), .string (ofL r.p), .slice A4 r.h.length n4, .slice B4 r.b.length d4] 27)) := by
  have ht := (Touch.refl (fun k => k = bx) w4).setCell (p := ⟨bx, 0, none⟩) rfl V
  have hb := (Below.refl (w4.setCell ⟨bx, 0, none⟩ V).heap.size (w4.setCell ⟨bx, 0, none⟩ V)).alloc (Nat.le_refl _) (.cells #[.string (ofL r.m), .string (ofL r.p), .slice A4 r.h.length n4, .slice B4 r.b.length d4] 27)
  have hsz : (w4.setCell ⟨bx, 0, none⟩ V).heap.size = w4.heap.size := by simp [World.setCell]
  have hnew := heap_alloc_new (w4.setCell ⟨bx, 0, none⟩ V) (.cells #[.string (ofL r.m), .string (ofL r.p), .slice A4 r.h.length n4, .slice B4 r.b.length d4] 27)
  refine ⟨(hX.set0 V).below hb, ?_, (hZ.touch ht (fun e => hne e.symm)).below hb, reqV_below (reqV_touch hQ hn ht (fun k hk => hk ▸ hX.noRow)) hb, ⟨(rd_touch hV.1 ht (fun a n c e h => hN a n c e h)).below hb, hV.2⟩, ht.next hb⟩
  show _ = _
  rw [← hsz]
  exact hnew

/-- What the reference's Next leaves. -/
def XNext (w : World) (bx : Nat) (Wv : Value) (S : Nat) (R : Req) (T : Nat) (l : B) (e : Ending) (w' : World) : Prop :=
  ∃ v Wv', e = .returned (.tuple #[v, .int .i64 S]) ∧ ReqV w' R v ∧ XP w' bx Wv' T ∧ Part w' (Wv', l) ∧ (∀ a n c, Wv' = .slice (some a) n c → ∃ a0 n0 c0, Wv = .slice (some a0) n0 c0 ∧ a.block = a0.block) ∧ Touch (fun k => k = bx) w w'
set_option maxHeartbeats 8000000 in
theorem xnext_any (bx st : Nat) (wait : B) (Wv : Value) (w : World) (h : XP w bx Wv st) (hW : Part w (Wv, wait)) (hN : NB Wv (fun k => k ≠ bx)) (hwl : wait.length ≤ 65536) :
    Calls Tryz.prog 31 #[.pointer (some ⟨bx, 0, none⟩)] w fun e w' => XNext w bx Wv (nxtS wait st) (nxtR wait st) (nxtT wait st) (nxtW wait st) e w' := by
  obtain ⟨A0, c0, hv⟩ := hW.1.shape
  have hv' : Wv = .slice A0 wait.length c0 := hv
  subst hv'
  clear hv
  have hb0 := (Below.refl w.heap.size w).alloc (Nat.le_refl _) (.cells #[.string ⟨#[]⟩, .string ⟨#[]⟩, .slice none 0 0, .slice none 0 0] 27)
  have hX0 := h.below hb0
  have k0 := hX0.c0
  have k1 := hX0.c1
  have hplt := h.lt
  have HW := Lib.hid hW
  have HN := Lib.hid hN
  have HX := Lib.hid h
  by_cases hst : st = 0
  case neg =>
    have hs : ((st : Int) != 0) = true := by simp; omega
    have e1 : nxtS wait st = st := by unfold nxtS; rw [if_pos hst]
    have e2 : nxtW wait st = wait := by unfold nxtW; rw [if_pos hst]
    have e3 : nxtT wait st = st := by unfold nxtT; rw [if_pos hst]
    have e4 : nxtR wait st = noReq := by unfold nxtR; rw [if_pos hst]
    rw [e1, e2, e3, e4]
    clear hst e1 e2 e3 e4 hW hN h
    go_enter Tryz.func31, Tryz.ntmps31
    go_wp2_with fail
    have hz := z0_alloc w
    generalize w.alloc (.cells #[.string ⟨#[]⟩, .string ⟨#[]⟩, .slice none 0 0, .slice none 0 0] 27) = w0 at *
    obtain ⟨⟨hc0, hc1, hc2, hc3⟩, f0, f1, f2, f3⟩ := hz
    have ht4 := ((((Touch.refl (fun k => k = w.heap.size) w0).setCell (p := ⟨w.heap.size, 0, none⟩) rfl (.string ⟨#[]⟩)).setCell (p := ⟨w.heap.size, 1, none⟩) rfl (.string ⟨#[]⟩)).setCell (p := ⟨w.heap.size, 2, none⟩) rfl (.slice none 0 0)).setCell (p := ⟨w.heap.size, 3, none⟩) rfl (.slice none 0 0)
    have k1s := (hX0.touch ht4 (by omega)).c1
    go_region_held3 (fun w' => w'.cell? ⟨bx, 1, none⟩ = some (.int .i64 st)) (first | exact k1 | exact k1s) (fail)
    go_wp2_with fail
    have hbe := (below_set4 hb0 (.string ⟨#[]⟩) (.string ⟨#[]⟩) (.slice none 0 0) (.slice none 0 0)).drew
    refine bodyPost_ret (v := .tuple #[.agg #[.string ⟨#[]⟩, .string ⟨#[]⟩, .slice none 0 0, .slice none 0 0], .int .i64 st]) (by simp [results, Tryz.results31, go_sem, hc0, hc1, hc2, hc3]) rfl ⟨_, _, rfl, (free_none _ (fun _ => False)).req, HX.out.below hbe, HW.out.below hbe, fun a n c e => ⟨a, n, c, e, rfl⟩, Touch.of_below hbe⟩
  subst hst
  have hs : (((0 : Nat) : Int) != 0) = false := rfl
  have hP := refParse_any wait _ _ (hW.1.below hb0) (by omega)
  rw [← parse_law] at hP
  have hnm := taken_names wait
  have hnot := fun hne => (not_law wait hne).1
  have hcut := fun h0 => (cut_law wait h0).1.2
  have q1 : nxtS wait 0 = (progParse wait).2.2 := by unfold nxtS; rw [if_neg (by simp)]
  have q4 : nxtR wait 0 = (progParse wait).1 := by unfold nxtR; rw [if_neg (by simp)]
  have q3 : nxtT wait 0 = if (progParse wait).2.2 = 1 then 0 else (progParse wait).2.2 := by unfold nxtT; rw [if_neg (by simp)]
  have q2 : nxtW wait 0 = if (progParse wait).2.2 = 1 then wait else if (progParse wait).2.2 = 0 then wait.drop (progParse wait).2.1 else [] := by unfold nxtW; rw [if_neg (by simp)]
  rw [q1, q2, q3, q4]
  clear q1 q2 q3 q4
  generalize progParse wait = x at *
  obtain ⟨r, n, s⟩ := x
  simp only at hnot hcut hnm
  have hnl : n ≤ wait.length := by
    by_cases h0 : s = 0
    · exact hcut h0
    · rw [hnot h0]; exact Nat.zero_le _
  have hw1 : s ≤ 1 → (if s = 1 then wait else if s = 0 then wait.drop n else []) = wait.drop n := by
    intro hs1
    by_cases h1 : s = 1
    · rw [if_pos h1, hnot (by omega), List.drop_zero]
    · rw [if_neg h1, if_pos (by omega)]
  have HP := Lib.hid hP
  have HW1 := Lib.hid hw1
  have HX0 := Lib.hid hX0
  have HB0 := Lib.hid hb0
  have HZ0 := Lib.hid (z0_alloc w)
  have HS0 := Lib.hid (show (w.alloc (.cells #[.string ⟨#[]⟩, .string ⟨#[]⟩, .slice none 0 0, .slice none 0 0] 27)).heap.size = w.heap.size + 1 by simp)
  have HZC := Lib.hid (show RC (w.alloc (.cells #[.string ⟨#[]⟩, .string ⟨#[]⟩, .slice none 0 0, .slice none 0 0] 27)) w.heap.size ⟨#[]⟩ ⟨#[]⟩ (.slice none 0 0) (.slice none 0 0) from heap_alloc_new _ _)
  have HNM := Lib.hid (show ∀ x ∈ r.h, x.1 ≠ [] from hnm)
  by_cases hs1 : 1 < s
  · have e2 : (if s = 1 then wait else if s = 0 then wait.drop n else []) = [] := by rw [if_neg (by omega), if_neg (by omega)]
    have e3 : (if s = 1 then 0 else s) = s := by rw [if_neg (by omega)]
    have hn00 : n = 0 := hnot (by omega)
    have hs1' : (1 : Int) < (s : Int) := by omega
    rw [e2, e3]
    clear e2 e3
    rcases slice_cases hW n hnl with ⟨rfl, hw0, hc00, hn0⟩ | ⟨b, o, rfl, hcl, hcn⟩ | ⟨b, o, rfl, hcl, hcn⟩
    all_goals clear hP hnot hcut hw1 hnm h hW hN hX0 hb0
    · clear hn00
      subst hw0 hc00 hn0
      (go_enter Tryz.func31, Tryz.ntmps31); (go_wp2_with fail); (generalize w.alloc (.cells #[.string ⟨#[]⟩, .string ⟨#[]⟩, .slice none 0 0, .slice none 0 0] 27) = w0 at *); (refine HP.out.mono ?_); (rintro e w4 ⟨⟨v4, rfl, hq⟩, hb4⟩); (obtain ⟨A4, n4, B4, d4, rfl⟩ := reqV_agg hq); dsimp only at hq; dsimp only
      (have hX4 := HX0.out.below hb4); (have hZ4 := HZC.out.below hb4); (have hne4 : bx ≠ w.heap.size := by omega); (have hW4 := HW.out.below (HB0.out.next hb4)); (have g0 := hX4.c0); (have g1 := hX4.c1); (have z0 := hX4.fz 0); (have z1 := hX4.fz 1); (have hbl := hX4.lt); (have HXX := Lib.hid hX4); (have HZZ := Lib.hid hZ4); (have HQ4 := Lib.hid hq); (have HW4 := Lib.hid hW4)
      have hPV : Part w4 (.slice none 0 0, []) := ⟨rd_nil _ _, (fun n c e => by cases e; rfl)⟩
      obtain ⟨hX6, hC6, hZ6, hQ6, hP6, hT6⟩ := xw6 (V := .slice none 0 0) HXX.out HZZ.out hne4 HQ4.out HNM.out hPV (fun a n c e => by cases e)
      go_upto_region 5 with fail
      generalize (w4.setCell ⟨bx, 0, none⟩ (.slice none 0 0)).alloc (.cells #[.string (ofL r.m), .string (ofL r.p), .slice A4 r.h.length n4, .slice B4 r.b.length d4] 27) = w6 at *
      (have HX6 := Lib.hid hX6); (have HC6 := Lib.hid hC6); (have HZ6 := Lib.hid hZ6); (have HQ6 := Lib.hid hQ6); (have HP6 := Lib.hid hP6); (have HT6 := Lib.hid ((Touch.of_below (HB0.out.next hb4)).trans (touch_new (Touch.refl _ w4) hT6 (fun j _ h => h)))); (have r0 := hC6.c0); (have r1 := hC6.c1); (have r2 := hC6.c2); (have r3 := hC6.c3); (have hc0 := hZ6.c0); (have hc1 := hZ6.c1); (have hc2 := hZ6.c2); (have hc3 := hZ6.c3); (have f0 := Lib.frozen_of_heap hZ6 0); (have f1 := Lib.frozen_of_heap hZ6 1); (have f2 := Lib.frozen_of_heap hZ6 2); (have f3 := Lib.frozen_of_heap hZ6 3); (have hl6 := hZ6.lt); (have g0 := hX6.c0); (have g1 := hX6.c1); (have z0 := hX6.fz 0); (have z1 := hX6.fz 1); (have hbl := hX6.lt); (have hcl6 := hC6.lt); (clear hX6 hC6 hZ6 hQ6 hP6 hT6 HXX HZZ HQ4 HW4 hX4 hZ4 hq)
      ((have ht67 := ((Touch.refl (fun k => k = bx) w6).setCell (p := ⟨bx, 1, none⟩) rfl (.int .i64 (s : Int))).setCell (p := ⟨bx, 0, none⟩) rfl (.slice none 0 0)); (have hC7 := HC6.out.touch ht67 (fun e => by omega)); (have hZ7 := HZ6.out.touch ht67 (fun e => hne4 e.symm)); (have r0 := hC7.c0); (have r1 := hC7.c1); (have r2 := hC7.c2); (have r3 := hC7.c3); (have hc0 := hZ7.c0); (have hc1 := hZ7.c1); (have hc2 := hZ7.c2); (have hc3 := hZ7.c3); (have f0 := Lib.frozen_of_heap hZ7 0); (have f1 := Lib.frozen_of_heap hZ7 1); (have f2 := Lib.frozen_of_heap hZ7 2); (have f3 := Lib.frozen_of_heap hZ7 3); (have hl7 := hZ7.lt); (have HZ7 := Lib.hid hZ7); (have HT67 := Lib.hid ht67); (clear ht67 hC7 hZ7); (go_wp2_with fail); (have ht8 := ((((Touch.refl (fun k => k = w.heap.size) ((w6.setCell ⟨bx, 1, none⟩ (.int .i64 s)).setCell ⟨bx, 0, none⟩ (.slice none 0 0))).setCell (p := ⟨w.heap.size, 0, none⟩) rfl (.string (ofL r.m))).setCell (p := ⟨w.heap.size, 1, none⟩) rfl (.string (ofL r.p))).setCell (p := ⟨w.heap.size, 2, none⟩) rfl (.slice A4 r.h.length n4)).setCell (p := ⟨w.heap.size, 3, none⟩) rfl (.slice B4 r.b.length d4)); (refine bodyPost_ret (v := .tuple #[.agg #[.string (ofL r.m), .string (ofL r.p), .slice A4 r.h.length n4, .slice B4 r.b.length d4], .int .i64 s]) (by simp [results, Tryz.results31, go_sem, hc0, hc1, hc2, hc3]) rfl ⟨_, _, rfl, reqV_touch (reqV_touch HQ6.out HNM.out HT67.out (fun k hk => hk ▸ HX6.out.noRow)) HNM.out ht8 (fun k hk => hk ▸ HZ7.out.noRow), ((HX6.out.set1 s).set0 (.slice none 0 0)).touch ht8 (fun e => hne4 e), ⟨rd_nil _ _, (fun n c e => by cases e; rfl)⟩, (fun a n c e => by cases e), touch_new (HT6.out.trans (touch_new (Touch.refl _ w6) HT67.out (fun j _ h => h))) ht8 (fun j hj h => by omega)⟩))
    · clear hn00
      subst hcn
      have hn1 : (0 : Int) ≤ (c0 : Int) := by omega
      have hNb : b ≠ bx := HN.out ⟨b, o, none⟩ _ _ rfl
      (go_enter Tryz.func31, Tryz.ntmps31); (go_wp2_with fail); (generalize w.alloc (.cells #[.string ⟨#[]⟩, .string ⟨#[]⟩, .slice none 0 0, .slice none 0 0] 27) = w0 at *); (refine HP.out.mono ?_); (rintro e w4 ⟨⟨v4, rfl, hq⟩, hb4⟩); (obtain ⟨A4, n4, B4, d4, rfl⟩ := reqV_agg hq); dsimp only at hq; dsimp only
      (have hX4 := HX0.out.below hb4); (have hZ4 := HZC.out.below hb4); (have hne4 : bx ≠ w.heap.size := by omega); (have hW4 := HW.out.below (HB0.out.next hb4)); (have g0 := hX4.c0); (have g1 := hX4.c1); (have z0 := hX4.fz 0); (have z1 := hX4.fz 1); (have hbl := hX4.lt); (have HXX := Lib.hid hX4); (have HZZ := Lib.hid hZ4); (have HQ4 := Lib.hid hq); (have HW4 := Lib.hid hW4)
      have hPV : Part w4 (.slice (some ⟨b, o, none⟩) 0 0, wait.drop c0) := (by rw [List.drop_of_length_le hcl]; exact part_emp _ _ _)
      obtain ⟨hX6, hC6, hZ6, hQ6, hP6, hT6⟩ := xw6 (V := .slice (some ⟨b, o, none⟩) 0 0) HXX.out HZZ.out hne4 HQ4.out HNM.out hPV (fun a n c e => by cases e; exact hNb)
      go_upto_region 5 with fail
      generalize (w4.setCell ⟨bx, 0, none⟩ (.slice (some ⟨b, o, none⟩) 0 0)).alloc (.cells #[.string (ofL r.m), .string (ofL r.p), .slice A4 r.h.length n4, .slice B4 r.b.length d4] 27) = w6 at *
      (have HX6 := Lib.hid hX6); (have HC6 := Lib.hid hC6); (have HZ6 := Lib.hid hZ6); (have HQ6 := Lib.hid hQ6); (have HP6 := Lib.hid hP6); (have HT6 := Lib.hid ((Touch.of_below (HB0.out.next hb4)).trans (touch_new (Touch.refl _ w4) hT6 (fun j _ h => h)))); (have r0 := hC6.c0); (have r1 := hC6.c1); (have r2 := hC6.c2); (have r3 := hC6.c3); (have hc0 := hZ6.c0); (have hc1 := hZ6.c1); (have hc2 := hZ6.c2); (have hc3 := hZ6.c3); (have f0 := Lib.frozen_of_heap hZ6 0); (have f1 := Lib.frozen_of_heap hZ6 1); (have f2 := Lib.frozen_of_heap hZ6 2); (have f3 := Lib.frozen_of_heap hZ6 3); (have hl6 := hZ6.lt); (have g0 := hX6.c0); (have g1 := hX6.c1); (have z0 := hX6.fz 0); (have z1 := hX6.fz 1); (have hbl := hX6.lt); (have hcl6 := hC6.lt); (clear hX6 hC6 hZ6 hQ6 hP6 hT6 HXX HZZ HQ4 HW4 hX4 hZ4 hq)
      ((have ht67 := ((Touch.refl (fun k => k = bx) w6).setCell (p := ⟨bx, 1, none⟩) rfl (.int .i64 (s : Int))).setCell (p := ⟨bx, 0, none⟩) rfl (.slice none 0 0)); (have hC7 := HC6.out.touch ht67 (fun e => by omega)); (have hZ7 := HZ6.out.touch ht67 (fun e => hne4 e.symm)); (have r0 := hC7.c0); (have r1 := hC7.c1); (have r2 := hC7.c2); (have r3 := hC7.c3); (have hc0 := hZ7.c0); (have hc1 := hZ7.c1); (have hc2 := hZ7.c2); (have hc3 := hZ7.c3); (have f0 := Lib.frozen_of_heap hZ7 0); (have f1 := Lib.frozen_of_heap hZ7 1); (have f2 := Lib.frozen_of_heap hZ7 2); (have f3 := Lib.frozen_of_heap hZ7 3); (have hl7 := hZ7.lt); (have HZ7 := Lib.hid hZ7); (have HT67 := Lib.hid ht67); (clear ht67 hC7 hZ7); (go_wp2_with fail); (have ht8 := ((((Touch.refl (fun k => k = w.heap.size) ((w6.setCell ⟨bx, 1, none⟩ (.int .i64 s)).setCell ⟨bx, 0, none⟩ (.slice none 0 0))).setCell (p := ⟨w.heap.size, 0, none⟩) rfl (.string (ofL r.m))).setCell (p := ⟨w.heap.size, 1, none⟩) rfl (.string (ofL r.p))).setCell (p := ⟨w.heap.size, 2, none⟩) rfl (.slice A4 r.h.length n4)).setCell (p := ⟨w.heap.size, 3, none⟩) rfl (.slice B4 r.b.length d4)); (refine bodyPost_ret (v := .tuple #[.agg #[.string (ofL r.m), .string (ofL r.p), .slice A4 r.h.length n4, .slice B4 r.b.length d4], .int .i64 s]) (by simp [results, Tryz.results31, go_sem, hc0, hc1, hc2, hc3]) rfl ⟨_, _, rfl, reqV_touch (reqV_touch HQ6.out HNM.out HT67.out (fun k hk => hk ▸ HX6.out.noRow)) HNM.out ht8 (fun k hk => hk ▸ HZ7.out.noRow), ((HX6.out.set1 s).set0 (.slice none 0 0)).touch ht8 (fun e => hne4 e), ⟨rd_nil _ _, (fun n c e => by cases e; rfl)⟩, (fun a n c e => by cases e), touch_new (HT6.out.trans (touch_new (Touch.refl _ w6) HT67.out (fun j _ h => h))) ht8 (fun j hj h => by omega)⟩))
    · have hn1 : (0 : Int) ≤ (n : Int) := by omega
      have hNb : b ≠ bx := HN.out ⟨b, o, none⟩ _ _ rfl
      clear hn00
      (go_enter Tryz.func31, Tryz.ntmps31); (go_wp2_with fail); (generalize w.alloc (.cells #[.string ⟨#[]⟩, .string ⟨#[]⟩, .slice none 0 0, .slice none 0 0] 27) = w0 at *); (refine HP.out.mono ?_); (rintro e w4 ⟨⟨v4, rfl, hq⟩, hb4⟩); (obtain ⟨A4, n4, B4, d4, rfl⟩ := reqV_agg hq); dsimp only at hq; dsimp only
      (have hX4 := HX0.out.below hb4); (have hZ4 := HZC.out.below hb4); (have hne4 : bx ≠ w.heap.size := by omega); (have hW4 := HW.out.below (HB0.out.next hb4)); (have g0 := hX4.c0); (have g1 := hX4.c1); (have z0 := hX4.fz 0); (have z1 := hX4.fz 1); (have hbl := hX4.lt); (have HXX := Lib.hid hX4); (have HZZ := Lib.hid hZ4); (have HQ4 := Lib.hid hq); (have HW4 := Lib.hid hW4)
      have hPV : Part w4 (.slice (some ⟨b, o + n, none⟩) (wait.length - n) (c0 - n), wait.drop n) := part_from HW4.out hnl
      obtain ⟨hX6, hC6, hZ6, hQ6, hP6, hT6⟩ := xw6 (V := .slice (some ⟨b, o + n, none⟩) (wait.length - n) (c0 - n)) HXX.out HZZ.out hne4 HQ4.out HNM.out hPV (fun a n c e => by cases e; exact hNb)
      go_upto_region 5 with fail
      generalize (w4.setCell ⟨bx, 0, none⟩ (.slice (some ⟨b, o + n, none⟩) (wait.length - n) (c0 - n))).alloc (.cells #[.string (ofL r.m), .string (ofL r.p), .slice A4 r.h.length n4, .slice B4 r.b.length d4] 27) = w6 at *
      (have HX6 := Lib.hid hX6); (have HC6 := Lib.hid hC6); (have HZ6 := Lib.hid hZ6); (have HQ6 := Lib.hid hQ6); (have HP6 := Lib.hid hP6); (have HT6 := Lib.hid ((Touch.of_below (HB0.out.next hb4)).trans (touch_new (Touch.refl _ w4) hT6 (fun j _ h => h)))); (have r0 := hC6.c0); (have r1 := hC6.c1); (have r2 := hC6.c2); (have r3 := hC6.c3); (have hc0 := hZ6.c0); (have hc1 := hZ6.c1); (have hc2 := hZ6.c2); (have hc3 := hZ6.c3); (have f0 := Lib.frozen_of_heap hZ6 0); (have f1 := Lib.frozen_of_heap hZ6 1); (have f2 := Lib.frozen_of_heap hZ6 2); (have f3 := Lib.frozen_of_heap hZ6 3); (have hl6 := hZ6.lt); (have g0 := hX6.c0); (have g1 := hX6.c1); (have z0 := hX6.fz 0); (have z1 := hX6.fz 1); (have hbl := hX6.lt); (have hcl6 := hC6.lt); (clear hX6 hC6 hZ6 hQ6 hP6 hT6 HXX HZZ HQ4 HW4 hX4 hZ4 hq)
      ((have ht67 := ((Touch.refl (fun k => k = bx) w6).setCell (p := ⟨bx, 1, none⟩) rfl (.int .i64 (s : Int))).setCell (p := ⟨bx, 0, none⟩) rfl (.slice none 0 0)); (have hC7 := HC6.out.touch ht67 (fun e => by omega)); (have hZ7 := HZ6.out.touch ht67 (fun e => hne4 e.symm)); (have r0 := hC7.c0); (have r1 := hC7.c1); (have r2 := hC7.c2); (have r3 := hC7.c3); (have hc0 := hZ7.c0); (have hc1 := hZ7.c1); (have hc2 := hZ7.c2); (have hc3 := hZ7.c3); (have f0 := Lib.frozen_of_heap hZ7 0); (have f1 := Lib.frozen_of_heap hZ7 1); (have f2 := Lib.frozen_of_heap hZ7 2); (have f3 := Lib.frozen_of_heap hZ7 3); (have hl7 := hZ7.lt); (have HZ7 := Lib.hid hZ7); (have HT67 := Lib.hid ht67); (clear ht67 hC7 hZ7); (go_wp2_with fail); (have ht8 := ((((Touch.refl (fun k => k = w.heap.size) ((w6.setCell ⟨bx, 1, none⟩ (.int .i64 s)).setCell ⟨bx, 0, none⟩ (.slice none 0 0))).setCell (p := ⟨w.heap.size, 0, none⟩) rfl (.string (ofL r.m))).setCell (p := ⟨w.heap.size, 1, none⟩) rfl (.string (ofL r.p))).setCell (p := ⟨w.heap.size, 2, none⟩) rfl (.slice A4 r.h.length n4)).setCell (p := ⟨w.heap.size, 3, none⟩) rfl (.slice B4 r.b.length d4)); (refine bodyPost_ret (v := .tuple #[.agg #[.string (ofL r.m), .string (ofL r.p), .slice A4 r.h.length n4, .slice B4 r.b.length d4], .int .i64 s]) (by simp [results, Tryz.results31, go_sem, hc0, hc1, hc2, hc3]) rfl ⟨_, _, rfl, reqV_touch (reqV_touch HQ6.out HNM.out HT67.out (fun k hk => hk ▸ HX6.out.noRow)) HNM.out ht8 (fun k hk => hk ▸ HZ7.out.noRow), ((HX6.out.set1 s).set0 (.slice none 0 0)).touch ht8 (fun e => hne4 e), ⟨rd_nil _ _, (fun n c e => by cases e; rfl)⟩, (fun a n c e => by cases e), touch_new (HT6.out.trans (touch_new (Touch.refl _ w6) HT67.out (fun j _ h => h))) ht8 (fun j hj h => by omega)⟩))
  · have e3 : (if s = 1 then 0 else s) = 0 := by by_cases h : s = 1 <;> simp [h]; omega
    have hs1' : ¬ (1 : Int) < (s : Int) := by omega
    rw [HW1.out (by omega), e3]
    clear e3
    rcases slice_cases hW n hnl with ⟨rfl, hw0, hc00, hn0⟩ | ⟨b, o, rfl, hcl, hcn⟩ | ⟨b, o, rfl, hcl, hcn⟩
    all_goals clear hP hnot hcut hw1 hnm h hW hN hX0 hb0
    · subst hw0 hc00 hn0
      (go_enter Tryz.func31, Tryz.ntmps31); (go_wp2_with fail); (generalize w.alloc (.cells #[.string ⟨#[]⟩, .string ⟨#[]⟩, .slice none 0 0, .slice none 0 0] 27) = w0 at *); (refine HP.out.mono ?_); (rintro e w4 ⟨⟨v4, rfl, hq⟩, hb4⟩); (obtain ⟨A4, n4, B4, d4, rfl⟩ := reqV_agg hq); dsimp only at hq; dsimp only
      (have hX4 := HX0.out.below hb4); (have hZ4 := HZC.out.below hb4); (have hne4 : bx ≠ w.heap.size := by omega); (have hW4 := HW.out.below (HB0.out.next hb4)); (have g0 := hX4.c0); (have g1 := hX4.c1); (have z0 := hX4.fz 0); (have z1 := hX4.fz 1); (have hbl := hX4.lt); (have HXX := Lib.hid hX4); (have HZZ := Lib.hid hZ4); (have HQ4 := Lib.hid hq); (have HW4 := Lib.hid hW4)
      have hPV : Part w4 (.slice none 0 0, []) := ⟨rd_nil _ _, (fun n c e => by cases e; rfl)⟩
      have HNV := Lib.hid (show PK w (.slice none 0 0) [] from .inl rfl)
      have HSM := Lib.hid (show ∀ a n' c, Value.slice none 0 0 = .slice (some a) n' c → ∃ a0 n0 c1, Value.slice none ([] : B).length 0 = .slice (some a0) n0 c1 ∧ a.block = a0.block from fun a n' c e => by cases e)
      obtain ⟨hX6, hC6, hZ6, hQ6, hP6, hT6⟩ := xw6 (V := .slice none 0 0) HXX.out HZZ.out hne4 HQ4.out HNM.out hPV (fun a n c e => by cases e)
      go_upto_region 5 with fail
      generalize (w4.setCell ⟨bx, 0, none⟩ (.slice none 0 0)).alloc (.cells #[.string (ofL r.m), .string (ofL r.p), .slice A4 r.h.length n4, .slice B4 r.b.length d4] 27) = w6 at *
      (have HX6 := Lib.hid hX6); (have HC6 := Lib.hid hC6); (have HZ6 := Lib.hid hZ6); (have HQ6 := Lib.hid hQ6); (have HP6 := Lib.hid hP6); (have HT6 := Lib.hid ((Touch.of_below (HB0.out.next hb4)).trans (touch_new (Touch.refl _ w4) hT6 (fun j _ h => h)))); (have r0 := hC6.c0); (have r1 := hC6.c1); (have r2 := hC6.c2); (have r3 := hC6.c3); (have hc0 := hZ6.c0); (have hc1 := hZ6.c1); (have hc2 := hZ6.c2); (have hc3 := hZ6.c3); (have f0 := Lib.frozen_of_heap hZ6 0); (have f1 := Lib.frozen_of_heap hZ6 1); (have f2 := Lib.frozen_of_heap hZ6 2); (have f3 := Lib.frozen_of_heap hZ6 3); (have hl6 := hZ6.lt); (have g0 := hX6.c0); (have g1 := hX6.c1); (have z0 := hX6.fz 0); (have z1 := hX6.fz 1); (have hbl := hX6.lt); (have hcl6 := hC6.lt); (clear hX6 hC6 hZ6 hQ6 hP6 hT6 HXX HZZ HQ4 HW4 hX4 hZ4 hq)
      ((go_wp2_with fail); (have ht7 := ((((Touch.refl (fun k => k = w.heap.size) w6).setCell (p := ⟨w.heap.size, 0, none⟩) rfl (.string (ofL r.m))).setCell (p := ⟨w.heap.size, 1, none⟩) rfl (.string (ofL r.p))).setCell (p := ⟨w.heap.size, 2, none⟩) rfl (.slice A4 r.h.length n4)).setCell (p := ⟨w.heap.size, 3, none⟩) rfl (.slice B4 r.b.length d4)); (refine bodyPost_ret (v := .tuple #[.agg #[.string (ofL r.m), .string (ofL r.p), .slice A4 r.h.length n4, .slice B4 r.b.length d4], .int .i64 s]) (by simp [results, Tryz.results31, go_sem, hc0, hc1, hc2, hc3]) rfl ⟨_, _, rfl, reqV_touch HQ6.out HNM.out ht7 (fun k hk => hk ▸ HZ6.out.noRow), HX6.out.touch ht7 (fun e => hne4 e), part_keep HP6.out ht7 ((show _ ∨ _ from HNV.out).imp id (fun g a n c e h => by have := g a n c e; omega)), HSM.out, touch_new HT6.out ht7 (fun j hj h => by omega)⟩))
    · subst hcn
      have hn1 : (0 : Int) ≤ (c0 : Int) := by omega
      have hNb : b ≠ bx := HN.out ⟨b, o, none⟩ _ _ rfl
      (go_enter Tryz.func31, Tryz.ntmps31); (go_wp2_with fail); (generalize w.alloc (.cells #[.string ⟨#[]⟩, .string ⟨#[]⟩, .slice none 0 0, .slice none 0 0] 27) = w0 at *); (refine HP.out.mono ?_); (rintro e w4 ⟨⟨v4, rfl, hq⟩, hb4⟩); (obtain ⟨A4, n4, B4, d4, rfl⟩ := reqV_agg hq); dsimp only at hq; dsimp only
      (have hX4 := HX0.out.below hb4); (have hZ4 := HZC.out.below hb4); (have hne4 : bx ≠ w.heap.size := by omega); (have hW4 := HW.out.below (HB0.out.next hb4)); (have g0 := hX4.c0); (have g1 := hX4.c1); (have z0 := hX4.fz 0); (have z1 := hX4.fz 1); (have hbl := hX4.lt); (have HXX := Lib.hid hX4); (have HZZ := Lib.hid hZ4); (have HQ4 := Lib.hid hq); (have HW4 := Lib.hid hW4)
      have hPV : Part w4 (.slice (some ⟨b, o, none⟩) 0 0, wait.drop c0) := (by rw [List.drop_of_length_le hcl]; exact part_emp _ _ _)
      have HNV := Lib.hid (show PK w (.slice (some ⟨b, o, none⟩) 0 0) (wait.drop c0) from .inl (List.drop_of_length_le hcl))
      have HSM := Lib.hid (show ∀ a n' c, Value.slice (some ⟨b, o, none⟩) 0 0 = .slice (some a) n' c → ∃ a0 n0 c1, Value.slice (some ⟨b, o, none⟩) wait.length c0 = .slice (some a0) n0 c1 ∧ a.block = a0.block from fun a n' c e => by cases e; exact ⟨_, _, _, rfl, rfl⟩)
      obtain ⟨hX6, hC6, hZ6, hQ6, hP6, hT6⟩ := xw6 (V := .slice (some ⟨b, o, none⟩) 0 0) HXX.out HZZ.out hne4 HQ4.out HNM.out hPV (fun a n c e => by cases e; exact hNb)
      go_upto_region 5 with fail
      generalize (w4.setCell ⟨bx, 0, none⟩ (.slice (some ⟨b, o, none⟩) 0 0)).alloc (.cells #[.string (ofL r.m), .string (ofL r.p), .slice A4 r.h.length n4, .slice B4 r.b.length d4] 27) = w6 at *
      (have HX6 := Lib.hid hX6); (have HC6 := Lib.hid hC6); (have HZ6 := Lib.hid hZ6); (have HQ6 := Lib.hid hQ6); (have HP6 := Lib.hid hP6); (have HT6 := Lib.hid ((Touch.of_below (HB0.out.next hb4)).trans (touch_new (Touch.refl _ w4) hT6 (fun j _ h => h)))); (have r0 := hC6.c0); (have r1 := hC6.c1); (have r2 := hC6.c2); (have r3 := hC6.c3); (have hc0 := hZ6.c0); (have hc1 := hZ6.c1); (have hc2 := hZ6.c2); (have hc3 := hZ6.c3); (have f0 := Lib.frozen_of_heap hZ6 0); (have f1 := Lib.frozen_of_heap hZ6 1); (have f2 := Lib.frozen_of_heap hZ6 2); (have f3 := Lib.frozen_of_heap hZ6 3); (have hl6 := hZ6.lt); (have g0 := hX6.c0); (have g1 := hX6.c1); (have z0 := hX6.fz 0); (have z1 := hX6.fz 1); (have hbl := hX6.lt); (have hcl6 := hC6.lt); (clear hX6 hC6 hZ6 hQ6 hP6 hT6 HXX HZZ HQ4 HW4 hX4 hZ4 hq)
      ((go_wp2_with fail); (have ht7 := ((((Touch.refl (fun k => k = w.heap.size) w6).setCell (p := ⟨w.heap.size, 0, none⟩) rfl (.string (ofL r.m))).setCell (p := ⟨w.heap.size, 1, none⟩) rfl (.string (ofL r.p))).setCell (p := ⟨w.heap.size, 2, none⟩) rfl (.slice A4 r.h.length n4)).setCell (p := ⟨w.heap.size, 3, none⟩) rfl (.slice B4 r.b.length d4)); (refine bodyPost_ret (v := .tuple #[.agg #[.string (ofL r.m), .string (ofL r.p), .slice A4 r.h.length n4, .slice B4 r.b.length d4], .int .i64 s]) (by simp [results, Tryz.results31, go_sem, hc0, hc1, hc2, hc3]) rfl ⟨_, _, rfl, reqV_touch HQ6.out HNM.out ht7 (fun k hk => hk ▸ HZ6.out.noRow), HX6.out.touch ht7 (fun e => hne4 e), part_keep HP6.out ht7 ((show _ ∨ _ from HNV.out).imp id (fun g a n c e h => by have := g a n c e; omega)), HSM.out, touch_new HT6.out ht7 (fun j hj h => by omega)⟩))
    · have hn1 : (0 : Int) ≤ (n : Int) := by omega
      have hNb : b ≠ bx := HN.out ⟨b, o, none⟩ _ _ rfl
      have hbw : wait = [] ∨ b < w.heap.size := part_lt HW.out
      (go_enter Tryz.func31, Tryz.ntmps31); (go_wp2_with fail); (generalize w.alloc (.cells #[.string ⟨#[]⟩, .string ⟨#[]⟩, .slice none 0 0, .slice none 0 0] 27) = w0 at *); (refine HP.out.mono ?_); (rintro e w4 ⟨⟨v4, rfl, hq⟩, hb4⟩); (obtain ⟨A4, n4, B4, d4, rfl⟩ := reqV_agg hq); dsimp only at hq; dsimp only
      (have hX4 := HX0.out.below hb4); (have hZ4 := HZC.out.below hb4); (have hne4 : bx ≠ w.heap.size := by omega); (have hW4 := HW.out.below (HB0.out.next hb4)); (have g0 := hX4.c0); (have g1 := hX4.c1); (have z0 := hX4.fz 0); (have z1 := hX4.fz 1); (have hbl := hX4.lt); (have HXX := Lib.hid hX4); (have HZZ := Lib.hid hZ4); (have HQ4 := Lib.hid hq); (have HW4 := Lib.hid hW4)
      have hPV : Part w4 (.slice (some ⟨b, o + n, none⟩) (wait.length - n) (c0 - n), wait.drop n) := part_from HW4.out hnl
      have HNV := Lib.hid (show PK w (.slice (some ⟨b, o + n, none⟩) (wait.length - n) (c0 - n)) (wait.drop n) from hbw.imp (fun e => by rw [e]; simp) (fun g a n' c e => by cases e; exact g))
      have HSM := Lib.hid (show ∀ a n' c, Value.slice (some ⟨b, o + n, none⟩) (wait.length - n) (c0 - n) = .slice (some a) n' c → ∃ a0 n0 c1, Value.slice (some ⟨b, o, none⟩) wait.length c0 = .slice (some a0) n0 c1 ∧ a.block = a0.block from fun a n' c e => by cases e; exact ⟨_, _, _, rfl, rfl⟩)
      obtain ⟨hX6, hC6, hZ6, hQ6, hP6, hT6⟩ := xw6 (V := .slice (some ⟨b, o + n, none⟩) (wait.length - n) (c0 - n)) HXX.out HZZ.out hne4 HQ4.out HNM.out hPV (fun a n c e => by cases e; exact hNb)
      go_upto_region 5 with fail
      generalize (w4.setCell ⟨bx, 0, none⟩ (.slice (some ⟨b, o + n, none⟩) (wait.length - n) (c0 - n))).alloc (.cells #[.string (ofL r.m), .string (ofL r.p), .slice A4 r.h.length n4, .slice B4 r.b.length d4] 27) = w6 at *
      (have HX6 := Lib.hid hX6); (have HC6 := Lib.hid hC6); (have HZ6 := Lib.hid hZ6); (have HQ6 := Lib.hid hQ6); (have HP6 := Lib.hid hP6); (have HT6 := Lib.hid ((Touch.of_below (HB0.out.next hb4)).trans (touch_new (Touch.refl _ w4) hT6 (fun j _ h => h)))); (have r0 := hC6.c0); (have r1 := hC6.c1); (have r2 := hC6.c2); (have r3 := hC6.c3); (have hc0 := hZ6.c0); (have hc1 := hZ6.c1); (have hc2 := hZ6.c2); (have hc3 := hZ6.c3); (have f0 := Lib.frozen_of_heap hZ6 0); (have f1 := Lib.frozen_of_heap hZ6 1); (have f2 := Lib.frozen_of_heap hZ6 2); (have f3 := Lib.frozen_of_heap hZ6 3); (have hl6 := hZ6.lt); (have g0 := hX6.c0); (have g1 := hX6.c1); (have z0 := hX6.fz 0); (have z1 := hX6.fz 1); (have hbl := hX6.lt); (have hcl6 := hC6.lt); (clear hX6 hC6 hZ6 hQ6 hP6 hT6 HXX HZZ HQ4 HW4 hX4 hZ4 hq)
      ((go_wp2_with fail); (have ht7 := ((((Touch.refl (fun k => k = w.heap.size) w6).setCell (p := ⟨w.heap.size, 0, none⟩) rfl (.string (ofL r.m))).setCell (p := ⟨w.heap.size, 1, none⟩) rfl (.string (ofL r.p))).setCell (p := ⟨w.heap.size, 2, none⟩) rfl (.slice A4 r.h.length n4)).setCell (p := ⟨w.heap.size, 3, none⟩) rfl (.slice B4 r.b.length d4)); (refine bodyPost_ret (v := .tuple #[.agg #[.string (ofL r.m), .string (ofL r.p), .slice A4 r.h.length n4, .slice B4 r.b.length d4], .int .i64 s]) (by simp [results, Tryz.results31, go_sem, hc0, hc1, hc2, hc3]) rfl ⟨_, _, rfl, reqV_touch HQ6.out HNM.out ht7 (fun k hk => hk ▸ HZ6.out.noRow), HX6.out.touch ht7 (fun e => hne4 e), part_keep HP6.out ht7 ((show _ ∨ _ from HNV.out).imp id (fun g a n c e h => by have := g a n c e; omega)), HSM.out, touch_new HT6.out ht7 (fun j hj h => by omega)⟩))
end Go.Proofs.YtmhgnaemafohfaaGreatDoor
