/- The parser's block (jsonx); fail, peek, one. Conditions: the text is short. The parser passes over blanks (jsonx). Conditions: the text is short. -/
import Derived.Test.YtigdjnfnkjfkmaaGreatDoorBase
import Derived.Test.YtigdjnfnkjfkmaaGreatDoorJsonU
namespace Go.Proofs.YtigdjnfnkjfkmaaGreatDoor
open Go.RowKit
set_option linter.unusedVariables false
set_option linter.unusedSimpArgs false
set_option maxRecDepth 100000

/-- The parser's block: the text, the place. -/
def PC (w : World) (bp : Nat) (s : ByteArray) (k : Nat) : Prop := w.heap[bp]? = some (.cells #[.string s, .int .i64 (k : Int)] 113 (0, 0))
theorem PC.c0 {w : World} {bp : Nat} {s : ByteArray} {k : Nat} (h : PC w bp s k) : w.cell? ⟨bp, 0, none⟩ = some (.string s) := by rw [Lib.cell_of_heap h]; rfl
theorem PC.c1 {w : World} {bp : Nat} {s : ByteArray} {k : Nat} (h : PC w bp s k) : w.cell? ⟨bp, 1, none⟩ = some (.int .i64 (k : Int)) := by rw [Lib.cell_of_heap h]; rfl
theorem PC.fz {w : World} {bp : Nat} {s : ByteArray} {k : Nat} (h : PC w bp s k) (i : Nat) : w.frozen? ⟨bp, i, none⟩ = false := Lib.frozen_of_heap h i
theorem PC.lt {w : World} {bp : Nat} {s : ByteArray} {k : Nat} (h : PC w bp s k) : bp < w.heap.size := (Array.getElem?_eq_some_iff.1 h).1
theorem PC.touch {F : Nat → Prop} {w w' : World} {bp : Nat} {s : ByteArray} {k : Nat} (h : PC w bp s k) (ht : Touch F w w') (hf : ¬ F bp) : PC w' bp s k := by
  unfold PC; rw [ht.block bp h.lt hf]; exact h
theorem PC.below {w w' : World} {bp : Nat} {s : ByteArray} {k : Nat} (h : PC w bp s k) (ht : Below w.heap.size w w') : PC w' bp s k := h.touch (.of_below (F := fun _ => False) ht) id
theorem PC.set {w : World} {bp : Nat} {s : ByteArray} {k : Nat} (h : PC w bp s k) (j : Nat) : PC (w.setCell ⟨bp, 1, none⟩ (.int .i64 (j : Int))) bp s j := heap_set_own h 1 _
theorem Touch.setNew {F : Nat → Prop} {a w : World} (h : Touch F a w) {p : Addr} (hp : a.heap.size ≤ p.block) (u : Value) : Touch F a (w.setCell p u) := by
  have hx := (h.mono (G := fun k => F k ∨ a.heap.size ≤ k) fun k _ hf => .inl hf).setCell (p := p) (.inr hp) u
  exact hx.mono fun k hk hf => hf.elim id fun hg => by omega
/-- A value's five cells. -/
def JC (w : World) (b : Nat) (k n : Int) (t : ByteArray) (N I : Value) : Prop := w.heap[b]? = some (.cells #[.int .i64 k, .int .i64 n, .string t, N, I] 49 (0, 0))
theorem JC.cell {w : World} {b : Nat} {k n : Int} {t : ByteArray} {N I : Value} (h : JC w b k n t N I) (i : Nat) : w.cell? ⟨b, i, none⟩ = #[Value.int .i64 k, .int .i64 n, .string t, N, I][i]? := by rw [Lib.cell_of_heap h]
theorem JC.c0 {w : World} {b : Nat} {k n : Int} {t : ByteArray} {N I : Value} (h : JC w b k n t N I) : w.cell? ⟨b, 0, none⟩ = some (.int .i64 k) := h.cell 0
theorem JC.c1 {w : World} {b : Nat} {k n : Int} {t : ByteArray} {N I : Value} (h : JC w b k n t N I) : w.cell? ⟨b, 1, none⟩ = some (.int .i64 n) := h.cell 1
theorem JC.c2 {w : World} {b : Nat} {k n : Int} {t : ByteArray} {N I : Value} (h : JC w b k n t N I) : w.cell? ⟨b, 2, none⟩ = some (.string t) := h.cell 2
theorem JC.c3 {w : World} {b : Nat} {k n : Int} {t : ByteArray} {N I : Value} (h : JC w b k n t N I) : w.cell? ⟨b, 3, none⟩ = some N := h.cell 3
theorem JC.c4 {w : World} {b : Nat} {k n : Int} {t : ByteArray} {N I : Value} (h : JC w b k n t N I) : w.cell? ⟨b, 4, none⟩ = some I := h.cell 4
theorem JC.fz {w : World} {b : Nat} {k n : Int} {t : ByteArray} {N I : Value} (h : JC w b k n t N I) (i : Nat) : w.frozen? ⟨b, i, none⟩ = false := Lib.frozen_of_heap h i
theorem JC.lt {w : World} {b : Nat} {k n : Int} {t : ByteArray} {N I : Value} (h : JC w b k n t N I) : b < w.heap.size := (Array.getElem?_eq_some_iff.1 h).1
theorem JC.touch {F : Nat → Prop} {w w' : World} {b : Nat} {k n : Int} {t : ByteArray} {N I : Value} (h : JC w b k n t N I) (ht : Touch F w w') (hf : ¬ F b) : JC w' b k n t N I := by
  unfold JC; rw [ht.block b h.lt hf]; exact h
theorem JC.below {w w' : World} {b : Nat} {k n : Int} {t : ByteArray} {N I : Value} (h : JC w b k n t N I) (hb : Below w.heap.size w w') : JC w' b k n t N I := h.touch (.of_below (F := fun _ => False) hb) id
theorem JC.set3 {w : World} {b : Nat} {k n : Int} {t : ByteArray} {N I : Value} (h : JC w b k n t N I) (u : Value) : JC (w.setCell ⟨b, 3, none⟩ u) b k n t u I := heap_set_own h 3 _
theorem JC.set4 {w : World} {b : Nat} {k n : Int} {t : ByteArray} {N I : Value} (h : JC w b k n t N I) (u : Value) : JC (w.setCell ⟨b, 4, none⟩ u) b k n t N u := heap_set_own h 4 _
/-- All five are written. -/
abbrev putJ (w : World) (b : Nat) (k n : Int) (t : ByteArray) (N I : Value) : World := ((((w.setCell ⟨b, 0, none⟩ (.int .i64 k)).setCell ⟨b, 1, none⟩ (.int .i64 n)).setCell ⟨b, 2, none⟩ (.string t)).setCell ⟨b, 3, none⟩ N).setCell ⟨b, 4, none⟩ I
theorem JC.put {w : World} {b : Nat} {k n : Int} {t : ByteArray} {N I : Value} (h : JC w b k n t N I) (k' n' : Int) (t' : ByteArray) (N' I' : Value) : JC (putJ w b k' n' t' N' I') b k' n' t' N' I' :=
  heap_set_own (heap_set_own (heap_set_own (heap_set_own (heap_set_own h 0 _) 1 _) 2 _) 3 _) 4 _
theorem Touch.putJ {F : Nat → Prop} {a w : World} (h : Touch F a w) {b : Nat} (hb : a.heap.size ≤ b) (k n : Int) (t : ByteArray) (N I : Value) : Touch F a (putJ w b k n t N I) :=
  ((((h.setNew (p := ⟨b, 0, none⟩) hb _).setNew (p := ⟨b, 1, none⟩) hb _).setNew (p := ⟨b, 2, none⟩) hb _).setNew (p := ⟨b, 3, none⟩) hb _).setNew (p := ⟨b, 4, none⟩) hb _
theorem JC.new (w : World) : JC (w.alloc (.cells #[.int .i64 0, .int .i64 0, .string ⟨#[]⟩, .slice none 0 0, .slice none 0 0] 49)) w.heap.size 0 0 ⟨#[]⟩ (.slice none 0 0) (.slice none 0 0) := heap_alloc_new w _
theorem PC.putJ {w : World} {bp : Nat} {s : ByteArray} {k : Nat} (h : PC w bp s k) {b : Nat} (hb : bp ≠ b) (k' n' : Int) (t' : ByteArray) (N' I' : Value) : PC (putJ w b k' n' t' N' I') bp s k :=
  h.touch (F := fun j => j = b) ((((((Touch.refl (fun j => j = b) w).setCell (p := ⟨b, 0, none⟩) rfl _).setCell (p := ⟨b, 1, none⟩) rfl _).setCell (p := ⟨b, 2, none⟩) rfl _).setCell (p := ⟨b, 3, none⟩) rfl _).setCell (p := ⟨b, 4, none⟩) rfl _) hb
/-- What is left of the text. -/
def At (s : ByteArray) (k : Nat) (l : B) : Prop := k ≤ s.size ∧ s.toList.drop k = l
theorem At.size {s : ByteArray} {k : Nat} {l : B} (h : At s k l) : k + l.length = s.size := by
  have := congrArg List.length h.2; rw [List.length_drop, len_toL] at this; have := h.1; omega
theorem At.nil {s : ByteArray} {k : Nat} (h : At s k []) : k = s.size := by have := h.size; simpa using this
theorem At.cons {s : ByteArray} {k : Nat} {c : UInt8} {r : B} (h : At s k (c :: r)) : ∃ hk : k < s.size, s[k] = c ∧ At s (k + 1) r := by
  have := h.size
  have hk : k < s.size := by simp at this; omega
  have e := h.2; rw [drop_eq s k hk] at e
  exact ⟨hk, (List.cons.inj e).1, by omega, (List.cons.inj e).2⟩
/-- The parser gives up. -/
abbrev faultE (k : Nat) (why : Int) : Ending := .panicked [{ v := .iface 84 (.agg #[.int .i64 (k : Int), .int .i64 why]), recovered := false }]

theorem fail_any (bp : Nat) (s : ByteArray) (k : Nat) (why : Int) (w : World) (hP : PC w bp s k) :
    Calls Tryz.prog 78 #[.pointer (some ⟨bp, 0, none⟩), .int .i64 why] w fun e w' => e = faultE k why ∧ w' = w := by
  have c1 := hP.c1
  go_enter Tryz.func78, Tryz.ntmps78
  go_wp2_with fail
  exact ⟨rfl, rfl, rfl⟩

theorem atI {s : ByteArray} {k : Nat} {c : UInt8} (hk : k < s.size) (h : s[k] = c) : ∀ hh, s[(k : Int).toNat]'hh = c := by intro hh; subst h; rfl
/-- What a call of the parser's tells, and where it stands then. -/
def OutU {α : Type} (bp : Nat) (s : ByteArray) (V : α → Ending → World → Prop) (e : Ending) (w : World) : PR α → Prop
  | .ok a r => V a e w ∧ ∃ k, PC w bp s k ∧ At s k r
  | .fail r n => e = faultE (s.size - r.length) (n : Int)
theorem OutU.giveup {α : Type} {bp : Nat} {s : ByteArray} {k : Nat} {l : B} (h : At s k l) (V : α → Ending → World → Prop) (n : Nat) (w : World) : OutU bp s V (faultE k (n : Int)) w (.fail l n) := by
  have := h.size
  show faultE k (n : Int) = faultE (s.size - l.length) (n : Int)
  rw [show s.size - l.length = k by omega]
theorem OutU.bad {α β : Type} {bp : Nat} {s : ByteArray} {V : α → Ending → World → Prop} {W : β → Ending → World → Prop} {r : B} {n : Nat} {e : Ending} {w w' : World} (h : OutU bp s V e w (.fail r n)) : OutU bp s W e w' (.fail r n) := h
def peekB : B → PR UInt8
  | [] => .fail [] 40
  | c :: r => .ok c (c :: r)
def byteV (c : UInt8) (e : Ending) (w : World) : Prop := e = .returned (.int .u8 c.toNat)
/-- What comes: a byte. -/
theorem peek_any (bp : Nat) (s : ByteArray) (k : Nat) (l : B) (w : World) (hP : PC w bp s k) (hl : At s k l) (hs : s.size ≤ 65536) :
    Calls Tryz.prog 105 #[.pointer (some ⟨bp, 0, none⟩)] w fun e w' => OutU bp s byteV e w' (peekB l) ∧ PC w' bp s k ∧ Below w.heap.size w w' := by
  have c0 := hP.c0
  have c1 := hP.c1
  have hm : s.size ≤ 9223372036854775807 := by omega
  cases l with
  | nil =>
    have hk := hl.nil
    subst hk
    have hb : ((s.size : Int) == (s.size : Int)) = true := by simp
    go_enter Tryz.func105, Tryz.ntmps105
    go_wp2_with fail
    go_quiet (fail)
    go_wp2_with (go_at_call 78; with_reducible refine (fail_any bp s s.size 40 _ (hP.below (below_drewN _ _ _))).mono ?_; rintro e w4 ⟨rfl, rfl⟩)
    exact ⟨rfl, rfl, hP.below (below_drewN _ _ _), below_drewN _ _ _⟩
  | cons c r =>
    obtain ⟨hk, hc, ha⟩ := hl.cons
    have hb : ((k : Int) == (s.size : Int)) = false := by rw [beq_eq_false_iff_ne]; omega
    have hi : 0 ≤ (k : Int) ∧ (k : Int) < s.size := by omega
    have hc' := atI hk hc
    go_enter Tryz.func105, Tryz.ntmps105
    go_wp2_with fail
    go_quiet (fail)
    go_wp2_with fail
    generalize hw1 : w.drewN nq = w1 at *
    have hd : Below w.heap.size w w1 := by rw [← hw1]; exact below_drewN _ _ _
    have d0 := (hP.below hd).c0
    have d1 := (hP.below hd).c1
    clear c0 c1 hw1
    go_quiet (fail)
    go_wp2_with fail
    go_ret
    have hb2 := hd.trans (below_drewN w.heap.size w1 nq)
    exact ⟨⟨rfl, k, hP.below hb2, hl⟩, hP.below hb2, hb2⟩

theorem peek_cons (bp : Nat) (s : ByteArray) (k : Nat) (c : UInt8) (r : B) (w : World) (hP : PC w bp s k) (hl : At s k (c :: r)) (hs : s.size ≤ 65536) :
    Calls Tryz.prog 105 #[.pointer (some ⟨bp, 0, none⟩)] w fun e w' => e = .returned (.int .u8 c.toNat) ∧ PC w' bp s k ∧ Below w.heap.size w w' :=
  (peek_any bp s k (c :: r) w hP hl hs).mono fun e w' h => ⟨h.1.1, h.2⟩
theorem peek_nil (bp : Nat) (s : ByteArray) (k : Nat) (w : World) (hP : PC w bp s k) (hl : At s k []) (hs : s.size ≤ 65536) :
    Calls Tryz.prog 105 #[.pointer (some ⟨bp, 0, none⟩)] w fun e w' => e = faultE s.size 40 ∧ PC w' bp s k ∧ Below w.heap.size w w' :=
  (peek_any bp s k [] w hP hl hs).mono fun e w' h => ⟨h.1, h.2⟩
/-- One of a few bytes comes. -/
theorem one_any (bp : Nat) (s : ByteArray) (of : B) (k : Nat) (l : B) (w : World) (hP : PC w bp s k) (hl : At s k l) (hs : s.size ≤ 65536) :
    Calls Tryz.prog 129 #[.pointer (some ⟨bp, 0, none⟩), .string (ofL of)] w fun e w' => OutU bp s byteV e w' (oneB of l) ∧ Touch (fun j => j = bp) w w' := by
  have HP := Lib.hid hP
  have HL := Lib.hid hl
  have K1 := Lib.hid (fun w hP => peek_any bp s k l w hP hl hs)
  have K2 := Lib.hid (fun w hP => fail_any bp s k 40 w hP)
  have hr := Below.refl w.heap.size w
  clear hP hl
  cases l with
  | nil =>
    have hk := HL.out.nil
    subst hk
    unfold peekB OutU at K1
    go_enter Tryz.func129, Tryz.ntmps129
    go_wp2_with (go_at_call 105; with_reducible refine (K1.out _ HP.out).mono ?_; rintro e w4 ⟨rfl, hp4, hb4⟩)
    exact ⟨rfl, rfl, .of_below hb4⟩
  | cons c r =>
    unfold peekB OutU byteV at K1
    have K3 := Lib.hid (fun w => ibyte_any c (ofL of) w)
    rw [toL_ofL] at K3
    have hn := idx_neg c of
    obtain ⟨hk, -, ha⟩ := HL.out.cons
    by_cases hc : of.contains c = true
    · have h1 : ¬ Lib.indexByte of c < 0 := by rw [hn, hc]; simp
      have H2 := Lib.hid (show oneB of (c :: r) = .ok c r by simp only [oneB, hc, if_true])
      generalize Lib.indexByte of c = ix at *
      clear hc hn
      go_enter Tryz.func129, Tryz.ntmps129
      go_wp2_with (first | (go_at_call 105; with_reducible refine (K1.out _ HP.out).mono ?_; rintro e w4 ⟨⟨rfl, -⟩, hp4, hb4⟩; have k1 := hp4.c1; have f1 := hp4.fz 1) | (go_at_call 110; with_reducible refine (K3.out _).mono ?_; rintro e w5 ⟨rfl, rfl⟩))
      rw [H2.out]
      go_ret
      exact ⟨⟨rfl, k + 1, hp4.set (k + 1), ha⟩, (Touch.of_below (F := fun j => j = bp) hb4).setCell (p := ⟨bp, 1, none⟩) rfl _⟩
    · have h1 : Lib.indexByte of c < 0 := by rw [hn]; simpa using hc
      have H2 := Lib.hid (show oneB of (c :: r) = .fail (c :: r) 40 by simp only [oneB, hc]; rfl)
      generalize Lib.indexByte of c = ix at *
      clear hc hn
      go_enter Tryz.func129, Tryz.ntmps129
      go_wp2_with (first | (go_at_call 105; with_reducible refine (K1.out _ HP.out).mono ?_; rintro e w4 ⟨⟨rfl, -⟩, hp4, hb4⟩) | (go_at_call 110; with_reducible refine (K3.out _).mono ?_; rintro e w5 ⟨rfl, rfl⟩) | (go_at_call 78; with_reducible refine (K2.out _ hp4).mono ?_; rintro e w4 ⟨rfl, rfl⟩))
      rw [H2.out]
      exact ⟨rfl, OutU.giveup HL.out byteV 40 w4, .of_below hb4⟩
theorem one_lit (bp : Nat) (s o : ByteArray) (of : B) (ho : ofL of = o) (k : Nat) (l : B) (w : World) (hP : PC w bp s k) (hl : At s k l) (hs : s.size ≤ 65536) :
    Calls Tryz.prog 129 #[.pointer (some ⟨bp, 0, none⟩), .string o] w fun e w' => OutU bp s byteV e w' (oneB of l) ∧ Touch (fun j => j = bp) w w' := by
  subst ho; exact one_any bp s of k l w hP hl hs
def unitV {α : Type} (_ : α) (e : Ending) (_ : World) : Prop := e = .returned (.tuple #[])
/-- Just a word comes. -/
theorem word_any (bp : Nat) (s : ByteArray) (wd : B) (k : Nat) (l : B) (w : World) (hP : PC w bp s k) (hl : At s k l) (hs : s.size ≤ 65536) (hw : wd.length ≤ 100) :
    Calls Tryz.prog 109 #[.pointer (some ⟨bp, 0, none⟩), .string (ofL wd)] w fun e w' => OutU bp s unitV e w' (wordB wd l) ∧ Touch (fun j => j = bp) w w' := by
  have kb := fun wx => run_bytes_of_string (P := Tryz.prog) wx 9 89 5 (ofL wd) Tryz.underlying9 Tryz.underlying89 Tryz.underlying5
  have hn : (ofL wd).size = wd.length := size_ofL wd
  rw [hn] at kb
  have HP := Lib.hid hP
  have HL := Lib.hid hl
  clear hP hl hn
  go_enter Tryz.func109, Tryz.ntmps109
  go_wp2
  have hR := rd_bytes' (w := w) (wc := w) (s := ofL wd) (n := wd.length) (e := 5) (fr := ((bytesRow (ofL wd) (grownCap w wd.length 0 5)).size, (bytesRow (ofL wd) (grownCap w wd.length 0 5)).size + 1)) (size_ofL wd) (by omega)
  rw [toL_ofL] at hR
  have hb := ((Below.refl w.heap.size w).alloc (Nat.le_refl _) (.cells (bytesRow (ofL wd) (grownCap w wd.length 0 5)) 5 ((bytesRow (ofL wd) (grownCap w wd.length 0 5)).size, (bytesRow (ofL wd) (grownCap w wd.length 0 5)).size + 1))).drew
  generalize (w.alloc (.cells (bytesRow (ofL wd) (grownCap w wd.length 0 5)) 5 ((bytesRow (ofL wd) (grownCap w wd.length 0 5)).size, (bytesRow (ofL wd) (grownCap w wd.length 0 5)).size + 1))).drew = w1 at hR hb ⊢
  generalize grownCap w wd.length 0 5 = cap at hR ⊢
  have HP1 := Lib.hid (HP.out.below hb)
  have HR := Lib.hid hR
  have HN := Lib.hid HP.out.lt
  clear HP kb hR
  go_loopw [5, 9] (fun o i wr => ∃ n : Nat, n ≤ wd.length ∧ i = .int .i64 n ∧ ∃ j m, PC wr bp s j ∧ At s j m ∧ Hid (wordB (wd.drop n) m = wordB wd l) ∧ Touch (fun k => k = bp) w1 wr) (fun _ i _ => wd.length - (intOf i).toNat)
  case atStart => exact ⟨0, Nat.zero_le _, rfl, k, l, HP1.out, HL.out, rfl, Touch.refl _ _⟩
  case round =>
    obtain ⟨n, hk, rfl, j, m, hP2, hl2, hW, ht⟩ := hrel
    have HP2 := Lib.hid hP2
    have HL2 := Lib.hid hl2
    have HT := Lib.hid ht
    have hR3 := rd_touch HR.out ht (fun a n c e => by cases e; exact fun h => by have := HN.out; have h' : w.heap.size = bp := h; omega)
    clear hP2 hl2 ht
    by_cases hlt : n < wd.length
    · have hat : wd[n]? = some wd[n] := List.getElem?_eq_getElem hlt
      have Hd := Lib.hid (List.drop_eq_getElem_cons hlt)
      obtain ⟨b', o, hA, hc⟩ := hR3.byteAt hat
      cases hA
      rw [Nat.zero_add] at hc
      clear hR3
      generalize wd[n] = c at hat hc Hd
      clear hat
      have kc := fun wx => conv_one 89 9 5 Tryz.underlying89 Tryz.underlying5 Tryz.underlying9 c wx
      have K1 := Lib.hid (fun w hP => one_any bp s [c] j m w hP HL2.out hs)
      rw [Hd.out, wordB] at hW
      rcases ho : oneB [c] m with ⟨c', r⟩ | ⟨r, e⟩
      · rw [ho] at K1 hW
        unfold OutU byteV at K1
        go_wp2_with (go_at_call 129; with_reducible refine (K1.out _ (HP2.out.below ((Below.refl _ _).alloc (Nat.le_refl _) _))).mono ?_; rintro e w4 ⟨⟨rfl, j4, hP4, hl4⟩, ht4⟩)
        go_roundw
        case rel => exact ⟨n + 1, by omega, by go_num, j4, r, hP4, hl4, hW, (HT.out.trans (Touch.of_below ((Below.refl _ _).alloc (Nat.le_refl _) _))).trans ht4⟩
        case measure => simp [intOf]; omega
      · rw [ho] at K1 hW
        unfold OutU at K1
        go_wp2_with (go_at_call 129; with_reducible refine (K1.out _ (HP2.out.below ((Below.refl _ _).alloc (Nat.le_refl _) _))).mono ?_; rintro e w4 ⟨rfl, ht4⟩)
        exact ⟨rfl, by rw [← hW.out]; rfl, ((Touch.of_below hb).trans (HT.out.trans (Touch.of_below ((Below.refl _ _).alloc (Nat.le_refl _) _)))).trans ht4⟩
    · have Hf := Lib.hid (show wordB (wd.drop n) m = .ok () m by rw [List.drop_of_length_le (by omega)]; rfl)
      go_wp2
      go_end0
      rw [← hW.out, Hf.out]
      exact ⟨⟨rfl, j, HP2.out, HL2.out⟩, (Touch.of_below hb).trans HT.out⟩
theorem word_lit (bp : Nat) (s o : ByteArray) (wd : B) (ho : ofL wd = o) (k : Nat) (l : B) (w : World) (hP : PC w bp s k) (hl : At s k l) (hs : s.size ≤ 65536) (hw : wd.length ≤ 100) :
    Calls Tryz.prog 109 #[.pointer (some ⟨bp, 0, none⟩), .string o] w fun e w' => OutU bp s unitV e w' (wordB wd l) ∧ Touch (fun j => j = bp) w w' := by
  subst ho; exact word_any bp s wd k l w hP hl hs hw
end Go.Proofs.YtigdjnfnkjfkmaaGreatDoor
namespace Go.Proofs.YtigdjnfnkjfkmaaGreatDoor
open Go.RowKit
set_option linter.unusedVariables false
set_option linter.unusedSimpArgs false
set_option maxRecDepth 100000

def blanksL : B := [32, 9, 10, 13]
theorem blankB_in (c : UInt8) : blankB c = blanksL.contains c := by
  simp only [blankB, blanksL, List.contains_cons, Bool.or_assoc, List.contains_nil, Bool.or_false]
theorem skip_at (c : UInt8) (r : B) (h : blankB c = true) : skipB (c :: r) = skipB r := by unfold skipB; rw [List.dropWhile_cons, if_pos h]
theorem skip_no (c : UInt8) (r : B) (h : blankB c = false) : skipB (c :: r) = c :: r := by unfold skipB; rw [List.dropWhile_cons, if_neg (by rw [h]; decide)]
theorem blanks_any (bp : Nat) (s : ByteArray) (k : Nat) (l : B) (w : World) (hP : PC w bp s k) (hl : At s k l) (hs : s.size ≤ 65536) :
    Calls Tryz.prog 77 #[.pointer (some ⟨bp, 0, none⟩)] w fun e w' => e = .returned (.tuple #[]) ∧ (∃ j, PC w' bp s j ∧ At s j (skipB l)) ∧ Touch (fun j => j = bp) w w' := by
  have HP := Lib.hid hP
  have HL := Lib.hid hl
  have hm : s.size ≤ 9223372036854775807 := by omega
  clear hP hl
  go_enter Tryz.func77, Tryz.ntmps77
  go_wp2
  go_loopw [] (fun wr => ∃ j m, PC wr bp s j ∧ At s j m ∧ Hid (skipB m = skipB l) ∧ Touch (fun k => k = bp) w wr) (fun wr => s.size - (intOf ((wr.cell? ⟨bp, 1, none⟩).getD undef)).toNat)
  case atStart => exact ⟨k, l, HP.out, HL.out, rfl, Touch.refl _ _⟩
  case round =>
    obtain ⟨j, m, hP2, hl2, hW, ht⟩ := hrel
    have HP2 := Lib.hid hP2
    have HL2 := Lib.hid hl2
    have HT := Lib.hid ht
    have c0 := hP2.c0
    have c1 := hP2.c1
    clear hP2 hl2 ht
    cases m with
    | nil =>
      have hj := HL2.out.nil
      subst hj
      have hlt : ¬ (s.size : Int) < s.size := by omega
      go_wp2_with fail
      go_quiet (fail)
      go_wp2_with fail
      go_end0
      have hb := below_drewN wr.heap.size wr nq
      exact ⟨rfl, ⟨s.size, HP2.out.below hb, by rw [← hW.out]; exact HL2.out⟩, HT.out.next hb⟩
    | cons c r =>
      obtain ⟨hk, hc, ha⟩ := HL2.out.cons
      have hb : (j : Int) < s.size := by omega
      have hi : 0 ≤ (j : Int) ∧ (j : Int) < s.size := by omega
      have hc' := atI hk hc
      have hn := idx_neg c blanksL
      rw [← blankB_in] at hn
      have K3 := Lib.hid (fun w => ibyte_any c (ofL blanksL) w)
      rw [toL_ofL] at K3
      have HA := Lib.hid ha
      clear ha
      cases hp : blankB c with
      | false =>
        have h1 : ¬ Lib.indexByte blanksL c ≥ 0 := by have := hn.2 hp; omega
        have H2 := Lib.hid (skip_no c r hp)
        generalize Lib.indexByte blanksL c = ix at *
        clear hn hp
        go_wp2_with fail
        go_quiet ((go_at_call 110; exact Calls.quiet_of_same (K3.out _)))
        go_wp2_with fail
        go_end0
        have hb := below_drewN wr.heap.size wr nq
        exact ⟨rfl, ⟨j, HP2.out.below hb, by rw [← hW.out, H2.out]; exact HL2.out⟩, HT.out.next hb⟩
      | true =>
        have h1 : Lib.indexByte blanksL c ≥ 0 := by
          rw [hp] at hn
          by_cases h : Lib.indexByte blanksL c < 0
          · have := hn.1 h; cases this
          · omega
        have H2 := Lib.hid (skip_at c r hp)
        generalize Lib.indexByte blanksL c = ix at *
        clear hn hp
        go_wp2_with fail
        go_quiet ((go_at_call 110; exact Calls.quiet_of_same (K3.out _)))
        have hb := below_drewN wr.heap.size wr nq
        have hp3 := HP2.out.below hb
        have HT3 := Lib.hid (HT.out.next hb)
        clear c0 c1
        generalize wr.drewN nq = w3 at hb hp3 HT3 ⊢
        have c1 := hp3.c1
        have f1 := hp3.fz 1
        have HP3 := Lib.hid hp3
        clear hp3
        go_wp2_with fail
        go_roundw
        case rel => exact ⟨j + 1, r, HP3.out.set (j + 1), HA.out, by show _ = _; rw [← H2.out]; exact hW.out, HT3.out.setCell (p := ⟨bp, 1, none⟩) rfl _⟩
        case measure => 
          have e := (HP3.out.set (j + 1)).c1
          rw [Int.natCast_add, Int.natCast_one] at e
          rw [HP2.out.c1, e]
          simp [intOf]; omega
end Go.Proofs.YtigdjnfnkjfkmaaGreatDoor
