/- The program's Parse (httpd): the request with which bytes begin. Conditions: the bytes are few. Requests that are the same, lists of bytes that are equal, a clone; the law's 'awake'. Conditions: the bytes are few. A request's cells; the law's 'awake' (blotterlaw08). Conditions: none. The law HttpdParses (blotterlaw08) is true: its walk. Conditions: none. Lists of bytes one behind the other (slices.Concat). Conditions: they are no longer than 2^40 bytes. Headers' size, their lines, whether they are equal (blotterlaw08, httpd). Conditions: they are few. A request is printed (httpd.Print). Conditions: the request is small. -/
import Derived.Test.YtgdelmkgdfhdpaaGreatDoorLaw
import Derived.Lib.AppendZerosOnto
import Derived.Lib.AppendZeros
import Derived.Laws.AppendOwnNone
import Derived.Deep.DeepCutAuto
namespace Go.Proofs.YtgdelmkgdfhdpaaGreatDoor
open Go.RowKit
set_option linter.unusedVariables false
set_option linter.unusedSimpArgs false
set_option maxRecDepth 100000

/-- A request that was read, as a value of its own. -/
def OwnReq (base : Nat) (x : Req) (v : Value) (w : World) : Prop :=
  ∃ Hv Bv, v = .agg #[.string (ofL x.m), .string (ofL x.p), Hv, Bv] ∧ w.ownsRow base 30 2 Hv x.h.length (pairs x.h) ∧ w.ownsRow base 5 1 Bv x.b.length (bytesV x.b)
def ProgIs (base : Nat) (x : Req × Nat × Nat) (e : Ending) (w : World) : Prop :=
  ∃ v, e = .returned (.tuple #[v, .int .i64 x.2.1, .int .i64 x.2.2]) ∧ OwnReq base x.1 v w
theorem own_rebase {w : World} {b1 b2 : Nat} {e : TypeId} {size : Nat} {v : Value} {n : Nat} {xs : List Value} (h : w.ownsRow b1 e size v n xs) (hk : ∀ k, v.ownBlock = some k → b2 ≤ k) : w.ownsRow b2 e size v n xs := by
  rcases h.2 with ⟨rfl, rfl⟩ | ⟨g, cap, cur, rfl, hb, hg, hc, hm, hs, htk⟩
  · exact ⟨h.1, .inl ⟨rfl, rfl⟩⟩
  · exact ⟨h.1, .inr ⟨g, cap, cur, rfl, hk g rfl, hg, hc, hm, hs, htk⟩⟩
theorem own_req_none (base : Nat) (w : World) : OwnReq base noReq zReq w := ⟨_, _, rfl, World.ownsRow_nil _ _ _ _, World.ownsRow_nil _ _ _ _⟩
theorem prog_none {base : Nat} {x : Req × Nat × Nat} {n : Nat} (h : x = (noReq, 0, n)) (w : World) : ProgIs base x (.returned (.tuple #[.agg #[.string ⟨#[]⟩, .string ⟨#[]⟩, .slice none 0 0, .slice none 0 0], .int .i64 0, .int .i64 n])) w := by
  subst h; exact ⟨_, rfl, own_req_none _ _⟩

theorem z0_touch {F : Nat → Prop} {w w' : World} {b : Nat} (h : Z0 w b) (ht : Touch F w w') (hf : ¬ F b) : Z0 w' b := by
  obtain ⟨⟨h0, h1, h2, h3⟩, f0, f1, f2, f3⟩ := h
  have hl := lt_of_cell h0
  have hb : ∀ o, w'.frozen? ⟨b, o, none⟩ = w.frozen? ⟨b, o, none⟩ := fun o => by unfold World.frozen?; rw [ht.block b hl hf]
  have hc : ∀ o, w'.cell? ⟨b, o, none⟩ = w.cell? ⟨b, o, none⟩ := fun o => ht.cell (p := ⟨b, o, none⟩) hl hf
  unfold Z0
  rw [hb, hb, hb, hb, hc, hc, hc, hc]
  exact ⟨⟨h0, h1, h2, h3⟩, f0, f1, f2, f3⟩

set_option maxHeartbeats 4000000 in
theorem prog_any (l : B) (v : Value) (w : World) (hR : Rd w 1 v l.length (bytesV l)) (hl : l.length ≤ 140737488355328) (hg : Glob w) :
    Calls Tryz.prog 18 #[v] w fun e w' => ProgIs w.heap.size (progParse l) e w' ∧ Below w.heap.size w w' := by
  obtain ⟨A, cp, rfl⟩ := hR.shape
  have HR := Lib.hid hR
  have HG := Lib.hid hg
  clear hR hg
  go_enter Tryz.func18, Tryz.ntmps18
  have C := Lib.hid (fun w => fresh_any w)
  go_wp2_with (go_at_call 36; refine (C.out _).mono ?_)
  rintro e w1 ⟨rfl, hb1, hs1, hI⟩
  have hz := (z0_alloc w).next hb1
  have hbw := (((Below.refl w.heap.size w).alloc (Nat.le_refl _) _).trans (hb1.mono (by simp)))
  have ha : (w.alloc (.cells #[.string ⟨#[]⟩, .string ⟨#[]⟩, .slice none 0 0, .slice none 0 0] 45)).heap.size = w.heap.size + 1 := by simp
  rw [ha] at hs1 hI ⊢
  obtain ⟨mg, hmg⟩ := HG.out
  have hml := lt_of_cell hmg
  have HR1 := HR.out.below hbw
  have hrun := run_any (w.heap.size + 1) (fun k => k = w.heap.size + 1) mc0 l (.slice A l.length cp) w1 hI bound0 (HG.out.next hbw) (by omega) HR1 hl (by
    rintro hne a n c he e
    obtain ⟨h1, A', c', h2, h3, h4, h5, h6⟩ := HR.out
    rw [h2] at he
    cases he
    obtain ⟨hsp, hcell⟩ := h6 a rfl
    cases l with
    | nil => exact hne rfl
    | cons x t => have := lt_of_cell (hcell 0 _ rfl); omega)
  generalize hr : runM mc0 l = r at hrun
  obtain ⟨n, st, y⟩ := r
  have hP : progParse l = finP 0 (n, st, y) := by unfold progParse; rw [hr]
  have HC := Lib.hid hrun
  clear hrun hr hI
  by_cases h0 : st = 0
  case neg =>
    have h1 : ((st : Int) != 0) = true := by simp; omega
    have Hf := Lib.hid (show progParse l = (noReq, 0, st) by rw [hP]; simp [finP, h0])
    clear hP h0
    go_wp2_with (go_at_call 37; refine HC.out.mono ?_)
    rintro e w2 ⟨rfl, hso⟩
    obtain ⟨⟨hc0, hc1, hc2, hc3⟩, f0, f1, f2, f3⟩ := z0_touch hz hso.1 (by simp)
    have hb2 : Below w.heap.size w w2 := hbw.trans (hso.1.below (fun k hk e => by omega) (by omega))
    have Hso := Lib.hid hso
    clear hso
    go_wp2_with fail
    refine bodyPost_ret (v := .tuple #[.agg #[.string ⟨#[]⟩, .string ⟨#[]⟩, .slice none 0 0, .slice none 0 0], .int .i64 0, .int .i64 st]) (by simp [results, Tryz.results18, go_sem, hc0, hc1, hc2, hc3]) rfl ⟨prog_none Hf.out _, below_set4 hb2 _ _ _ _⟩
  subst h0
  have h1 : (((0 : Nat) : Int) != 0) = false := rfl
  have Hf := Lib.hid (show progParse l = (⟨y.m, y.p, y.h, y.b⟩, n, 0) by rw [hP]; simp [finP])
  clear hP
  go_wp2_with (go_at_call 37; refine HC.out.mono ?_)
  rintro e w2 ⟨rfl, hso⟩
  obtain ⟨⟨hc0, hc1, hc2, hc3⟩, f0, f1, f2, f3⟩ := z0_touch hz hso.1 (by simp)
  have hb2 : Below w.heap.size w w2 := hbw.trans (hso.1.below (fun k hk e => by omega) (by omega))
  obtain ⟨nx, hv, y', ⟨_, Hv, Bv, hM, ⟨hHo, hHb⟩, ⟨hBo, hBb⟩, _⟩, e1, e2, e3, e4⟩ := hso.2.2 rfl
  rw [e1, e2] at hM
  rw [e3] at hHo
  rw [e4] at hBo
  have q1 : w2.ownsRow (w.heap.size + 1) 30 2 Hv y.h.length (pairs y.h) := own_rebase hHo fun k hk => by rcases hHb k hk with h | ⟨h, _⟩ <;> omega
  have q2 : w2.ownsRow (w.heap.size + 1) 5 1 Bv y.b.length (bytesV y.b) := own_rebase hBo fun k hk => by rcases hBb k hk with h | ⟨h, _⟩ <;> omega
  have Q1 := Lib.hid q1
  have Q2 := Lib.hid q2
  obtain ⟨hA, hc', rfl⟩ := (rd_of_own q1).shape
  obtain ⟨bA, bc', rfl⟩ := (rd_of_own q2).shape
  have m2 := hM.c2
  have m3 := hM.c3
  have m4 := hM.c4
  have m5 := hM.c5
  have HM := Lib.hid hM
  clear q1 q2 hso hHo hHb hBo hBb hM e1 e2 e3 e4
  go_wp2_with fail
  refine bodyPost_ret (v := .tuple #[.agg #[.string (ofL y.m), .string (ofL y.p), .slice hA y.h.length hc', .slice bA y.b.length bc'], .int .i64 n, .int .i64 0]) (by simp [results, Tryz.results18, go_sem, hc0, hc1, hc2, hc3]) rfl ⟨?_, below_set4 hb2 _ _ _ _⟩
  unfold ProgIs
  rw [Hf.out]
  exact ⟨_, rfl, _, _, rfl, (own_set4 Q1.out (Nat.lt_succ_self _) _ _ _ _).mono (Nat.le_succ _), (own_set4 Q2.out (Nat.lt_succ_self _) _ _ _ _).mono (Nat.le_succ _)⟩
end Go.Proofs.YtgdelmkgdfhdpaaGreatDoor
namespace Go.Proofs.YtgdelmkgdfhdpaaGreatDoor
open Go.RowKit
set_option linter.unusedVariables false
set_option linter.unusedSimpArgs false
set_option maxRecDepth 100000

theorem equal_any (l m : B) (v u : Value) (w : World) (hR : Rd w 1 v l.length (bytesV l)) (hS : Rd w 1 u m.length (bytesV m)) (hn : l.length ≤ 1099511627776) (hm : m.length ≤ 1099511627776) :
    Calls Tryz.prog 16 #[v, u] w fun e w' => e = .returned (.bool (decide (l = m))) ∧ Below w.heap.size w w' := by
  have HR := Lib.hid hR
  have HS := Lib.hid hS
  obtain ⟨A, c, rfl⟩ := hR.shape
  obtain ⟨A', c', rfl⟩ := hS.shape
  clear hR hS
  by_cases hl : l.length = m.length
  · have Hl := Lib.hid hl
    go_enter Tryz.func16, Tryz.ntmps16
    go_wp2
    go_loopw [13] (fun i wr => ∃ k : Nat, k ≤ l.length ∧ i = .int .i64 k ∧ l.take k = m.take k ∧ Below w.heap.size w wr) (fun i _ => l.length - (intOf i).toNat)
    case atStart => exact ⟨0, Nat.zero_le _, rfl, rfl, Below.refl _ _⟩
    case round =>
      obtain ⟨k, hk, rfl, he, hb⟩ := hrel
      have He := Lib.hid he
      clear he
      by_cases hlt : k < l.length
      · obtain ⟨h, hh⟩ : ∃ h, l[k]? = some h := ⟨l[k], List.getElem?_eq_getElem hlt⟩
        obtain ⟨g, hg⟩ : ∃ g, m[k]? = some g := ⟨m[k]'(by omega), List.getElem?_eq_getElem (by omega)⟩
        obtain ⟨b, o, rfl, hc1⟩ := (HR.out.below hb).byteAt hh
        obtain ⟨b', o', rfl, hd1⟩ := (HS.out.below hb).byteAt hg
        have hlt' : k < m.length := by omega
        clear hl
        by_cases hhg : h = g
        · subst hhg
          have kq : ((h.toNat : Int) != (h.toNat : Int)) = false := by simp
          have Hs : Hid (l.take (k + 1) = m.take (k + 1)) := by show _ = _; rw [take_snoc' hh, take_snoc' hg, He.out]
          clear hh hg
          go_wp2
          go_quiet (fail)
          go_wp2
          go_roundw
          case rel => exact ⟨k + 1, by omega, by go_num, Hs.out, hb.trans (below_drewN _ _ _)⟩
          case measure => simp [intOf]; omega
        · have kq : ((h.toNat : Int) != (g.toNat : Int)) = true := by
            simp only [bne_iff_ne, ne_eq]; intro e; exact hhg (UInt8.toNat_inj.1 (by omega))
          have Hs : Hid (l ≠ m) := fun e => by rw [e] at hh; rw [hh] at hg; exact hhg (Option.some.inj hg)
          clear hh hg hhg
          go_wp2
          go_quiet (fail)
          go_wp2
          go_ret
          exact ⟨ret_bool (by simp [Hs.out]), hb.trans (below_drewN _ _ _)⟩
      · have hk' : ¬ k < m.length := by omega
        have Hf : Hid (l = m) := by show _ = _; have := He.out; rwa [List.take_of_length_le (by omega), List.take_of_length_le (by have := Hl.out; omega)] at this
        go_wp2
        go_ret
        exact ⟨ret_bool (by simp [Hf.out]), hb⟩
  · have Hf : Hid (l ≠ m) := fun e => hl (by rw [e])
    have hl' : ((l.length : Int) != (m.length : Int)) = true := by simp; omega
    go_enter Tryz.func16, Tryz.ntmps16
    go_wp2
    go_ret
    exact ⟨ret_bool (by simp [Hf.out]), Below.refl _ _⟩

theorem clone_any (l : B) (v : Value) (w : World) (hR : Rd w 1 v l.length (bytesV l)) (hl : l.length ≤ 140737488351232) :
    Calls Tryz.prog 9 #[v] w fun e w' => ∃ v', e = .returned v' ∧ w'.ownsRow w.heap.size 5 1 v' l.length (bytesV l) ∧ Below w.heap.size w w' := by
  obtain ⟨hlen, A, c, rfl, hcap, hmax, hnone, hsome⟩ := hR
  have q22 : ∀ (w : World) (a : Option Addr) (n c n' c' : Nat), (binOp .eql 23 (.slice a n c) (.slice none n' c')).run Tryz.prog w = .ok (.bool a.isNone) w := fun w a n c n' c' => Lib.run_eql_slice_nil w _ _ a n c n' c' Tryz.underlying23
  cases A with
  | none =>
    have h0 := hnone rfl
    have hl0 := List.eq_nil_of_length_eq_zero h0
    subst hl0
    go_enter Tryz.func9, Tryz.ntmps9
    go_wp2
    go_ret
    exact ⟨_, rfl, World.ownsRow_nil _ _ _ _, Below.refl _ _⟩
  | some a =>
    obtain ⟨hsp, hc⟩ := hsome a rfl
    obtain ⟨b, o, q⟩ := a
    simp only at hsp
    subst hsp
    have Hc := Lib.hid hc
    have hone : ∀ u ∈ bytesV l, u.oneCell' = true := oneCell_bytes l
    obtain ⟨htu, ⟨i0, hi, hz, hsize, hby⟩, hzs, hsz, hbz⟩ := rowB
    clear hc
    go_enter Tryz.func9, Tryz.ntmps9
    go_wp2_with (at_builtin; refine wpList_append_own _ rfl _ _ 23 rfl w.heap.size 5 i0 _ 1 1 htu hi hz hsize hby hzs hsz _ _ _ rfl (World.ownsRow_made w #[] 0 (Nat.le_refl _) (Nat.zero_le _) (by simp)) ⟨b, o, none⟩ l.length c (bytesV l) rfl ?qc1 ?qc2 hone ?qc4 ?qc5 ?qc6 ?_)
    case qc2 =>
      intro j u hj
      exact keeps_alloc (Hc.out j u hj) _
    case qc4 => unfold maxLen; omega
    case qc5 => omega
    intro v' w1 hown hgrow hnil
    go_wp2
    go_ret
    refine ⟨v', rfl, by simpa using hown, ?_⟩
    exact ((Below.refl _ w).alloc (Nat.le_refl _) _).grown hgrow (by simp) (by intro k hk; simp [Value.ownBlock] at hk; omega)

end Go.Proofs.YtgdelmkgdfhdpaaGreatDoor
namespace Go.Proofs.YtgdelmkgdfhdpaaGreatDoor
open Go.RowKit
set_option linter.unusedVariables false
set_option linter.unusedSimpArgs false
set_option maxRecDepth 100000

/-- A request's cells. -/
def RC (w : World) (b : Nat) (m p : ByteArray) (Hv Bv : Value) : Prop := w.heap[b]? = some (.cells #[.string m, .string p, Hv, Bv] 45 (0, 0))
theorem RC.cell {w : World} {b : Nat} {m p : ByteArray} {Hv Bv : Value} (h : RC w b m p Hv Bv) (i : Nat) : w.cell? ⟨b, i, none⟩ = #[Value.string m, .string p, Hv, Bv][i]? := by rw [Lib.cell_of_heap h]
theorem RC.c0 {w : World} {b : Nat} {m p : ByteArray} {Hv Bv : Value} (h : RC w b m p Hv Bv) : w.cell? ⟨b, 0, none⟩ = some (.string m) := h.cell 0
theorem RC.c1 {w : World} {b : Nat} {m p : ByteArray} {Hv Bv : Value} (h : RC w b m p Hv Bv) : w.cell? ⟨b, 1, none⟩ = some (.string p) := h.cell 1
theorem RC.c2 {w : World} {b : Nat} {m p : ByteArray} {Hv Bv : Value} (h : RC w b m p Hv Bv) : w.cell? ⟨b, 2, none⟩ = some Hv := h.cell 2
theorem RC.c3 {w : World} {b : Nat} {m p : ByteArray} {Hv Bv : Value} (h : RC w b m p Hv Bv) : w.cell? ⟨b, 3, none⟩ = some Bv := h.cell 3
theorem RC.lt {w : World} {b : Nat} {m p : ByteArray} {Hv Bv : Value} (h : RC w b m p Hv Bv) : b < w.heap.size := (Array.getElem?_eq_some_iff.1 h).1
theorem RC.touch {F : Nat → Prop} {w w' : World} {b : Nat} {m p : ByteArray} {Hv Bv : Value} (h : RC w b m p Hv Bv) (ht : Touch F w w') (hf : ¬ F b) : RC w' b m p Hv Bv := by unfold RC; rw [ht.block b h.lt hf]; exact h
theorem RC.below {w w' : World} {b : Nat} {m p : ByteArray} {Hv Bv : Value} (h : RC w b m p Hv Bv) (hb : Below w.heap.size w w') : RC w' b m p Hv Bv := h.touch (.of_below (F := fun _ => False) hb) id
theorem rc_new (w : World) (m p : ByteArray) (Hv Bv : Value) :
    RC (((((w.alloc (.cells #[.string ⟨#[]⟩, .string ⟨#[]⟩, .slice none 0 0, .slice none 0 0] 45)).setCell ⟨w.heap.size, 0, none⟩ (.string m)).setCell ⟨w.heap.size, 1, none⟩ (.string p)).setCell ⟨w.heap.size, 2, none⟩ Hv).setCell ⟨w.heap.size, 3, none⟩ Bv) w.heap.size m p Hv Bv := by
  unfold RC
  have h0 := heap_alloc_new w (.cells #[.string ⟨#[]⟩, .string ⟨#[]⟩, .slice none 0 0, .slice none 0 0] 45)
  rw [heap_set_own (heap_set_own (heap_set_own (heap_set_own h0 0 (.string m)) 1 (.string p)) 2 Hv) 3 Bv]; rfl
theorem rc_below (w : World) (m p : ByteArray) (Hv Bv : Value) :
    Below w.heap.size w (((((w.alloc (.cells #[.string ⟨#[]⟩, .string ⟨#[]⟩, .slice none 0 0, .slice none 0 0] 45)).setCell ⟨w.heap.size, 0, none⟩ (.string m)).setCell ⟨w.heap.size, 1, none⟩ (.string p)).setCell ⟨w.heap.size, 2, none⟩ Hv).setCell ⟨w.heap.size, 3, none⟩ Bv) :=
  below_set4 ((Below.refl _ _).alloc (Nat.le_refl _) _) _ _ _ _

theorem rd_wakeB (w : World) {fr : Nat × Nat} {g : Nat} (hg : g = w.heap.size) : Rd (w.alloc (.cells #[.int .u8 71, .int .u8 69, .int .u8 84, .int .u8 32, .int .u8 47, .int .u8 97, .int .u8 32, .int .u8 72, .int .u8 84, .int .u8 84, .int .u8 80, .int .u8 47, .int .u8 49, .int .u8 46, .int .u8 48, .int .u8 13, .int .u8 10, .int .u8 13, .int .u8 10] 5 fr)) 1
    (.slice (some ⟨g, 0, none⟩) 19 19) wakeB.length (bytesV wakeB) := by
  subst hg
  refine ⟨rfl, _, _, rfl, by decide, by unfold maxLen; omega, (fun h => by cases h), fun a ha => ?_⟩
  cases ha
  refine ⟨rfl, fun j u hj => ?_⟩
  rw [Nat.zero_add, World.cell?_alloc_mark]
  have e : bytesV wakeB = [.int .u8 71, .int .u8 69, .int .u8 84, .int .u8 32, .int .u8 47, .int .u8 97, .int .u8 32, .int .u8 72, .int .u8 84, .int .u8 84, .int .u8 80, .int .u8 47, .int .u8 49, .int .u8 46, .int .u8 48, .int .u8 13, .int .u8 10, .int .u8 13, .int .u8 10] := rfl
  rw [e] at hj
  simpa using hj
theorem req_agg {base : Nat} {x : Req} {v : Value} {w : World} (h : OwnReq base x v w) : ∃ A c B d, v = .agg #[.string (ofL x.m), .string (ofL x.p), .slice A x.h.length c, .slice B x.b.length d] := by
  obtain ⟨Hv, Bv, rfl, h1, h2⟩ := h
  obtain ⟨A, c, rfl⟩ := (rd_of_own h1).shape
  obtain ⟨B, d, rfl⟩ := (rd_of_own h2).shape
  exact ⟨_, _, _, _, rfl⟩
set_option maxHeartbeats 4000000 in
theorem awake_any (w : World) (hg : Glob w) : Calls Tryz.prog 7 #[] w fun e w' => e = .returned (.bool true) ∧ Below w.heap.size w w' := by
  have HG := Lib.hid hg
  clear hg
  have kb := fun wx => run_bytes_of_string (P := Tryz.prog) wx 9 23 5 (⟨#[71, 69, 84, 32, 47, 97, 32, 72, 84, 84, 80, 47, 49, 46, 49, 13, 10, 72, 111, 115, 116, 58, 32, 97, 13, 10, 13, 10]⟩ ++ ⟨#[120]⟩) Tryz.underlying9 Tryz.underlying23 Tryz.underlying5
  have ha := fun fr => rd_bytes' (w := w) (wc := w) (s := ⟨#[71, 69, 84, 32, 47, 97, 32, 72, 84, 84, 80, 47, 49, 46, 49, 13, 10, 72, 111, 115, 116, 58, 32, 97, 13, 10, 13, 10]⟩ ++ ⟨#[120]⟩) (n := 29) (e := 5) (fr := fr) rfl (by decide)
  rw [show ((⟨#[71, 69, 84, 32, 47, 97, 32, 72, 84, 84, 80, 47, 49, 46, 49, 13, 10, 72, 111, 115, 116, 58, 32, 97, 13, 10, 13, 10]⟩ ++ ⟨#[120]⟩ : ByteArray)) = ofL wakeA from rfl, toL_ofL] at ha
  have HA := Lib.hid ha
  clear ha
  go_enter Tryz.func7, Tryz.ntmps7
  go_wp2_with fail
  refine (prog_any wakeA _ _ (HA.out _) (by decide) (HG.out.next (((Below.refl _ w).alloc (Nat.le_refl _) _).drew))).mono ?_
  clear kb
  rintro e w1 ⟨⟨v1, rfl, ho⟩, hb1⟩
  have hr := (((Below.refl w.heap.size w).alloc (Nat.le_refl _) _).drew).trans (hb1.mono (by simp))
  clear hb1
  rw [wakeA_law] at ho ⊢
  obtain ⟨A1, c1, B1, d1, rfl⟩ := req_agg ho
  clear ho
  have kc := fun o => Go.Joins.run_convert_bytes_const_at (P := Tryz.prog) (w1.alloc o) 23 5 #[.int .u8 71, .int .u8 69, .int .u8 84, .int .u8 32, .int .u8 47, .int .u8 97, .int .u8 32, .int .u8 72, .int .u8 84, .int .u8 84, .int .u8 80, .int .u8 47, .int .u8 49, .int .u8 46, .int .u8 48, .int .u8 13, .int .u8 10, .int .u8 13, .int .u8 10] 19 19 (w1.heap.size + 1) (by simp) Tryz.underlying23 Tryz.underlying5
  go_wp2_with fail
  clear kc
  have hR1 : RC (w1.alloc (.cells #[.string (ofL [71, 69, 84]), .string (ofL [47, 97]), .slice A1 1 c1, .slice B1 0 d1] 45)) w1.heap.size (ofL [71, 69, 84]) (ofL [47, 97]) (.slice A1 1 c1) (.slice B1 0 d1) := heap_alloc_new _ _
  have hr1 := hr.alloc hr.size (.cells #[.string (ofL [71, 69, 84]), .string (ofL [47, 97]), .slice A1 1 c1, .slice B1 0 d1] 45)
  have hs1 : (w1.alloc (.cells #[.string (ofL [71, 69, 84]), .string (ofL [47, 97]), .slice A1 1 c1, .slice B1 0 d1] 45)).heap.size = w1.heap.size + 1 := by simp
  generalize w1.alloc (.cells #[.string (ofL [71, 69, 84]), .string (ofL [47, 97]), .slice A1 1 c1, .slice B1 0 d1] 45) = w2 at *
  have hb3 := (Below.refl w2.heap.size w2).alloc (Nat.le_refl _) (.cells #[.int .u8 71, .int .u8 69, .int .u8 84, .int .u8 32, .int .u8 47, .int .u8 97, .int .u8 32, .int .u8 72, .int .u8 84, .int .u8 84, .int .u8 80, .int .u8 47, .int .u8 49, .int .u8 46, .int .u8 48, .int .u8 13, .int .u8 10, .int .u8 13, .int .u8 10] 5 (19, 20))
  refine (prog_any wakeB _ _ (rd_wakeB w2 hs1.symm) (by decide) (HG.out.next (hr1.next hb3))).mono ?_
  rintro e w3 ⟨⟨v3, rfl, ho⟩, hb4⟩
  have hb5 := hb3.next hb4
  have hR3 := hR1.below hb5
  have hr3 := hr1.next hb5
  clear hb3 hb4 hb5 hr hr1 hs1 hR1 HA
  rw [wakeB_law] at ho ⊢
  obtain ⟨A2, c2, B2, d2, rfl⟩ := req_agg ho
  clear ho
  have k1 := hR3.c1
  have klt := hR3.lt
  have e1 : ((ofL [47, 97]).toList == [47, 97]) = true := by rw [toL_ofL]; rfl
  go_wp2_with fail
  go_ret
  exact ⟨rfl, hr3.alloc hr3.size _⟩
end Go.Proofs.YtgdelmkgdfhdpaaGreatDoor
namespace Go.Proofs.YtgdelmkgdfhdpaaGreatDoor
open Go.RowKit
set_option linter.unusedVariables false
set_option linter.unusedSimpArgs false
set_option maxRecDepth 100000

theorem req_of_own {base : Nat} {x : Req} {v : Value} {w : World} (h : OwnReq base x v w) : ReqV w x v := by
  obtain ⟨Hv, Bv, rfl, h1, h2⟩ := h
  exact ⟨_, _, rfl, rd_of_own h1, rd_of_own h2⟩
theorem reqV_below {x : Req} {v : Value} {w w' : World} (h : ReqV w x v) (hb : Below w.heap.size w w') : ReqV w' x v := by
  obtain ⟨Hv, Bv, rfl, h1, h2⟩ := h
  exact ⟨_, _, rfl, h1.below hb, h2.below hb⟩
/-- A row of bytes, whichever. -/
def ByteRow (w : World) (g n : Nat) : Prop := ∃ cs, w.heap[g]? = some (.cells cs 5 (0, 0)) ∧ ∀ j, j < n → ∃ c : Int, cs[j]? = some (.int .u8 c)
theorem ByteRow.at {w : World} {g n : Nat} (h : ByteRow w g n) {k : Nat} (hk : k < n) : (∃ c : Int, w.cell? ⟨g, k, none⟩ = some (.int .u8 c)) ∧ w.frozen? ⟨g, k, none⟩ = false := by
  obtain ⟨cs, h1, h2⟩ := h
  obtain ⟨c, hc⟩ := h2 k hk
  exact ⟨⟨c, by rw [Lib.cell_of_heap h1]; exact hc⟩, Lib.frozen_of_heap h1 k⟩
theorem ByteRow.set {w : World} {g n : Nat} (h : ByteRow w g n) (k : Nat) (c : Int) : ByteRow (w.setCell ⟨g, k, none⟩ (.int .u8 c)) g n := by
  obtain ⟨cs, h1, h2⟩ := h
  refine ⟨_, heap_set_own h1 k _, fun j hj => ?_⟩
  obtain ⟨d, hd⟩ := h2 j hj
  by_cases e : k = j
  · subst e
    refine ⟨c, ?_⟩
    have hlt := (Array.getElem?_eq_some_iff.1 hd).1
    simp [Array.set!, hlt]
  · exact ⟨d, by simp only [Array.set!]; rw [Array.getElem?_setIfInBounds_ne e]; exact hd⟩
theorem row_of_own {w : World} {base : Nat} {l : B} {v : Value} (h : w.ownsRow base 5 1 v l.length (bytesV l)) : l = [] ∨ ∃ g cap, v = .slice (some ⟨g, 0, none⟩) l.length cap ∧ base ≤ g ∧ ByteRow w g l.length := by
  rcases h.2 with ⟨_, h0⟩ | ⟨g, cap, cur, rfl, hb, hg, hc, hm, hs, htk⟩
  · exact .inl (List.eq_nil_of_length_eq_zero h0)
  · refine .inr ⟨g, cap, rfl, hb, cur, hg, fun j hj => ?_⟩
    obtain ⟨c, hc⟩ : ∃ c, l[j]? = some c := ⟨l[j], List.getElem?_eq_getElem hj⟩
    have h1 := bytesV_at hc
    rw [← htk, List.getElem?_take_of_lt (by omega), Array.getElem?_toList] at h1
    exact ⟨_, h1⟩

theorem req_small (l : B) : (progParse l).1.b.length ≤ 32768 ∧ (progParse l).1.h.length ≤ 32 := by
  rw [parse_law]
  rcases one_law l with ⟨_, _, _, h1, h2, _⟩ | ⟨_, _, h⟩
  · exact ⟨h1, h2⟩
  · rw [h]; exact ⟨Nat.zero_le _, Nat.zero_le _⟩
theorem reqV_agg {x : Req} {v : Value} {w : World} (h : ReqV w x v) : ∃ A c B d, v = .agg #[.string (ofL x.m), .string (ofL x.p), .slice A x.h.length c, .slice B x.b.length d] := by
  obtain ⟨Hv, Bv, rfl, h1, h2⟩ := h
  obtain ⟨A, c, rfl⟩ := h1.shape
  obtain ⟨B, d, rfl⟩ := h2.shape
  exact ⟨_, _, _, _, rfl⟩

end Go.Proofs.YtgdelmkgdfhdpaaGreatDoor
namespace Go.Proofs.YtgdelmkgdfhdpaaGreatDoor
open Go.RowKit
set_option linter.unusedVariables false
set_option linter.unusedSimpArgs false
set_option maxRecDepth 100000

theorem grow_any (n : Nat) (w : World) (hn : n ≤ 140737488355328) :
    Calls Tryz.prog 35 #[.slice none 0 0, .int .i64 n] w fun e w' => ∃ v, e = .returned v ∧ w'.ownsRow w.heap.size 5 1 v 0 [] ∧ Below w.heap.size w w' := by
  by_cases h0 : n = 0
  · subst h0
    go_enter Tryz.func35, Tryz.ntmps35
    go_wp2
    go_ret
    exact ⟨_, rfl, World.ownsRow_nil _ _ _ _, Below.refl _ _⟩
  · obtain ⟨htu, ⟨i0, hi, hz, hsize, hby⟩, hzs, hsz, hbz⟩ := rowB
    have h1 : ¬ ((n : Int) < 0) := by omega
    have h2 : (0 : Int) < n := by omega
    have hold : (Builtin.firstCells i0.size 0 (.slice none 0 0)).run Tryz.prog w.drew = .ok #[] w.drew := run_firstCells_none w.drew i0.size 0 0 0
    have hrz : ∀ ty, (Builtin.append_ #[23, 3] ty #[.slice none 0 0, .int .i64 (n : Int)]).run Tryz.prog w =
        .ok (.slice (some ⟨w.heap.size, 0, none⟩) n (grownCap w n 0 5)) (w.drew.alloc (.cells (#[] ++ Builtin.zeroCells (Value.int .u8 0).cells n ++ Builtin.zeroCells (Value.int .u8 0).cells (grownCap w n 0 5 - n)) 5)) := fun ty => by
      have h := Lib.run_append_grow_zeros w 23 3 ty 5 i0 _ .i64 .i64 htu Tryz.underlying3 hi hz none 0 0 [] hold n (by omega) (by omega) (by omega) (by omega) (by rw [hby]; omega)
        (by rw [hby]; exact growslice_fits (by omega) (by omega))
      simpa using h
    have hG := grownCap_ge w n 0 5
    have hG2 := grownCap_le_maxLen w n 0 5 (by unfold maxLen; omega)
    generalize grownCap w n 0 5 = G at hrz hG hG2
    have hG63 : G ≤ 9223372036854775807 := by unfold maxLen at hG2; omega
    go_enter Tryz.func35, Tryz.ntmps35
    go_wp2_with (at_builtin; refine Lib.wpList_append_run _ rfl _ _ _ _ rfl _ _ rfl rfl _ _ (hrz _) ?_)
    all_goals go_ret
    refine ⟨_, rfl, ⟨by simp, .inr ⟨w.heap.size, G, Builtin.zeroCells #[.int .u8 0] n ++ Builtin.zeroCells #[.int .u8 0] (G - n), rfl, Nat.le_refl _, heap_alloc_new w _, Nat.zero_le _, hG2, ?_, by simp⟩⟩, ((Below.refl _ w).alloc (Nat.le_refl _) _).drew⟩
    rw [Array.size_append, size_zeroCells, size_zeroCells]; simp; omega

/-- The parts' bytes. -/
def flatP (ps : List (Value × B)) : B := ps.flatMap (·.2)
theorem flatP_snoc {ps : List (Value × B)} {k : Nat} {p : Value × B} (h : ps[k]? = some p) : flatP (ps.take (k + 1)) = flatP (ps.take k) ++ p.2 := by
  rw [take_snoc' h]; simp [flatP]
theorem flatP_le (ps : List (Value × B)) (k : Nat) : (flatP (ps.take k)).length ≤ (flatP ps).length := by
  have e : flatP ps = flatP (ps.take k) ++ flatP (ps.drop k) := by unfold flatP; rw [← List.flatMap_append, List.take_append_drop]
  rw [e, List.length_append]; omega
/-- A part that is read; of no address, it has no room. -/
def Part (w : World) (p : Value × B) : Prop := Rd w 1 p.1 p.2.length (bytesV p.2) ∧ ∀ n c, p.1 = .slice none n c → c = 0
theorem Part.below {w w' : World} {p : Value × B} (h : Part w p) (hb : Below w.heap.size w w') : Part w' p := ⟨h.1.below hb, h.2⟩
theorem Part.own {w : World} {base : Nat} {v : Value} {l : B} (h : w.ownsRow base 5 1 v l.length (bytesV l)) : Part w (v, l) := by
  refine ⟨rd_of_own h, fun n c e => ?_⟩
  simp only at e
  rcases h.2 with ⟨h1, _⟩ | ⟨g, cap, cur, h1, _⟩
  · rw [h1] at e; cases e; rfl
  · rw [h1] at e; cases e

set_option maxHeartbeats 4000000 in
theorem concat_any (g c0 : Nat) (ps : List (Value × B)) (w : World) (hc : ∀ j p, ps[j]? = some p → w.cell? ⟨g, j, none⟩ = some p.1 ∧ Part w p) (hL : (flatP ps).length ≤ 140737488355328) (hn : ps.length ≤ 1000) :
    Calls Tryz.prog 17 #[.slice (some ⟨g, 0, none⟩) ps.length c0] w fun e w' => ∃ v, e = .returned v ∧ w'.ownsRow w.heap.size 5 1 v (flatP ps).length (bytesV (flatP ps)) ∧ Below w.heap.size w w' := by
  have HC := Lib.hid hc
  clear hc
  have hle := fun k => flatP_le ps k
  have HLe := Lib.hid hle
  clear hle
  obtain ⟨htu, ⟨i0, hi, hz, hsize, hby⟩, hzs, hsz, hbz⟩ := rowB
  go_enter Tryz.func17, Tryz.ntmps17
  go_wp2_with fail
  go_loopw [3, 11] (fun s i wr => ∃ k : Nat, k ≤ ps.length ∧ i = .int .i64 k ∧ s = .int .i64 (flatP (ps.take k)).length ∧ w = wr) (fun _ i _ => ps.length - (intOf i).toNat)
  case atStart => exact ⟨0, Nat.zero_le _, rfl, rfl, rfl⟩
  case round =>
    obtain ⟨k, hk, rfl, rfl, rfl⟩ := hrel
    by_cases hlt : k < ps.length
    · obtain ⟨p, hp⟩ : ∃ p, ps[k]? = some p := ⟨ps[k], List.getElem?_eq_getElem hlt⟩
      obtain ⟨hcell, hR, _⟩ := HC.out k p hp
      have Hf := Lib.hid (flatP_snoc hp)
      have hle1 := HLe.out (k + 1)
      rw [Hf.out, List.length_append] at hle1
      have Hle1 := Lib.hid hle1
      clear hp
      obtain ⟨p1, p2⟩ := p
      obtain ⟨A, c, hA⟩ := hR.shape
      simp only at hA hcell hle1
      subst hA
      clear hR
      have y1 : IntKind.i64.wrap (((flatP (ps.take k)).length : Int) + (p2.length : Int)) = ((flatP (ps.take k)).length : Int) + p2.length := IntWalk.i64_in _ (by omega)
      have y2 : ¬ (((flatP (ps.take k)).length : Int) + (p2.length : Int) < 0) := by omega
      go_wp2_with fail
      go_roundw
      case rel => exact ⟨k + 1, by omega, by go_num, by rw [Hf.out, List.length_append]; go_num, by trivial⟩
      case measure => simp [intOf]; omega
    · have hke : ps.take k = ps := List.take_of_length_le (by omega)
      rw [hke]
      clear hke
      go_wp2_with fail
      refine (grow_any (flatP ps).length _ hL).mono ?_
      rintro e w1 ⟨v1, rfl, hown, hr⟩
      have HO := Lib.hid hown
      clear hown
      go_wp2_with fail
      go_loopw [6, 27] (fun s i wr => ∃ k : Nat, k ≤ ps.length ∧ i = .int .i64 k ∧ Hid (wr.ownsRow w.heap.size 5 1 s (flatP (ps.take k)).length (bytesV (flatP (ps.take k)))) ∧ Below w.heap.size w wr) (fun _ i _ => ps.length - (intOf i).toNat)
      case atStart => exact ⟨0, Nat.zero_le _, rfl, HO.out, hr⟩
      case round =>
        obtain ⟨k, hk, rfl, Hown, hr⟩ := hrel
        by_cases hlt : k < ps.length
        · obtain ⟨p, hp⟩ : ∃ p, ps[k]? = some p := ⟨ps[k], List.getElem?_eq_getElem hlt⟩
          obtain ⟨hcell0, hP⟩ := HC.out k p hp
          have hcell := Below.keeps hr hcell0
          have hP' := hP.below hr
          have Hf := Lib.hid (flatP_snoc hp)
          have hle1 := HLe.out (k + 1)
          rw [Hf.out, List.length_append] at hle1
          clear hp hcell0 hP
          obtain ⟨p1, p2⟩ := p
          obtain ⟨hR, hN⟩ := hP'
          simp only at hR hN hcell hle1
          obtain ⟨A, c, rfl⟩ := hR.shape
          have hwl := hr.size
          cases A with
          | none =>
            have hc0 := hN _ _ rfl
            subst hc0
            have h20 : p2 = [] := by obtain ⟨_, A', c', h2, _, _, h5, _⟩ := hR; cases h2; exact List.eq_nil_of_length_eq_zero (h5 rfl)
            subst h20
            clear hN hR
            have HO := Lib.hid Hown.out
            go_wp2_with (at_builtin; refine wpList_append_own_none rfl _ _ 23 rfl w.heap.size 5 i0 1 htu hi _ _ _ rfl HO.out rfl ?_)
            go_roundw
            case rel => exact ⟨k + 1, by omega, by go_num, (by show World.ownsRow _ _ _ _ _ _ _; rw [Hf.out]; simpa using HO.out), hr⟩
            case measure => simp [intOf]; omega
          | some a =>
            obtain ⟨_, A', c', h2, _, _, _, h6⟩ := hR
            cases h2
            obtain ⟨hsp, hcl⟩ := h6 a rfl
            obtain ⟨b, o, q⟩ := a
            simp only at hsp
            subst hsp
            have hone : ∀ u ∈ bytesV p2, u.oneCell' = true := oneCell_bytes p2
            have HO := Lib.hid Hown.out
            have Hcl := Lib.hid hcl
            clear hN hcl h6
            go_wp2_with (at_builtin; refine wpList_append_own _ rfl _ _ 23 rfl w.heap.size 5 i0 _ 1 1 htu hi hz hsize hby hzs hsz _ _ _ rfl HO.out ⟨b, o, none⟩ p2.length c (bytesV p2) rfl ?qc1 ?qc2 hone ?qc4 ?qc5 ?qc6 ?_)
            case qc2 => exact Hcl.out
            case qc4 => unfold maxLen; omega
            case qc5 => omega
            intro v' w' hown' hgrow _
            have hb' := hr.grown hgrow hr.size (fun j hj => (HO.out.lt j hj).1)
            have HO' := Lib.hid hown'
            clear hown' hgrow Hown HO hr Hcl
            go_wp2_with fail
            go_roundw
            case rel => exact ⟨k + 1, by omega, by go_num, (by show World.ownsRow _ _ _ _ _ _ _; rw [Hf.out, List.length_append, bytesV_append]; exact HO'.out), hb'⟩
            case measure => simp [intOf]; omega
        · have hke : ps.take k = ps := List.take_of_length_le (by omega)
          rw [hke] at Hown
          have HO := Lib.hid Hown.out
          clear Hown hke
          go_wp2_with fail
          go_ret
          exact ⟨_, rfl, HO.out, hr⟩
end Go.Proofs.YtgdelmkgdfhdpaaGreatDoor
namespace Go.Proofs.YtgdelmkgdfhdpaaGreatDoor
open Go.RowKit
set_option linter.unusedVariables false
set_option linter.unusedSimpArgs false
set_option maxRecDepth 100000

/-- Headers as they are sent. -/
def lineH (h : B × B) : B := h.1 ++ 58 :: 32 :: (h.2 ++ [13, 10])
def linesH (hs : List (B × B)) : B := hs.flatMap lineH
theorem linesH_snoc {hs : List (B × B)} {k : Nat} {h : B × B} (hk : hs[k]? = some h) : linesH (hs.take (k + 1)) = linesH (hs.take k) ++ lineH h := by
  unfold linesH; rw [List.take_add_one, hk]; simp
theorem linesH_le (hs : List (B × B)) (k : Nat) : (linesH (hs.take k)).length ≤ (linesH hs).length := by
  conv => rhs; rw [← List.take_append_drop k hs]
  unfold linesH
  rw [List.flatMap_append, List.length_append]; omega
theorem linesH_many : ∀ hs : List (B × B), 4 * hs.length ≤ (linesH hs).length
  | [] => Nat.zero_le _
  | h :: t => by
    have := linesH_many t
    have e : linesH (h :: t) = lineH h ++ linesH t := by simp [linesH]
    rw [e, List.length_append]
    simp [lineH]; omega

/-- A row of bytes of one's own (closed to the walk). -/
def OwnB (w : World) (base : Nat) (v : Value) (l : B) : Prop := w.ownsRow base 5 1 v l.length (bytesV l)
theorem OwnB.touch {G : Nat → Prop} {w w' : World} {base : Nat} {v : Value} {l : B} (h : OwnB w base v l) (ht : Touch G w w') (hG : ∀ k, v.ownBlock = some k → ¬ G k) : OwnB w' base v l := own_touch h ht hG
theorem OwnB.below {w w' : World} {base : Nat} {v : Value} {l : B} (h : OwnB w base v l) (hb : Below w.heap.size w w') : OwnB w' base v l := own_below h hb
theorem wpList_strB {P : Program} (w : World) {ops : Array Oper} {rest : List Oper} {o : Oper} {a : Act} {Q : Exit → Act → World → Prop} (hgd : o.guard = none) (sl x : Operand) (t u : TypeId)
    (ho : o.op = .call { callee := .builtin .append, args := #[sl, x], argTypes := #[t, u] })
    (base : Nat) (hrow : Row P t 5 (.int .u8 0) 1 1) (hu : P.underlying u = some .string)
    (v : Value) (l : B) (hs : a.eval sl = v) (hown : OwnB w base v l) (s : ByteArray) (hx : a.eval x = .string s)
    (hbytes : l.length + s.size ≤ 140737488355328) (hbase : base ≤ w.heap.size)
    (h : ∀ v' w', OwnB w' base v' (l ++ s.toList) → Touch (fun k => v.ownBlock = some k) w w' → Below base w w' → wpList P ops Q rest (a.put o.dst v') w') : wpList P ops Q (o :: rest) a w :=
  wpList_pushStr w hgd sl x t u ho base hrow hu v l hs hown s hx hbytes hbase fun v' w' h1 h2 h3 => h v' w' h1 ((Touch.refl _ w).grown h2 (fun k hk => hk)) h3
/-- 'append(b, x..)', x bytes that were just laid. -/
theorem wpList_newB {P : Program} (w0 : World) {ops : Array Oper} {rest : List Oper} {o : Oper} {a : Act} {Q : Exit → Act → World → Prop} (hgd : o.guard = none) (sl x : Operand) (t : TypeId)
    (ho : o.op = .call { callee := .builtin .append, args := #[sl, x], argTypes := #[t, t] })
    (base : Nat) (hrow : Row P t 5 (.int .u8 0) 1 1)
    (v : Value) (l : B) (hs : a.eval sl = v) (hown : OwnB w0 base v l) (m : B) (g n : Nat) (hx : a.eval x = .slice (some ⟨g, 0, none⟩) n n) (hg : g = w0.heap.size) (hn : n = m.length)
    (hbytes : l.length + m.length ≤ 140737488355328) (hbase : base ≤ w0.heap.size)
    (h : ∀ v' w', OwnB w' base v' (l ++ m) → Touch (fun k => v.ownBlock = some k) w0 w' → Below base w0 w' → wpList P ops Q rest (a.put o.dst v') w') :
    wpList P ops Q (o :: rest) a (w0.alloc (.cells (bytesV m).toArray 5)) := by
  obtain ⟨ht, ⟨i, hi, hz, hsize, hby⟩, hzs, hsz, hbz⟩ := hrow
  subst hg hn
  refine wpList_append_own _ hgd sl x t ho base 5 i _ 1 1 ht hi hz hsize hby hzs hsz v l.length (bytesV l) hs ((show w0.ownsRow _ _ _ _ _ _ from hown).alloc _) ⟨w0.heap.size, 0, none⟩ m.length m.length (bytesV m) hx (by rw [bytesV_len, Nat.mul_one]) cells_new (oneCell_bytes m)
    (by unfold maxLen; omega) (by omega) (by simp; omega) fun v' w' h2 h3 h4 => ?_
  refine h v' w' ?_ ((Touch.of_below ((Below.refl w0.heap.size w0).alloc (Nat.le_refl _) _)).grown h3 (fun k hk => hk)) (((Below.refl base w0).alloc hbase _).grown h3 (by simp; omega) fun k hk => ((show w0.ownsRow _ _ _ _ _ _ from hown).lt k hk).1)
  show w'.ownsRow _ _ _ _ _ _
  rw [List.length_append, bytesV_append]; exact h2
/-- A header in a cell block of its own. -/
def BoxH (w : World) (b : Nat) (n v : ByteArray) : Prop := w.heap[b]? = some (.cells #[.string n, .string v] 30 (0, 0))
theorem BoxH.c0 {w : World} {b : Nat} {n v : ByteArray} (h : BoxH w b n v) : w.cell? ⟨b, 0, none⟩ = some (.string n) := by rw [Lib.cell_of_heap h]; rfl
theorem BoxH.c1 {w : World} {b : Nat} {n v : ByteArray} (h : BoxH w b n v) : w.cell? ⟨b, 1, none⟩ = some (.string v) := by rw [Lib.cell_of_heap h]; rfl
theorem BoxH.lt {w : World} {b : Nat} {n v : ByteArray} (h : BoxH w b n v) : b < w.heap.size := (Array.getElem?_eq_some_iff.1 h).1
theorem BoxH.touch {F : Nat → Prop} {w w' : World} {b : Nat} {n v : ByteArray} (h : BoxH w b n v) (ht : Touch F w w') (hf : ¬ F b) : BoxH w' b n v := by unfold BoxH; rw [ht.block b h.lt hf]; exact h
theorem BoxH.not_own {w : World} {b : Nat} {n v : ByteArray} (h : BoxH w b n v) {base : Nat} {x : Value} {l : B} (ho : OwnB w base x l) : ¬ x.ownBlock = some b := by
  intro hj
  obtain ⟨cs, hcs⟩ := own_elem ho hj
  unfold BoxH at h
  rw [h] at hcs
  simp only [Option.some.injEq, Obj.cells.injEq] at hcs
  exact absurd hcs.2.1 (by decide)

set_option maxHeartbeats 4000000 in
theorem lines_any (hs : List (B × B)) (v : Value) (w : World) (hR : Rd w 2 v hs.length (pairs hs)) (hl : (linesH hs).length ≤ 1099511627776) :
    Calls Tryz.prog 23 #[v] w fun e w' => ∃ v', e = .returned v' ∧ OwnB w' w.heap.size v' (linesH hs) ∧ Below w.heap.size w w' := by
  have HR := Lib.hid hR
  obtain ⟨A, c, rfl⟩ := hR.shape
  have hm := linesH_many hs
  clear hR
  go_enter Tryz.func23, Tryz.ntmps23
  go_wp2_with fail
  go_loopw [8, 3] (fun i bv wr => ∃ (k : Nat) (C : B), k ≤ hs.length ∧ i = .int .i64 k ∧ Hid (C = linesH (hs.take k)) ∧ OwnB wr w.heap.size bv C ∧ Below w.heap.size w wr) (fun i _ _ => hs.length - (intOf i).toNat)
  case atStart => exact ⟨0, [], Nat.zero_le _, rfl, (rfl : ([] : B) = linesH []), World.ownsRow_nil _ _ _ _, Below.refl _ _⟩
  case round =>
    obtain ⟨k, C, hk, rfl, HC, Hown, hr⟩ := hrel
    by_cases hlt : k < hs.length
    · obtain ⟨h, hh⟩ : ∃ h, hs[k]? = some h := ⟨hs[k], List.getElem?_eq_getElem hlt⟩
      obtain ⟨b, o, rfl, hc1, hc2⟩ := (HR.out.below hr).pairAt hh
      have Hs := Lib.hid (linesH_snoc hh)
      have hle := linesH_le hs (k + 1)
      rw [Hs.out, List.length_append, ← HC.out] at hle
      have hlen : (lineH h).length = h.1.length + h.2.length + 4 := by simp [lineH]; omega
      have hCl : C.length + (h.1.length + h.2.length + 4) ≤ 1099511627776 := by omega
      have hrA := hr.alloc hr.size (.cells #[.string (ofL h.1), .string (ofL h.2)] 30)
      have HoA := Hown.below ((Below.refl _ wr).alloc (Nat.le_refl _) (.cells #[.string (ofL h.1), .string (ofL h.2)] 30))
      have HBx := Lib.hid (show BoxH (wr.alloc (.cells #[.string (ofL h.1), .string (ofL h.2)] 30)) wr.heap.size (ofL h.1) (ofL h.2) from heap_alloc_new _ _)
      clear hh hle hlen
      go_wp2_with (at_builtin; refine wpList_strB _ rfl _ _ _ _ rfl w.heap.size rowB Tryz.underlying9 _ C rfl HoA (ofL h.1) rfl (by rw [size_ofL]; omega) hrA.size ?_)
      intro v1 w1 ho1 ht1 hb1
      rw [toL_ofL] at ho1
      have hbx1 := HBx.out.touch ht1 (HBx.out.not_own HoA)
      have hr1 := hrA.trans hb1
      have hl1 : (C ++ h.1).length = C.length + h.1.length := List.length_append
      generalize hC1 : C ++ h.1 = C1 at *
      have HC1 := Lib.hid hC1
      have k0 := hbx1.c0
      have k1 := hbx1.c1
      have HBx1 := Lib.hid hbx1
      clear hbx1 hC1 ht1 hb1 HoA hrA HBx
      go_wp2_with (at_builtin; refine wpList_strB _ rfl _ _ _ _ rfl w.heap.size rowB Tryz.underlying9 _ C1 rfl ho1 ⟨#[58, 32]⟩ rfl (by rw [show (⟨#[58, 32]⟩ : ByteArray).size = 2 from rfl]; omega) hr1.size ?_)
      intro v2 w2 ho2 ht2 hb2
      have hbx2 := HBx1.out.touch ht2 (HBx1.out.not_own ho1)
      have hr2 := hr1.trans hb2
      have hl2 : (C1 ++ [58, 32]).length = C1.length + 2 := List.length_append
      generalize hC2 : C1 ++ [58, 32] = C2 at *
      have HC2 := Lib.hid hC2
      have k0 := hbx2.c0
      have k1 := hbx2.c1
      have HBx2 := Lib.hid hbx2
      clear hbx2 hC2 ht2 hb2 ho1 hr1 HBx1
      go_wp2_with (at_builtin; refine wpList_strB _ rfl _ _ _ _ rfl w.heap.size rowB Tryz.underlying9 _ C2 rfl ho2 (ofL h.2) rfl (by rw [size_ofL]; omega) hr2.size ?_)
      intro v3 w3 ho3 ht3 hb3
      rw [toL_ofL] at ho3
      have hbx3 := HBx2.out.touch ht3 (HBx2.out.not_own ho2)
      have hr3 := hr2.trans hb3
      have hl3 : (C2 ++ h.2).length = C2.length + h.2.length := List.length_append
      generalize hC3 : C2 ++ h.2 = C3 at *
      have HC3 := Lib.hid hC3
      clear hbx3 hC3 ht3 hb3 ho2 hr2 HBx2 k0 k1
      go_wp2_with (at_builtin; refine wpList_newB _ rfl _ _ 23 rfl w.heap.size rowB _ C3 rfl ho3 [13, 10] _ 2 rfl (by simp) rfl (by simp; omega) hr3.size ?_)
      intro v4 w4 ho4 ht4 hb4
      have hr4 := hr3.trans hb4
      have Hf := Lib.hid (show C3 ++ [13, 10] = linesH (hs.take (k + 1)) by
        rw [Hs.out, ← HC3.out, ← HC2.out, ← HC1.out, HC.out]; simp [lineH])
      clear hb4 ht4 ho3 hr3
      generalize C3 ++ [13, 10] = C4 at *
      go_wp2_with fail
      go_roundw
      case rel => exact ⟨k + 1, C4, by omega, by go_num, Hf.out, ho4, hr4⟩
      case measure => simp [intOf]; omega
    · have hke : hs.length ≤ k := by omega
      have Hf := Lib.hid (show C = linesH hs by rw [HC.out, List.take_of_length_le hke])
      go_wp2_with fail
      go_ret
      exact ⟨_, rfl, by rw [← Hf.out]; exact Hown, hr⟩

/-- How many bytes headers have. -/
def sizeH (hs : List (B × B)) : Nat := (hs.map fun h => 8 + h.1.length + h.2.length).sum
def sizeG (n : Nat) : List (B × B) → Nat
  | [] => n
  | h :: t => if 262144 < n then n else sizeG (n + (8 + min h.1.length 262144 + min h.2.length 262144)) t
theorem sizeG_small : ∀ (hs : List (B × B)) (n : Nat), sizeG n hs ≤ 262144 → sizeG n hs = n + sizeH hs
  | [], n, _ => by simp [sizeG, sizeH]
  | h :: t, n, hc => by
    have e2 : sizeH (h :: t) = (8 + h.1.length + h.2.length) + sizeH t := by simp [sizeH]
    unfold sizeG at hc ⊢
    by_cases hn : 262144 < n
    · rw [if_pos hn] at hc; omega
    · rw [if_neg hn] at hc ⊢
      have := sizeG_small t _ hc
      rw [this] at hc
      rw [this, e2]
      omega
theorem sizeG_le : ∀ (hs : List (B × B)) (n : Nat), n ≤ 1000000 → sizeG n hs ≤ 1000000
  | [], n, h => h
  | h :: t, n, hc => by
    unfold sizeG
    by_cases hn : 262144 < n
    · rw [if_pos hn]; exact hc
    · rw [if_neg hn]; exact sizeG_le t _ (by omega)
set_option maxHeartbeats 4000000 in
theorem size_any (hs : List (B × B)) (v : Value) (w : World) (hR : Rd w 2 v hs.length (pairs hs)) (hn : hs.length ≤ 140737488355328) :
    Calls Tryz.prog 6 #[v] w fun e w' => e = .returned (.int .i64 (sizeG 0 hs)) ∧ ∃ m, w' = w.drewN m := by
  have HR := Lib.hid hR
  obtain ⟨A, c, rfl⟩ := hR.shape
  clear hR
  go_enter Tryz.func6, Tryz.ntmps6
  go_wp2_with fail
  go_loopw [5, 4, 3] (fun s5 i sn wr => ∃ (k n : Nat), k ≤ hs.length ∧ i = .int .i64 k ∧ sn = .int .i64 n ∧ n ≤ 1000000 ∧ Hid (sizeG n (hs.drop k) = sizeG 0 hs) ∧ Hid (∃ q, wr = w.drewN q)) (fun _ i _ _ => hs.length - (intOf i).toNat)
  case atStart => exact ⟨0, 0, Nat.zero_le _, rfl, rfl, by omega, (rfl : sizeG 0 hs = sizeG 0 hs), ⟨0, rfl⟩⟩
  case round =>
    obtain ⟨k, n, hk, rfl, rfl, hnb, Hn, Hq⟩ := hrel
    have hr : Below w.heap.size w wr := by obtain ⟨q, h⟩ := Hq.out; rw [h]; exact below_drewN _ _ _
    by_cases hlt : k < hs.length
    · obtain ⟨h, hh⟩ : ∃ h, hs[k]? = some h := ⟨hs[k], List.getElem?_eq_getElem hlt⟩
      have Hd := Lib.hid (show hs.drop k = h :: hs.drop (k + 1) by
        rw [List.drop_eq_getElem_cons hlt]; rw [List.getElem?_eq_getElem hlt] at hh; rw [Option.some.inj hh])
      by_cases hnm : n ≤ 262144
      · obtain ⟨b, o, rfl, hc1, hc2⟩ := (HR.out.below hr).pairAt hh
        have Hs := Lib.hid (show sizeG (n + (8 + min h.1.length 262144 + min h.2.length 262144)) (hs.drop (k + 1)) = sizeG 0 hs by
          rw [← Hn.out, Hd.out]; conv => rhs; unfold sizeG
          rw [if_neg (by omega)])
        have hm' : (n : Int) ≤ 262144 := by omega
        clear hh
        go_wp2_with fail
        go_quiet (fail)
        go_wp2_with fail
        go_roundw
        case rel => exact ⟨k + 1, n + (8 + min h.1.length 262144 + min h.2.length 262144), by omega, by go_num, congrArg _ (by rw [size_ofL, size_ofL]; omega), by omega, Hs.out, (by obtain ⟨q, h⟩ := Hq.out; exact ⟨q + nq, by rw [h, World.drewN_drewN]⟩ : ∃ q, wr.drewN nq = w.drewN q)⟩
        case measure => simp [intOf]; omega
      · have hm' : ¬ (n : Int) ≤ 262144 := by omega
        have Hf := Lib.hid (show sizeG 0 hs = n by
          rw [← Hn.out, Hd.out]; unfold sizeG; rw [if_pos (by omega)])
        clear hh
        go_wp2_with fail
        go_ret
        exact ⟨by rw [Hf.out]; rfl, Hq.out⟩
    · have Hf := Lib.hid (show sizeG 0 hs = n by
        rw [← Hn.out, List.drop_eq_nil_of_le (by omega)]; rfl)
      go_wp2_with fail
      go_ret
      exact ⟨by rw [Hf.out]; rfl, Hq.out⟩
theorem linesH_size (hs : List (B × B)) : (linesH hs).length ≤ sizeH hs := by
  induction hs with
  | nil => simp [linesH, sizeH]
  | cons h t ih =>
    have e : linesH (h :: t) = lineH h ++ linesH t := by simp [linesH]
    have e2 : sizeH (h :: t) = (8 + h.1.length + h.2.length) + sizeH t := by simp [sizeH]
    rw [e, e2, List.length_append]
    simp [lineH]; omega
end Go.Proofs.YtgdelmkgdfhdpaaGreatDoor
namespace Go.Proofs.YtgdelmkgdfhdpaaGreatDoor
open Go.RowKit
set_option linter.unusedVariables false
set_option linter.unusedSimpArgs false
set_option maxRecDepth 100000

/-- A request's first line; the whole. -/
def firstR (r : Req) : B := r.m ++ 32 :: (r.p ++ [32, 72, 84, 84, 80, 47, 49, 46, 49, 13, 10])
def printR (r : Req) : B := firstR r ++ linesH r.h ++ [13, 10] ++ r.b
def PrintedIs (base : Nat) (r : Req) (e : Ending) (w : World) : Prop :=
  (∃ v, e = .returned (.tuple #[v, .int .i64 0]) ∧ OwnB w base v (printR r) ∧ progParse (printR r) = (r, (printR r).length, 0)) ∨ e = .returned (.tuple #[.slice none 0 0, .int .i64 1])
/-- What '[]byte(s)' makes, closed to the walk. -/
noncomputable def convG (W : World) : Nat := W.heap.size
noncomputable def convC (W : World) (s : ByteArray) : Nat := grownCap W s.size 0 5
noncomputable def convW (W : World) (s : ByteArray) : World := W.drew.alloc (.cells (bytesRow s (grownCap W s.size 0 5)) 5 ((bytesRow s (grownCap W s.size 0 5)).size, (bytesRow s (grownCap W s.size 0 5)).size + 1))
theorem conv_run (W : World) (s : ByteArray) : (convert 9 23 (.string s)).run Tryz.prog W = .ok (.slice (some ⟨convG W, 0, none⟩) s.size (convC W s)) (convW W s) :=
  run_bytes_of_string (P := Tryz.prog) W 9 23 5 s Tryz.underlying9 Tryz.underlying23 Tryz.underlying5
/-- A request that came in. -/
def ReqP (w : World) (r : Req) (v : Value) : Prop := ∃ Hv Bv, v = .agg #[.string (ofL r.m), .string (ofL r.p), Hv, Bv] ∧ Rd w 2 Hv r.h.length (pairs r.h) ∧ Part w (Bv, r.b)
theorem ReqP.req {w : World} {r : Req} {v : Value} (h : ReqP w r v) : ReqV w r v := by obtain ⟨Hv, Bv, rfl, h1, h2⟩ := h; exact ⟨_, _, rfl, h1, h2.1⟩
def BL (W W' : World) : Prop := Below W.heap.size W W'
theorem bl_refl (W : World) : BL W W := Below.refl _ _
theorem bl_alloc {W W' : World} (h : BL W W') (o : Obj) : BL W (W'.alloc o) := Below.alloc h h.size o
theorem bl_drew {W W' : World} (h : BL W W') : BL W W'.drew := Below.drew h
theorem bl_conv {W W' : World} (h : BL W W') (s : ByteArray) : BL W (convW W' s) := Below.alloc (Below.drew h) h.size _
theorem bl_next {W W' W'' : World} (h : BL W W') (hb : Below W'.heap.size W' W'') : BL W W'' := Below.next h hb
theorem part_conv (W : World) (s : ByteArray) (l : B) (n : Nat) (hl : s.toList = l) (hn : s.size = n) (hm : s.size ≤ 140737488355328) : Part (convW W s) (.slice (some ⟨convG W, 0, none⟩) n (convC W s), l) := by
  subst hl hn
  refine ⟨?_, fun n c h => by cases h⟩
  show Rd _ _ _ s.toList.length _
  rw [len_toL]
  exact rd_bytes (w := W.drew) (grownCap_ge _ _ _ _) (grownCap_le_maxLen _ _ _ _ (by unfold maxLen; omega))
theorem part_two (W : World) : Part (W.alloc (.cells #[.int .u8 13, .int .u8 10] 5)) (.slice (some ⟨W.heap.size, 0, none⟩) 2 2, [13, 10]) := by
  refine ⟨⟨rfl, _, _, rfl, by simp, by unfold maxLen; omega, (fun h => by cases h), fun a ha => ?_⟩, fun n c h => by cases h⟩
  cases ha
  refine ⟨rfl, fun j u hj => ?_⟩
  rw [Nat.zero_add, World.cell?_alloc_mark]
  have e : bytesV [13, 10] = [.int .u8 13, .int .u8 10] := rfl
  rw [e] at hj
  simpa using hj
theorem part_two' (W : World) : Part (W.drew.alloc (.cells #[.int .u8 13, .int .u8 10] 5)) (.slice (some ⟨W.heap.size, 0, none⟩) 2 2, [13, 10]) := part_two W.drew
theorem Part.bl {W W' : World} {p : Value × B} (h : Part W p) (hb : BL W W') : Part W' p := h.below hb
theorem keepS {w W W' : World} {b : Nat} {u0 u1 u2 u3 : Value} (h : W.cell? ⟨b, 0, none⟩ = some u0 ∧ W.cell? ⟨b, 1, none⟩ = some u1 ∧ W.cell? ⟨b, 2, none⟩ = some u2 ∧ W.cell? ⟨b, 3, none⟩ = some u3 ∧ BL w W) (hb : BL W W') :
    W'.cell? ⟨b, 0, none⟩ = some u0 ∧ W'.cell? ⟨b, 1, none⟩ = some u1 ∧ W'.cell? ⟨b, 2, none⟩ = some u2 ∧ W'.cell? ⟨b, 3, none⟩ = some u3 ∧ BL w W' :=
  ⟨Below.keeps hb h.1, Below.keeps hb h.2.1, Below.keeps hb h.2.2.1, Below.keeps hb h.2.2.2.1, bl_next h.2.2.2.2 hb⟩
theorem own_from {w w6 X : World} {v : Value} {l : B} (h : OwnB w6 X.heap.size v l) (hb : BL w X) : OwnB w6 w.heap.size v l :=
  own_rebase h (fun k hk => Nat.le_trans (show Below _ _ _ from hb).size ((show w6.ownsRow _ _ _ _ _ _ from h).lt k hk).1)
theorem concat4 (W : World) (e1 e2 e3 e4 : Value) (l1 l2 l3 l4 : B) (g : Nat) (hg : g = W.heap.size) (h1 : Part (W.alloc (.cells #[e1, e2, e3, e4] 23)) (e1, l1)) (h2 : Part (W.alloc (.cells #[e1, e2, e3, e4] 23)) (e2, l2))
    (h3 : Part (W.alloc (.cells #[e1, e2, e3, e4] 23)) (e3, l3)) (h4 : Part (W.alloc (.cells #[e1, e2, e3, e4] 23)) (e4, l4)) (hl : (l1 ++ l2 ++ l3 ++ l4).length ≤ 140737488355328) :
    Calls Tryz.prog 17 #[.slice (some ⟨g, 0, none⟩) 4 4] (W.alloc (.cells #[e1, e2, e3, e4] 23)) fun e w' => ∃ v, e = .returned v ∧ OwnB w' (W.alloc (.cells #[e1, e2, e3, e4] 23)).heap.size v (l1 ++ l2 ++ l3 ++ l4) ∧ Below (W.alloc (.cells #[e1, e2, e3, e4] 23)).heap.size (W.alloc (.cells #[e1, e2, e3, e4] 23)) w' := by
  subst hg
  have hf : flatP [(e1, l1), (e2, l2), (e3, l3), (e4, l4)] = l1 ++ l2 ++ l3 ++ l4 := by simp [flatP]
  refine (concat_any W.heap.size 4 [(e1, l1), (e2, l2), (e3, l3), (e4, l4)] _ ?_ (by rw [hf]; exact hl) (by simp)).mono ?_
  · intro j p hj
    match j with
    | 0 => simp at hj; subst hj; exact ⟨by simp, h1⟩
    | 1 => simp at hj; subst hj; exact ⟨by simp, h2⟩
    | 2 => simp at hj; subst hj; exact ⟨by simp, h3⟩
    | 3 => simp at hj; subst hj; exact ⟨by simp, h4⟩
    | j + 4 => simp at hj
  · rintro e w' ⟨v, rfl, ho, hb⟩
    rw [hf] at ho
    exact ⟨v, rfl, ho, hb⟩

end Go.Proofs.YtgdelmkgdfhdpaaGreatDoor
