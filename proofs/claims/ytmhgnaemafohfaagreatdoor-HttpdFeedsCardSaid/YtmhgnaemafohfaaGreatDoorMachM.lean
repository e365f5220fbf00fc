/- Requests that are the same, lists of bytes that are equal, a clone; the law's 'awake'. Conditions: the bytes are few. -/
import Derived.Test.YtmhgnaemafohfaaGreatDoorMachL
namespace Go.Proofs.YtmhgnaemafohfaaGreatDoor
open Go.RowKit
set_option linter.unusedVariables false
set_option linter.unusedSimpArgs false
set_option maxRecDepth 100000

theorem equal_any (l m : B) (v u : Value) (w : World) (hR : Rd w 1 v l.length (bytesV l)) (hS : Rd w 1 u m.length (bytesV m)) (hn : l.length ≤ 1099511627776) (hm : m.length ≤ 1099511627776) :
    Calls Tryz.prog 17 #[v, u] w fun e w' => e = .returned (.bool (decide (l = m))) ∧ Below w.heap.size w w' := by
  have HR := Lib.hid hR
  have HS := Lib.hid hS
  obtain ⟨A, c, rfl⟩ := hR.shape
  obtain ⟨A', c', rfl⟩ := hS.shape
  clear hR hS
  by_cases hl : l.length = m.length
  · have Hl := Lib.hid hl
    go_enter Tryz.func17, Tryz.ntmps17
    go_wp2
    go_loopw [13] (fun i wr => ∃ k : Nat, k ≤ l.length ∧ i = .int .i64 k ∧ l.take k = m.take k ∧ Below w.heap.size w wr) (fun i _ => l.length - (intOf i).toNat)
    case atStart => exact ⟨0, Nat.zero_le _, rfl, rfl, Below.refl _ _⟩
    case round =>
      obtain ⟨k, hk, rfl, he, hb⟩ := hrel
      have He := Lib.hid he
      clear he
      by_cases hlt : k < l.length
      · obtain ⟨h, hh⟩ : ∃ h, l[k]? = some h := ⟨l[k], List.getElem?_eq_getElem hlt⟩
        obtain ⟨g, hg⟩ : ∃ g, m[k]? = some g := ⟨m[k]'(by omega), List.getElem?_eq_getElem (by omega)⟩
        obtain ⟨b, o, rfl, hc1⟩ := (HR.out.below hb).byteAt hh
        obtain ⟨b', o', rfl, hd1⟩ := (HS.out.below hb).byteAt hg
        have hlt' : k < m.length := by omega
        clear hl
        by_cases hhg : h = g
        · subst hhg
          have kq : ((h.toNat : Int) != (h.toNat : Int)) = false := by simp
          have Hs : Hid (l.take (k + 1) = m.take (k + 1)) := by show _ = _; rw [take_snoc' hh, take_snoc' hg, He.out]
          clear hh hg
          go_wp2
          go_quiet (fail)
          go_wp2
          go_roundw
          case rel => exact ⟨k + 1, by omega, by go_num, Hs.out, hb.trans (below_drewN _ _ _)⟩
          case measure => simp [intOf]; omega
        · have kq : ((h.toNat : Int) != (g.toNat : Int)) = true := by
            simp only [bne_iff_ne, ne_eq]; intro e; exact hhg (UInt8.toNat_inj.1 (by omega))
          have Hs : Hid (l ≠ m) := fun e => by rw [e] at hh; rw [hh] at hg; exact hhg (Option.some.inj hg)
          clear hh hg hhg
          go_wp2
          go_quiet (fail)
          go_wp2
          go_ret
          exact ⟨ret_bool (by simp [Hs.out]), hb.trans (below_drewN _ _ _)⟩
      · have hk' : ¬ k < m.length := by omega
        have Hf : Hid (l = m) := by show _ = _; have := He.out; rwa [List.take_of_length_le (by omega), List.take_of_length_le (by have := Hl.out; omega)] at this
        go_wp2
        go_ret
        exact ⟨ret_bool (by simp [Hf.out]), hb⟩
  · have Hf : Hid (l ≠ m) := fun e => hl (by rw [e])
    have hl' : ((l.length : Int) != (m.length : Int)) = true := by simp; omega
    go_enter Tryz.func17, Tryz.ntmps17
    go_wp2
    go_ret
    exact ⟨ret_bool (by simp [Hf.out]), Below.refl _ _⟩

theorem clone_any (l : B) (v : Value) (w : World) (hR : Rd w 1 v l.length (bytesV l)) (hl : l.length ≤ 140737488351232) :
    Calls Tryz.prog 13 #[v] w fun e w' => ∃ v', e = .returned v' ∧ w'.ownsRow w.heap.size 5 1 v' l.length (bytesV l) ∧ Below w.heap.size w w' := by
  obtain ⟨hlen, A, c, rfl, hcap, hmax, hnone, hsome⟩ := hR
  have q22 : ∀ (w : World) (a : Option Addr) (n c n' c' : Nat), (binOp .eql 22 (.slice a n c) (.slice none n' c')).run Tryz.prog w = .ok (.bool a.isNone) w := fun w a n c n' c' => Lib.run_eql_slice_nil w _ _ a n c n' c' Tryz.underlying22
  cases A with
  | none =>
    have h0 := hnone rfl
    have hl0 := List.eq_nil_of_length_eq_zero h0
    subst hl0
    go_enter Tryz.func13, Tryz.ntmps13
    go_wp2
    go_ret
    exact ⟨_, rfl, World.ownsRow_nil _ _ _ _, Below.refl _ _⟩
  | some a =>
    obtain ⟨hsp, hc⟩ := hsome a rfl
    obtain ⟨b, o, q⟩ := a
    simp only at hsp
    subst hsp
    have Hc := Lib.hid hc
    have hone : ∀ u ∈ bytesV l, u.oneCell' = true := oneCell_bytes l
    obtain ⟨htu, ⟨i0, hi, hz, hsize, hby⟩, hzs, hsz, hbz⟩ := rowB
    clear hc
    go_enter Tryz.func13, Tryz.ntmps13
    go_wp2_with (at_builtin; refine wpList_append_own _ rfl _ _ 22 rfl w.heap.size 5 i0 _ 1 1 htu hi hz hsize hby hzs hsz _ _ _ rfl (World.ownsRow_made w #[] 0 (Nat.le_refl _) (Nat.zero_le _) (by simp)) ⟨b, o, none⟩ l.length c (bytesV l) rfl ?qc1 ?qc2 hone ?qc4 ?qc5 ?qc6 ?_)
    case qc2 =>
      intro j u hj
      exact keeps_alloc (Hc.out j u hj) _
    case qc4 => unfold maxLen; omega
    case qc5 => omega
    intro v' w1 hown hgrow hnil
    go_wp2
    go_ret
    refine ⟨v', rfl, by simpa using hown, ?_⟩
    exact ((Below.refl _ w).alloc (Nat.le_refl _) _).grown hgrow (by simp) (by intro k hk; simp [Value.ownBlock] at hk; omega)

set_option maxHeartbeats 4000000 in
/-- The same request. -/
theorem same_any (x : Req) (v u : Value) (w : World) (hv : ReqV w x v) (hu : ReqV w x u) (hb : x.b.length ≤ 1099511627776) (hh : x.h.length ≤ 1000000) :
    Calls Tryz.prog 16 #[v, u] w fun e w' => e = .returned (.bool true) ∧ Below w.heap.size w w' := by
  obtain ⟨hv1, bv1, rfl, hR1, hS1⟩ := hv
  obtain ⟨hv2, bv2, rfl, hR2, hS2⟩ := hu
  have HR1 := Lib.hid hR1
  have HR2 := Lib.hid hR2
  have HS1 := Lib.hid hS1
  have HS2 := Lib.hid hS2
  obtain ⟨A1, c1, rfl⟩ := hR1.shape
  obtain ⟨A2, c2, rfl⟩ := hR2.shape
  obtain ⟨B1, d1, rfl⟩ := hS1.shape
  obtain ⟨B2, d2, rfl⟩ := hS2.shape
  clear hR1 hR2 hS1 hS2
  have e1 : ((ofL x.m).toList == (ofL x.m).toList) = true := by simp
  have e2 : ((ofL x.p).toList == (ofL x.p).toList) = true := by simp
  have e3 : ((ofL x.b).toList == (ofL x.b).toList) = true := by simp
  have hb2 : ∀ o o', Below w.heap.size w ((w.alloc o).alloc o') := fun o o' => ((Below.refl _ w).alloc (Nat.le_refl _) o).alloc (by simp) o'
  have HB2 := Lib.hid hb2
  have C := Lib.hid (fun o o' => sameHdr_any x.h x.h (.slice A1 x.h.length c1) (.slice A2 x.h.length c2) ((w.alloc o).alloc o') ((HR1.out.alloc o).alloc o') ((HR2.out.alloc o).alloc o') (by unfold maxLen; omega) (by unfold maxLen; omega))
  have kc1 := fun o o' => conv_rd (P := Tryz.prog) 22 9 5 Tryz.underlying22 Tryz.underlying5 Tryz.underlying9 ((HS1.out.alloc o).alloc o')
  have kc2 := fun o o' => conv_rd (P := Tryz.prog) 22 9 5 Tryz.underlying22 Tryz.underlying5 Tryz.underlying9 ((HS2.out.alloc o).alloc o')
  clear hb2
  go_enter Tryz.func16, Tryz.ntmps16
  go_wp2_with (go_at_call 48; refine (C.out _ _).mono ?_; rintro e w4 ⟨rfl, hb4⟩)
  go_ret
  exact ⟨rfl, (HB2.out _ _).next hb4⟩
end Go.Proofs.YtmhgnaemafohfaaGreatDoor
