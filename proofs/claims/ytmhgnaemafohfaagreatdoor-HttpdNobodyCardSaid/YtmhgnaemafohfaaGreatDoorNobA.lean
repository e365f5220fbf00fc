/- A parser that no call made (httpd); the law HttpdNobody. Conditions: the bytes fit a machine. -/
import Derived.Test.YtmhgnaemafohfaaGreatDoorMachO
namespace Go.Proofs.YtmhgnaemafohfaaGreatDoor
open Go.RowKit
set_option linter.unusedVariables false
set_option linter.unusedSimpArgs false
set_option maxRecDepth 100000

/-- A parser that no call made. -/
def Nob (w : World) (v : Value) : Prop := v = .pointer none ∨ ∃ b, v = .pointer (some ⟨b, 0, none⟩) ∧ w.heap[b]? = some (.cells #[.pointer none, .slice none 0 0, .int .i64 0, .int .i64 0] 52 (0, 0))
theorem Nob.below {w w' : World} {v : Value} (h : Nob w v) (hb : Below w.heap.size w w') : Nob w' v := by
  rcases h with h | ⟨b, hv, hc⟩
  · exact .inl h
  · exact .inr ⟨b, hv, by rw [hb.block b (Array.getElem?_eq_some_iff.1 hc).1]; exact hc⟩
theorem nob_next (v : Value) (w : World) (h : Nob w v) :
    Calls Tryz.prog 24 #[v] w fun e w' => e = .returned (.tuple #[.agg #[.string ⟨#[]⟩, .string ⟨#[]⟩, .slice none 0 0, .slice none 0 0], .int .i64 1]) ∧ Below w.heap.size w w' := by
  rcases h with rfl | ⟨b, rfl, hc⟩
  · go_enter Tryz.func24, Tryz.ntmps24
    go_wp2_with fail
    refine bodyPost_ret (v := .tuple #[.agg #[.string ⟨#[]⟩, .string ⟨#[]⟩, .slice none 0 0, .slice none 0 0], .int .i64 1]) (by simp [results, Tryz.results24, go_sem]) rfl ⟨rfl, ?_⟩
    exact (Below.refl _ _).alloc (Nat.le_refl _) _
  · have k0 : w.cell? ⟨b, 0, none⟩ = some (.pointer none) := by rw [Lib.cell_of_heap hc]; rfl
    have hlt := lt_of_cell k0
    go_enter Tryz.func24, Tryz.ntmps24
    go_wp2_with fail
    refine bodyPost_ret (v := .tuple #[.agg #[.string ⟨#[]⟩, .string ⟨#[]⟩, .slice none 0 0, .slice none 0 0], .int .i64 1]) (by simp [results, Tryz.results24, go_sem]) rfl ⟨rfl, ?_⟩
    exact (Below.refl _ _).alloc (Nat.le_refl _) _
theorem nob_feed (v u : Value) (w : World) (h : Nob w v) :
    Calls Tryz.prog 25 #[v, u] w fun e w' => e = .returned (.int .i64 8) ∧ w' = w := by
  rcases h with rfl | ⟨b, rfl, hc⟩
  · go_enter Tryz.func25, Tryz.ntmps25
    go_wp2_with fail
    go_ret
    exact ⟨rfl, rfl⟩
  · have k0 : w.cell? ⟨b, 0, none⟩ = some (.pointer none) := by rw [Lib.cell_of_heap hc]; rfl
    go_enter Tryz.func25, Tryz.ntmps25
    go_wp2_with fail
    go_ret
    exact ⟨rfl, rfl⟩
theorem nob_waiting (v : Value) (w : World) (h : Nob w v) :
    Calls Tryz.prog 26 #[v] w fun e w' => e = .returned (.int .i64 0) ∧ w' = w := by
  rcases h with rfl | ⟨b, rfl, hc⟩
  · go_enter Tryz.func26, Tryz.ntmps26
    go_wp2_with fail
    go_ret
    exact ⟨rfl, rfl⟩
  · have k0 : w.cell? ⟨b, 1, none⟩ = some (.slice none 0 0) := by rw [Lib.cell_of_heap hc]; rfl
    go_enter Tryz.func26, Tryz.ntmps26
    go_wp2_with fail
    go_ret
    exact ⟨rfl, rfl⟩
theorem nob_rest (v : Value) (w : World) (h : Nob w v) :
    Calls Tryz.prog 27 #[v] w fun e w' => e = .returned (.slice none 0 0) ∧ w' = w := by
  rcases h with rfl | ⟨b, rfl, hc⟩
  · go_enter Tryz.func27, Tryz.ntmps27
    go_wp2_with fail
    go_ret
    exact ⟨rfl, rfl⟩
  · have k0 : w.cell? ⟨b, 0, none⟩ = some (.pointer none) := by rw [Lib.cell_of_heap hc]; rfl
    go_enter Tryz.func27, Tryz.ntmps27
    go_wp2_with fail
    go_ret
    exact ⟨rfl, rfl⟩

set_option maxHeartbeats 8000000 in
theorem nobody_any (l : B) (v : Value) (w : World) (hR : Rd w 1 v l.length (bytesV l)) (hl : l.length ≤ 140737488351232) (hg : Glob w) :
    Calls Tryz.prog 6 #[v] w fun e w' => e = .returned (.bool true) ∧ Below w.heap.size w w' := by
  obtain ⟨A, cp, rfl⟩ := hR.shape
  have HR := Lib.hid hR
  have HG := Lib.hid hg
  clear hR hg
  have CA := Lib.hid (fun w' (hb : Below w.heap.size w w') => awake_any w' (HG.out.next hb))
  go_enter Tryz.func6, Tryz.ntmps6
  go_wp2_with fail
  have hc1 : ((w.alloc (.cells #[.pointer none, .slice none 0 0, .int .i64 0, .int .i64 0] 52)).alloc (.cells #[.pointer none, .pointer (some ⟨w.heap.size, 0, none⟩)] 49)).heap[w.heap.size]? = some (.cells #[.pointer none, .slice none 0 0, .int .i64 0, .int .i64 0] 52 (0, 0)) := by
    rw [Lib.alloc_old _ _ _ (by simp)]; exact heap_alloc_new w _
  have hr0 := ((Below.refl w.heap.size w).alloc (Nat.le_refl _) (.cells #[.pointer none, .slice none 0 0, .int .i64 0, .int .i64 0] 52)).alloc (by simp) (.cells #[.pointer none, .pointer (some ⟨w.heap.size, 0, none⟩)] 49)
  have hp : ((w.alloc (.cells #[.pointer none, .slice none 0 0, .int .i64 0, .int .i64 0] 52)).alloc (.cells #[.pointer none, .pointer (some ⟨w.heap.size, 0, none⟩)] 49)).heap[w.heap.size + 1]? = some (.cells #[.pointer none, .pointer (some ⟨w.heap.size, 0, none⟩)] 49 (0, 0)) := by
    have h := heap_alloc_new (w.alloc (.cells #[.pointer none, .slice none 0 0, .int .i64 0, .int .i64 0] 52)) (.cells #[.pointer none, .pointer (some ⟨w.heap.size, 0, none⟩)] 49)
    rwa [show (w.alloc (.cells #[.pointer none, .slice none 0 0, .int .i64 0, .int .i64 0] 52)).heap.size = w.heap.size + 1 by simp] at h
  generalize (w.alloc (.cells #[.pointer none, .slice none 0 0, .int .i64 0, .int .i64 0] 52)).alloc (.cells #[.pointer none, .pointer (some ⟨w.heap.size, 0, none⟩)] 49) = w1 at *
  have HC1 := Lib.hid hc1
  have HP := Lib.hid hp
  clear hc1 hp
  go_loopw [11] (fun i wr => ∃ k : Nat, k ≤ 2 ∧ i = .int .i64 k ∧ Below w1.heap.size w1 wr) (fun i _ => 2 - (intOf i).toNat)
  case atStart => exact ⟨0, by omega, rfl, Below.refl _ _⟩
  case round =>
    obtain ⟨k, hk, rfl, hr1⟩ := hrel
    have hr := hr0.next hr1
    by_cases hlt : k < 2
    · obtain ⟨p, hN, hcell⟩ : ∃ p, Nob wr p ∧ wr.cell? ⟨w.heap.size + 1, k, none⟩ = some p := by
        have hpr : wr.heap[w.heap.size + 1]? = some (.cells #[.pointer none, .pointer (some ⟨w.heap.size, 0, none⟩)] 49 (0, 0)) := by rw [hr1.block _ (Array.getElem?_eq_some_iff.1 HP.out).1]; exact HP.out
        have hcr : wr.heap[w.heap.size]? = some (.cells #[.pointer none, .slice none 0 0, .int .i64 0, .int .i64 0] 52 (0, 0)) := by rw [hr1.block _ (Array.getElem?_eq_some_iff.1 HC1.out).1]; exact HC1.out
        have : k = 0 ∨ k = 1 := by omega
        rcases this with rfl | rfl
        · exact ⟨_, .inl rfl, by rw [Lib.cell_of_heap hpr]; rfl⟩
        · exact ⟨_, .inr ⟨_, rfl, hcr⟩, by rw [Lib.cell_of_heap hpr]; rfl⟩
      go_wp2_with fail
      refine (nob_next p wr hN).mono ?_
      rintro e w2 ⟨rfl, hb2⟩
      have hN2 := hN.below hb2
      have hr2 := hr.next hb2
      have hr12 := hr1.next hb2
      clear hN hb2 hr hr1 hcell
      go_wp2_with fail
      have hR1 : RC (w2.alloc (.cells #[.string ⟨#[]⟩, .string ⟨#[]⟩, .slice none 0 0, .slice none 0 0] 27)) w2.heap.size ⟨#[]⟩ ⟨#[]⟩ (.slice none 0 0) (.slice none 0 0) := heap_alloc_new _ _
      have hb3 := (Below.refl w2.heap.size w2).alloc (Nat.le_refl _) (.cells #[.string ⟨#[]⟩, .string ⟨#[]⟩, .slice none 0 0, .slice none 0 0] 27)
      generalize w2.alloc (.cells #[.string ⟨#[]⟩, .string ⟨#[]⟩, .slice none 0 0, .slice none 0 0] 27) = w3 at *
      have hN3 := hN2.below hb3
      have hr3 := hr2.next hb3
      have hr13 := hr12.next hb3
      refine (clone_any l _ w3 (HR.out.below hr3) hl).mono ?_
      rintro e w4 ⟨v4, rfl, _, hb4⟩
      have hN4 := hN3.below hb4
      have hR4 := hR1.below hb4
      have hr4 := hr3.next hb4
      have hr14 := hr13.next hb4
      clear hN2 hN3 hR1 hb3 hb4 hr2 hr12 hr3 hr13
      have k0 := hR4.c0
      have k1 := hR4.c1
      have k2 := hR4.c2
      have k3 := hR4.c3
      go_wp2_with fail
      refine (nob_feed p v4 w4 hN4).mono ?_
      rintro e w5 ⟨rfl, rfl⟩
      go_wp2_with fail
      refine (same_any noReq _ _ _ (reqV_none _) (reqV_none _) (Nat.zero_le _) (Nat.zero_le _)).mono ?_
      rintro e w6 ⟨rfl, hb6⟩
      have hN6 := hN4.below hb6
      have hr6 := hr4.next hb6
      have hr16 := hr14.next hb6
      clear hN4 hR4 hr4 hr14 hb6 k0 k1 k2 k3
      go_wp2_with fail
      refine (nob_waiting p w6 hN6).mono ?_
      rintro e w7 ⟨rfl, rfl⟩
      go_wp2_with fail
      refine (nob_rest p _ hN6).mono ?_
      rintro e w8 ⟨rfl, rfl⟩
      go_wp2_with fail
      go_roundw
      case rel => exact ⟨k + 1, by omega, by go_num, hr16⟩
      case measure => simp [intOf]; omega
    · go_wp2_with fail
      refine (CA.out _ hr).mono ?_
      rintro e w9 ⟨rfl, hb9⟩
      go_wp2_with fail
      go_ret
      exact ⟨rfl, hr.next hb9⟩
end Go.Proofs.YtmhgnaemafohfaaGreatDoor
