/- A request's cells; the law's 'awake' (blotterlaw08). Conditions: none. -/
import Derived.Test.YtmhgnaemafohfaaGreatDoorMachM
namespace Go.Proofs.YtmhgnaemafohfaaGreatDoor
open Go.RowKit
set_option linter.unusedVariables false
set_option linter.unusedSimpArgs false
set_option maxRecDepth 100000

/-- A request's cells. -/
def RC (w : World) (b : Nat) (m p : ByteArray) (Hv Bv : Value) : Prop := w.heap[b]? = some (.cells #[.string m, .string p, Hv, Bv] 27 (0, 0))
theorem RC.cell {w : World} {b : Nat} {m p : ByteArray} {Hv Bv : Value} (h : RC w b m p Hv Bv) (i : Nat) : w.cell? ⟨b, i, none⟩ = #[Value.string m, .string p, Hv, Bv][i]? := by rw [Lib.cell_of_heap h]
theorem RC.c0 {w : World} {b : Nat} {m p : ByteArray} {Hv Bv : Value} (h : RC w b m p Hv Bv) : w.cell? ⟨b, 0, none⟩ = some (.string m) := h.cell 0
theorem RC.c1 {w : World} {b : Nat} {m p : ByteArray} {Hv Bv : Value} (h : RC w b m p Hv Bv) : w.cell? ⟨b, 1, none⟩ = some (.string p) := h.cell 1
theorem RC.c2 {w : World} {b : Nat} {m p : ByteArray} {Hv Bv : Value} (h : RC w b m p Hv Bv) : w.cell? ⟨b, 2, none⟩ = some Hv := h.cell 2
theorem RC.c3 {w : World} {b : Nat} {m p : ByteArray} {Hv Bv : Value} (h : RC w b m p Hv Bv) : w.cell? ⟨b, 3, none⟩ = some Bv := h.cell 3
theorem RC.lt {w : World} {b : Nat} {m p : ByteArray} {Hv Bv : Value} (h : RC w b m p Hv Bv) : b < w.heap.size := (Array.getElem?_eq_some_iff.1 h).1
theorem RC.touch {F : Nat → Prop} {w w' : World} {b : Nat} {m p : ByteArray} {Hv Bv : Value} (h : RC w b m p Hv Bv) (ht : Touch F w w') (hf : ¬ F b) : RC w' b m p Hv Bv := by unfold RC; rw [ht.block b h.lt hf]; exact h
theorem RC.below {w w' : World} {b : Nat} {m p : ByteArray} {Hv Bv : Value} (h : RC w b m p Hv Bv) (hb : Below w.heap.size w w') : RC w' b m p Hv Bv := h.touch (.of_below (F := fun _ => False) hb) id
theorem rc_new (w : World) (m p : ByteArray) (Hv Bv : Value) :
    RC (((((w.alloc (.cells #[.string ⟨#[]⟩, .string ⟨#[]⟩, .slice none 0 0, .slice none 0 0] 27)).setCell ⟨w.heap.size, 0, none⟩ (.string m)).setCell ⟨w.heap.size, 1, none⟩ (.string p)).setCell ⟨w.heap.size, 2, none⟩ Hv).setCell ⟨w.heap.size, 3, none⟩ Bv) w.heap.size m p Hv Bv := by
  unfold RC
  have h0 := heap_alloc_new w (.cells #[.string ⟨#[]⟩, .string ⟨#[]⟩, .slice none 0 0, .slice none 0 0] 27)
  rw [heap_set_own (heap_set_own (heap_set_own (heap_set_own h0 0 (.string m)) 1 (.string p)) 2 Hv) 3 Bv]; rfl
theorem rc_below (w : World) (m p : ByteArray) (Hv Bv : Value) :
    Below w.heap.size w (((((w.alloc (.cells #[.string ⟨#[]⟩, .string ⟨#[]⟩, .slice none 0 0, .slice none 0 0] 27)).setCell ⟨w.heap.size, 0, none⟩ (.string m)).setCell ⟨w.heap.size, 1, none⟩ (.string p)).setCell ⟨w.heap.size, 2, none⟩ Hv).setCell ⟨w.heap.size, 3, none⟩ Bv) :=
  below_set4 ((Below.refl _ _).alloc (Nat.le_refl _) _) _ _ _ _

theorem rd_wakeB (w : World) {fr : Nat × Nat} {g : Nat} (hg : g = w.heap.size) : Rd (w.alloc (.cells #[.int .u8 71, .int .u8 69, .int .u8 84, .int .u8 32, .int .u8 47, .int .u8 97, .int .u8 32, .int .u8 72, .int .u8 84, .int .u8 84, .int .u8 80, .int .u8 47, .int .u8 49, .int .u8 46, .int .u8 48, .int .u8 13, .int .u8 10, .int .u8 13, .int .u8 10] 5 fr)) 1
    (.slice (some ⟨g, 0, none⟩) 19 19) wakeB.length (bytesV wakeB) := by
  subst hg
  refine ⟨rfl, _, _, rfl, by decide, by unfold maxLen; omega, (fun h => by cases h), fun a ha => ?_⟩
  cases ha
  refine ⟨rfl, fun j u hj => ?_⟩
  rw [Nat.zero_add, World.cell?_alloc_mark]
  have e : bytesV wakeB = [.int .u8 71, .int .u8 69, .int .u8 84, .int .u8 32, .int .u8 47, .int .u8 97, .int .u8 32, .int .u8 72, .int .u8 84, .int .u8 84, .int .u8 80, .int .u8 47, .int .u8 49, .int .u8 46, .int .u8 48, .int .u8 13, .int .u8 10, .int .u8 13, .int .u8 10] := rfl
  rw [e] at hj
  simpa using hj
theorem req_agg {base : Nat} {x : Req} {v : Value} {w : World} (h : OwnReq base x v w) : ∃ A c B d, v = .agg #[.string (ofL x.m), .string (ofL x.p), .slice A x.h.length c, .slice B x.b.length d] := by
  obtain ⟨Hv, Bv, rfl, h1, h2⟩ := h
  obtain ⟨A, c, rfl⟩ := (rd_of_own h1).shape
  obtain ⟨B, d, rfl⟩ := (rd_of_own h2).shape
  exact ⟨_, _, _, _, rfl⟩
set_option maxHeartbeats 4000000 in
theorem awake_any (w : World) (hg : Glob w) : Calls Tryz.prog 12 #[] w fun e w' => e = .returned (.bool true) ∧ Below w.heap.size w w' := by
  have HG := Lib.hid hg
  clear hg
  have kb := fun wx => run_bytes_of_string (P := Tryz.prog) wx 9 22 5 (⟨#[71, 69, 84, 32, 47, 97, 32, 72, 84, 84, 80, 47, 49, 46, 49, 13, 10, 72, 111, 115, 116, 58, 32, 97, 13, 10, 13, 10]⟩ ++ ⟨#[120]⟩) Tryz.underlying9 Tryz.underlying22 Tryz.underlying5
  have ha := fun fr => rd_bytes' (w := w) (wc := w) (s := ⟨#[71, 69, 84, 32, 47, 97, 32, 72, 84, 84, 80, 47, 49, 46, 49, 13, 10, 72, 111, 115, 116, 58, 32, 97, 13, 10, 13, 10]⟩ ++ ⟨#[120]⟩) (n := 29) (e := 5) (fr := fr) rfl (by decide)
  rw [show ((⟨#[71, 69, 84, 32, 47, 97, 32, 72, 84, 84, 80, 47, 49, 46, 49, 13, 10, 72, 111, 115, 116, 58, 32, 97, 13, 10, 13, 10]⟩ ++ ⟨#[120]⟩ : ByteArray)) = ofL wakeA from rfl, toL_ofL] at ha
  have HA := Lib.hid ha
  clear ha
  go_enter Tryz.func12, Tryz.ntmps12
  go_wp2_with fail
  refine (prog_any wakeA _ _ (HA.out _) (by decide) (HG.out.next (((Below.refl _ w).alloc (Nat.le_refl _) _).drew))).mono ?_
  clear kb
  rintro e w1 ⟨⟨v1, rfl, ho⟩, hb1⟩
  have hr := (((Below.refl w.heap.size w).alloc (Nat.le_refl _) _).drew).trans (hb1.mono (by simp))
  clear hb1
  rw [wakeA_law] at ho ⊢
  obtain ⟨A1, c1, B1, d1, rfl⟩ := req_agg ho
  clear ho
  have kc := fun o => Go.Joins.run_convert_bytes_const_at (P := Tryz.prog) (w1.alloc o) 22 5 #[.int .u8 71, .int .u8 69, .int .u8 84, .int .u8 32, .int .u8 47, .int .u8 97, .int .u8 32, .int .u8 72, .int .u8 84, .int .u8 84, .int .u8 80, .int .u8 47, .int .u8 49, .int .u8 46, .int .u8 48, .int .u8 13, .int .u8 10, .int .u8 13, .int .u8 10] 19 19 (w1.heap.size + 1) (by simp) Tryz.underlying22 Tryz.underlying5
  go_wp2_with fail
  clear kc
  have hR1 : RC (w1.alloc (.cells #[.string (ofL [71, 69, 84]), .string (ofL [47, 97]), .slice A1 1 c1, .slice B1 0 d1] 27)) w1.heap.size (ofL [71, 69, 84]) (ofL [47, 97]) (.slice A1 1 c1) (.slice B1 0 d1) := heap_alloc_new _ _
  have hr1 := hr.alloc hr.size (.cells #[.string (ofL [71, 69, 84]), .string (ofL [47, 97]), .slice A1 1 c1, .slice B1 0 d1] 27)
  have hs1 : (w1.alloc (.cells #[.string (ofL [71, 69, 84]), .string (ofL [47, 97]), .slice A1 1 c1, .slice B1 0 d1] 27)).heap.size = w1.heap.size + 1 := by simp
  generalize w1.alloc (.cells #[.string (ofL [71, 69, 84]), .string (ofL [47, 97]), .slice A1 1 c1, .slice B1 0 d1] 27) = w2 at *
  have hb3 := (Below.refl w2.heap.size w2).alloc (Nat.le_refl _) (.cells #[.int .u8 71, .int .u8 69, .int .u8 84, .int .u8 32, .int .u8 47, .int .u8 97, .int .u8 32, .int .u8 72, .int .u8 84, .int .u8 84, .int .u8 80, .int .u8 47, .int .u8 49, .int .u8 46, .int .u8 48, .int .u8 13, .int .u8 10, .int .u8 13, .int .u8 10] 5 (19, 20))
  refine (prog_any wakeB _ _ (rd_wakeB w2 hs1.symm) (by decide) (HG.out.next (hr1.next hb3))).mono ?_
  rintro e w3 ⟨⟨v3, rfl, ho⟩, hb4⟩
  have hb5 := hb3.next hb4
  have hR3 := hR1.below hb5
  have hr3 := hr1.next hb5
  clear hb3 hb4 hb5 hr hr1 hs1 hR1 HA
  rw [wakeB_law] at ho ⊢
  obtain ⟨A2, c2, B2, d2, rfl⟩ := req_agg ho
  clear ho
  have k1 := hR3.c1
  have klt := hR3.lt
  have e1 : ((ofL [47, 97]).toList == [47, 97]) = true := by rw [toL_ofL]; rfl
  go_wp2_with fail
  go_ret
  exact ⟨rfl, hr3.alloc hr3.size _⟩
end Go.Proofs.YtmhgnaemafohfaaGreatDoor
