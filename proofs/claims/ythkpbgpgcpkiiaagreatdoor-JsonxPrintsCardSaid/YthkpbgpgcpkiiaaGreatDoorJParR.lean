/- jsonx.Parse. Conditions: the listed variable is a type's handle. -/
import Derived.Test.YthkpbgpgcpkiiaaGreatDoorJParQ
import Derived.RegionTactic
namespace Go.Proofs.YthkpbgpgcpkiiaaGreatDoor
open Go.RowKit
set_option linter.unusedVariables false
set_option linter.unusedSimpArgs false
set_option maxRecDepth 100000

def parsedV (H : Nat) (x : J × Nat × Nat) (e : Ending) (w : World) : Prop := ∃ N I, e = .returned (.tuple #[.agg #[.int .i64 x.1.kind, .int .i64 x.1.int, .string (ofL x.1.text), N, I], .int .i64 (x.2.1 : Int), .int .i64 (x.2.2 : Int)]) ∧
  RJ (fun b => H ≤ b) w x.1 [.int .i64 x.1.kind, .int .i64 x.1.int, .string (ofL x.1.text), N, I]
theorem parsed_none (H at' n : Nat) (w : World) : parsedV H (J0, at', n) (.returned (.tuple #[.agg #[.int .i64 0, .int .i64 0, .string ⟨#[]⟩, .slice none 0 0, .slice none 0 0], .int .i64 (at' : Int), .int .i64 (n : Int)])) w :=
  ⟨_, _, rfl, rj_plain 0 0 []⟩
set_option maxHeartbeats 8000000 in
theorem parse_any (s : ByteArray) (hs : s.size ≤ 140737488351232) (w : World) (hET : ET w) :
    Calls Tryz.prog 19 #[.string s] w fun e w' => parsedV w.heap.size (parseJ s.toList) e w' ∧ Below w.heap.size w w' := by
  have hb1 := (Below.refl w.heap.size w).alloc (Nat.le_refl _) (.cells #[.int .i64 0, .int .i64 0, .string ⟨#[]⟩, .slice none 0 0, .slice none 0 0] 25)
  have HR1 := Lib.hid (JC.new w)
  have HB1 := Lib.hid hb1
  have HG := Lib.hid hET
  have hz : (w.alloc (.cells #[.int .i64 0, .int .i64 0, .string ⟨#[]⟩, .slice none 0 0, .slice none 0 0] 25)).heap.size = w.heap.size + 1 := by simp
  have hld := len_toL s
  clear hET hb1
  by_cases hl : 65536 < s.size
  · have HX := Lib.hid (show parseJ s.toList = (J0, 0, 4) by unfold parseJ; rw [if_pos (by omega)])
    have hq : (s.size : Int) > 65536 := by omega
    go_enter Tryz.func19, Tryz.ntmps19
    go_upto_region 1 with fail
    generalize w.alloc (.cells #[.int .i64 0, .int .i64 0, .string ⟨#[]⟩, .slice none 0 0, .slice none 0 0] 25) = w1 at *
    have hr5 := HR1.out
    (have g0 := hr5.c0); (have g1 := hr5.c1); (have g2 := hr5.c2); (have g3 := hr5.c3); (have g4 := hr5.c4); (have f0 := hr5.fz 0); (have f1 := hr5.fz 1); (have f2 := hr5.fz 2); (have f3 := hr5.fz 3); (have f4 := hr5.fz 4)
    have hx10 := hr5.put 0 0 ⟨#[]⟩ (.slice none 0 0) (.slice none 0 0)
    have HTX := Lib.hid ((Touch.of_below (F := fun _ => False) HB1.out).putJ (Nat.le_refl _) 0 0 ⟨#[]⟩ (.slice none 0 0) (.slice none 0 0))
    go_wp2_with fail
    (have hc0 := hx10.c0); (have hc1 := hx10.c1); (have hc2 := hx10.c2); (have hc3 := hx10.c3); (have hc4 := hx10.c4)
    refine bodyPost_ret (v := .tuple #[.agg #[.int .i64 0, .int .i64 0, .string ⟨#[]⟩, .slice none 0 0, .slice none 0 0], .int .i64 0, .int .i64 4]) (by simp [results, Tryz.results19, go_sem, hc0, hc1, hc2, hc3, hc4]) rfl ⟨?_, HTX.out.below (fun _ _ h => h) (Nat.le_refl _)⟩
    rw [HX.out]
    exact parsed_none _ 0 4 _
  · have hq : ¬ (s.size : Int) > 65536 := by omega
    have K1 := Lib.hid (fun w => read_any s (by omega) w)
    go_enter Tryz.func19, Tryz.ntmps19
    go_upto_region 3 with fail
    generalize w.alloc (.cells #[.int .i64 0, .int .i64 0, .string ⟨#[]⟩, .slice none 0 0, .slice none 0 0] 25) = w1 at *
    cases hw : wholeP s.toList with
    | ok v r =>
      have hrr := whole_rest hw
      have HX := Lib.hid (show parseJ s.toList = (v, 0, 0) by unfold parseJ; rw [if_neg (by omega), hw])
      unfold readV at K1
      rw [hw] at K1
      dsimp only at K1
      clear hw
      go_upto_region 5 with (go_at_call 29; with_reducible refine (K1.out _).mono ?_; rintro e w2 ⟨⟨N0, I0, rfl, hRJ⟩, hb2⟩; obtain ⟨⟨AN, nN, cN, rfl⟩, ⟨AI, nI, cI, rfl⟩⟩ := rj_shape hRJ)
      have hb3 := ((Below.refl w2.heap.size w2).alloc (Nat.le_refl _) (.cells #[.int .i64 v.kind, .int .i64 v.int, .string (ofL v.text), .slice AN nN cN, .slice AI nI cI] 25)).alloc (by simp) (.cells #[.int .i64 0, .int .i64 0] 59)
      have hv3 : JC ((w2.alloc (.cells #[.int .i64 v.kind, .int .i64 v.int, .string (ofL v.text), .slice AN nN cN, .slice AI nI cI] 25)).alloc (.cells #[.int .i64 0, .int .i64 0] 59)) w2.heap.size v.kind v.int (ofL v.text) (.slice AN nN cN) (.slice AI nI cI) := JC.below (heap_alloc_new w2 _) ((Below.refl _ _).alloc (Nat.le_refl _) _)
      have hf3 : FC ((w2.alloc (.cells #[.int .i64 v.kind, .int .i64 v.int, .string (ofL v.text), .slice AN nN cN, .slice AI nI cI] 25)).alloc (.cells #[.int .i64 0, .int .i64 0] 59)) (w2.heap.size + 1) 0 0 := by
        have := heap_alloc_new (w2.alloc (.cells #[.int .i64 v.kind, .int .i64 v.int, .string (ofL v.text), .slice AN nN cN, .slice AI nI cI] 25)) (.cells #[.int .i64 0, .int .i64 0] 59)
        rw [World.size_alloc] at this; exact this
      have hr3 := (HR1.out.below hb2).below hb3
      have hg3 := ((HG.out.below HB1.out).below hb2).below hb3
      have HB3 := Lib.hid ((HB1.out.next hb2).next hb3)
      have HRJ := Lib.hid (hRJ.below hb3)
      generalize ((w2.alloc (.cells #[.int .i64 v.kind, .int .i64 v.int, .string (ofL v.text), .slice AN nN cN, .slice AI nI cI] 25)).alloc (.cells #[.int .i64 0, .int .i64 0] 59)) = w3 at *
      have hz2 : w.heap.size < w2.heap.size := by have := hb2.size; omega
      have hne : ¬ w.heap.size = w2.heap.size ∧ ¬ w.heap.size = w2.heap.size + 1 := by have := hb2.size; omega
      clear hb3 hb2 hRJ
      go_upto_region 7 with (go_at_call 30; with_reducible refine (as_nil _ _).mono ?_; rintro e w4 ⟨rfl, rfl⟩)
      have hr5 := hr3
      (have g0 := hr5.c0); (have g1 := hr5.c1); (have g2 := hr5.c2); (have g3 := hr5.c3); (have g4 := hr5.c4); (have f0 := hr5.fz 0); (have f1 := hr5.fz 1); (have f2 := hr5.fz 2); (have f3 := hr5.fz 3); (have f4 := hr5.fz 4)
      have v0 := hv3.c0
      have v1 := hv3.c1
      have v2 := hv3.c2
      have v3 := hv3.c3
      have v4 := hv3.c4
      have hx10 := hr5.put v.kind v.int (ofL v.text) (.slice AN nN cN) (.slice AI nI cI)
      have HTX := Lib.hid ((Touch.of_below (F := fun _ => False) HB3.out).putJ (Nat.le_refl _) v.kind v.int (ofL v.text) (.slice AN nN cN) (.slice AI nI cI))
      have HRX := Lib.hid (RJ.keep (w' := putJ w4 w.heap.size v.kind v.int (ofL v.text) (.slice AN nN cN) (.slice AI nI cI)) (touch_keeps ((((((Touch.refl (fun j => j = w.heap.size) w4).setCell (p := ⟨w.heap.size, 0, none⟩) rfl _).setCell (p := ⟨w.heap.size, 1, none⟩) rfl _).setCell (p := ⟨w.heap.size, 2, none⟩) rfl _).setCell (p := ⟨w.heap.size, 3, none⟩) rfl _).setCell (p := ⟨w.heap.size, 4, none⟩) rfl _) (fun b hb e => by have h1 : w1.heap.size ≤ b := hb; have h2 : b = w.heap.size := e; omega)) _ _ HRJ.out)
      go_wp2_with fail
      (have hc0 := hx10.c0); (have hc1 := hx10.c1); (have hc2 := hx10.c2); (have hc3 := hx10.c3); (have hc4 := hx10.c4)
      refine bodyPost_ret (v := .tuple #[.agg #[.int .i64 v.kind, .int .i64 v.int, .string (ofL v.text), .slice AN nN cN, .slice AI nI cI], .int .i64 0, .int .i64 0]) (by simp [results, Tryz.results19, go_sem, hc0, hc1, hc2, hc3, hc4]) rfl ⟨?_, HTX.out.below (fun _ _ h => h) (Nat.le_refl _)⟩
      rw [HX.out]
      exact ⟨_, _, rfl, RJ.mono (fun b hb _ => by have h1 : w1.heap.size ≤ b := hb; show w.heap.size ≤ b; omega) _ _ HRX.out⟩
    | fail r n =>
      have HX := Lib.hid (show parseJ s.toList = (J0, s.toList.length - r.length, n) by unfold parseJ; rw [if_neg (by omega), hw])
      unfold readV at K1
      rw [hw] at K1
      dsimp only at K1
      clear hw
      generalize s.toList.length - r.length = at' at *
      generalize hat : (at' : Int) = ai at *
      generalize hnt : (n : Int) = ni at *
      go_upto_region 5 with (go_at_call 29; with_reducible refine (K1.out _).mono ?_; rintro e w2 ⟨rfl, hb2⟩)
      have hb3 := ((Below.refl w2.heap.size w2).alloc (Nat.le_refl _) (.cells #[.int .i64 0, .int .i64 0, .string ⟨#[]⟩, .slice none 0 0, .slice none 0 0] 25)).alloc (by simp) (.cells #[.int .i64 0, .int .i64 0] 59)
      have hv3 : JC ((w2.alloc (.cells #[.int .i64 0, .int .i64 0, .string ⟨#[]⟩, .slice none 0 0, .slice none 0 0] 25)).alloc (.cells #[.int .i64 0, .int .i64 0] 59)) w2.heap.size 0 0 ⟨#[]⟩ (.slice none 0 0) (.slice none 0 0) := JC.below (heap_alloc_new w2 _) ((Below.refl _ _).alloc (Nat.le_refl _) _)
      have hf3 : FC ((w2.alloc (.cells #[.int .i64 0, .int .i64 0, .string ⟨#[]⟩, .slice none 0 0, .slice none 0 0] 25)).alloc (.cells #[.int .i64 0, .int .i64 0] 59)) (w2.heap.size + 1) 0 0 := by
        have := heap_alloc_new (w2.alloc (.cells #[.int .i64 0, .int .i64 0, .string ⟨#[]⟩, .slice none 0 0, .slice none 0 0] 25)) (.cells #[.int .i64 0, .int .i64 0] 59)
        rw [World.size_alloc] at this; exact this
      have hr3 := (HR1.out.below hb2).below hb3
      have hg3 := ((HG.out.below HB1.out).below hb2).below hb3
      have HB3 := Lib.hid ((HB1.out.next hb2).next hb3)
      generalize ((w2.alloc (.cells #[.int .i64 0, .int .i64 0, .string ⟨#[]⟩, .slice none 0 0, .slice none 0 0] 25)).alloc (.cells #[.int .i64 0, .int .i64 0] 59)) = w3 at *
      have hz2 : w.heap.size < w2.heap.size := by have := hb2.size; omega
      have hne : ¬ w.heap.size = w2.heap.size ∧ ¬ w.heap.size = w2.heap.size + 1 := by have := hb2.size; omega
      clear hb3 hb2
      have hfl := hf3.lt
      go_upto_region 6 with (go_at_call 30; with_reducible refine (as_hit ai ni 0 0 (w2.heap.size + 1) w3 hf3 hg3).mono ?_; rintro e w4 ⟨rfl, hw4⟩)
      rw [← hw4]
      have htl : Touch (fun k => k = w2.heap.size + 1) w3 w4 := by
        rw [hw4]
        exact ((Touch.of_below (F := fun k => k = w2.heap.size + 1) ((((((Below.refl w3.heap.size w3).alloc (Nat.le_refl _) _).alloc (by simp) _).alloc (by simp; omega) _).alloc (by simp; omega) _))).setCell (p := ⟨w2.heap.size + 1, 0, none⟩) rfl _).setCell (p := ⟨w2.heap.size + 1, 1, none⟩) rfl _
      have hf4 : FC w4 (w2.heap.size + 1) ai ni := by
        rw [hw4]
        exact (hf3.below ((((((Below.refl w3.heap.size w3).alloc (Nat.le_refl _) _).alloc (by simp) _).alloc (by simp; omega) _).alloc (by simp; omega) _))).put ai ni
      have hr5 := hr3.touch htl hne.2
      have ht5 := (Touch.of_below (F := fun _ => False) HB3.out).under htl (fun k hk h => by have h' : k = w2.heap.size + 1 := h; omega)
      generalize hfb : w2.heap.size + 1 = fb at *
      have hne2 : ¬ w.heap.size = fb := hne.2
      have hne3 : ¬ fb = w.heap.size := fun e => hne.2 e.symm
      have c0 := hf4.c0
      have c1 := hf4.c1
      (have g0 := hr5.c0); (have g1 := hr5.c1); (have g2 := hr5.c2); (have g3 := hr5.c3); (have g4 := hr5.c4); (have f0 := hr5.fz 0); (have f1 := hr5.fz 1); (have f2 := hr5.fz 2); (have f3 := hr5.fz 3); (have f4 := hr5.fz 4)
      clear hw4 htl hf4 hf3 hr3 hg3 hv3
      go_region
      have hx10 := (hr5.put 0 0 ⟨#[]⟩ (.slice none 0 0) (.slice none 0 0)).below ((Below.refl _ _).drew)
      have HTX := Lib.hid ((ht5.putJ (Nat.le_refl _) 0 0 ⟨#[]⟩ (.slice none 0 0) (.slice none 0 0)).next ((Below.refl _ _).drew))
      go_wp2_with fail
      (have hc0 := hx10.c0); (have hc1 := hx10.c1); (have hc2 := hx10.c2); (have hc3 := hx10.c3); (have hc4 := hx10.c4)
      refine bodyPost_ret (v := .tuple #[.agg #[.int .i64 0, .int .i64 0, .string ⟨#[]⟩, .slice none 0 0, .slice none 0 0], .int .i64 ai, .int .i64 ni]) (by simp [results, Tryz.results19, go_sem, hc0, hc1, hc2, hc3, hc4]) rfl ⟨?_, HTX.out.below (fun _ _ h => h) (Nat.le_refl _)⟩
      rw [HX.out, ← hat, ← hnt]
      exact parsed_none _ at' n _
end Go.Proofs.YthkpbgpgcpkiiaaGreatDoor
