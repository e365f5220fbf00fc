/- The parser gives up and is caught (jsonx.read). Conditions: the text is short. -/
import Derived.Test.YthkpbgpgcpkiiaaGreatDoorJParN
import Derived.Recover
import Derived.Defers
namespace Go.Proofs.YthkpbgpgcpkiiaaGreatDoor
open Go.RowKit Go.Maps
set_option linter.unusedVariables false
set_option linter.unusedSimpArgs false
set_option maxRecDepth 100000

abbrev catchW (w : World) (rb eb : Nat) (x : Value) : World := (putJ w rb 0 0 ⟨#[]⟩ (.slice none 0 0) (.slice none 0 0)).setCell ⟨eb, 0, none⟩ x
theorem assert_fault (pv : Value) (w : World) : (Instr.typeAssert (.iface 59 pv) 20 55 true).run Tryz.prog w = .ok (.tuple #[.iface 59 pv, .bool true]) w := by kernel_rfl
set_option maxHeartbeats 4000000 in
theorem catch_any (rb eb : Nat) (pv : Value) (older : List PanicEntry) (w : World) {k n : Int} {t : ByteArray} {N I : Value} (hJ : JC w rb k n t N I) (hne : ¬ rb = eb) (x : Value) (hE : w.cell? ⟨eb, 0, none⟩ = some x) (hf : w.frozen? ⟨eb, 0, none⟩ = false) :
    CallsD Tryz.prog 41 #[.pointer (some ⟨rb, 0, none⟩), .pointer (some ⟨eb, 0, none⟩)] (.panicking ({ v := .iface 59 pv, recovered := false } :: older)) w fun e u' w' =>
      e = .returned (.tuple #[]) ∧ u' = .panicking ({ v := .iface 59 pv, recovered := true } :: older) ∧ w' = catchW w rb eb (.iface 59 pv) := by
  refine callsD_of_wpS Tryz.func41 rfl fun c₀ cs hu => ?_
  have c0 := hJ.c0
  have c1 := hJ.c1
  have c2 := hJ.c2
  have c3 := hJ.c3
  have c4 := hJ.c4
  have f0 := hJ.fz 0
  have f1 := hJ.fz 1
  have f2 := hJ.fz 2
  have f3 := hJ.fz 3
  have f4 := hJ.fz 4
  apply wpS_seq
  apply wpS_region
  simp [wpOpsS, go_sem, recoverD, hu, Tryz.ntmps41, Exit.thenS, Array.replicate, List.replicate]
  have ka := fun w => assert_fault pv w
  refine wpS_of_wp ?_
  go_wp2
  simp [bodyPostS, results, Tryz.results41, go_sem]
theorem catch_idle (rb eb : Nat) (w : World) :
    CallsD Tryz.prog 41 #[.pointer (some ⟨rb, 0, none⟩), .pointer (some ⟨eb, 0, none⟩)] .returning w fun e u' w' => e = .returned (.tuple #[]) ∧ u' = .returning ∧ w' = w := by
  refine callsD_of_wpS Tryz.func41 rfl fun c₀ cs hu => ?_
  apply wpS_seq
  apply wpS_region
  simp [wpOpsS, go_sem, recoverD, hu, Tryz.ntmps41, Exit.thenS, Array.replicate, List.replicate]
  refine wpS_of_wp ?_
  go_wp2
  cases c₀
  simp_all [bodyPostS, results, Tryz.results41]
/-- A block of one cell. -/
def EC (w : World) (b : Nat) (x : Value) : Prop := w.heap[b]? = some (.cells #[x] 55 (0, 0))
theorem EC.c0 {w : World} {b : Nat} {x : Value} (h : EC w b x) : w.cell? ⟨b, 0, none⟩ = some x := by rw [Lib.cell_of_heap h]; rfl
theorem EC.fz {w : World} {b : Nat} {x : Value} (h : EC w b x) (i : Nat) : w.frozen? ⟨b, i, none⟩ = false := Lib.frozen_of_heap h i
theorem EC.lt {w : World} {b : Nat} {x : Value} (h : EC w b x) : b < w.heap.size := (Array.getElem?_eq_some_iff.1 h).1
theorem EC.touch {F : Nat → Prop} {w w' : World} {b : Nat} {x : Value} (h : EC w b x) (ht : Touch F w w') (hf : ¬ F b) : EC w' b x := by unfold EC; rw [ht.block b h.lt hf]; exact h
theorem EC.below {w w' : World} {b : Nat} {x : Value} (h : EC w b x) (hb : Below w.heap.size w w') : EC w' b x := h.touch (.of_below (F := fun _ => False) hb) id
theorem EC.set {w : World} {b : Nat} {x : Value} (h : EC w b x) (u : Value) : EC (w.setCell ⟨b, 0, none⟩ u) b u := heap_set_own h 0 _
theorem catch_t {w w' : World} {rb eb : Nat} {x : Value} (hw : w' = catchW w rb eb x) : Touch (fun k => k = rb ∨ k = eb) w w' := by
  subst hw
  exact ((((((Touch.refl _ w).setCell (p := ⟨rb, 0, none⟩) (.inl rfl) _).setCell (p := ⟨rb, 1, none⟩) (.inl rfl) _).setCell (p := ⟨rb, 2, none⟩) (.inl rfl) _).setCell (p := ⟨rb, 3, none⟩) (.inl rfl) _).setCell (p := ⟨rb, 4, none⟩) (.inl rfl) _).setCell (p := ⟨eb, 0, none⟩) (.inr rfl) _
theorem catch_r {w w' : World} {rb eb : Nat} {x : Value} {k n : Int} {t : ByteArray} {N I : Value} (h : JC w rb k n t N I) (hne : ¬ rb = eb) (hw : w' = catchW w rb eb x) : JC w' rb 0 0 ⟨#[]⟩ (.slice none 0 0) (.slice none 0 0) := by
  subst hw
  exact (h.put 0 0 ⟨#[]⟩ (.slice none 0 0) (.slice none 0 0)).touch ((Touch.refl (fun k => k = eb) _).setCell (p := ⟨eb, 0, none⟩) rfl x) hne
theorem catch_e {w w' : World} {rb eb : Nat} {x y : Value} (h : EC w eb y) (hne : ¬ rb = eb) (hw : w' = catchW w rb eb x) : EC w' eb x := by
  subst hw
  exact EC.set (h.touch (((((Touch.refl (fun k => k = rb) w).setCell (p := ⟨rb, 0, none⟩) rfl _).setCell (p := ⟨rb, 1, none⟩) rfl _).setCell (p := ⟨rb, 2, none⟩) rfl _).setCell (p := ⟨rb, 3, none⟩) rfl _ |>.setCell (p := ⟨rb, 4, none⟩) rfl _) (fun e => hne e.symm)) x
def readV (H : Nat) (l : B) (e : Ending) (w : World) : Prop := match wholeP l with
  | .ok v _ => ∃ N I, e = .returned (.tuple #[.agg #[.int .i64 v.kind, .int .i64 v.int, .string (ofL v.text), N, I], .nilIface]) ∧ RJ (fun b => H ≤ b) w v [.int .i64 v.kind, .int .i64 v.int, .string (ofL v.text), N, I]
  | .fail r n => e = .returned (.tuple #[.agg #[.int .i64 0, .int .i64 0, .string ⟨#[]⟩, .slice none 0 0, .slice none 0 0], .iface 59 (.agg #[.int .i64 ((l.length - r.length : Nat) : Int), .int .i64 (n : Int)])])
set_option maxHeartbeats 8000000 in
theorem read_any (s : ByteArray) (hs : s.size ≤ 65536) (w : World) :
    Calls Tryz.prog 29 #[.string s] w fun e w' => readV w.heap.size s.toList e w' ∧ Below w.heap.size w w' := by
  have hmf : ∀ (fn : Fn) (first cap : Array Value) (w : World), (Instr.makeFunc fn first cap).run Tryz.prog w = .ok (.func fn first cap) w := fun _ _ _ _ => rfl
  go_enter_defers Tryz.func29, Tryz.ntmps29
  go_upto_region 3 with fail
  have hb1 := (((Below.refl w.heap.size w).alloc (Nat.le_refl _) (.cells #[.int .i64 0, .int .i64 0, .string ⟨#[]⟩, .slice none 0 0, .slice none 0 0] 25)).alloc (by simp) (.cells #[.nilIface] 55)).alloc (by simp; omega) (.cells #[.string s, .int .i64 0] 78)
  have hr1 : JC (((w.alloc (.cells #[.int .i64 0, .int .i64 0, .string ⟨#[]⟩, .slice none 0 0, .slice none 0 0] 25)).alloc (.cells #[.nilIface] 55)).alloc (.cells #[.string s, .int .i64 0] 78)) w.heap.size 0 0 ⟨#[]⟩ (.slice none 0 0) (.slice none 0 0) :=
    ((JC.new w).below ((Below.refl _ _).alloc (Nat.le_refl _) _)).below ((Below.refl _ _).alloc (Nat.le_refl _) _)
  have he1 : EC (((w.alloc (.cells #[.int .i64 0, .int .i64 0, .string ⟨#[]⟩, .slice none 0 0, .slice none 0 0] 25)).alloc (.cells #[.nilIface] 55)).alloc (.cells #[.string s, .int .i64 0] 78)) (w.heap.size + 1) .nilIface := by
    have := heap_alloc_new (w.alloc (.cells #[.int .i64 0, .int .i64 0, .string ⟨#[]⟩, .slice none 0 0, .slice none 0 0] 25)) (.cells #[.nilIface] 55)
    rw [World.size_alloc] at this
    exact EC.below this ((Below.refl _ _).alloc (Nat.le_refl _) _)
  have hp1 : PC (((w.alloc (.cells #[.int .i64 0, .int .i64 0, .string ⟨#[]⟩, .slice none 0 0, .slice none 0 0] 25)).alloc (.cells #[.nilIface] 55)).alloc (.cells #[.string s, .int .i64 0] 78)) (w.heap.size + 1 + 1) s 0 := by
    have := heap_alloc_new ((w.alloc (.cells #[.int .i64 0, .int .i64 0, .string ⟨#[]⟩, .slice none 0 0, .slice none 0 0] 25)).alloc (.cells #[.nilIface] 55)) (.cells #[.string s, .int .i64 0] 78)
    rw [World.size_alloc, World.size_alloc] at this; exact this
  have hsz1 : ((((w.alloc (.cells #[.int .i64 0, .int .i64 0, .string ⟨#[]⟩, .slice none 0 0, .slice none 0 0] 25)).alloc (.cells #[.nilIface] 55)).alloc (.cells #[.string s, .int .i64 0] 78))).heap.size = w.heap.size + 3 := by simp
  generalize (((w.alloc (.cells #[.int .i64 0, .int .i64 0, .string ⟨#[]⟩, .slice none 0 0, .slice none 0 0] 25)).alloc (.cells #[.nilIface] 55)).alloc (.cells #[.string s, .int .i64 0] 78)) = w1 at hb1 hr1 he1 hp1 hsz1 ⊢
  have HP1 := Lib.hid hp1
  have HB1 := Lib.hid hb1
  have HR1 := Lib.hid hr1
  have HE1 := Lib.hid he1
  generalize hpb : w.heap.size + 1 + 1 = pb at *
  generalize heb : w.heap.size + 1 = eb at *
  have hne : ¬ w.heap.size = pb ∧ ¬ eb = pb ∧ ¬ w.heap.size = eb := by omega
  clear hb1 hr1 he1 hp1 hmf
  have HL1 : Hid (At s 0 s.toList) := ⟨Nat.zero_le _, rfl⟩
  have hlen := HL1.out.size
  have K1 := Lib.hid (fun w hP => value_any (fuelB s.toList) pb s 0 0 s.toList w hP HL1.out hs (by decide) (by unfold fuelB; omega))
  rw [show ((0 : Nat) : Int) = 0 from rfl] at K1
  have hld : s.toList.length = s.size := len_toL s
  rcases hv : valF (fuelB s.toList) 0 s.toList with ⟨v, r⟩ | ⟨r, e1⟩
  rotate_left
  · have HX := Lib.hid (show wholeP s.toList = .fail r e1 by unfold wholeP; rw [hv])
    rw [hv] at K1
    unfold OutU at K1
    dsimp only at K1
    clear hv
    go_wp2_with (go_at_call 42; with_reducible refine (K1.out _ HP1.out).mono ?_; rintro e w2 ⟨rfl, ht2⟩)
    refine leaves_cons (f := 41) (args := #[.pointer (some ⟨w.heap.size, 0, none⟩), .pointer (some ⟨eb, 0, none⟩)]) (by simp) (by simp [go_sem]) ?_
    have he2 := HE1.out.touch ht2 hne.2.1
    have hr2 := HR1.out.touch ht2 hne.1
    have hb2 := Touch.under (Touch.of_below (F := fun _ => False) HB1.out) ht2 (fun k hk h => by omega)
    (refine (catch_any w.heap.size eb _ [] _ hr2 hne.2.2 _ he2.c0 (he2.fz 0)).mono ?_); (rintro e u' w'' ⟨rfl, rfl, hw⟩); (have hx := catch_r hr2 hne.2.2 hw); (have hy := catch_e he2 hne.2.2 hw); (have hb5 := Touch.under hb2 (catch_t hw) (fun k hk h => by omega)); (have hc0 := hx.c0); (have hc1 := hx.c1); (have hc2 := hx.c2); (have hc3 := hx.c3); (have hc4 := hx.c4); (have hd0 := hy.c0); (clear hw); (simp [Leaves, settle, results, Tryz.results29, go_sem, hc0, hc1, hc2, hc3, hc4, hd0])
    refine ⟨?_, hb5.below (fun _ _ h => h) (Nat.le_refl _)⟩
    unfold readV
    rw [HX.out, hld]
  · unfold OutU valV at K1
    rw [hv] at K1
    dsimp only at K1
    have HV := Lib.hid hv
    clear hv
    go_upto_region 4 with (go_at_call 42; with_reducible refine (K1.out _ HP1.out).mono ?_; rintro e w2 ⟨⟨⟨N0, I0, rfl, hRJ⟩, j2, hP2, hl2⟩, ht2⟩; obtain ⟨⟨AN, nN, cN, rfl⟩, ⟨AI, nI, cI, rfl⟩⟩ := rj_shape hRJ; have hr2 := HR1.out.touch ht2 hne.1; have g0 := hr2.c0; have f0 := hr2.fz 0; have g1 := hr2.c1; have f1 := hr2.fz 1; have g2 := hr2.c2; have f2 := hr2.fz 2; have g3 := hr2.c3; have f3 := hr2.fz 3; have g4 := hr2.c4; have f4 := hr2.fz 4)
    have he2 := HE1.out.touch ht2 hne.2.1
    have hr3 := hr2.put v.kind v.int (ofL v.text) (.slice AN nN cN) (.slice AI nI cI)
    have hts : Touch (fun k => k = w.heap.size) w2 (putJ w2 w.heap.size v.kind v.int (ofL v.text) (.slice AN nN cN) (.slice AI nI cI)) := (((((Touch.refl (fun k => k = w.heap.size) w2).setCell (p := ⟨w.heap.size, 0, none⟩) rfl _).setCell (p := ⟨w.heap.size, 1, none⟩) rfl _).setCell (p := ⟨w.heap.size, 2, none⟩) rfl _).setCell (p := ⟨w.heap.size, 3, none⟩) rfl _).setCell (p := ⟨w.heap.size, 4, none⟩) rfl _
    have hp3 := hP2.touch hts (fun e => hne.1 e.symm)
    have he3 := he2.touch hts (fun e => hne.2.2 e.symm)
    have hb3 := Touch.under (Touch.of_below (F := fun _ => False) HB1.out) (F := fun k => k = pb ∨ k = w.heap.size) ((ht2.mono fun k _ h => .inl h).trans (hts.mono fun k _ h => .inr h)) (fun k hk h => by omega)
    have hRJ3 := RJ.keep (touch_keeps hts (fun b hb e => by have h1 : w1.heap.size ≤ b := hb; have h2 : b = w.heap.size := e; omega)) _ _ hRJ
    clear g0 f0 g1 f1 g2 f2 g3 f3 g4 f4 hr2 he2 hRJ ht2 hP2 hts K1 HP1 HR1 HE1
    change Code.wp _ _ _ _ (putJ w2 w.heap.size v.kind v.int (ofL v.text) (.slice AN nN cN) (.slice AI nI cI))
    generalize putJ w2 w.heap.size v.kind v.int (ofL v.text) (.slice AN nN cN) (.slice AI nI cI) = w3 at *
    have HR3 := Lib.hid hr3
    have HE3 := Lib.hid he3
    have HP3 := Lib.hid hp3
    have HB3 := Lib.hid hb3
    have HRJ3 := Lib.hid hRJ3
    clear hr3 he3 hp3 hb3 hRJ3
    have K2 := Lib.hid (fun w hP => blanks_any pb s j2 r w hP hl2 hs)
    cases hsk : skipB r with
    | nil =>
      rw [hsk] at K2
      have HX := Lib.hid (show wholeP s.toList = .ok v [] by unfold wholeP; rw [HV.out]; dsimp only; rw [hsk])
      clear hsk HV
      go_upto_region 7 with (go_at_call 43; with_reducible refine (K2.out _ HP3.out).mono ?_; rintro e w4 ⟨rfl, ⟨j4, hP4, hl4⟩, ht4⟩; have k1 := hP4.c1; have hk4 := hl4.nil; have hlt4 : ¬ (j4 : Int) < (s.size : Int) := by omega)
      have hr4 := HR3.out.touch ht4 hne.1
      have he4 := HE3.out.touch ht4 hne.2.1
      have hb4 := HB3.out.under ht4 (fun k hk h => by omega)
      have hRJ4 := RJ.keep (touch_keeps ht4 (fun b hb e => by have h1 : w1.heap.size ≤ b := hb; have h2 : b = pb := e; omega)) _ _ HRJ3.out
      have g0 := hr4.c0
      have f0 := hr4.fz 0
      have g1 := hr4.c1
      have f1 := hr4.fz 1
      have g2 := hr4.c2
      have f2 := hr4.fz 2
      have g3 := hr4.c3
      have f3 := hr4.fz 3
      have g4 := hr4.c4
      have f4 := hr4.fz 4
      have e0 := he4.c0
      have e1 := he4.fz 0
      have hr5 := (hr4.put v.kind v.int (ofL v.text) (.slice AN nN cN) (.slice AI nI cI)).touch ((Touch.refl (fun k => k = eb) _).setCell (p := ⟨eb, 0, none⟩) rfl .nilIface) hne.2.2
      have hts : Touch (fun k => k = w.heap.size ∨ k = eb) w4 ((putJ w4 w.heap.size v.kind v.int (ofL v.text) (.slice AN nN cN) (.slice AI nI cI)).setCell ⟨eb, 0, none⟩ .nilIface) := ((((((Touch.refl (fun k => k = w.heap.size ∨ k = eb) w4).setCell (p := ⟨w.heap.size, 0, none⟩) (.inl rfl) _).setCell (p := ⟨w.heap.size, 1, none⟩) (.inl rfl) _).setCell (p := ⟨w.heap.size, 2, none⟩) (.inl rfl) _).setCell (p := ⟨w.heap.size, 3, none⟩) (.inl rfl) _).setCell (p := ⟨w.heap.size, 4, none⟩) (.inl rfl) _).setCell (p := ⟨eb, 0, none⟩) (.inr rfl) _
      have he5 : EC ((putJ w4 w.heap.size v.kind v.int (ofL v.text) (.slice AN nN cN) (.slice AI nI cI)).setCell ⟨eb, 0, none⟩ .nilIface) eb .nilIface := (he4.touch (((((Touch.refl (fun k => k = w.heap.size) w4).setCell (p := ⟨w.heap.size, 0, none⟩) rfl _).setCell (p := ⟨w.heap.size, 1, none⟩) rfl _).setCell (p := ⟨w.heap.size, 2, none⟩) rfl _).setCell (p := ⟨w.heap.size, 3, none⟩) rfl _ |>.setCell (p := ⟨w.heap.size, 4, none⟩) rfl _) (fun e => hne.2.2 e.symm)).set _
      have HR5 := Lib.hid hr5
      have HE5 := Lib.hid he5
      have HB5 := Lib.hid (hb4.under hts (fun k hk h => by omega))
      have HRJ5 := Lib.hid (RJ.keep (touch_keeps hts (fun b hb e => by have h1 : w1.heap.size ≤ b := hb; rcases e with e | e <;> omega)) _ _ hRJ4)
      clear hr4 he4 hb4 hRJ4 hr5 he5 hts k1 hlt4
      go_wp2_with fail
      refine leaves_cons (f := 41) (args := #[.pointer (some ⟨w.heap.size, 0, none⟩), .pointer (some ⟨eb, 0, none⟩)]) (by simp) (by simp [go_sem]) ?_
      refine (catch_idle w.heap.size eb _).mono ?_
      rintro e u' w'' ⟨rfl, rfl, hw⟩
      have hw' : w'' = (putJ w4 w.heap.size v.kind v.int (ofL v.text) (.slice AN nN cN) (.slice AI nI cI)).setCell ⟨eb, 0, none⟩ .nilIface := hw
      rw [← hw'] at HR5 HE5 HB5 HRJ5
      clear hw hw'
      have hc0 := HR5.out.c0
      have hc1 := HR5.out.c1
      have hc2 := HR5.out.c2
      have hc3 := HR5.out.c3
      have hc4 := HR5.out.c4
      have hd0 := HE5.out.c0
      simp [Leaves, settle, results, Tryz.results29, go_sem, hc0, hc1, hc2, hc3, hc4, hd0]
      refine ⟨?_, HB5.out.below (fun _ _ h => h) (Nat.le_refl _)⟩
      unfold readV
      rw [HX.out]
      exact ⟨_, _, rfl, RJ.mono (fun b hb _ => by have h1 : w1.heap.size ≤ b := hb; show w.heap.size ≤ b; omega) _ _ HRJ5.out⟩
    | cons c q =>
      rw [hsk] at K2
      have HX := Lib.hid (show wholeP s.toList = .fail (c :: q) 40 by unfold wholeP; rw [HV.out]; dsimp only; rw [hsk])
      clear hsk HV
      go_wp2_with (first | (go_at_call 43; with_reducible refine (K2.out _ HP3.out).mono ?_; rintro e w4 ⟨rfl, ⟨j4, hP4, hl4⟩, ht4⟩; have k1 := hP4.c1; obtain ⟨hk4, -, -⟩ := hl4.cons; have hlt4 : (j4 : Int) < (s.size : Int) := by omega) | (go_at_call 44; with_reducible refine (fail_any pb s j4 40 _ hP4).mono ?_; rintro e w5 ⟨rfl, rfl⟩))
      refine leaves_cons (f := 41) (args := #[.pointer (some ⟨w.heap.size, 0, none⟩), .pointer (some ⟨eb, 0, none⟩)]) (by simp) (by simp [go_sem]) ?_
      have he2 := HE3.out.touch ht4 hne.2.1
      have hr2 := HR3.out.touch ht4 hne.1
      have hb2 := Touch.under (HB3.out) ht4 (fun k hk h => by omega)
      have hj4 : j4 = s.toList.length - (c :: q).length := by have := hl4.size; omega
      subst hj4
      (refine (catch_any w.heap.size eb _ [] _ hr2 hne.2.2 _ he2.c0 (he2.fz 0)).mono ?_); (rintro e u' w'' ⟨rfl, rfl, hw⟩); (have hx := catch_r hr2 hne.2.2 hw); (have hy := catch_e he2 hne.2.2 hw); (have hb5 := Touch.under hb2 (catch_t hw) (fun k hk h => by omega)); (have hc0 := hx.c0); (have hc1 := hx.c1); (have hc2 := hx.c2); (have hc3 := hx.c3); (have hc4 := hx.c4); (have hd0 := hy.c0); (clear hw); (simp [Leaves, settle, results, Tryz.results29, go_sem, hc0, hc1, hc2, hc3, hc4, hd0])
      refine ⟨?_, hb5.below (fun _ _ h => h) (Nat.le_refl _)⟩
      unfold readV
      rw [HX.out]
      rfl
end Go.Proofs.YthkpbgpgcpkiiaaGreatDoor
