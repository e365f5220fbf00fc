/- The machine's closures and a chunk's number (httpd). Conditions: the body is short. -/
import Derived.Test.YtmhgnaemafohfaaGreatDoorMachD
namespace Go.Proofs.YtmhgnaemafohfaaGreatDoor
open Go.RowKit
set_option linter.unusedVariables false
set_option linter.unusedSimpArgs false
set_option maxRecDepth 100000

theorem mb_set {w w' : World} {bm : Nat} {F : Nat → Prop} {nx hv nx' : Value} {x : Mc} {Hv Bv : Value} (hF : F bm ∧ ∀ k, F k → k < w.heap.size) (hM : MC w bm nx hv (ofL x.m) (ofL x.p) Hv Bv x.left x.many)
    (hH : w.ownsRow 0 72 2 Hv x.h.length (pairs x.h) ∧ ∀ k, Hv.ownBlock = some k → F k) (hB : w.ownsRow 0 5 1 Bv x.b.length (bytesV x.b) ∧ ∀ k, Bv.ownBlock = some k → F k) (hz : x.b = [] → Bv = .slice none 0 0)
    (ht : Touch (fun j => j = bm) w w') (l k : Nat) (hM' : MC w' bm nx' hv (ofL x.m) (ofL x.p) Hv Bv l k) (st : St) : MB w' bm (Grow F w w') nx' hv { x with st := st, left := l, many := k } := by
  have hG : Touch F w w' := ht.mono fun j _ h => h ▸ hF.1
  exact ⟨⟨.inl hF.1, grow_of hG hF.2⟩, Hv, Bv, hM', ⟨own_touch hH.1 ht (fun j hj e => hM.not_own hH.1 (by decide) j hj e), fun j hj => .inl (hH.2 j hj)⟩,
    ⟨own_touch hB.1 ht (fun j hj e => hM.not_own hB.1 (by decide) j hj e), fun j hj => .inl (hB.2 j hj)⟩, hz⟩
theorem stepOut_bad {w w' : World} {bm : Nat} {F : Nat → Prop} {st : Nat} {x : Mc} (ht : Touch F w w') (h : 2 ≤ st) : StepOut w bm F st x w' := ⟨ht, fun e => by omega, fun e => by omega⟩

theorem line1_any (g : Nat) (st' : St) (hst' : ∀ w F nx, Nx w F nx st' = Clo w F nx 154 g) (hheads : st' ≠ .heads) (bm bx : Nat) (F : Nat → Prop) (nx hv : Value) (x : Mc) (c : UInt8) (w : World) (hI : MB w bm F nx hv x)
    (hbx : w.heap[bx]? = some (.cells #[.func (.func g) #[] #[]] 163 (0, 0))) :
    Calls Tryz.prog 156 #[.pointer (some ⟨bm, 0, none⟩), .int .u8 c.toNat, .pointer (some ⟨bx, 0, none⟩)] w fun e w' => e = .returned (.int .i64 (if c = 13 then 1 else 400 : Nat)) ∧ StepOut w bm F (if c = 13 then 1 else 400) { x with st := st' } w' := by
  obtain ⟨hF, Hv, Bv, hM, hH, hB, hz⟩ := hI
  have HZ := Lib.hid hz
  clear hz
  have HF := Lib.hid hF
  have HH := Lib.hid hH
  have HB := Lib.hid hB
  clear hF hH hB
  have kx : w.cell? ⟨bx, 0, none⟩ = some (.func (.func g) #[] #[]) := by rw [Lib.cell_of_heap hbx]; rfl
  by_cases hc : c = 13
  · rw [if_pos hc]
    have h3 : ((c.toNat : Int) != 13) = false := by rw [hc]; rfl
    clear hc
    go_enter Tryz.func156, Tryz.ntmps156
    go_wp2_with fail
    refine (end_clo g w).mono ?_
    rintro e w3 ⟨rfl, rfl⟩
    have hM3 := hM.below ((Below.refl w.heap.size w).alloc (Nat.le_refl _) (.cells #[.func (.func g) #[] #[]] 163))
    have k0 := hM3.c0
    have f0 := hM3.fz 0
    have ht3 := ((Touch.refl (fun j => j = bm) w).next ((Below.refl w.heap.size w).alloc (Nat.le_refl _) (.cells #[.func (.func g) #[] #[]] 163))).setCell (p := ⟨bm, 0, none⟩) rfl (.func (.func 154) #[] #[.pointer (some ⟨w.heap.size, 0, none⟩)])
    have hMB := Lib.hid (mb_set HF.out hM HH.out HB.out HZ.out ht3 x.left x.many (hM3.set0 _) st')
    have HT := Lib.hid (ht3.mono (G := F) fun j _ h => h ▸ HF.out.1)
    have HC := Lib.hid (clo_new (bm := bm) (fn := 154) (g := g) (.func (.func 154) #[] #[.pointer (some ⟨w.heap.size, 0, none⟩)]) HF.out.2 (Nat.le_refl _) hM.lt)
    clear ht3
    go_wp2_with fail
    go_ret
    exact ⟨rfl, HT.out, fun _ => ⟨_, hv, hMB.out, by rw [hst']; exact HC.out, fun h => absurd h hheads⟩, fun h => by cases h⟩
  · rw [if_neg hc]
    have h3 : ((c.toNat : Int) != 13) = true := byte_ne (d := 13) hc
    clear hc
    go_enter Tryz.func156, Tryz.ntmps156
    go_wp2_with fail
    go_ret
    exact ⟨rfl, stepOut_bad (.refl _ _) (by decide)⟩

/-- What stands behind a line's end. -/
theorem chunk1_any (bm : Nat) (F : Nat → Prop) (nx hv : Value) (x : Mc) (w : World) (hI : MB w bm F nx hv x) :
    Calls Tryz.prog 155 #[.pointer (some ⟨bm, 0, none⟩)] w fun e w' => e = .returned (.int .i64 1) ∧ StepOut w bm F 1 { x with st := .sizes } w' := by
  obtain ⟨hF, Hv, Bv, hM, hH, hB, hz⟩ := hI
  have HZ := Lib.hid hz
  clear hz
  have HF := Lib.hid hF
  have HH := Lib.hid hH
  have HB := Lib.hid hB
  clear hF hH hB
  have k0 := hM.c0
  have f0 := hM.fz 0
  have ht3 := (Touch.refl (fun j => j = bm) w).setCell (p := ⟨bm, 0, none⟩) rfl (.func (.func 113) #[] #[])
  have hMB := Lib.hid (mb_set HF.out hM HH.out HB.out HZ.out ht3 x.left x.many (hM.set0 _) .sizes)
  have HT := Lib.hid (ht3.mono (G := F) fun j _ h => h ▸ HF.out.1)
  clear ht3
  go_enter Tryz.func155, Tryz.ntmps155
  go_wp2_with fail
  go_ret
  exact ⟨rfl, HT.out, fun _ => ⟨_, hv, hMB.out, rfl, fun h => by cases h⟩, fun h => by cases h⟩
theorem stop_any (bm : Nat) (F : Nat → Prop) (nx hv : Value) (x : Mc) (w : World) (hI : MB w bm F nx hv x) :
    Calls Tryz.prog 135 #[.pointer (some ⟨bm, 0, none⟩)] w fun e w' => e = .returned (.int .i64 0) ∧ StepOut w bm F 0 x w' := by
  obtain ⟨hF, Hv, Bv, hM, hH, hB, hz⟩ := hI
  have HZ := Lib.hid hz
  clear hz
  go_enter Tryz.func135, Tryz.ntmps135
  go_wp2_with fail
  go_ret
  exact ⟨rfl, Touch.refl _ _, fun h => (by cases h), fun _ => ⟨nx, hv, x, ⟨⟨.inl hF.1, fun k hk => hk.elim (hF.2 k) (·.2)⟩, Hv, Bv, hM, ⟨hH.1, fun k hk => .inl (hH.2 k hk)⟩, ⟨hB.1, fun k hk => .inl (hB.2 k hk)⟩, HZ.out⟩, rfl, rfl, rfl, rfl⟩⟩

/-- A chunk's number is read. -/
def sized (x : Mc) : Mc := { x with many := 0, st := if 0 < x.left then .chunk else .lineE }
def sizedSt (x : Mc) : Nat := if 32768 < x.left + x.b.length then 413 else 1
theorem sizes1_any (bm : Nat) (F : Nat → Prop) (nx hv : Value) (x : Mc) (w : World) (hI : MB w bm F nx hv x) (hl : x.left ≤ 1099511627776) (hb : x.b.length ≤ 1048576) :
    Calls Tryz.prog 132 #[.pointer (some ⟨bm, 0, none⟩)] w fun e w' => e = .returned (.int .i64 (sizedSt x)) ∧ StepOut w bm F (sizedSt x) (sized x) w' := by
  obtain ⟨hF, Hv, Bv, hM, hH, hB, hz⟩ := hI
  have HZ := Lib.hid hz
  clear hz
  have HF := Lib.hid hF
  have HH := Lib.hid hH
  have HB := Lib.hid hB
  obtain ⟨A, cp, hBv⟩ := (rd_of_own hB.1).shape
  clear hF hH hB
  subst hBv
  have k7 := hM.c7
  have f7 := hM.fz 7
  have hM1 := hM.set7 0
  have ht1 := (Touch.refl (fun j => j = bm) w).setCell (p := ⟨bm, 7, none⟩) rfl (.int .i64 0)
  have Hs : Hid (sizedSt x = if 32768 < x.left + x.b.length then 413 else 1) := rfl
  have Hx : Hid (sized x = { x with many := 0, st := if 0 < x.left then .chunk else .lineE }) := rfl
  generalize sizedSt x = st at Hs ⊢
  generalize sized x = x2 at Hx ⊢
  go_enter Tryz.func132, Tryz.ntmps132
  go_wp2_with fail
  generalize w.setCell ⟨bm, 7, none⟩ (.int .i64 0) = w1 at hM1 ht1 ⊢
  have k5 := hM1.c5
  have k6 := hM1.c6
  have y1 : IntKind.i64.wrap (32768 - (x.b.length : Int)) = 32768 - (x.b.length : Int) := IntWalk.i64_in _ (by omega)
  go_quiet (fail)
  clear y1
  have hd := below_drewN w1.heap.size w1 nq
  have hM2 := hM1.below hd
  have ht2 := ht1.next hd
  clear k5 k6 hM1 ht1
  generalize w1.drewN nq = w2 at hd hM2 ht2 ⊢
  have k6 := hM2.c6
  have k0 := hM2.c0
  have f0 := hM2.fz 0
  by_cases e1 : 32768 < x.left + x.b.length
  · rw [if_pos e1] at Hs
    have e1' : 32768 - (x.b.length : Int) < x.left := by omega
    clear e1
    go_wp2_with fail
    go_ret
    exact ⟨ret_int (by rw [Hs.out]; rfl), by rw [Hs.out]; exact stepOut_bad (ht2.mono fun j _ h => h ▸ HF.out.1) (by decide)⟩
  rw [if_neg e1] at Hs
  have e1' : ¬ 32768 - (x.b.length : Int) < x.left := by omega
  by_cases e2 : 0 < x.left
  · rw [if_pos e2] at Hx
    have ht3 := ht2.setCell (p := ⟨bm, 0, none⟩) rfl (.func (.func 133) #[] #[])
    have hMB := Lib.hid (mb_set HF.out hM HH.out HB.out HZ.out ht3 x.left 0 (hM2.set0 _) .chunk)
    have HT := Lib.hid (ht3.mono (G := F) fun j _ h => h ▸ HF.out.1)
    clear ht3 e1
    go_wp2_with fail
    go_ret
    exact ⟨ret_int (by rw [Hs.out]; rfl), HT.out, fun _ => ⟨_, hv, by rw [Hx.out]; exact hMB.out, by rw [Hx.out]; rfl, fun h => by rw [Hx.out] at h; cases h⟩, fun h => by rw [Hs.out] at h; cases h⟩
  · rw [if_neg e2] at Hx
    have hd3 := (Below.refl w2.heap.size w2).alloc (Nat.le_refl _) (.cells #[.func (.func 135) #[] #[]] 163)
    have hM3 := hM2.below hd3
    have k0' := hM3.c0
    have f0' := hM3.fz 0
    have ht3 := (ht2.next hd3).setCell (p := ⟨bm, 0, none⟩) rfl (.func (.func 156) #[] #[.pointer (some ⟨w2.heap.size, 0, none⟩)])
    have hMB := Lib.hid (mb_set HF.out hM HH.out HB.out HZ.out ht3 x.left 0 (hM3.set0 _) .lineE)
    have HT := Lib.hid (ht3.mono (G := F) fun j _ h => h ▸ HF.out.1)
    have HC := Lib.hid (clo_new (bm := bm) (fn := 156) (g := 135) (.func (.func 156) #[] #[.pointer (some ⟨w2.heap.size, 0, none⟩)]) HF.out.2 ht2.size hM2.lt)
    clear ht3 e1 hd3
    go_wp2_with (go_at_call 134; refine (line_clo 135 w2).mono ?_; rintro e w3 ⟨rfl, rfl⟩)
    go_ret
    exact ⟨ret_int (by rw [Hs.out]; rfl), HT.out, fun _ => ⟨_, hv, by rw [Hx.out]; exact hMB.out, by rw [Hx.out]; exact HC.out, fun h => by rw [Hx.out] at h; cases h⟩, fun h => by rw [Hs.out] at h; cases h⟩

/-- LF, then what the box holds. -/
theorem end1_any (g : Nat) (st : Nat) (x' : Mc) (bm bx : Nat) (F : Nat → Prop) (c : UInt8) (w : World)
    (hrun : ∀ args w, (callFunc g args).run Tryz.prog w = .ok (.enter g args) w)
    (hg : Calls Tryz.prog g #[.pointer (some ⟨bm, 0, none⟩)] w fun e w' => e = .returned (.int .i64 st) ∧ StepOut w bm F st x' w')
    (hbx : w.heap[bx]? = some (.cells #[.func (.func g) #[] #[]] 163 (0, 0))) :
    Calls Tryz.prog 154 #[.pointer (some ⟨bm, 0, none⟩), .int .u8 c.toNat, .pointer (some ⟨bx, 0, none⟩)] w fun e w' => e = .returned (.int .i64 (if c = 10 then st else 400 : Nat)) ∧ StepOut w bm F (if c = 10 then st else 400) x' w' := by
  have HG := Lib.hid hg
  clear hg
  have kx : w.cell? ⟨bx, 0, none⟩ = some (.func (.func g) #[] #[]) := by rw [Lib.cell_of_heap hbx]; rfl
  by_cases hc : c = 10
  · rw [if_pos hc]
    have h3 : ((c.toNat : Int) != 10) = false := by rw [hc]; rfl
    clear hc
    go_enter Tryz.func154, Tryz.ntmps154
    go_wp2_with fail
    refine HG.out.mono ?_
    rintro e w' ⟨rfl, ho⟩
    have HO := Lib.hid ho
    clear ho
    go_wp2_with fail
    go_ret
    exact ⟨rfl, HO.out⟩
  · rw [if_neg hc]
    have h3 : ((c.toNat : Int) != 10) = true := byte_ne (d := 10) hc
    clear hc
    go_enter Tryz.func154, Tryz.ntmps154
    go_wp2_with fail
    go_ret
    exact ⟨rfl, stepOut_bad (.refl _ _) (by decide)⟩
end Go.Proofs.YtmhgnaemafohfaaGreatDoor
