/- The machine's closures and a chunk's number (httpd). Conditions: the body is short. A chunk's number, byte by byte (httpd). Conditions: the number is short. The machine's heads (httpd). Conditions: the head is short. One byte for the machine, whatever it waits for (httpd). Conditions: the machine is within its bounds. A step that goes on leaves the machine within its bounds (httpd): plain law. Conditions: none. The machine takes bytes: run (httpd). Conditions: the bytes are short. A fresh machine, and the program's Parse (httpd). Conditions: the bytes are short. -/
import Derived.Test.YtgdelmkgdfhdpaaGreatDoorMachA
import Derived.Lib.SmallJoins
namespace Go.Proofs.YtgdelmkgdfhdpaaGreatDoor
open Go.RowKit
set_option linter.unusedVariables false
set_option linter.unusedSimpArgs false
set_option maxRecDepth 100000

theorem mb_set {w w' : World} {bm : Nat} {F : Nat → Prop} {nx hv nx' : Value} {x : Mc} {Hv Bv : Value} (hF : F bm ∧ ∀ k, F k → k < w.heap.size) (hM : MC w bm nx hv (ofL x.m) (ofL x.p) Hv Bv x.left x.many)
    (hH : w.ownsRow 0 30 2 Hv x.h.length (pairs x.h) ∧ ∀ k, Hv.ownBlock = some k → F k) (hB : w.ownsRow 0 5 1 Bv x.b.length (bytesV x.b) ∧ ∀ k, Bv.ownBlock = some k → F k) (hz : x.b = [] → Bv = .slice none 0 0)
    (ht : Touch (fun j => j = bm) w w') (l k : Nat) (hM' : MC w' bm nx' hv (ofL x.m) (ofL x.p) Hv Bv l k) (st : St) : MB w' bm (Grow F w w') nx' hv { x with st := st, left := l, many := k } := by
  have hG : Touch F w w' := ht.mono fun j _ h => h ▸ hF.1
  exact ⟨⟨.inl hF.1, grow_of hG hF.2⟩, Hv, Bv, hM', ⟨own_touch hH.1 ht (fun j hj e => hM.not_own hH.1 (by decide) j hj e), fun j hj => .inl (hH.2 j hj)⟩,
    ⟨own_touch hB.1 ht (fun j hj e => hM.not_own hB.1 (by decide) j hj e), fun j hj => .inl (hB.2 j hj)⟩, hz⟩
theorem stepOut_bad {w w' : World} {bm : Nat} {F : Nat → Prop} {st : Nat} {x : Mc} (ht : Touch F w w') (h : 2 ≤ st) : StepOut w bm F st x w' := ⟨ht, fun e => by omega, fun e => by omega⟩

theorem line1_any (g : Nat) (st' : St) (hst' : ∀ w F nx, Nx w F nx st' = Clo w F nx 132 g) (hheads : st' ≠ .heads) (bm bx : Nat) (F : Nat → Prop) (nx hv : Value) (x : Mc) (c : UInt8) (w : World) (hI : MB w bm F nx hv x)
    (hbx : w.heap[bx]? = some (.cells #[.func (.func g) #[] #[]] 138 (0, 0))) :
    Calls Tryz.prog 134 #[.pointer (some ⟨bm, 0, none⟩), .int .u8 c.toNat, .pointer (some ⟨bx, 0, none⟩)] w fun e w' => e = .returned (.int .i64 (if c = 13 then 1 else 400 : Nat)) ∧ StepOut w bm F (if c = 13 then 1 else 400) { x with st := st' } w' := by
  obtain ⟨hF, Hv, Bv, hM, hH, hB, hz⟩ := hI
  have HZ := Lib.hid hz
  clear hz
  have HF := Lib.hid hF
  have HH := Lib.hid hH
  have HB := Lib.hid hB
  clear hF hH hB
  have kx : w.cell? ⟨bx, 0, none⟩ = some (.func (.func g) #[] #[]) := by rw [Lib.cell_of_heap hbx]; rfl
  by_cases hc : c = 13
  · rw [if_pos hc]
    have h3 : ((c.toNat : Int) != 13) = false := by rw [hc]; rfl
    clear hc
    go_enter Tryz.func134, Tryz.ntmps134
    go_wp2_with fail
    refine (end_clo g w).mono ?_
    rintro e w3 ⟨rfl, rfl⟩
    have hM3 := hM.below ((Below.refl w.heap.size w).alloc (Nat.le_refl _) (.cells #[.func (.func g) #[] #[]] 138))
    have k0 := hM3.c0
    have f0 := hM3.fz 0
    have ht3 := ((Touch.refl (fun j => j = bm) w).next ((Below.refl w.heap.size w).alloc (Nat.le_refl _) (.cells #[.func (.func g) #[] #[]] 138))).setCell (p := ⟨bm, 0, none⟩) rfl (.func (.func 132) #[] #[.pointer (some ⟨w.heap.size, 0, none⟩)])
    have hMB := Lib.hid (mb_set HF.out hM HH.out HB.out HZ.out ht3 x.left x.many (hM3.set0 _) st')
    have HT := Lib.hid (ht3.mono (G := F) fun j _ h => h ▸ HF.out.1)
    have HC := Lib.hid (clo_new (bm := bm) (fn := 132) (g := g) (.func (.func 132) #[] #[.pointer (some ⟨w.heap.size, 0, none⟩)]) HF.out.2 (Nat.le_refl _) hM.lt)
    clear ht3
    go_wp2_with fail
    go_ret
    exact ⟨rfl, HT.out, fun _ => ⟨_, hv, hMB.out, by rw [hst']; exact HC.out, fun h => absurd h hheads⟩, fun h => by cases h⟩
  · rw [if_neg hc]
    have h3 : ((c.toNat : Int) != 13) = true := byte_ne (d := 13) hc
    clear hc
    go_enter Tryz.func134, Tryz.ntmps134
    go_wp2_with fail
    go_ret
    exact ⟨rfl, stepOut_bad (.refl _ _) (by decide)⟩

/-- What stands behind a line's end. -/
theorem chunk1_any (bm : Nat) (F : Nat → Prop) (nx hv : Value) (x : Mc) (w : World) (hI : MB w bm F nx hv x) :
    Calls Tryz.prog 133 #[.pointer (some ⟨bm, 0, none⟩)] w fun e w' => e = .returned (.int .i64 1) ∧ StepOut w bm F 1 { x with st := .sizes } w' := by
  obtain ⟨hF, Hv, Bv, hM, hH, hB, hz⟩ := hI
  have HZ := Lib.hid hz
  clear hz
  have HF := Lib.hid hF
  have HH := Lib.hid hH
  have HB := Lib.hid hB
  clear hF hH hB
  have k0 := hM.c0
  have f0 := hM.fz 0
  have ht3 := (Touch.refl (fun j => j = bm) w).setCell (p := ⟨bm, 0, none⟩) rfl (.func (.func 99) #[] #[])
  have hMB := Lib.hid (mb_set HF.out hM HH.out HB.out HZ.out ht3 x.left x.many (hM.set0 _) .sizes)
  have HT := Lib.hid (ht3.mono (G := F) fun j _ h => h ▸ HF.out.1)
  clear ht3
  go_enter Tryz.func133, Tryz.ntmps133
  go_wp2_with fail
  go_ret
  exact ⟨rfl, HT.out, fun _ => ⟨_, hv, hMB.out, rfl, fun h => by cases h⟩, fun h => by cases h⟩
theorem stop_any (bm : Nat) (F : Nat → Prop) (nx hv : Value) (x : Mc) (w : World) (hI : MB w bm F nx hv x) :
    Calls Tryz.prog 124 #[.pointer (some ⟨bm, 0, none⟩)] w fun e w' => e = .returned (.int .i64 0) ∧ StepOut w bm F 0 x w' := by
  obtain ⟨hF, Hv, Bv, hM, hH, hB, hz⟩ := hI
  have HZ := Lib.hid hz
  clear hz
  go_enter Tryz.func124, Tryz.ntmps124
  go_wp2_with fail
  go_ret
  exact ⟨rfl, Touch.refl _ _, fun h => (by cases h), fun _ => ⟨nx, hv, x, ⟨⟨.inl hF.1, fun k hk => hk.elim (hF.2 k) (·.2)⟩, Hv, Bv, hM, ⟨hH.1, fun k hk => .inl (hH.2 k hk)⟩, ⟨hB.1, fun k hk => .inl (hB.2 k hk)⟩, HZ.out⟩, rfl, rfl, rfl, rfl⟩⟩

/-- A chunk's number is read. -/
def sized (x : Mc) : Mc := { x with many := 0, st := if 0 < x.left then .chunk else .lineE }
def sizedSt (x : Mc) : Nat := if 32768 < x.left + x.b.length then 413 else 1
theorem sizes1_any (bm : Nat) (F : Nat → Prop) (nx hv : Value) (x : Mc) (w : World) (hI : MB w bm F nx hv x) (hl : x.left ≤ 1099511627776) (hb : x.b.length ≤ 1048576) :
    Calls Tryz.prog 121 #[.pointer (some ⟨bm, 0, none⟩)] w fun e w' => e = .returned (.int .i64 (sizedSt x)) ∧ StepOut w bm F (sizedSt x) (sized x) w' := by
  obtain ⟨hF, Hv, Bv, hM, hH, hB, hz⟩ := hI
  have HZ := Lib.hid hz
  clear hz
  have HF := Lib.hid hF
  have HH := Lib.hid hH
  have HB := Lib.hid hB
  obtain ⟨A, cp, hBv⟩ := (rd_of_own hB.1).shape
  clear hF hH hB
  subst hBv
  have k7 := hM.c7
  have f7 := hM.fz 7
  have hM1 := hM.set7 0
  have ht1 := (Touch.refl (fun j => j = bm) w).setCell (p := ⟨bm, 7, none⟩) rfl (.int .i64 0)
  have Hs : Hid (sizedSt x = if 32768 < x.left + x.b.length then 413 else 1) := rfl
  have Hx : Hid (sized x = { x with many := 0, st := if 0 < x.left then .chunk else .lineE }) := rfl
  generalize sizedSt x = st at Hs ⊢
  generalize sized x = x2 at Hx ⊢
  go_enter Tryz.func121, Tryz.ntmps121
  go_wp2_with fail
  generalize w.setCell ⟨bm, 7, none⟩ (.int .i64 0) = w1 at hM1 ht1 ⊢
  have k5 := hM1.c5
  have k6 := hM1.c6
  have y1 : IntKind.i64.wrap (32768 - (x.b.length : Int)) = 32768 - (x.b.length : Int) := IntWalk.i64_in _ (by omega)
  go_quiet (fail)
  clear y1
  have hd := below_drewN w1.heap.size w1 nq
  have hM2 := hM1.below hd
  have ht2 := ht1.next hd
  clear k5 k6 hM1 ht1
  generalize w1.drewN nq = w2 at hd hM2 ht2 ⊢
  have k6 := hM2.c6
  have k0 := hM2.c0
  have f0 := hM2.fz 0
  by_cases e1 : 32768 < x.left + x.b.length
  · rw [if_pos e1] at Hs
    have e1' : 32768 - (x.b.length : Int) < x.left := by omega
    clear e1
    go_wp2_with fail
    go_ret
    exact ⟨ret_int (by rw [Hs.out]; rfl), by rw [Hs.out]; exact stepOut_bad (ht2.mono fun j _ h => h ▸ HF.out.1) (by decide)⟩
  rw [if_neg e1] at Hs
  have e1' : ¬ 32768 - (x.b.length : Int) < x.left := by omega
  by_cases e2 : 0 < x.left
  · rw [if_pos e2] at Hx
    have ht3 := ht2.setCell (p := ⟨bm, 0, none⟩) rfl (.func (.func 122) #[] #[])
    have hMB := Lib.hid (mb_set HF.out hM HH.out HB.out HZ.out ht3 x.left 0 (hM2.set0 _) .chunk)
    have HT := Lib.hid (ht3.mono (G := F) fun j _ h => h ▸ HF.out.1)
    clear ht3 e1
    go_wp2_with fail
    go_ret
    exact ⟨ret_int (by rw [Hs.out]; rfl), HT.out, fun _ => ⟨_, hv, by rw [Hx.out]; exact hMB.out, by rw [Hx.out]; rfl, fun h => by rw [Hx.out] at h; cases h⟩, fun h => by rw [Hs.out] at h; cases h⟩
  · rw [if_neg e2] at Hx
    have hd3 := (Below.refl w2.heap.size w2).alloc (Nat.le_refl _) (.cells #[.func (.func 124) #[] #[]] 138)
    have hM3 := hM2.below hd3
    have k0' := hM3.c0
    have f0' := hM3.fz 0
    have ht3 := (ht2.next hd3).setCell (p := ⟨bm, 0, none⟩) rfl (.func (.func 134) #[] #[.pointer (some ⟨w2.heap.size, 0, none⟩)])
    have hMB := Lib.hid (mb_set HF.out hM HH.out HB.out HZ.out ht3 x.left 0 (hM3.set0 _) .lineE)
    have HT := Lib.hid (ht3.mono (G := F) fun j _ h => h ▸ HF.out.1)
    have HC := Lib.hid (clo_new (bm := bm) (fn := 134) (g := 124) (.func (.func 134) #[] #[.pointer (some ⟨w2.heap.size, 0, none⟩)]) HF.out.2 ht2.size hM2.lt)
    clear ht3 e1 hd3
    go_wp2_with (go_at_call 123; refine (line_clo 124 w2).mono ?_; rintro e w3 ⟨rfl, rfl⟩)
    go_ret
    exact ⟨ret_int (by rw [Hs.out]; rfl), HT.out, fun _ => ⟨_, hv, by rw [Hx.out]; exact hMB.out, by rw [Hx.out]; exact HC.out, fun h => by rw [Hx.out] at h; cases h⟩, fun h => by rw [Hs.out] at h; cases h⟩

/-- LF, then what the box holds. -/
theorem end1_any (g : Nat) (st : Nat) (x' : Mc) (bm bx : Nat) (F : Nat → Prop) (c : UInt8) (w : World)
    (hrun : ∀ args w, (callFunc g args).run Tryz.prog w = .ok (.enter g args) w)
    (hg : Calls Tryz.prog g #[.pointer (some ⟨bm, 0, none⟩)] w fun e w' => e = .returned (.int .i64 st) ∧ StepOut w bm F st x' w')
    (hbx : w.heap[bx]? = some (.cells #[.func (.func g) #[] #[]] 138 (0, 0))) :
    Calls Tryz.prog 132 #[.pointer (some ⟨bm, 0, none⟩), .int .u8 c.toNat, .pointer (some ⟨bx, 0, none⟩)] w fun e w' => e = .returned (.int .i64 (if c = 10 then st else 400 : Nat)) ∧ StepOut w bm F (if c = 10 then st else 400) x' w' := by
  have HG := Lib.hid hg
  clear hg
  have kx : w.cell? ⟨bx, 0, none⟩ = some (.func (.func g) #[] #[]) := by rw [Lib.cell_of_heap hbx]; rfl
  by_cases hc : c = 10
  · rw [if_pos hc]
    have h3 : ((c.toNat : Int) != 10) = false := by rw [hc]; rfl
    clear hc
    go_enter Tryz.func132, Tryz.ntmps132
    go_wp2_with fail
    refine HG.out.mono ?_
    rintro e w' ⟨rfl, ho⟩
    have HO := Lib.hid ho
    clear ho
    go_wp2_with fail
    go_ret
    exact ⟨rfl, HO.out⟩
  · rw [if_neg hc]
    have h3 : ((c.toNat : Int) != 10) = true := byte_ne (d := 10) hc
    clear hc
    go_enter Tryz.func132, Tryz.ntmps132
    go_wp2_with fail
    go_ret
    exact ⟨rfl, stepOut_bad (.refl _ _) (by decide)⟩
end Go.Proofs.YtgdelmkgdfhdpaaGreatDoor
namespace Go.Proofs.YtgdelmkgdfhdpaaGreatDoor
open Go.RowKit
set_option linter.unusedVariables false
set_option linter.unusedSimpArgs false
set_option maxRecDepth 100000

theorem hexA_all : ∀ n, n < 256 → isB 1 (UInt8.ofNat n) = true → (48 : Int) ≤ (UInt8.ofNat n).toNat ∧ ((UInt8.ofNat n).toNat : Int) ≤ 57 ∧ ((UInt8.ofNat n).toNat : Int) - 48 = hexN (UInt8.ofNat n) ∧ hexN (UInt8.ofNat n) < 16 := by decide +kernel
theorem hexB_all : ∀ n, n < 256 → isB 1 (UInt8.ofNat n) = false → (97 ≤ bits .or .u8 ((UInt8.ofNat n).toNat : Int) 32 ∧ bits .or .u8 ((UInt8.ofNat n).toNat : Int) 32 ≤ 102 ∧ bits .or .u8 ((UInt8.ofNat n).toNat : Int) 32 - 97 + 10 = hexN (UInt8.ofNat n) ∧ hexN (UInt8.ofNat n) < 16) ∨
    (bits .or .u8 ((UInt8.ofNat n).toNat : Int) 32 < 97 ∧ 16 ≤ hexN (UInt8.ofNat n)) ∨ (97 ≤ bits .or .u8 ((UInt8.ofNat n).toNat : Int) 32 ∧ 102 < bits .or .u8 ((UInt8.ofNat n).toNat : Int) 32 ∧ 16 ≤ hexN (UInt8.ofNat n)) := by decide +kernel
theorem hexA {c : UInt8} (h : isB 1 c = true) : (48 : Int) ≤ c.toNat ∧ (c.toNat : Int) ≤ 57 ∧ (c.toNat : Int) - 48 = hexN c ∧ hexN c < 16 := by
  have := hexA_all c.toNat c.toNat_lt; rw [UInt8.ofNat_toNat] at this; exact this h
theorem hexB {c : UInt8} (h : isB 1 c = false) : (97 ≤ bits .or .u8 (c.toNat : Int) 32 ∧ bits .or .u8 (c.toNat : Int) 32 ≤ 102 ∧ bits .or .u8 (c.toNat : Int) 32 - 97 + 10 = hexN c ∧ hexN c < 16) ∨
    (bits .or .u8 (c.toNat : Int) 32 < 97 ∧ 16 ≤ hexN c) ∨ (97 ≤ bits .or .u8 (c.toNat : Int) 32 ∧ 102 < bits .or .u8 (c.toNat : Int) 32 ∧ 16 ≤ hexN c) := by
  have := hexB_all c.toNat c.toNat_lt; rw [UInt8.ofNat_toNat] at this; exact this h

def sizesSt (x : Mc) (c : UInt8) : Nat := if hexN c < 16 ∧ x.many < 8 then 1 else if hexN c < 16 ∨ x.many = 0 ∨ c ≠ 13 then 400 else 1
def sizesStep (x : Mc) (c : UInt8) : Mc := if hexN c < 16 then { x with st := .sizes, left := 16 * x.left + hexN c, many := x.many + 1 } else { x with st := .endS }
set_option maxHeartbeats 4000000 in
theorem sizes_any (bm : Nat) (F : Nat → Prop) (x : Mc) (c : UInt8) (w : World) (hI : MI w bm F x) (hst : x.st = .sizes) (hl : x.left ≤ 1099511627776) (hm : x.many ≤ 8) :
    Calls Tryz.prog 99 #[.pointer (some ⟨bm, 0, none⟩), .int .u8 c.toNat] w fun e w' => e = .returned (.int .i64 (sizesSt x c)) ∧ StepOut w bm F (sizesSt x c) (sizesStep x c) w' := by
  obtain ⟨nx, hv, ⟨hF, Hv, Bv, hM, hH, hB, hz⟩, hN, _⟩ := hI
  have HZ := Lib.hid hz
  clear hz
  have HF := Lib.hid hF
  have HH := Lib.hid hH
  have HB := Lib.hid hB
  clear hF hH hB
  have k0 := hM.c0
  have f0 := hM.fz 0
  have k6 := hM.c6
  have f6 := hM.fz 6
  have k7 := hM.c7
  have f7 := hM.fz 7
  have Hs : Hid (sizesSt x c = if hexN c < 16 ∧ x.many < 8 then 1 else if hexN c < 16 ∨ x.many = 0 ∨ c ≠ 13 then 400 else 1) := rfl
  have Hx : Hid (sizesStep x c = if hexN c < 16 then { x with st := .sizes, left := 16 * x.left + hexN c, many := x.many + 1 } else { x with st := .endS }) := rfl
  have hMm := (hM.set6 ((16 * x.left + hexN c : Nat) : Int)).set7 ((x.many + 1 : Nat) : Int)
  have htm := ((Touch.refl (fun j => j = bm) w).setCell (p := ⟨bm, 6, none⟩) rfl (.int .i64 ((16 * x.left + hexN c : Nat) : Int))).setCell (p := ⟨bm, 7, none⟩) rfl (.int .i64 ((x.many + 1 : Nat) : Int))
  have hMB := Lib.hid (mb_set HF.out hM HH.out HB.out HZ.out htm (16 * x.left + hexN c) (x.many + 1) hMm .sizes)
  have HT := Lib.hid (htm.mono (G := F) fun j _ h => h ▸ HF.out.1)
  clear hMm htm
  have EL := Lib.hid (show (16 * (x.left : Int) + (hexN c : Int)) = ((16 * x.left + hexN c : Nat) : Int) by omega)
  have EM := Lib.hid (show ((x.many : Int) + 1) = ((x.many + 1 : Nat) : Int) by omega)
  generalize sizesSt x c = st at Hs ⊢
  generalize sizesStep x c = x2 at Hx ⊢
  cases hd : isB 1 c
  · have HD := Lib.hid hd
    rcases hexB hd with ⟨h1, h2, h3, h4⟩ | hno
    · clear hd
      rw [if_pos h4] at Hx
      have E3 := Lib.hid h3
      by_cases e1 : x.many < 8
      · rw [if_pos ⟨h4, e1⟩] at Hs
        clear h3 h4
        go_enter Tryz.func99, Tryz.ntmps99; go_wp2_with (go_at_call 78; refine (digitB c _).mono ?_; rintro e w4 ⟨rfl, rfl⟩; rw [HD.out])
        (go_ret; rw [E3.out, EL.out, EM.out]; exact ⟨ret_int (by rw [Hs.out]; rfl), HT.out, fun _ => ⟨nx, hv, by rw [Hx.out]; exact hMB.out, by rw [hst] at hN; rw [Hx.out]; exact hN, fun h => by rw [Hx.out] at h; cases h⟩, fun h => by rw [Hs.out] at h; cases h⟩)
      · rw [if_neg (fun h => e1 h.2), if_pos (.inl h4)] at Hs
        clear h3 h4
        go_enter Tryz.func99, Tryz.ntmps99; go_wp2_with (go_at_call 78; refine (digitB c _).mono ?_; rintro e w4 ⟨rfl, rfl⟩; rw [HD.out])
        (go_ret; exact ⟨ret_int (by rw [Hs.out]; rfl), by rw [Hs.out]; exact stepOut_bad (.refl _ _) (by decide)⟩)
    · have h16 : ¬ hexN c < 16 := by omega
      rw [if_neg h16] at Hx
      rw [if_neg (fun h => h16 h.1)] at Hs
      clear hd hMB HT EL EM
      by_cases e1 : x.many = 0
      · rw [if_pos (.inr (.inl e1))] at Hs
        have e2 : ((x.many : Int) == 0) = true := by simp; omega
        clear e1
        rcases hno with ⟨h1, h2⟩ | ⟨h1, h2, h3⟩
        all_goals
          go_enter Tryz.func99, Tryz.ntmps99; go_wp2_with (go_at_call 78; refine (digitB c _).mono ?_; rintro e w4 ⟨rfl, rfl⟩; rw [HD.out])
          (go_ret; exact ⟨ret_int (by rw [Hs.out]; rfl), by rw [Hs.out]; exact stepOut_bad (.refl _ _) (by decide)⟩)
      have e2 : ((x.many : Int) == 0) = false := by simp; omega
      by_cases e3 : c = 13
      case neg =>
        rw [if_pos (.inr (.inr e3))] at Hs
        have e4 : ((c.toNat : Int) != 13) = true := byte_ne (d := 13) e3
        clear e1 e3
        rcases hno with ⟨h1, h2⟩ | ⟨h1, h2, h3⟩
        all_goals
          go_enter Tryz.func99, Tryz.ntmps99; go_wp2_with (go_at_call 78; refine (digitB c _).mono ?_; rintro e w4 ⟨rfl, rfl⟩; rw [HD.out])
          (go_ret; exact ⟨ret_int (by rw [Hs.out]; rfl), by rw [Hs.out]; exact stepOut_bad (.refl _ _) (by decide)⟩)
      rw [if_neg (fun h => by rcases h with h | h | h; exact h16 h; exact e1 h; exact h e3)] at Hs
      have e4 : ((c.toNat : Int) != 13) = false := by rw [e3]; rfl
      clear e1 e3
      have hd3 := (Below.refl w.heap.size w).alloc (Nat.le_refl _) (.cells #[.func (.func 121) #[] #[]] 138)
      have hM3 := hM.below hd3
      have k0' := hM3.c0
      have f0' := hM3.fz 0
      have ht3 := ((Touch.refl (fun j => j = bm) w).next hd3).setCell (p := ⟨bm, 0, none⟩) rfl (.func (.func 132) #[] #[.pointer (some ⟨w.heap.size, 0, none⟩)])
      have hMB := Lib.hid (mb_set HF.out hM HH.out HB.out HZ.out ht3 x.left x.many (hM3.set0 _) .endS)
      have HT := Lib.hid (ht3.mono (G := F) fun j _ h => h ▸ HF.out.1)
      have HC := Lib.hid (clo_new (bm := bm) (fn := 132) (g := 121) (.func (.func 132) #[] #[.pointer (some ⟨w.heap.size, 0, none⟩)]) HF.out.2 (Nat.le_refl _) hM.lt)
      clear ht3 hd3
      rcases hno with ⟨h1, h2⟩ | ⟨h1, h2, h3⟩
      all_goals
        go_enter Tryz.func99, Tryz.ntmps99
        go_wp2_with (first | (go_at_call 78; refine (digitB c _).mono ?_; rintro e w4 ⟨rfl, rfl⟩; rw [HD.out]) | (go_at_call 120; refine (end_clo 121 w).mono ?_; rintro e w3 ⟨rfl, rfl⟩))
        go_ret
        exact ⟨ret_int (by rw [Hs.out]; rfl), HT.out, fun _ => ⟨_, hv, by rw [Hx.out]; exact hMB.out, by rw [Hx.out]; exact HC.out, fun h => by rw [Hx.out] at h; cases h⟩, fun h => by rw [Hs.out] at h; cases h⟩
  · have HD := Lib.hid hd
    obtain ⟨h1, h2, h3, h4⟩ := hexA hd
    clear hd
    rw [if_pos h4] at Hx
    have E3 := Lib.hid h3
    by_cases e1 : x.many < 8
    · rw [if_pos ⟨h4, e1⟩] at Hs
      clear h3 h4
      go_enter Tryz.func99, Tryz.ntmps99; go_wp2_with (go_at_call 78; refine (digitB c _).mono ?_; rintro e w4 ⟨rfl, rfl⟩; rw [HD.out])
      (go_ret; rw [E3.out, EL.out, EM.out]; exact ⟨ret_int (by rw [Hs.out]; rfl), HT.out, fun _ => ⟨nx, hv, by rw [Hx.out]; exact hMB.out, by rw [hst] at hN; rw [Hx.out]; exact hN, fun h => by rw [Hx.out] at h; cases h⟩, fun h => by rw [Hs.out] at h; cases h⟩)
    · rw [if_neg (fun h => e1 h.2), if_pos (.inl h4)] at Hs
      clear h3 h4
      go_enter Tryz.func99, Tryz.ntmps99; go_wp2_with (go_at_call 78; refine (digitB c _).mono ?_; rintro e w4 ⟨rfl, rfl⟩; rw [HD.out])
      (go_ret; exact ⟨ret_int (by rw [Hs.out]; rfl), by rw [Hs.out]; exact stepOut_bad (.refl _ _) (by decide)⟩)
end Go.Proofs.YtgdelmkgdfhdpaaGreatDoor
namespace Go.Proofs.YtgdelmkgdfhdpaaGreatDoor
open Go.RowKit
set_option linter.unusedVariables false
set_option linter.unusedSimpArgs false
set_option maxRecDepth 100000

def intsOf (l : B) : List Int := l.map fun c => (c.toNat : Int)
theorem bytesOf_ints (l : B) : Lib.bytesOf (intsOf l) = l := by
  unfold Lib.bytesOf intsOf
  rw [List.map_map]
  conv => rhs; rw [← List.map_id l]
  apply List.map_congr_left
  intro c _
  simp
theorem bytesIn_rd {w : World} {A : Option Addr} {c : Nat} {l : B} (h : Rd w 1 (.slice A l.length c) l.length (bytesV l)) : Lib.BytesIn w A l.length (intsOf l) := by
  intro hn
  obtain ⟨x, hx⟩ : ∃ x, l[0]? = some x := ⟨l[0], List.getElem?_eq_getElem hn⟩
  obtain ⟨b, o, hA, _⟩ := h.byteAt hx
  refine ⟨b, o, hA, fun i hi => ?_⟩
  obtain ⟨b', o', hA', hc⟩ := h.byteAt (List.getElem?_eq_getElem hi)
  rw [hA] at hA'
  cases hA'
  rw [hc]
  simp [intsOf, List.getD_eq_getElem?_getD, List.getElem?_eq_getElem hi]
theorem suffix_any (l : B) (A : Option Addr) (c g : Nat) (w : World) (hR : Rd w 1 (.slice A l.length c) l.length (bytesV l)) (hl : l.length ≤ 1048576)
    (hg : Rd w 1 (.slice (some ⟨g, 0, none⟩) 4 4) 4 (bytesV crL)) :
    Calls Tryz.prog 73 #[.slice A l.length c, .slice (some ⟨g, 0, none⟩) 4 4] w fun e w' => e = .returned (.bool (crL.isSuffixOf l)) ∧ w' = w := by
  have hnc : l.length ≤ c := by obtain ⟨_, A', c', h2, h3, _⟩ := hR; cases h2; exact h3
  have h := Tryz.bytes_HasSuffix_all A (some ⟨g, 0, none⟩) l.length c 4 4 (intsOf l) (intsOf crL) w (by simp [intsOf]) rfl hnc (by omega) (bytesIn_rd hR) (bytesIn_rd (l := crL) hg)
  rw [bytesOf_ints, bytesOf_ints] at h
  exact h
theorem rd_cr {w : World} {fr : Nat × Nat} : Rd (w.alloc (.cells #[.int .u8 13, .int .u8 10, .int .u8 13, .int .u8 10] 5 fr)) 1 (.slice (some ⟨w.heap.size, 0, none⟩) 4 4) 4 (bytesV crL) := by
  refine ⟨rfl, _, _, rfl, Nat.le_refl _, by decide, (fun h => by cases h), fun a ha => ?_⟩
  cases ha
  refine ⟨rfl, fun j u hj => ?_⟩
  rw [Nat.zero_add, World.cell?_alloc_mark]
  have : bytesV crL = [.int .u8 13, .int .u8 10, .int .u8 13, .int .u8 10] := rfl
  rw [this] at hj
  simpa using hj

/-- The program's fields. -/
def fieldsP : List (B × B) → List B → Nat × List (B × B)
  | hs, [] => (0, hs)
  | hs, s :: l => if fSt hs.length s = 0 then fieldsP (hs ++ [fOf s]) l else (fSt hs.length s, [])
/-- A head that is whole. -/
def headSt (hd : B) : Nat :=
  if (cutL (hd.take (hd.length - 4))).any hasCR then 400
  else if openL ((cutL (hd.take (hd.length - 4))).headD []) ≠ 0 then openL ((cutL (hd.take (hd.length - 4))).headD [])
  else if (fieldsP [] (cutL (hd.take (hd.length - 4))).tail).1 ≠ 0 then (fieldsP [] (cutL (hd.take (hd.length - 4))).tail).1
  else measL (fieldsP [] (cutL (hd.take (hd.length - 4))).tail).2
def headX (x : Mc) (hd : B) : Mc :=
  { x with st := if (valuesL (fieldsP [] (cutL (hd.take (hd.length - 4))).tail).2 teL).length = 1 then .sizes else .plain, head := hd, m := openM ((cutL (hd.take (hd.length - 4))).headD []), p := openM (openR ((cutL (hd.take (hd.length - 4))).headD [])),
           h := (fieldsP [] (cutL (hd.take (hd.length - 4))).tail).2,
           left := if (valuesL (fieldsP [] (cutL (hd.take (hd.length - 4))).tail).2 teL).length = 1 then x.left else numF (firstL (valuesL (fieldsP [] (cutL (hd.take (hd.length - 4))).tail).2 clL)) }
def headsSt (x : Mc) (c : UInt8) : Nat := if crL.isSuffixOf (x.head ++ [c]) then headSt (x.head ++ [c]) else if 8196 ≤ (x.head ++ [c]).length then 431 else 1
def headsStep (x : Mc) (c : UInt8) : Mc := if crL.isSuffixOf (x.head ++ [c]) then headX x (x.head ++ [c]) else { x with head := x.head ++ [c] }

theorem rd_take {w : World} {A : Option Addr} {n c k : Nat} {l : B} (h : Rd w 1 (.slice A n c) l.length (bytesV l)) (hk : k ≤ l.length) : Rd w 1 (.slice A k c) (l.take k).length (bytesV (l.take k)) := by
  obtain ⟨h1, A', c', h2, h3, h4, h5, h6⟩ := h
  simp only [Value.slice.injEq] at h2
  obtain ⟨rfl, rfl, rfl⟩ := h2
  have hl : (l.take k).length = k := by simp; omega
  refine ⟨by rw [bytesV_len]; omega, A, c, by rw [hl], by omega, h4, fun e => by rw [hl]; have := h5 e; omega, fun a ha => ⟨(h6 a ha).1, fun j u hj => (h6 a ha).2 j u ?_⟩⟩
  unfold bytesV at hj ⊢
  rw [List.map_take, List.getElem?_take] at hj
  split at hj
  · exact hj
  · cases hj
theorem openL_ge (s : B) : openL s = 0 ∨ 400 ≤ openL s := by
  unfold openL
  split
  · unfold open3
    split
    · right; decide
    split
    · right; decide
    split
    · right; decide
    unfold open4
    repeat' split
    all_goals simp
  · right; decide
theorem fSt_ge (n : Nat) (s : B) : fSt n s = 0 ∨ 400 ≤ fSt n s := by
  unfold fSt
  repeat' split
  all_goals simp
theorem touch_new {F G : Nat → Prop} {a b c : World} (h : Touch F a b) (k : Touch G b c) (hg : ∀ j, j < a.heap.size → G j → F j) : Touch F a c :=
  ⟨k.os.trans h.os, k.tape.trans h.tape, k.output.trans h.output, Nat.le_trans h.size k.size, fun i hi hf => (k.block i (Nat.lt_of_lt_of_le hi h.size) (fun e => hf (hg i hi e))).trans (h.block i hi hf)⟩
theorem fieldsP_ok {hs : List (B × B)} {s : B} {l : List B} (h : fSt hs.length s = 0) : fieldsP hs (s :: l) = fieldsP (hs ++ [fOf s]) l := by rw [fieldsP, if_pos h]
theorem fieldsP_bad {hs : List (B × B)} {s : B} {l : List B} (h : ¬ fSt hs.length s = 0) : fieldsP hs (s :: l) = (fSt hs.length s, []) := by rw [fieldsP, if_neg h]
theorem fOf_len (s : B) : (fOf s).2.length ≤ s.length := by
  unfold fOf; have := bareL_le (fRest s); unfold fRest at *; simp at this ⊢; omega
theorem fSt_len {n : Nat} {s : B} (h : fSt n s = 0) : n ≠ 32 := by rintro rfl; simp [fSt] at h
theorem MB.mono {w : World} {bm : Nat} {F G : Nat → Prop} {nx hv : Value} {x : Mc} (h : MB w bm F nx hv x) (hFG : ∀ k, F k → G k) (hG : ∀ k, G k → k < w.heap.size) : MB w bm G nx hv x := by
  obtain ⟨hF, Hv, Bv, hM, hH, hB, hz⟩ := h
  exact ⟨⟨hFG _ hF.1, hG⟩, Hv, Bv, hM, ⟨hH.1, fun k hk => hFG k (hH.2 k hk)⟩, ⟨hB.1, fun k hk => hFG k (hB.2 k hk)⟩, hz⟩
theorem Clo.mono {w : World} {F G : Nat → Prop} {nx : Value} {a b : Nat} (h : Clo w F nx a b) (hFG : ∀ k, F k → G k) : Clo w G nx a b := by
  obtain ⟨k, h1, h2, h3⟩ := h; exact ⟨k, h1, hFG k h2, h3⟩
theorem Nx.mono {w : World} {F G : Nat → Prop} {nx : Value} {st : St} (h : Nx w F nx st) (hFG : ∀ k, F k → G k) : Nx w G nx st := by
  cases st <;> first | exact h | exact Clo.mono h hFG
theorem MI.mono {w : World} {bm : Nat} {F G : Nat → Prop} {x : Mc} (h : MI w bm F x) (hFG : ∀ k, F k → G k) (hG : ∀ k, G k → k < w.heap.size) : MI w bm G x := by
  obtain ⟨nx, hv, h1, h2, h3⟩ := h
  exact ⟨nx, hv, h1.mono hFG hG, h2.mono hFG, fun e => ⟨⟨(h3 e).1.1, fun k hk => hFG k ((h3 e).1.2 k hk)⟩, (h3 e).2⟩⟩
theorem touch_grow {F : Nat → Prop} {w w1 w2 : World} (h1 : Touch F w w1) (h2 : Touch (Grow F w w1) w1 w2) : Touch F w w2 :=
  ⟨h2.os.trans h1.os, h2.tape.trans h1.tape, h2.output.trans h1.output, Nat.le_trans h1.size h2.size, fun k hk hf => (h2.block k (Nat.lt_of_lt_of_le hk h1.size) (fun h => h.elim hf (fun h => by omega))).trans (h1.block k hk hf)⟩
theorem grow_grow {F : Nat → Prop} {w w1 w2 : World} (h1 : w.heap.size ≤ w1.heap.size) (h2 : w1.heap.size ≤ w2.heap.size) (k : Nat) (h : Grow (Grow F w w1) w1 w2 k) : Grow F w w2 k := by
  rcases h with (h | h) | h
  · exact .inl h
  · exact .inr ⟨h.1, by omega⟩
  · exact .inr ⟨by omega, h.2⟩
theorem StepOut.after {w w1 w2 : World} {bm : Nat} {F : Nat → Prop} {st : Nat} {x : Mc} (hF : ∀ k, F k → k < w.heap.size) (h1 : Touch F w w1) (h2 : StepOut w1 bm (Grow F w w1) st x w2) : StepOut w bm F st x w2 := by
  have ht := touch_grow h1 h2.1
  refine ⟨ht, fun e => ?_, fun e => ?_⟩
  · exact (h2.2.1 e).mono (grow_grow h1.size h2.1.size) (grow_of ht hF)
  · obtain ⟨nx, hv, y, h, hy⟩ := h2.2.2 e
    exact ⟨nx, hv, y, h.mono (grow_grow h1.size h2.1.size) (grow_of ht hF), hy⟩

set_option maxHeartbeats 4000000 in
theorem heads_any (bm : Nat) (F : Nat → Prop) (x : Mc) (c : UInt8) (w : World) (hI : MI w bm F x) (hst : x.st = .heads) (hl : x.head.length ≤ 8195) (hg : Glob w) (hgF : ¬ F 0) :
    Calls Tryz.prog 57 #[.pointer (some ⟨bm, 0, none⟩), .int .u8 c.toNat] w fun e w' => e = .returned (.int .i64 (headsSt x c)) ∧ StepOut w bm F (headsSt x c) (headsStep x c) w' := by
  obtain ⟨nx, hv, ⟨hF, Hv, Bv, hM, hH, hB, hz⟩, hN, hhd⟩ := hI
  obtain ⟨hV, hh0, hb0⟩ := hhd hst
  obtain rfl := hz hb0
  clear hz
  have Hone := one_byte c
  obtain ⟨A, cp, rfl⟩ := (rd_of_own hV.1).shape
  have HV := Lib.hid hV
  have HF := Lib.hid hF
  have HH := Lib.hid hH
  have HB := Lib.hid hB
  have HN := Lib.hid hN
  clear hV hF hH hB hN hhd
  have k1 := hM.c1
  have Hst : Hid (headsSt x c = if crL.isSuffixOf (x.head ++ [c]) then headSt (x.head ++ [c]) else if 8196 ≤ (x.head ++ [c]).length then 431 else 1) := rfl
  have Hx : Hid (headsStep x c = if crL.isSuffixOf (x.head ++ [c]) then headX x (x.head ++ [c]) else { x with head := x.head ++ [c] }) := rfl
  generalize headsSt x c = st at Hst ⊢
  generalize headsStep x c = x2 at Hx ⊢
  go_enter Tryz.func57, Tryz.ntmps57
  go_wp2_with (at_builtin; refine wpList_pushAt _ rfl _ _ 23 rfl rowB _ _ _ rfl HV.out.1 [.int .u8 c.toNat] w.heap.size rfl rfl rfl Hone (by omega) ?_)
  intro v' w1 hown1 ht1 hl1
  obtain ⟨A7, c7, rfl⟩ := (rd_of_own hown1).shape
  have hM1 := hM.touch ht1 (fun e => hM.not_own HV.out.1 (by decide) bm e rfl)
  have k1' := hM1.c1
  have f1' := hM1.fz 1
  have hM2 := hM1.set1 (.slice A7 (x.head.length + 1) c7)
  have ht2 := (Touch.refl (fun j => j = bm) w1).setCell (p := ⟨bm, 1, none⟩) rfl (.slice A7 (x.head.length + 1) c7)
  have hown2 := own_touch hown1 ht2 (fun k hk e => hM1.not_own hown1 (by decide) k hk e)
  have kc := Go.Joins.run_convert_bytes_const_at (P := Tryz.prog) (w1.setCell ⟨bm, 1, none⟩ (.slice A7 (x.head.length + 1) c7)) 23 5 #[.int .u8 13, .int .u8 10, .int .u8 13, .int .u8 10] 4 4 w1.heap.size (by simp [World.setCell]) Tryz.underlying23 Tryz.underlying5
  go_wp2_with fail
  have hsz : (w1.setCell ⟨bm, 1, none⟩ (.slice A7 (x.head.length + 1) c7)).heap.size = w1.heap.size := by simp [World.setCell]
  rw [← hsz]
  clear kc k1' f1'
  generalize w1.setCell ⟨bm, 1, none⟩ (.slice A7 (x.head.length + 1) c7) = w2 at *
  have HT2 := Lib.hid ((ht1.mono (G := F) fun k _ h => HV.out.2 k h).trans (ht2.mono fun k _ h => h ▸ HF.out.1))
  have HV2 : Hid (w2.ownsRow 0 5 1 (.slice A7 (x.head.length + 1) c7) (x.head ++ [c]).length (bytesV (x.head ++ [c])) ∧ ∀ k, (Value.slice A7 (x.head.length + 1) c7).ownBlock = some k → Grow F w w2 k) := by
    refine ⟨by rw [List.length_append, bytesV_append]; exact hown2, fun k hk => ?_⟩
    rcases hl1 k hk with h | h
    · exact .inl (HV.out.2 k h)
    · exact .inr ⟨h, (hown2.lt k hk).2⟩
  have HH2 := Lib.hid (own_touch (own_touch HH.out.1 ht1 (fun k hk e => own_apart HH.out.1 HV.out.1 (by decide) k hk e)) ht2 (fun k hk e => hM.not_own HH.out.1 (by decide) k hk e))
  have HF2 := Lib.hid (show Grow F w w2 bm ∧ ∀ k, Grow F w w2 k → k < w2.heap.size from ⟨.inl HF.out.1, grow_of HT2.out HF.out.2⟩)
  have HG2 := Lib.hid (show Glob w2 from hg.touch HT2.out hgF)
  have Hlen := Lib.hid (show x.head.length + 1 = (x.head ++ [c]).length by simp)
  clear hM1 hM ht1 ht2 hown1 hown2 hl1 hsz HV k1
  have hzl : x.head.length + 1 ≤ 8196 := by omega
  rw [Hlen.out] at hzl HV2 hM2 ⊢
  clear Hlen
  generalize x.head ++ [c] = hd at *
  have hb3 := (Below.refl w2.heap.size w2).alloc (Nat.le_refl _) (.cells #[.int .u8 13, .int .u8 10, .int .u8 13, .int .u8 10] 5 (4, 5))
  have hR3 := (rd_of_own HV2.out.1).below hb3
  refine (suffix_any hd A7 c7 w2.heap.size _ hR3 (by omega) rd_cr).mono ?_
  rintro e w3 ⟨rfl, rfl⟩
  generalize w2.alloc (.cells #[.int .u8 13, .int .u8 10, .int .u8 13, .int .u8 10] 5 (4, 5)) = w3 at hb3 hR3 ⊢
  have hM3 := hM2.below hb3
  have k1 := hM3.c1
  cases hsuf : crL.isSuffixOf hd
  · rw [hsuf] at Hst Hx
    rw [if_neg (by decide)] at Hst Hx
    by_cases e1 : 8196 ≤ hd.length
    · rw [if_pos e1] at Hst
      go_wp2_with fail
      go_ret
      refine ⟨ret_int (by rw [Hst.out]; rfl), by rw [Hst.out]; exact stepOut_bad (HT2.out.next hb3) (by decide)⟩
    · rw [if_neg e1] at Hst
      go_wp2_with fail
      go_ret
      refine ⟨ret_int (by rw [Hst.out]; rfl), ?_⟩
      rw [Hst.out, Hx.out]
      refine StepOut.after HF.out.2 HT2.out ⟨.of_below hb3, fun _ => ⟨nx, .slice A7 hd.length c7, ⟨⟨.inl HF2.out.1, grow_of (.of_below hb3) HF2.out.2⟩, Hv, .slice none 0 0, hM3, ⟨own_below HH2.out hb3, fun k hk => .inl (.inl (HH.out.2 k hk))⟩, ⟨?_, fun k hk => by cases hk⟩, fun _ => rfl⟩, ?_, fun _ => ⟨⟨own_below HV2.out.1 hb3, fun k hk => .inl (HV2.out.2 k hk)⟩, hh0, hb0⟩⟩, fun h => by cases h⟩
      · rw [hb0]; exact World.ownsRow_nil _ _ _ _
      · show Nx _ _ _ x.st
        have := HN.out
        rw [hst] at this ⊢
        exact this
  rw [hsuf, if_pos rfl] at Hst Hx
  obtain ⟨k, hk⟩ : ∃ k, hd.length = k + 4 := ⟨hd.length - 4, by have := (List.isSuffixOf_iff_suffix.1 hsuf).length_le; simp [crL] at this; omega⟩
  have Hk := Lib.hid hk
  have hcap : hd.length ≤ c7 := by obtain ⟨_, A', c', h2, h3, _⟩ := hR3; cases h2; exact h3
  have hR4 := rd_take (k := k) hR3 (by omega)
  have hR5 : Rd w3.drew 1 (.slice A7 k c7) (hd.take k).length (bytesV (hd.take k)) := hR4
  have kc := conv_rd (P := Tryz.prog) 23 9 5 Tryz.underlying23 Tryz.underlying5 Tryz.underlying9 hR5
  have y1 : IntKind.i64.wrap ((hd.length : Int) - 4) = (k : Int) := by rw [show ((hd.length : Int) - 4) = (k : Int) by omega]; exact IntWalk.i64_in _ (by omega)
  have y2 : (0 : Int) ≤ (k : Int) := by omega
  have y3 : ((k : Int)).toNat = k := by omega
  have y4 : (k : Int) ≤ c7 := by omega
  have hsp : (ofL (hd.take k)).size ≤ 1048576 := by rw [size_ofL]; simp; omega
  have HSP := Lib.hid (fun w hg => split_any (ofL (hd.take k)) hsp w hg)
  rw [toL_ofL] at HSP
  have HG3 : Hid (Glob w3.drew) := HG2.out.next hb3.drew
  have HR4 := Lib.hid hR4
  clear hR5 hR4 hk hcap
  dsimp only
  go_wp2_with fail
  go_region_held3 (fun w' => w'.cell? ⟨bm, 1, none⟩ = some (.slice A7 hd.length c7) ∧ (convert 23 9 (.slice A7 k c7)).run Tryz.prog w' = .ok (.string (ofL (hd.take k))) w') (first | exact ⟨k1, kc⟩ | exact ⟨k14, kc4⟩) (first | (go_at_call 54; refine (HSP.out _ HG3.out).mono ?_; rintro e w4 ⟨v4, rfl, hown4, hb4⟩; have hM4 := hM3.below hb4.undrew; have k14 := hM4.c1; have kc4 := conv_rd (P := Tryz.prog) 23 9 5 Tryz.underlying23 Tryz.underlying5 Tryz.underlying9 (HR4.out.below hb4.undrew)))
  obtain ⟨A4, c4, rfl⟩ := (rd_of_own hown4).shape
  have hb24 := hb3.next hb4.undrew
  have hR5 := rd_of_own hown4
  have hlx := cutL_mem (hd.take k)
  have hln := cutL_len (hd.take k)
  have hne := cutL_ne (hd.take k)
  have Hh : Hid (headSt hd = if (cutL (hd.take k)).any hasCR then 400
    else if openL ((cutL (hd.take k)).headD []) ≠ 0 then openL ((cutL (hd.take k)).headD [])
    else if (fieldsP [] (cutL (hd.take k)).tail).1 ≠ 0 then (fieldsP [] (cutL (hd.take k)).tail).1
    else measL (fieldsP [] (cutL (hd.take k)).tail).2) := by
    show _ = _
    unfold headSt; rw [show hd.length - 4 = k by rw [Hk.out]; omega]
  rw [← Hst.out] at Hh
  generalize hls : cutL (hd.take k) = ls at *
  have Hls := Lib.hid hls
  have hkl : (hd.take k).length ≤ 8192 := by have := Hk.out; rw [List.length_take]; omega
  have HR5 := Lib.hid hR5
  have hM4' := hM4
  have HO4 := Lib.hid hown4
  clear hls hR5 hown4 hM3 hM2 hR3 k1 kc kc4 k14 y1 y2 y3 y4 hsuf hsp HSP HG3 HR4 hb4 hb3
  go_wp2_with fail
  go_loop [51] (fun i => ∃ j : Nat, j ≤ ls.length ∧ i = .int .i64 j ∧ Hid ((ls.take j).any hasCR = false)) (fun i => ls.length - (intOf i).toNat)
  case atStart => exact ⟨0, Nat.zero_le _, rfl, rfl⟩
  case round =>
    obtain ⟨j, hj, rfl, Hany⟩ := hrel
    by_cases hlt : j < ls.length
    · obtain ⟨s, hh⟩ : ∃ s, ls[j]? = some s := ⟨ls[j], List.getElem?_eq_getElem hlt⟩
      have Hd := Lib.hid (take_snoc' hh)
      obtain ⟨b, o, rfl, hc⟩ := HR5.out.strAt hh
      have Hm := Lib.hid (List.mem_of_getElem? hh)
      clear hh
      have C13 := Lib.hid (fun w => ibyte_any 13 (ofL s) w)
      have C10 := Lib.hid (fun w => ibyte_any 10 (ofL s) w)
      rw [toL_ofL, size_ofL, show (((13 : UInt8).toNat : Nat) : Int) = 13 from rfl] at C13
      rw [toL_ofL, size_ofL, show (((10 : UInt8).toNat : Nat) : Int) = 10 from rfl] at C10
      have h13 := whereL_single 13 s
      have h10 := whereL_single 10 s
      by_cases q13 : whereL [13] s < s.length
      · rw [if_pos q13] at C13
        have Hg : Hid (st = 400) := by show _ = _; rw [Hh.out, if_pos (List.any_eq_true.2 ⟨s, Hm.out, by unfold hasCR; rw [← h13, decide_eq_true q13]; rfl⟩)]
        clear h13 h10
        go_wp2_with (go_at_call 74; (first | with_reducible refine (C13.out _).mono ?_ | with_reducible refine (C10.out _).mono ?_); rintro e w5 ⟨rfl, rfl⟩)
        go_ret
        exact ⟨ret_int (by rw [Hg.out]; rfl), by rw [Hg.out]; exact stepOut_bad (HT2.out.next hb24) (by decide)⟩
      · rw [if_neg q13] at C13
        by_cases q10 : whereL [10] s < s.length
        · rw [if_pos q10] at C10
          have Hg : Hid (st = 400) := by show _ = _; rw [Hh.out, if_pos (List.any_eq_true.2 ⟨s, Hm.out, by unfold hasCR; rw [← h10, decide_eq_true q10]; simp⟩)]
          clear h13 h10
          go_wp2_with (go_at_call 74; (first | with_reducible refine (C13.out _).mono ?_ | with_reducible refine (C10.out _).mono ?_); rintro e w5 ⟨rfl, rfl⟩)
          go_ret
          exact ⟨ret_int (by rw [Hg.out]; rfl), by rw [Hg.out]; exact stepOut_bad (HT2.out.next hb24) (by decide)⟩
        · rw [if_neg q10] at C10
          have Hn := Lib.hid (show hasCR s = false by unfold hasCR; rw [← h13, ← h10, decide_eq_false q13, decide_eq_false q10]; rfl)
          clear h13 h10
          go_wp2_with (go_at_call 74; (first | with_reducible refine (C13.out _).mono ?_ | with_reducible refine (C10.out _).mono ?_); rintro e w5 ⟨rfl, rfl⟩)
          go_round
          case rel => exact ⟨j + 1, by omega, by go_num, by show _ = _; rw [Hd.out, List.any_append, Hany.out]; simp [Hn.out]⟩
          case measure => simp [intOf]; omega
    · have hke : j = ls.length := by omega
      obtain ⟨x0, tl, rfl⟩ : ∃ x0 tl, ls = x0 :: tl := by cases ls with | nil => exact absurd rfl hne | cons a t => exact ⟨a, t, rfl⟩
      rw [hke, List.take_length] at Hany
      rw [Hany.out, if_neg (by decide), List.headD_cons, List.tail_cons] at Hh
      have hx0 := hlx x0 (by simp)
      have hxm : (ofL x0).size ≤ 1048576 := by rw [size_ofL]; omega
      obtain ⟨b, o, rfl, hc⟩ := HR5.out.strAt (k := 0) (s := x0) rfl
      rw [Nat.add_zero] at hc
      have hlen : (x0 :: tl).length = tl.length + 1 := rfl
      have HOP := Lib.hid (opening_any bm nx (.slice A7 hd.length c7) Hv (.slice none 0 0) (ofL x.m) (ofL x.p) x.left x.many (ofL x0) w4 hM4' hxm (HG2.out.next hb24) (fun e => hgF (e ▸ HF.out.1)))
      rw [toL_ofL] at HOP
      clear hke hx0
      by_cases hop : openL x0 = 0
      case neg =>
        have Hop := Lib.hid hop
        have hop1 : ((openL x0 : Int) != 0) = true := by simp; omega
        have Hst2 := Lib.hid (show st = openL x0 by rw [Hh.out, if_pos hop])
        have hge : 2 ≤ openL x0 := by rcases openL_ge x0 with h | h; exact absurd h hop; omega
        clear hop
        go_wp2_with (go_at_call 75; refine HOP.out.mono ?_; rintro e w5 ⟨rfl, ht5, _, _⟩)
        go_ret
        exact ⟨ret_int (by rw [Hst2.out]), by rw [Hst2.out]; exact stepOut_bad ((HT2.out.next hb24).trans (ht5.mono fun j _ h => h ▸ HF.out.1)) hge⟩
      have Hop := Lib.hid hop
      have hop1 : ((openL x0 : Int) != 0) = false := by simp [hop]
      rw [if_neg (fun h => h hop)] at Hh
      rw [hop] at HOP
      have HL := Lib.hid (fun y (hy : y ∈ tl) => hlx y (List.mem_cons_of_mem _ hy))
      have hnb : b ≠ bm := by
        obtain ⟨cs, hcs⟩ := own_elem HO4.out (k := b) rfl
        rintro rfl
        have := hM4'
        unfold MC at this
        rw [hcs] at this
        simp at this
      have hnh : Hv.ownBlock ≠ some b := own_apart HO4.out (own_below HH2.out hb24) (by decide) b rfl
      have ht6 : (c4 = 1 ∧ Rd w4 1 (.slice (some ⟨b, o, none⟩) tl.length 0) tl.length (strs tl)) ∨ (¬ c4 = 1 ∧ Rd w4 1 (.slice (some ⟨b, o + 1, none⟩) tl.length (c4 - 1)) tl.length (strs tl)) := by
        have h := rd_tail HR5.out
        by_cases hcc : c4 = 1
        · left; rw [if_pos hcc, hcc] at h; exact ⟨hcc, h⟩
        · right; rw [if_neg hcc] at h; exact ⟨hcc, h⟩
      rcases ht6 with ⟨hcc, ht6⟩ | ⟨hcc, ht6⟩
      all_goals
        have HR6 := Lib.hid ht6
        have Hnb := Lib.hid hnb
        have Hnh := Lib.hid hnh
        clear ht6 hop hlx hnb hnh
        go_wp2_with (go_at_call 75; refine HOP.out.mono ?_; rintro e w5 ⟨rfl, ht5, hg5, hM5⟩; replace hM5 := hM5 rfl)
        clear hop1 hc HOP HR5
        go_loopw [75] (fun i wr => ∃ (j : Nat) (hs : List (B × B)) (Hw : Value), j ≤ tl.length ∧ i = .int .i64 j ∧ Hid (fieldsP [] tl = fieldsP hs (tl.drop j)) ∧ hs.length ≤ 32 ∧ Hid (∀ y ∈ hs, y.2.length ≤ 1048576) ∧ MC wr bm nx (.slice A7 hd.length c7) (ofL (openM x0)) (ofL (openM (openR x0))) Hw (.slice none 0 0) x.left x.many ∧ wr.ownsRow 0 30 2 Hw hs.length (pairs hs) ∧ Lies w4 Hv Hw ∧ Touch (fun k => k = bm ∨ Hv.ownBlock = some k) w4 wr) (fun i _ => tl.length - (intOf i).toNat)
        case atStart =>
          refine ⟨0, [], Hv, Nat.zero_le _, rfl, rfl, by decide, (fun y hy => by cases hy), hM5, ?_, Lies.refl _, ht5.mono (fun k _ h => Or.inl h)⟩
          have h := own_touch (own_below HH2.out hb24) ht5 (fun k hk e => hM4'.not_own (own_below HH2.out hb24) (by decide) k hk e)
          rw [hh0] at h
          exact h
        case round =>
          obtain ⟨j2, hs, Hw, hj2, rfl, Hfp, hn32, Hlen2, hMr, hown, hlies, htr⟩ := hrel
          by_cases hlt2 : j2 < tl.length
          · obtain ⟨s, hh⟩ : ∃ s, tl[j2]? = some s := ⟨tl[j2], List.getElem?_eq_getElem hlt2⟩
            have Hd := Lib.hid (show tl.drop j2 = s :: tl.drop (j2 + 1) by rw [List.drop_eq_getElem_cons hlt2]; rw [List.getElem?_eq_getElem hlt2] at hh; rw [Option.some.inj hh])
            have hsl := HL.out s (List.mem_of_getElem? hh)
            have hsz : (ofL s).size ≤ 1048576 := by rw [size_ofL]; omega
            have hRr := rd_touch HR6.out htr (fun a n c e => by cases e; exact fun h => h.elim Hnb.out Hnh.out)
            obtain ⟨b', o', hA, hc⟩ := hRr.strAt hh
            cases hA
            have HFI := Lib.hid (field_any bm nx (.slice A7 hd.length c7) Hw (.slice none 0 0) _ _ x.left x.many hs (ofL s) wr hMr hown hn32 hsz (hMr.not_own hown (by decide)))
            rw [toL_ofL] at HFI
            clear hh hRr
            by_cases hf : fSt hs.length s = 0
            · have Hf := Lib.hid hf
              have hf1 : ((fSt hs.length s : Int) != 0) = false := by simp [hf]
              rw [hf] at HFI
              have hn33 := fSt_len hf
              clear hf hf1
              go_wp2_with (go_at_call 76; refine HFI.out.mono ?_; rintro e w6 ⟨rfl, ht6, hok⟩; obtain ⟨Hv6, hM6, hown6, hl6⟩ := hok rfl; clear hok)
              go_roundw
              case rel =>
                refine ⟨j2 + 1, hs ++ [fOf s], Hv6, by omega, by go_num, by show _ = _; rw [Hfp.out, Hd.out, fieldsP_ok Hf.out], by simp; omega, ?_, hM6, hown6, ?_, touch_new htr ht6 (fun j hj h => h.elim Or.inl fun h => (hlies j h).elim Or.inr fun h => by omega)⟩
                · intro y hy
                  rcases List.mem_append.1 hy with h | h
                  · exact Hlen2.out y h
                  · simp at h; subst h; have := fOf_len s; omega
                · intro k hk
                  rcases hl6 k hk with h | h
                  · exact hlies k h
                  · exact .inr (Nat.le_trans htr.size h)
              case measure => simp [intOf]; omega
            · have Hst2 := Lib.hid (show st = fSt hs.length s by rw [Hh.out, Hfp.out, Hd.out, fieldsP_bad hf, if_pos hf])
              have hf1 : ((fSt hs.length s : Int) != 0) = true := by simp; omega
              have hge : 2 ≤ fSt hs.length s := by rcases fSt_ge hs.length s with h | h; exact absurd h hf; omega
              clear hf
              go_wp2_with (go_at_call 76; refine HFI.out.mono ?_; rintro e w6 ⟨rfl, ht6, hok⟩; clear hok)
              go_ret
              have htt : Touch F w w6 := touch_new (HT2.out.next hb24) (touch_new htr ht6 (fun j hj h => h.elim Or.inl fun h => (hlies j h).elim Or.inr fun h => by omega)) (fun j hj h => h.elim (fun h => h ▸ HF.out.1) (fun h => HH.out.2 j h))
              exact ⟨ret_int (by rw [Hst2.out]), by rw [Hst2.out]; exact stepOut_bad htt hge⟩
          · have hje : j2 = tl.length := by omega
            have hfe : fieldsP [] tl = (0, hs) := by rw [Hfp.out, hje, List.drop_length]; rfl
            have Hst2 := Lib.hid (show st = measL hs by rw [Hh.out, hfe, if_neg (by simp)])
            have Hx2 := Lib.hid (show x2 = { x with st := if (valuesL hs teL).length = 1 then .sizes else .plain, head := hd, m := openM x0, p := openM (openR x0), h := hs, left := if (valuesL hs teL).length = 1 then x.left else numF (firstL (valuesL hs clL)) } by
              rw [Hx.out]; unfold headX; rw [show hd.length - 4 = k by rw [Hk.out]; omega, Hls.out, List.headD_cons, List.tail_cons, hfe])
            have HME := Lib.hid (measure_any bm nx (.slice A7 hd.length c7) Hw (.slice none 0 0) _ _ x.left x.many hs wr hMr (rd_of_own hown) (by omega) Hlen2.out)
            have Hown := Lib.hid hown
            clear hfe hje
            go_wp2_with (go_at_call 77; refine HME.out.mono ?_; rintro e w7 ⟨rfl, ht7, hmo⟩)
            go_ret
            have hw4 : w.heap.size ≤ w4.heap.size := (HT2.out.next hb24).size
            have htt : Touch F w w7 := (touch_new (HT2.out.next hb24) htr (fun j hj h => h.elim (fun h => h ▸ HF.out.1) (fun h => HH.out.2 j h))).trans (ht7.mono fun j _ h => h ▸ HF.out.1)
            have hAsm : ∀ (nx' : Value) (l' : Nat) (st' : St), MC w7 bm nx' (.slice A7 hd.length c7) (ofL (openM x0)) (ofL (openM (openR x0))) Hw (.slice none 0 0) l' x.many →
                MB w7 bm (Grow F w w7) nx' (.slice A7 hd.length c7) { x with st := st', head := hd, m := openM x0, p := openM (openR x0), h := hs, left := l' } := fun nx' l' st' hM =>
              ⟨⟨.inl HF.out.1, grow_of htt HF.out.2⟩, Hw, .slice none 0 0, hM,
                ⟨own_touch Hown.out ht7 (fun k hk e => hMr.not_own Hown.out (by decide) k hk e), fun k hk => (hlies k hk).elim (fun h => .inl (HH.out.2 k h)) fun h => .inr ⟨Nat.le_trans hw4 h, Nat.lt_of_lt_of_le (Hown.out.lt k hk).2 ht7.size⟩⟩,
                ⟨(by show w7.ownsRow 0 5 1 (.slice none 0 0) x.b.length (bytesV x.b); rw [hb0]; exact World.ownsRow_nil _ _ _ _), fun k hk => by cases hk⟩, fun _ => rfl⟩
            obtain ⟨m0, m1, m2⟩ := hmo
            rw [← Hst2.out] at m0 m1 m2
            refine ⟨ret_int (by rw [Hst2.out]), htt, fun e1 => ?_, fun e0 => ?_⟩
            · rw [Hx2.out]
              by_cases hte : (valuesL hs teL).length = 1
              · rw [if_pos hte, if_pos hte]
                exact ⟨_, _, hAsm _ x.left .sizes (m1 e1 hte), rfl, fun h => by cases h⟩
              · rw [if_neg hte, if_neg hte]
                exact ⟨_, _, hAsm _ _ .plain (m2 e1 hte), rfl, fun h => by cases h⟩
            · rw [Hx2.out]
              obtain ⟨l', hl', hM7⟩ := m0 e0
              rcases hl' with rfl | rfl
              · exact ⟨_, _, _, hAsm _ x.left .plain hM7, rfl, rfl, rfl, rfl⟩
              · exact ⟨_, _, _, hAsm _ _ .plain hM7, rfl, rfl, rfl, rfl⟩
end Go.Proofs.YtgdelmkgdfhdpaaGreatDoor
namespace Go.Proofs.YtgdelmkgdfhdpaaGreatDoor
open Go.RowKit
set_option linter.unusedVariables false
set_option linter.unusedSimpArgs false
set_option maxRecDepth 100000

def stepSt (x : Mc) (c : UInt8) : Nat := match x.st with
  | .heads => headsSt x c
  | .sizes => sizesSt x c
  | .plain => plainSt x
  | .chunk => 1
  | .endS => if c = 10 then sizedSt x else 400
  | .lineC => if c = 13 then 1 else 400
  | .endC => if c = 10 then 1 else 400
  | .lineE => if c = 13 then 1 else 400
  | .endE => if c = 10 then 0 else 400
def stepX (x : Mc) (c : UInt8) : Mc := match x.st with
  | .heads => headsStep x c
  | .sizes => sizesStep x c
  | .plain => plainStep x c
  | .chunk => chunkStep x c
  | .endS => sized x
  | .lineC => { x with st := .endC }
  | .endC => { x with st := .sizes }
  | .lineE => { x with st := .endE }
  | .endE => x
/-- Its bounds. -/
def Fits (x : Mc) : Prop :=
  (x.st = .heads → x.head.length ≤ 8195 ∧ x.left = 0 ∧ x.many = 0) ∧ x.b.length ≤ 65536 ∧ x.left ≤ 1099511627776 ∧ x.many ≤ 8 ∧
    ((x.st = .plain ∨ x.st = .chunk) → 1 ≤ x.left ∧ x.left ≤ 1048576)
/-- A function value that takes a byte as the machine's next state. -/
def Takes (bm : Nat) (c : UInt8) (w : World) (nx : Value) (Q : Ending → World → Prop) : Prop :=
  (∃ f, nx = .func (.func f) #[] #[] ∧ (∀ args w, (callFunc f args).run Tryz.prog w = .ok (.enter f args) w) ∧ Calls Tryz.prog f #[.pointer (some ⟨bm, 0, none⟩), .int .u8 c.toNat] w Q) ∨
  (∃ f b, nx = .func (.func f) #[] #[.pointer (some ⟨b, 0, none⟩)] ∧ (∀ args w, (callFunc f args).run Tryz.prog w = .ok (.enter f args) w) ∧ Calls Tryz.prog f #[.pointer (some ⟨bm, 0, none⟩), .int .u8 c.toNat, .pointer (some ⟨b, 0, none⟩)] w Q)
theorem next_any (bm : Nat) (F : Nat → Prop) (x : Mc) (c : UInt8) (w : World) (hI : MI w bm F x) (hx : Fits x) (hg : Glob w) (hgF : ¬ F 0) :
    ∃ nx, w.cell? ⟨bm, 0, none⟩ = some nx ∧ Takes bm c w nx fun e w' => e = .returned (.int .i64 (stepSt x c)) ∧ StepOut w bm F (stepSt x c) (stepX x c) w' := by
  have hI' := hI
  obtain ⟨nx, hv, hB, hN, hhd⟩ := hI
  have hB' := hB
  obtain ⟨hF, Hv, Bv, hM, _⟩ := hB
  obtain ⟨f1, f2, f3, f4, f5⟩ := hx
  refine ⟨nx, hM.c0, ?_⟩
  unfold stepSt stepX
  cases hst : x.st
  all_goals (rw [hst] at hN)
  case heads => exact .inl ⟨_, hN, fun _ _ => by rfl, heads_any bm F x c w hI' hst (f1 hst).1 hg hgF⟩
  case sizes => exact .inl ⟨_, hN, fun _ _ => by rfl, sizes_any bm F x c w hI' hst f3 f4⟩
  case plain => exact .inl ⟨_, hN, fun _ _ => by rfl, plain_any bm F x c w hI' hst (f5 (.inl hst)).1 (f5 (.inl hst)).2 (by omega)⟩
  case chunk => exact .inl ⟨_, hN, fun _ _ => by rfl, chunk_any bm F x c w hI' hst (f5 (.inr hst)).1 (f5 (.inr hst)).2 (by omega)⟩
  case endS =>
    obtain ⟨b, h1, h2, h3⟩ := hN
    exact .inr ⟨_, b, h1, fun _ _ => by rfl, end1_any _ _ _ bm b F c w (fun _ _ => by rfl) (sizes1_any bm F nx hv x w hB' f3 (by omega)) h3⟩
  case lineC =>
    obtain ⟨b, h1, h2, h3⟩ := hN
    exact .inr ⟨_, b, h1, fun _ _ => by rfl, line1_any _ .endC (fun _ _ _ => rfl) (fun h => by cases h) bm b F nx hv x c w hB' h3⟩
  case endC =>
    obtain ⟨b, h1, h2, h3⟩ := hN
    exact .inr ⟨_, b, h1, fun _ _ => by rfl, end1_any _ _ _ bm b F c w (fun _ _ => by rfl) (chunk1_any bm F nx hv x w hB') h3⟩
  case lineE =>
    obtain ⟨b, h1, h2, h3⟩ := hN
    exact .inr ⟨_, b, h1, fun _ _ => by rfl, line1_any _ .endE (fun _ _ _ => rfl) (fun h => by cases h) bm b F nx hv x c w hB' h3⟩
  case endE =>
    obtain ⟨b, h1, h2, h3⟩ := hN
    exact .inr ⟨_, b, h1, fun _ _ => by rfl, end1_any _ _ _ bm b F c w (fun _ _ => by rfl) (stop_any bm F nx hv x w hB') h3⟩
end Go.Proofs.YtgdelmkgdfhdpaaGreatDoor
namespace Go.Proofs.YtgdelmkgdfhdpaaGreatDoor
open Go.RowKit
set_option linter.unusedVariables false
set_option linter.unusedSimpArgs false
set_option maxRecDepth 100000

/-- The bounds that the states keep among themselves. -/
def Bound (x : Mc) : Prop := match x.st with
  | .heads => x.head.length ≤ 8195 ∧ x.b = [] ∧ x.left = 0 ∧ x.many = 0
  | .plain => 1 ≤ x.left ∧ x.b.length + x.left ≤ 32768 ∧ x.many = 0
  | .sizes => x.b.length ≤ 32768 ∧ x.many ≤ 8 ∧ x.left < 16 ^ x.many
  | .endS => x.b.length ≤ 32768 ∧ x.many ≤ 8 ∧ x.left < 16 ^ 8
  | .chunk => 1 ≤ x.left ∧ x.b.length + x.left ≤ 32768 ∧ x.many = 0
  | .lineC => x.b.length ≤ 32768 ∧ x.left = 0 ∧ x.many = 0
  | .endC => x.b.length ≤ 32768 ∧ x.left = 0 ∧ x.many = 0
  | .lineE => x.b.length ≤ 32768 ∧ x.left = 0 ∧ x.many = 0
  | .endE => x.b.length ≤ 32768 ∧ x.left = 0 ∧ x.many = 0
theorem bound_fits {x : Mc} (h : Bound x) : Fits x := by
  have p8 : ∀ n, n ≤ 8 → 16 ^ n ≤ 4294967296 := fun n hn => Nat.le_trans (Nat.pow_le_pow_right (by decide) hn) (by decide)
  unfold Bound at h
  unfold Fits
  cases hs : x.st <;> rw [hs] at h <;> simp only at h
  case heads => obtain ⟨h1, h2, h3, h4⟩ := h; rw [h2, h3, h4]; exact ⟨fun _ => ⟨h1, rfl, rfl⟩, by decide, by decide, by decide, fun h => by rcases h with h | h <;> cases h⟩
  case sizes => have := p8 _ h.2.1; exact ⟨fun h => by (cases h), by omega, by omega, h.2.1, fun h => by rcases h with h | h <;> cases h⟩
  case endS => exact ⟨fun h => by (cases h), by omega, by omega, h.2.1, fun h => by rcases h with h | h <;> cases h⟩
  case plain => exact ⟨fun h => by (cases h), by omega, by omega, by omega, fun _ => ⟨by omega, by omega⟩⟩
  case chunk => exact ⟨fun h => by (cases h), by omega, by omega, by omega, fun _ => ⟨by omega, by omega⟩⟩
  all_goals exact ⟨fun h => by (cases h), by omega, by omega, by omega, fun h => by rcases h with h | h <;> cases h⟩
theorem measF_one {C H S : Nat} {x y z : B} (h : measF C H S x y z = 1) : C = 1 ∨ (¬ C = 1 ∧ 1 ≤ numF z ∧ numF z ≤ 32768) := by
  unfold measF at h
  repeat' split at h
  all_goals first | (exfalso; omega) | (left; assumption) | skip
  right
  refine ⟨by assumption, by omega, by omega⟩
theorem fieldsP_ge : ∀ (l : List B) (hs : List (B × B)), (fieldsP hs l).1 = 0 ∨ 400 ≤ (fieldsP hs l).1
  | [], hs => .inl rfl
  | s :: l, hs => by
    unfold fieldsP
    split
    · exact fieldsP_ge l _
    · rename_i h; rcases fSt_ge hs.length s with h2 | h2; exact absurd h2 h; exact .inr h2
theorem bound_step {x : Mc} {c : UInt8} (h : Bound x) (h1 : stepSt x c = 1) : Bound (stepX x c) := by
  unfold Bound at h
  unfold stepSt at h1
  unfold stepX
  cases hs : x.st <;> rw [hs] at h h1 <;> simp only at h h1 ⊢
  case plain =>
    unfold plainSt at h1
    split at h1
    · omega
    · simp only [Bound, plainStep, List.length_append, List.length_singleton]; omega
  case chunk =>
    unfold chunkStep
    by_cases hl : x.left = 1
    · rw [if_pos hl]; simp only [Bound, plainStep, List.length_append, List.length_singleton]; omega
    · rw [if_neg hl]; simp only [Bound, plainStep, List.length_append, List.length_singleton]; omega
  case lineC => simp only [Bound]; exact h
  case lineE => simp only [Bound]; exact h
  case endC => simp only [Bound]; exact ⟨h.1, by omega, by rw [h.2.1, h.2.2]; decide⟩
  case endE => split at h1 <;> omega
  case endS =>
    split at h1
    · unfold sizedSt at h1
      split at h1
      · omega
      · unfold sized
        by_cases hl : 0 < x.left
        · rw [if_pos hl]; simp only [Bound]; exact ⟨hl, by omega, trivial⟩
        · rw [if_neg hl]; simp only [Bound]; exact ⟨h.1, by omega, trivial⟩
    · omega
  case sizes =>
    obtain ⟨h2, h3, h4⟩ := h
    unfold sizesStep
    unfold sizesSt at h1
    by_cases hx : hexN c < 16
    · rw [if_pos hx]
      split at h1
      · rename_i hh
        simp only [Bound]
        exact ⟨h2, by omega, by rw [Nat.pow_succ]; omega⟩
      · split at h1
        · omega
        · rename_i hh; exact absurd (Or.inl hx) hh
    · rw [if_neg hx]
      simp only [Bound]
      exact ⟨h2, h3, Nat.lt_of_lt_of_le h4 (Nat.pow_le_pow_right (by decide) h3)⟩
  case heads =>
    obtain ⟨h2, h3, h4, h5⟩ := h
    unfold headsSt at h1
    unfold headsStep
    by_cases hsuf : crL.isSuffixOf (x.head ++ [c]) = true
    · rw [if_pos hsuf] at h1 ⊢
      generalize x.head ++ [c] = hd at *
      unfold headSt at h1
      unfold headX
      split at h1
      · omega
      split at h1
      · rename_i hh _; have := openL_ge ((cutL (hd.take (hd.length - 4))).headD []); omega
      split at h1
      · have := fieldsP_ge (cutL (hd.take (hd.length - 4))).tail []; omega
      · unfold measL at h1
        rcases measF_one h1 with hC | ⟨hC, hn⟩
        · rw [if_pos hC, if_pos hC]; simp only [Bound]; rw [h3, h4, h5]; exact ⟨by decide, by decide, by decide⟩
        · rw [if_neg hC, if_neg hC]; simp only [Bound]; rw [h3]; exact ⟨hn.1, by simpa using hn.2, h5⟩
    · rw [if_neg hsuf] at h1 ⊢
      split at h1
      · omega
      · rename_i hl; simp only [Bound, hs]; exact ⟨by omega, h3, h4, h5⟩
end Go.Proofs.YtgdelmkgdfhdpaaGreatDoor
namespace Go.Proofs.YtgdelmkgdfhdpaaGreatDoor
open Go.RowKit
set_option linter.unusedVariables false
set_option linter.unusedSimpArgs false
set_option maxRecDepth 100000

/-- How many bytes it takes, the status, and how it stands then. -/
def runM (x : Mc) : B → Nat × Nat × Mc
  | [] => (0, 1, x)
  | c :: l => if stepSt x c = 1 then ((runM (stepX x c) l).1 + 1, (runM (stepX x c) l).2) else (1, stepSt x c, stepX x c)
def RunRel (x : Mc) (l : B) (k : Nat) (y : Mc) : Prop := runM x l = ((runM y (l.drop k)).1 + k, (runM y (l.drop k)).2)
theorem runRel_go {x y : Mc} {l : B} {k : Nat} {c : UInt8} (h : RunRel x l k y) (hd : l.drop k = c :: l.drop (k + 1)) (h1 : stepSt y c = 1) : RunRel x l (k + 1) (stepX y c) := by
  unfold RunRel at *; rw [h, hd, runM, if_pos h1]; simp only [Prod.mk.injEq, and_true]; omega
theorem runRel_stop {x y : Mc} {l : B} {k : Nat} {c : UInt8} (h : RunRel x l k y) (hd : l.drop k = c :: l.drop (k + 1)) (h1 : ¬ stepSt y c = 1) : runM x l = (k + 1, stepSt y c, stepX y c) := by
  unfold RunRel at *; rw [h, hd, runM, if_neg h1]; simp only [Prod.mk.injEq, and_true]; omega
theorem runRel_end {x y : Mc} {l : B} (h : RunRel x l l.length y) : runM x l = (l.length, 1, y) := by
  unfold RunRel at *; rw [h, List.drop_length, runM]; simp

set_option maxHeartbeats 4000000 in
theorem run_any (bm : Nat) (F : Nat → Prop) (x : Mc) (l : B) (v : Value) (w : World) (hI : MI w bm F x) (hx : Bound x) (hg : Glob w) (hgF : ¬ F 0) (hR : Rd w 1 v l.length (bytesV l)) (hl : l.length ≤ 140737488355328)
    (hv : l ≠ [] → ∀ a n c, v = .slice (some a) n c → ¬ F a.block) :
    Calls Tryz.prog 37 #[.pointer (some ⟨bm, 0, none⟩), v] w fun e w' => e = .returned (.tuple #[.int .i64 (runM x l).1, .int .i64 (runM x l).2.1]) ∧ StepOut w bm F (runM x l).2.1 (runM x l).2.2 w' := by
  obtain ⟨A, cp, rfl⟩ := hR.shape
  have HF := Lib.hid (show F bm ∧ ∀ k, F k → k < w.heap.size from by obtain ⟨nx, hv, hB, _⟩ := hI; exact hB.1)
  have HR := Lib.hid hR
  have HV := Lib.hid hv
  have HI := Lib.hid hI
  clear hR hv hI
  go_enter Tryz.func37, Tryz.ntmps37
  go_wp2
  go_loopw [11] (fun i wr => ∃ (k : Nat) (y : Mc), k ≤ l.length ∧ i = .int .i64 k ∧ Hid (RunRel x l k y) ∧ Hid (Bound y) ∧ Hid (MI wr bm (Grow F w wr) y) ∧ Hid (Touch F w wr)) (fun i _ => l.length - (intOf i).toNat)
  case atStart => exact ⟨0, x, Nat.zero_le _, rfl, (by show RunRel x l 0 x; unfold RunRel; simp), hx, HI.out.mono (fun k h => .inl h) (fun k h => h.elim (HF.out.2 k) (·.2)), Touch.refl _ _⟩
  case round =>
    obtain ⟨k, y, hk, rfl, Hr, Hb, Hy, Ht⟩ := hrel
    by_cases hlt : k < l.length
    · obtain ⟨c, hh⟩ : ∃ c, l[k]? = some c := ⟨l[k], List.getElem?_eq_getElem hlt⟩
      have Hd := Lib.hid (show l.drop k = c :: l.drop (k + 1) by rw [List.drop_eq_getElem_cons hlt]; rw [List.getElem?_eq_getElem hlt] at hh; rw [Option.some.inj hh])
      obtain ⟨b, o, rfl, hc⟩ := (rd_touch HR.out Ht.out (HV.out (fun e => by rw [e] at hlt; exact absurd hlt (Nat.not_lt_zero _)))).byteAt hh
      clear hh
      obtain ⟨nx, hnx, htk⟩ := next_any bm (Grow F w wr) y c wr Hy.out (bound_fits Hb.out) (hg.touch Ht.out hgF) (fun h => h.elim hgF fun h => by have := hg; obtain ⟨m, hm⟩ := this; have := lt_of_cell hm; omega)
      by_cases h1 : stepSt y c = 1
      · have H1 := Lib.hid h1
        have h2 : ((stepSt y c : Int) != 1) = false := by simp [h1]
        rcases htk with ⟨f, rfl, hrun, hcall⟩ | ⟨f, bx, rfl, hrun, hcall⟩
        all_goals
          have HC := Lib.hid hcall
          clear hcall h1
          go_wp2_with fail
          refine HC.out.mono ?_
          rintro e w6 ⟨rfl, hso⟩
          have HS := Lib.hid hso
          clear hso
          go_wp2_with fail
          go_roundw
          case rel =>
            have hso := StepOut.after HF.out.2 Ht.out HS.out
            exact ⟨k + 1, stepX y c, by omega, by go_num, runRel_go Hr.out Hd.out H1.out, bound_step Hb.out H1.out, hso.2.1 H1.out, hso.1⟩
          case measure => simp [intOf]; omega
      · have H1 := Lib.hid h1
        have h2 : ((stepSt y c : Int) != 1) = true := by simp; omega
        have Hz := Lib.hid (runRel_stop Hr.out Hd.out h1)
        rcases htk with ⟨f, rfl, hrun, hcall⟩ | ⟨f, bx, rfl, hrun, hcall⟩
        all_goals
          have HC := Lib.hid hcall
          clear hcall h1
          go_wp2_with fail
          refine HC.out.mono ?_
          rintro e w6 ⟨rfl, hso⟩
          have HS := Lib.hid hso
          clear hso
          go_wp2_with fail
          refine bodyPost_ret (results_tmp2 rfl _ _ _) rfl ?_
          rw [Hz.out]
          exact ⟨ret_ii (by omega) rfl, StepOut.after HF.out.2 Ht.out HS.out⟩
    · have hke : k = l.length := by omega
      have Hz := Lib.hid (runRel_end (by rw [← hke]; exact Hr.out))
      clear hke
      go_wp2_with fail
      refine bodyPost_ret (results_tmp2 rfl _ _ _) rfl ?_
      rw [Hz.out]
      exact ⟨ret_ii rfl rfl, Ht.out, fun _ => Hy.out, fun h => by cases h⟩
end Go.Proofs.YtgdelmkgdfhdpaaGreatDoor
namespace Go.Proofs.YtgdelmkgdfhdpaaGreatDoor
open Go.RowKit
set_option linter.unusedVariables false
set_option linter.unusedSimpArgs false
set_option maxRecDepth 100000

def mc0 : Mc := ⟨.heads, [], [], [], [], [], 0, 0⟩
theorem bound0 : Bound mc0 := ⟨by decide, rfl, rfl, rfl⟩
theorem fresh_any (w : World) :
    Calls Tryz.prog 36 #[] w fun e w' => e = .returned (.pointer (some ⟨w.heap.size, 0, none⟩)) ∧ Below w.heap.size w w' ∧ w'.heap.size = w.heap.size + 1 ∧ MI w' w.heap.size (fun k => k = w.heap.size) mc0 := by
  go_enter Tryz.func36, Tryz.ntmps36
  go_wp2
  go_ret
  refine ⟨rfl, (Below.refl _ _).alloc (Nat.le_refl _) _, by simp, .func (.func 57) #[] #[], .slice none 0 0, ⟨⟨rfl, fun k hk => by subst hk; simp⟩, .slice none 0 0, .slice none 0 0, heap_alloc_new w _, ⟨World.ownsRow_nil _ _ _ _, fun k hk => by cases hk⟩, ⟨World.ownsRow_nil _ _ _ _, fun k hk => by cases hk⟩, fun _ => rfl⟩, rfl, fun _ => ⟨⟨World.ownsRow_nil _ _ _ _, fun k hk => by cases hk⟩, rfl, rfl⟩⟩
end Go.Proofs.YtgdelmkgdfhdpaaGreatDoor
