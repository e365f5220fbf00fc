/- A chunk's number, byte by byte (httpd). Conditions: the number is short. -/
import Derived.Test.YtmhgnaemafohfaaGreatDoorMachE
namespace Go.Proofs.YtmhgnaemafohfaaGreatDoor
open Go.RowKit
set_option linter.unusedVariables false
set_option linter.unusedSimpArgs false
set_option maxRecDepth 100000

theorem hexA_all : ∀ n, n < 256 → isB 1 (UInt8.ofNat n) = true → (48 : Int) ≤ (UInt8.ofNat n).toNat ∧ ((UInt8.ofNat n).toNat : Int) ≤ 57 ∧ ((UInt8.ofNat n).toNat : Int) - 48 = hexN (UInt8.ofNat n) ∧ hexN (UInt8.ofNat n) < 16 := by decide +kernel
theorem hexB_all : ∀ n, n < 256 → isB 1 (UInt8.ofNat n) = false → (97 ≤ bits .or .u8 ((UInt8.ofNat n).toNat : Int) 32 ∧ bits .or .u8 ((UInt8.ofNat n).toNat : Int) 32 ≤ 102 ∧ bits .or .u8 ((UInt8.ofNat n).toNat : Int) 32 - 97 + 10 = hexN (UInt8.ofNat n) ∧ hexN (UInt8.ofNat n) < 16) ∨
    (bits .or .u8 ((UInt8.ofNat n).toNat : Int) 32 < 97 ∧ 16 ≤ hexN (UInt8.ofNat n)) ∨ (97 ≤ bits .or .u8 ((UInt8.ofNat n).toNat : Int) 32 ∧ 102 < bits .or .u8 ((UInt8.ofNat n).toNat : Int) 32 ∧ 16 ≤ hexN (UInt8.ofNat n)) := by decide +kernel
theorem hexA {c : UInt8} (h : isB 1 c = true) : (48 : Int) ≤ c.toNat ∧ (c.toNat : Int) ≤ 57 ∧ (c.toNat : Int) - 48 = hexN c ∧ hexN c < 16 := by
  have := hexA_all c.toNat c.toNat_lt; rw [UInt8.ofNat_toNat] at this; exact this h
theorem hexB {c : UInt8} (h : isB 1 c = false) : (97 ≤ bits .or .u8 (c.toNat : Int) 32 ∧ bits .or .u8 (c.toNat : Int) 32 ≤ 102 ∧ bits .or .u8 (c.toNat : Int) 32 - 97 + 10 = hexN c ∧ hexN c < 16) ∨
    (bits .or .u8 (c.toNat : Int) 32 < 97 ∧ 16 ≤ hexN c) ∨ (97 ≤ bits .or .u8 (c.toNat : Int) 32 ∧ 102 < bits .or .u8 (c.toNat : Int) 32 ∧ 16 ≤ hexN c) := by
  have := hexB_all c.toNat c.toNat_lt; rw [UInt8.ofNat_toNat] at this; exact this h

def sizesSt (x : Mc) (c : UInt8) : Nat := if hexN c < 16 ∧ x.many < 8 then 1 else if hexN c < 16 ∨ x.many = 0 ∨ c ≠ 13 then 400 else 1
def sizesStep (x : Mc) (c : UInt8) : Mc := if hexN c < 16 then { x with st := .sizes, left := 16 * x.left + hexN c, many := x.many + 1 } else { x with st := .endS }
set_option maxHeartbeats 4000000 in
theorem sizes_any (bm : Nat) (F : Nat → Prop) (x : Mc) (c : UInt8) (w : World) (hI : MI w bm F x) (hst : x.st = .sizes) (hl : x.left ≤ 1099511627776) (hm : x.many ≤ 8) :
    Calls Tryz.prog 113 #[.pointer (some ⟨bm, 0, none⟩), .int .u8 c.toNat] w fun e w' => e = .returned (.int .i64 (sizesSt x c)) ∧ StepOut w bm F (sizesSt x c) (sizesStep x c) w' := by
  obtain ⟨nx, hv, ⟨hF, Hv, Bv, hM, hH, hB, hz⟩, hN, _⟩ := hI
  have HZ := Lib.hid hz
  clear hz
  have HF := Lib.hid hF
  have HH := Lib.hid hH
  have HB := Lib.hid hB
  clear hF hH hB
  have k0 := hM.c0
  have f0 := hM.fz 0
  have k6 := hM.c6
  have f6 := hM.fz 6
  have k7 := hM.c7
  have f7 := hM.fz 7
  have Hs : Hid (sizesSt x c = if hexN c < 16 ∧ x.many < 8 then 1 else if hexN c < 16 ∨ x.many = 0 ∨ c ≠ 13 then 400 else 1) := rfl
  have Hx : Hid (sizesStep x c = if hexN c < 16 then { x with st := .sizes, left := 16 * x.left + hexN c, many := x.many + 1 } else { x with st := .endS }) := rfl
  have hMm := (hM.set6 ((16 * x.left + hexN c : Nat) : Int)).set7 ((x.many + 1 : Nat) : Int)
  have htm := ((Touch.refl (fun j => j = bm) w).setCell (p := ⟨bm, 6, none⟩) rfl (.int .i64 ((16 * x.left + hexN c : Nat) : Int))).setCell (p := ⟨bm, 7, none⟩) rfl (.int .i64 ((x.many + 1 : Nat) : Int))
  have hMB := Lib.hid (mb_set HF.out hM HH.out HB.out HZ.out htm (16 * x.left + hexN c) (x.many + 1) hMm .sizes)
  have HT := Lib.hid (htm.mono (G := F) fun j _ h => h ▸ HF.out.1)
  clear hMm htm
  have EL := Lib.hid (show (16 * (x.left : Int) + (hexN c : Int)) = ((16 * x.left + hexN c : Nat) : Int) by omega)
  have EM := Lib.hid (show ((x.many : Int) + 1) = ((x.many + 1 : Nat) : Int) by omega)
  generalize sizesSt x c = st at Hs ⊢
  generalize sizesStep x c = x2 at Hx ⊢
  cases hd : isB 1 c
  · have HD := Lib.hid hd
    rcases hexB hd with ⟨h1, h2, h3, h4⟩ | hno
    · clear hd
      rw [if_pos h4] at Hx
      have E3 := Lib.hid h3
      by_cases e1 : x.many < 8
      · rw [if_pos ⟨h4, e1⟩] at Hs
        clear h3 h4
        go_enter Tryz.func113, Tryz.ntmps113; go_wp2_with (go_at_call 111; refine (digitB c _).mono ?_; rintro e w4 ⟨rfl, rfl⟩; rw [HD.out])
        (go_ret; rw [E3.out, EL.out, EM.out]; exact ⟨ret_int (by rw [Hs.out]; rfl), HT.out, fun _ => ⟨nx, hv, by rw [Hx.out]; exact hMB.out, by rw [hst] at hN; rw [Hx.out]; exact hN, fun h => by rw [Hx.out] at h; cases h⟩, fun h => by rw [Hs.out] at h; cases h⟩)
      · rw [if_neg (fun h => e1 h.2), if_pos (.inl h4)] at Hs
        clear h3 h4
        go_enter Tryz.func113, Tryz.ntmps113; go_wp2_with (go_at_call 111; refine (digitB c _).mono ?_; rintro e w4 ⟨rfl, rfl⟩; rw [HD.out])
        (go_ret; exact ⟨ret_int (by rw [Hs.out]; rfl), by rw [Hs.out]; exact stepOut_bad (.refl _ _) (by decide)⟩)
    · have h16 : ¬ hexN c < 16 := by omega
      rw [if_neg h16] at Hx
      rw [if_neg (fun h => h16 h.1)] at Hs
      clear hd hMB HT EL EM
      by_cases e1 : x.many = 0
      · rw [if_pos (.inr (.inl e1))] at Hs
        have e2 : ((x.many : Int) == 0) = true := by simp; omega
        clear e1
        rcases hno with ⟨h1, h2⟩ | ⟨h1, h2, h3⟩
        all_goals
          go_enter Tryz.func113, Tryz.ntmps113; go_wp2_with (go_at_call 111; refine (digitB c _).mono ?_; rintro e w4 ⟨rfl, rfl⟩; rw [HD.out])
          (go_ret; exact ⟨ret_int (by rw [Hs.out]; rfl), by rw [Hs.out]; exact stepOut_bad (.refl _ _) (by decide)⟩)
      have e2 : ((x.many : Int) == 0) = false := by simp; omega
      by_cases e3 : c = 13
      case neg =>
        rw [if_pos (.inr (.inr e3))] at Hs
        have e4 : ((c.toNat : Int) != 13) = true := byte_ne (d := 13) e3
        clear e1 e3
        rcases hno with ⟨h1, h2⟩ | ⟨h1, h2, h3⟩
        all_goals
          go_enter Tryz.func113, Tryz.ntmps113; go_wp2_with (go_at_call 111; refine (digitB c _).mono ?_; rintro e w4 ⟨rfl, rfl⟩; rw [HD.out])
          (go_ret; exact ⟨ret_int (by rw [Hs.out]; rfl), by rw [Hs.out]; exact stepOut_bad (.refl _ _) (by decide)⟩)
      rw [if_neg (fun h => by rcases h with h | h | h; exact h16 h; exact e1 h; exact h e3)] at Hs
      have e4 : ((c.toNat : Int) != 13) = false := by rw [e3]; rfl
      clear e1 e3
      have hd3 := (Below.refl w.heap.size w).alloc (Nat.le_refl _) (.cells #[.func (.func 132) #[] #[]] 163)
      have hM3 := hM.below hd3
      have k0' := hM3.c0
      have f0' := hM3.fz 0
      have ht3 := ((Touch.refl (fun j => j = bm) w).next hd3).setCell (p := ⟨bm, 0, none⟩) rfl (.func (.func 154) #[] #[.pointer (some ⟨w.heap.size, 0, none⟩)])
      have hMB := Lib.hid (mb_set HF.out hM HH.out HB.out HZ.out ht3 x.left x.many (hM3.set0 _) .endS)
      have HT := Lib.hid (ht3.mono (G := F) fun j _ h => h ▸ HF.out.1)
      have HC := Lib.hid (clo_new (bm := bm) (fn := 154) (g := 132) (.func (.func 154) #[] #[.pointer (some ⟨w.heap.size, 0, none⟩)]) HF.out.2 (Nat.le_refl _) hM.lt)
      clear ht3 hd3
      rcases hno with ⟨h1, h2⟩ | ⟨h1, h2, h3⟩
      all_goals
        go_enter Tryz.func113, Tryz.ntmps113
        go_wp2_with (first | (go_at_call 111; refine (digitB c _).mono ?_; rintro e w4 ⟨rfl, rfl⟩; rw [HD.out]) | (go_at_call 131; refine (end_clo 132 w).mono ?_; rintro e w3 ⟨rfl, rfl⟩))
        go_ret
        exact ⟨ret_int (by rw [Hs.out]; rfl), HT.out, fun _ => ⟨_, hv, by rw [Hx.out]; exact hMB.out, by rw [Hx.out]; exact HC.out, fun h => by rw [Hx.out] at h; cases h⟩, fun h => by rw [Hs.out] at h; cases h⟩
  · have HD := Lib.hid hd
    obtain ⟨h1, h2, h3, h4⟩ := hexA hd
    clear hd
    rw [if_pos h4] at Hx
    have E3 := Lib.hid h3
    by_cases e1 : x.many < 8
    · rw [if_pos ⟨h4, e1⟩] at Hs
      clear h3 h4
      go_enter Tryz.func113, Tryz.ntmps113; go_wp2_with (go_at_call 111; refine (digitB c _).mono ?_; rintro e w4 ⟨rfl, rfl⟩; rw [HD.out])
      (go_ret; rw [E3.out, EL.out, EM.out]; exact ⟨ret_int (by rw [Hs.out]; rfl), HT.out, fun _ => ⟨nx, hv, by rw [Hx.out]; exact hMB.out, by rw [hst] at hN; rw [Hx.out]; exact hN, fun h => by rw [Hx.out] at h; cases h⟩, fun h => by rw [Hs.out] at h; cases h⟩)
    · rw [if_neg (fun h => e1 h.2), if_pos (.inl h4)] at Hs
      clear h3 h4
      go_enter Tryz.func113, Tryz.ntmps113; go_wp2_with (go_at_call 111; refine (digitB c _).mono ?_; rintro e w4 ⟨rfl, rfl⟩; rw [HD.out])
      (go_ret; exact ⟨ret_int (by rw [Hs.out]; rfl), by rw [Hs.out]; exact stepOut_bad (.refl _ _) (by decide)⟩)
end Go.Proofs.YtmhgnaemafohfaaGreatDoor
