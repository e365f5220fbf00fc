/- strconv.FormatInt at base 16 of a small number. Conditions: the table's cell. -/
import Derived.Test.YtmhgnaemafohfaaDoorLawF
import Derived.Laws.BitsLemmas
import Derived.Conc.WgArith
import Derived.Outline
namespace Go.Proofs.YtmhgnaemafohfaaDoor
open Go.RowKit
set_option linter.unusedVariables false
set_option linter.unusedSimpArgs false
set_option maxRecDepth 100000

theorem tz64_any (w : World) (hc : w.cell? ⟨2, 15, none⟩ = some (.int .u8 4)) :
    Calls Tryd.prog 62 #[.int .u64 16] w fun e w' => e = .returned (.int .i64 4) ∧ w' = w := by
  have e : IntKind.u64.wrap (bits BinOp.and .u64 16 (IntKind.u64.wrap (-16)) * 285870213051353865) / 288230376151711744 = 15 := by kernel_rfl
  go_enter Tryd.func62, Tryd.ntmps62
  go_wp2_with fail
  go_ret
  exact ⟨rfl, rfl⟩
theorem tz_any (w : World) (hc : w.cell? ⟨2, 15, none⟩ = some (.int .u8 4)) :
    Calls Tryd.prog 45 #[.int .u64 16] w fun e w' => e = .returned (.int .i64 4) ∧ w' = w := by
  go_enter Tryd.func45, Tryd.ntmps45
  go_wp2_with fail
  refine (tz64_any w hc).mono ?_
  rintro e w' ⟨rfl, rfl⟩
  go_wp2_with fail
  go_ret
  exact ⟨rfl, rfl⟩
theorem pow2_any (w : World) :
    Calls Tryd.prog 44 #[.int .i64 16] w fun e w' => e = .returned (.bool true) ∧ w' = w := by
  go_enter Tryd.func44, Tryd.ntmps44
  go_wp2_with fail
  go_ret
  exact ⟨rfl, rfl⟩
/-- The room for digits: the last ones are laid. -/
def FB (w : World) (b : Nat) (l : B) : Prop := ∃ cs : Array Value, w.heap[b]? = some (.cells cs 84 (0, 0)) ∧ cs.size = 65 ∧ l.length ≤ 65 ∧ ∀ j c, l[j]? = some c → cs[65 - l.length + j]? = some (.int .u8 c.toNat)
theorem FB.at {w : World} {b : Nat} {l : B} (h : FB w b l) {i : Nat} (hi : i < 65) : (∃ u, w.cell? ⟨b, i, none⟩ = some u) ∧ w.frozen? ⟨b, i, none⟩ = false ∧ b < w.heap.size := by
  obtain ⟨cs, h1, h2, _, _⟩ := h
  exact ⟨⟨cs[i], by rw [Lib.cell_of_heap h1]; simp [h2, hi]⟩, Lib.frozen_of_heap h1 i, (Array.getElem?_eq_some_iff.1 h1).1⟩
theorem FB.set {w : World} {b : Nat} {l : B} (h : FB w b l) (c : UInt8) {i : Nat} (hi : i + 1 + l.length = 65) : FB (w.setCell ⟨b, i, none⟩ (.int .u8 c.toNat)) b (c :: l) := by
  obtain ⟨cs, h1, h2, h3, h4⟩ := h
  refine ⟨_, heap_set_own h1 i _, by simp [Array.set!, h2], by simp; omega, fun j d hj => ?_⟩
  simp only [Array.set!]
  cases j with
  | zero =>
    simp at hj
    subst hj
    rw [show 65 - (c :: l).length + 0 = i by simp; omega, Array.getElem?_setIfInBounds_self_of_lt (by omega)]
  | succ j =>
    have hj' : l[j]? = some d := by simpa using hj
    have hlt := (List.getElem?_eq_some_iff.1 hj').1
    rw [show 65 - (c :: l).length + (j + 1) = 65 - l.length + j by simp; omega, Array.getElem?_setIfInBounds_ne (by omega)]
    exact h4 j d hj'
theorem FB.new (w : World) : FB (w.alloc (.cells Tryd.zeroCells84 84)) w.heap.size [] := ⟨_, heap_alloc_new _ _, by kernel_rfl, by simp, fun j c h => by simp at h⟩
theorem FB.bytes {w : World} {b i : Nat} {l : B} (h : FB w b l) (hi : i + l.length = 65) : ∀ j (hj : j < l.length), w.cell? ((⟨b, i, none⟩ : Addr).add j) = some (.int .u8 (l[j].toNat : Int)) := by
  obtain ⟨cs, h1, h2, h3, h4⟩ := h
  intro j hj
  have := h4 j l[j] (List.getElem?_eq_getElem hj)
  rw [show 65 - l.length = i by omega] at this
  rw [show (⟨b, i, none⟩ : Addr).add j = ⟨b, i + j, none⟩ by simp [Addr.add], Lib.cell_of_heap h1]
  exact this
theorem lit36 : ∀ m, m < 16 → ([48, 49, 50, 51, 52, 53, 54, 55, 56, 57, 97, 98, 99, 100, 101, 102, 103, 104, 105, 106, 107, 108, 109, 110, 111, 112, 113, 114, 115, 116, 117, 118, 119, 120, 121, 122] : B)[m]? = some (hexDig m) := by decide
theorem litB {m : Nat} {dg : UInt8} (hd : ([48, 49, 50, 51, 52, 53, 54, 55, 56, 57, 97, 98, 99, 100, 101, 102, 103, 104, 105, 106, 107, 108, 109, 110, 111, 112, 113, 114, 115, 116, 117, 118, 119, 120, 121, 122] : B)[m]? = some dg)
    (h : m < (⟨#[48, 49, 50, 51, 52, 53, 54, 55, 56, 57, 97, 98, 99, 100, 101, 102, 103, 104, 105, 106, 107, 108, 109, 110, 111, 112, 113, 114, 115, 116, 117, 118, 119, 120, 121, 122]⟩ : ByteArray).size) :
    (⟨#[48, 49, 50, 51, 52, 53, 54, 55, 56, 57, 97, 98, 99, 100, 101, 102, 103, 104, 105, 106, 107, 108, 109, 110, 111, 112, 113, 114, 115, 116, 117, 118, 119, 120, 121, 122]⟩ : ByteArray)[m]'h = dg := by
  have := get_eq _ m h
  rw [toL_eq] at this
  exact Option.some.inj (this.symm.trans hd)
theorem hexD_more {u : Nat} (h : 16 ≤ u) : hexD u = hexD (u / 16) ++ [hexDig (u % 16)] := by rw [hexD, if_neg (by omega)]
theorem hexD_one {u : Nat} (h : u < 16) : hexD u = [hexDig u] := by rw [hexD, if_pos h]

set_option maxHeartbeats 4000000 in
theorem fbits_any (n : Nat) (w : World) (hn : n ≤ 1048575) (hc : w.cell? ⟨2, 15, none⟩ = some (.int .u8 4)) :
    Calls Tryd.prog 33 #[.slice none 0 0, .int .u64 n, .int .i64 16, .bool false, .bool false] w fun e w' => e = .returned (.tuple #[.slice none 0 0, .string (ofL (hexD n))]) ∧ Below w.heap.size w w' := by
  have HC := Lib.hid hc
  clear hc
  go_enter Tryd.func33, Tryd.ntmps33
  go_wp2_with fail
  refine (pow2_any _).mono ?_
  rintro e w' ⟨rfl, rfl⟩
  go_wp2_with fail
  have hb1 := (Below.refl w.heap.size w).alloc (Nat.le_refl _) (.cells Tryd.zeroCells84 84)
  refine (tz_any _ (Below.keeps hb1 HC.out)).mono ?_
  rintro e w' ⟨rfl, rfl⟩
  go_wp2_with fail
  have hF := FB.new w
  go_loopw [1, 13] (fun s1 s13 wr => ∃ (u i : Nat) (l : B), s1 = .int .u64 u ∧ s13 = .int .i64 i ∧ i + l.length = 65 ∧ u * 16 ^ l.length ≤ 1048575 ∧ Hid (u = 0 → l = []) ∧ Hid (hexD n = hexD u ++ l) ∧ Hid (FB wr w.heap.size l) ∧ Hid (Below w.heap.size w wr)) (fun s1 _ _ => (intOf s1).toNat)
  case atStart => exact ⟨n, 65, [], rfl, rfl, rfl, by simpa using hn, (fun _ => rfl : n = 0 → ([] : B) = []), (show _ = _ by simp), hF, hb1⟩
  case round =>
    clear hF hb1
    obtain ⟨u, i, l, rfl, rfl, hi, hu, H0, Hd, HF, Hr⟩ := hrel
    have hl5 : l.length ≤ 5 := by
      by_cases h : u = 0
      · rw [H0.out h]; exact Nat.zero_le _
      · by_cases h6 : l.length ≤ 5
        · exact h6
        · have h1 : 16 ^ 6 ≤ 16 ^ l.length := Nat.pow_le_pow_right (by decide) (by omega)
          have h2 : 16 ^ l.length ≤ u * 16 ^ l.length := Nat.le_mul_of_pos_left _ (by omega)
          have : (16 : Nat) ^ 6 = 16777216 := by decide
          omega
    obtain ⟨i, rfl⟩ : ∃ i', i = i' + 1 := ⟨i - 1, by omega⟩
    have hi64 : i < 65 := by omega
    obtain ⟨⟨old, ho⟩, hz, hlt⟩ := HF.out.at hi64
    have hum : u ≤ 1048575 := Nat.le_trans (Nat.le_mul_of_pos_right _ (Nat.pow_pos (by decide))) hu
    by_cases h16 : 16 ≤ u
    · have HU := Lib.hid hu
      have hm : u % 16 < 16 := Nat.mod_lt _ (by decide)
      have hb : bits BinOp.and .u64 (u : Int) 15 = ((u % 16 : Nat) : Int) := by
        have h := bits_mask .u64 63 (by decide) Go.ConcN.wraps_u64_63 4 (by decide) (u : Int) (by omega) (by omega)
        rw [show ((2 : Int) ^ 4 - 1) = 15 by decide, show ((2 : Int) ^ 4) = 16 by decide] at h
        rw [h]; omega
      have hI := FB.set HF.out (hexDig (u % 16)) hi
      have H16 := hexD_more h16
      have hdg := lit36 (u % 16) hm
      generalize hexDig (u % 16) = dg at *
      have Hdv := Lib.hid (show u / 16 * 16 ≤ u by omega)
      have Hpos := Lib.hid (show u / 16 ≠ 0 by omega)
      generalize u % 16 = m at *
      have HI := Lib.hid hI
      have HH := Lib.hid H16
      clear hI H16 hu HI
      go_wp2_with fail
      go_roundw
      case rel =>
        refine ⟨u / 16, i, _ :: l, congrArg _ (by omega), rfl, by simp; omega, ?_, (fun h => absurd h Hpos.out : u / 16 = 0 → _ = ([] : B)), ?_, FB.set HF.out _ hi, Hr.out.setCell (p := ⟨w.heap.size, i, none⟩) (Nat.le_refl _) _⟩
        · rw [List.length_cons, Nat.pow_succ, Nat.mul_comm (16 ^ l.length) 16, ← Nat.mul_assoc]
          exact Nat.le_trans (Nat.mul_le_mul_right _ Hdv.out) HU.out
        · show _ = _
          rw [litB hdg, Hd.out, HH.out, List.append_assoc]; rfl
      case measure => simp [intOf]; have := Hdv.out; omega
    · have hdg := lit36 u (by omega)
      have H16 := Lib.hid (hexD_one (u := u) (by omega))
      generalize hexDig u = dg at *
      have hu36 : u < (⟨#[48, 49, 50, 51, 52, 53, 54, 55, 56, 57, 97, 98, 99, 100, 101, 102, 103, 104, 105, 106, 107, 108, 109, 110, 111, 112, 113, 114, 115, 116, 117, 118, 119, 120, 121, 122]⟩ : ByteArray).size := by rw [show (⟨#[48, 49, 50, 51, 52, 53, 54, 55, 56, 57, 97, 98, 99, 100, 101, 102, 103, 104, 105, 106, 107, 108, 109, 110, 111, 112, 113, 114, 115, 116, 117, 118, 119, 120, 121, 122]⟩ : ByteArray).size = 36 from rfl]; omega
      have hFB := FB.set HF.out ((⟨#[48, 49, 50, 51, 52, 53, 54, 55, 56, 57, 97, 98, 99, 100, 101, 102, 103, 104, 105, 106, 107, 108, 109, 110, 111, 112, 113, 114, 115, 116, 117, 118, 119, 120, 121, 122]⟩ : ByteArray)[u]'hu36) hi
      have hcv := run_convert_bytes_back (P := Tryd.prog) _ 22 9 5 ⟨w.heap.size, i, none⟩ (65 - i) _ Tryd.underlying22 Tryd.underlying5 Tryd.underlying9 (FB.bytes hFB (by simp; omega))
      rw [show ((⟨#[48, 49, 50, 51, 52, 53, 54, 55, 56, 57, 97, 98, 99, 100, 101, 102, 103, 104, 105, 106, 107, 108, 109, 110, 111, 112, 113, 114, 115, 116, 117, 118, 119, 120, 121, 122]⟩ : ByteArray)[u]'hu36 :: l).length = 65 - i by simp; omega] at hcv
      have hsl := fun wx : World => run_sliceAt_array_l (P := Tryd.prog) wx 84 ⟨w.heap.size, 0, none⟩ (by kernel_rfl) .i64 (i : Int) (by omega) (by rw [show Tryd.prog.arrayLen 84 = 65 by kernel_rfl]; omega)
      rw [show Tryd.prog.arrayLen 84 = 65 by kernel_rfl] at hsl
      clear hFB
      go_wp2_with fail
      go_ret2
      refine ⟨?_, Hr.out.setCell (p := ⟨w.heap.size, i, none⟩) (Nat.le_refl _) _⟩
      rw [Hd.out, H16.out, litB hdg]; rfl
theorem fint_any (n : Nat) (w : World) (hn : n ≤ 1048575) (hc : w.cell? ⟨2, 15, none⟩ = some (.int .u8 4)) :
    Calls Tryd.prog 25 #[.int .i64 n, .int .i64 16] w fun e w' => e = .returned (.string (ofL (hexD n))) ∧ Below w.heap.size w w' := by
  have hneg : decide ((n : Int) < 0) = false := by simp
  have hw : IntKind.u64.wrap (n : Int) = n := Go.ConcN.wraps_u64_63 _ (by omega) (by omega)
  go_enter Tryd.func25, Tryd.ntmps25
  go_wp2_with fail
  refine (fbits_any n w hn hc).mono ?_
  rintro e w' ⟨rfl, hb⟩
  go_wp2_with fail
  go_ret
  exact ⟨rfl, hb⟩
theorem hex16_any (n : Nat) (w : World) (hn : n ≤ 1048575) (hc : w.cell? ⟨2, 15, none⟩ = some (.int .u8 4)) :
    Calls Tryd.prog 14 #[.int .i64 n, .int .i64 16] w fun e w' => e = .returned (.string (ofL (hexD n))) ∧ Below w.heap.size w w' := by
  go_enter Tryd.func14, Tryd.ntmps14
  go_wp2_with fail
  refine (fint_any n w hn hc).mono ?_
  rintro e w' ⟨rfl, hb⟩
  go_wp2_with fail
  go_ret
  exact ⟨rfl, hb⟩
end Go.Proofs.YtmhgnaemafohfaaDoor
