/- A header's value (httpd.Find), a number among numbers (slices.Contains). Conditions: the names are short. -/
import Derived.Test.YtmhgnaemafohfaaDoorMachO
namespace Go.Proofs.YtmhgnaemafohfaaDoor
open Go.RowKit
set_option linter.unusedVariables false
set_option linter.unusedSimpArgs false
set_option maxRecDepth 100000

theorem indexI_any (b o c : Nat) (xs : List Int) (n : Int) (w : World) (hc : ∀ j x, xs[j]? = some x → w.cell? ⟨b, o + j, none⟩ = some (.int .i64 x)) (hn : n ∈ xs) (hl : xs.length ≤ 1000) :
    Calls Tryd.prog 21 #[.slice (some ⟨b, o, none⟩) xs.length c, .int .i64 n] w fun e w' => (∃ k : Nat, e = .returned (.int .i64 k)) ∧ w' = w := by
  have HN := Lib.hid hn
  have HC := Lib.hid hc
  clear hn hc
  go_enter Tryd.func21, Tryd.ntmps21
  go_wp2
  go_loopw [8] (fun i wr => ∃ k : Nat, k ≤ xs.length ∧ i = .int .i64 k ∧ Hid (n ∉ xs.take k) ∧ wr = w) (fun i _ => xs.length - (intOf i).toNat)
  case atStart => exact ⟨0, Nat.zero_le _, rfl, (by simp : n ∉ xs.take 0), rfl⟩
  case round =>
    obtain ⟨k, hk, rfl, Ha, rfl⟩ := hrel
    by_cases hlt : k < xs.length
    · obtain ⟨x, hh⟩ : ∃ x, xs[k]? = some x := ⟨xs[k], List.getElem?_eq_getElem hlt⟩
      have hcell := HC.out k x hh
      have Hd := Lib.hid (take_snoc' hh)
      clear hh
      by_cases hx : x = n
      · have e1 : (n == x) = true := by simp [hx]
        clear hx
        go_wp2
        go_ret
        exact ⟨⟨k, rfl⟩, rfl⟩
      · have e1 : (n == x) = false := by simp; exact fun e => hx e.symm
        have Hx := Lib.hid hx
        clear hx
        go_wp2
        go_roundw
        case rel => exact ⟨k + 1, by omega, by go_num, (by show ¬ _; rw [Hd.out]; simp only [List.mem_append, List.mem_singleton, not_or]; exact ⟨Ha.out, fun e => Hx.out e.symm⟩), by trivial⟩
        case measure => simp [intOf]; omega
    · have hf : False := by
        have := Ha.out
        rw [List.take_of_length_le (by omega)] at this
        exact this HN.out
      exact hf.elim
theorem containsI_any (b o c : Nat) (xs : List Int) (n : Int) (w : World) (hc : ∀ j x, xs[j]? = some x → w.cell? ⟨b, o + j, none⟩ = some (.int .i64 x)) (hn : n ∈ xs) (hl : xs.length ≤ 1000) :
    Calls Tryd.prog 9 #[.slice (some ⟨b, o, none⟩) xs.length c, .int .i64 n] w fun e w' => e = .returned (.bool true) ∧ w' = w := by
  have C := Lib.hid (indexI_any b o c xs n w hc hn hl)
  clear hn hc
  go_enter Tryd.func9, Tryd.ntmps9
  go_wp2_with fail
  refine C.out.mono ?_
  rintro e w1 ⟨⟨k, rfl⟩, rfl⟩
  go_wp2_with fail
  go_ret
  exact ⟨ret_bool (by simp), rfl⟩

theorem find1_any (s v t : ByteArray) (b : Nat) (w : World) (hb : w.cell? ⟨b, 0, none⟩ = some (.string t)) (hn : s.size ≤ 1048576) (hm : t.size ≤ 1048576) :
    Calls Tryd.prog 19 #[.agg #[.string s, .string v], .pointer (some ⟨b, 0, none⟩)] w fun e w' => e = .returned (.bool (lowL s.toList == lowL t.toList)) ∧ Below w.heap.size w w' := by
  have hlt := lt_of_cell hb
  have C1 := Lib.hid (fun wx => lower_any s hn wx)
  have C2 := Lib.hid (fun wx => lower_any t hm wx)
  have E1 := Lib.hid (toL_ofL (lowL s.toList))
  have E2 := Lib.hid (toL_ofL (lowL t.toList))
  go_enter Tryd.func19, Tryd.ntmps19
  go_wp2_with fail
  have k1 : (w.alloc (.cells #[.string s, .string v] 54)).cell? ⟨w.heap.size, 0, none⟩ = some (.string s) := by rw [World.cell?_alloc_mark]; rfl
  have k2 := keeps_alloc hb (.cells #[.string s, .string v] 54)
  have hr := (Below.refl w.heap.size w).alloc (Nat.le_refl _) (.cells #[.string s, .string v] 54)
  generalize w.alloc (.cells #[.string s, .string v] 54) = w1 at *
  replace hr := hr.drew
  go_region_held3 (fun w' => w'.cell? ⟨w.heap.size, 0, none⟩ = some (.string s) ∧ w'.cell? ⟨b, 0, none⟩ = some (.string t)) (first | exact ⟨k1, k2⟩ | exact ⟨k1a, k2a⟩ | exact ⟨k1c, k2c⟩ | exact ⟨k1b, k2b⟩ | exact ⟨k1d, k2d⟩) (first | (go_at_call 20; (with_reducible refine (C1.out _).mono ?_); rintro e w5 ⟨rfl, hb5⟩; have k1a := Below.keeps hb5 k1; have k2a := Below.keeps hb5 k2; have hra := hr.next hb5) | (go_at_call 20; (with_reducible refine (C1.out _).mono ?_); rintro e w5 ⟨rfl, hb5⟩; have k1d := Below.keeps hb5 k1c; have k2d := Below.keeps hb5 k2c; have hrd := hrc.next hb5) | (go_at_call 20; (with_reducible refine (C2.out _).mono ?_); rintro e w6 ⟨rfl, hb6⟩; have k1b := Below.keeps hb6 k1a; have k2b := Below.keeps hb6 k2a; have hrb := hra.next hb6) | (go_at_call 20; (with_reducible refine (C2.out _).mono ?_); rintro e w6 ⟨rfl, hb6⟩; have k1c := Below.keeps hb6 k1; have k2c := Below.keeps hb6 k2; have hrc := hr.next hb6))
  go_wp2_with fail
  go_ret
  exact ⟨ret_bool (by rw [E1.out, E2.out]), hrb⟩

/-- The place of the first header of a name. -/
theorem hidx_any (hs : List (B × B)) (t : ByteArray) (v : Value) (b : Nat) (w : World) (hb : w.cell? ⟨b, 0, none⟩ = some (.string t)) (hR : Rd w 2 v hs.length (pairs hs))
    (hn : ∀ h ∈ hs, h.1.length ≤ 64) (hm : t.size ≤ 1048576) (hl : hs.length ≤ 1000) :
    Calls Tryd.prog 18 #[v, .func (.func 19) #[] #[.pointer (some ⟨b, 0, none⟩)]] w fun e w' =>
      ((∃ (k : Nat) (h : B × B), hs[k]? = some h ∧ (hs.find? fun h => lowL h.1 == lowL t.toList) = some h ∧ e = .returned (.int .i64 k)) ∨ ((hs.find? fun h => lowL h.1 == lowL t.toList) = none ∧ e = .returned (.int .i64 (-1)))) ∧ Below w.heap.size w w' := by
  have HR := Lib.hid hR
  have HNm := Lib.hid hn
  have HB := Lib.hid hb
  obtain ⟨A, c, rfl⟩ := hR.shape
  clear hR hn
  have hblt := lt_of_cell hb
  go_enter Tryd.func18, Tryd.ntmps18
  go_wp2
  go_loopw [8] (fun i wr => ∃ k : Nat, k ≤ hs.length ∧ i = .int .i64 k ∧ Hid ((hs.take k).find? (fun h => lowL h.1 == lowL t.toList) = none) ∧ Below w.heap.size w wr) (fun i _ => hs.length - (intOf i).toNat)
  case atStart => exact ⟨0, Nat.zero_le _, rfl, rfl, Below.refl _ _⟩
  case round =>
    obtain ⟨k, hk, rfl, Ha, hr⟩ := hrel
    by_cases hlt : k < hs.length
    · obtain ⟨h, hh⟩ : ∃ h, hs[k]? = some h := ⟨hs[k], List.getElem?_eq_getElem hlt⟩
      have hnm := HNm.out h (List.mem_of_getElem? hh)
      have hz : (ofL h.1).size ≤ 1048576 := by rw [size_ofL]; omega
      have Hd := Lib.hid (take_snoc' hh)
      have HH := Lib.hid hh
      obtain ⟨b', o, rfl, hc1, hc2⟩ := (HR.out.below hr).pairAt hh
      have hbr := Below.keeps hr HB.out
      have C := Lib.hid (find1_any (ofL h.1) (ofL h.2) t b wr hbr hz hm)
      have T1 := Lib.hid (toL_ofL h.1)
      clear hh hnm hz hb
      cases hp : (lowL h.1 == lowL t.toList)
      all_goals
        have Hp := Lib.hid hp
        clear hp
        go_wp2_with fail
        refine C.out.mono ?_
        rintro e w5 ⟨rfl, hb5⟩
        rw [T1.out, Hp.out]
        have hr' := hr.next hb5
        clear hb5 hc1 hc2 hbr
        go_wp2_with fail
      · go_roundw
        case rel => exact ⟨k + 1, by omega, by go_num, by show _ = _; rw [Hd.out, List.find?_append, Ha.out]; simp [Hp.out], hr'⟩
        case measure => simp [intOf]; omega
      · go_ret
        refine ⟨.inl ⟨k, h, HH.out, ?_, rfl⟩, hr'⟩
        have e : hs = hs.take (k + 1) ++ hs.drop (k + 1) := (List.take_append_drop _ _).symm
        rw [e, List.find?_append, Hd.out, List.find?_append, Ha.out]; simp [Hp.out]
    · have Hf := Lib.hid (show (hs.find? fun h => lowL h.1 == lowL t.toList) = none by have := Ha.out; rwa [List.take_of_length_le (by omega)] at this)
      go_wp2_with fail
      go_ret
      exact ⟨.inr ⟨Hf.out, rfl⟩, hr⟩
theorem find_any (hs : List (B × B)) (t : ByteArray) (v : Value) (x : B) (w : World) (hR : Rd w 2 v hs.length (pairs hs)) (hn : ∀ h ∈ hs, h.1.length ≤ 64) (hm : t.size ≤ 1048576) (hl : hs.length ≤ 1000) (hf : findL hs t.toList = some x) :
    Calls Tryd.prog 8 #[v, .string t] w fun e w' => e = .returned (.tuple #[.string (ofL x), .bool true]) ∧ Below w.heap.size w w' := by
  obtain ⟨A, c, rfl⟩ := hR.shape
  have HR := Lib.hid hR
  have hb : (w.alloc (.cells #[.string t] 9)).cell? ⟨w.heap.size, 0, none⟩ = some (.string t) := by rw [World.cell?_alloc_mark]; rfl
  have C := Lib.hid (hidx_any hs t _ w.heap.size _ hb (hR.alloc _) hn hm hl)
  have HF := Lib.hid hf
  clear hR hf hb hn
  go_enter Tryd.func8, Tryd.ntmps8
  go_wp2_with fail
  refine C.out.mono ?_
  clear C
  rintro e w5 ⟨hres, hb5⟩
  have hr := ((Below.refl w.heap.size w).alloc (Nat.le_refl _) (.cells #[.string t] 9)).next hb5
  clear hb5
  rcases hres with ⟨k, h, hh, hfd, rfl⟩ | ⟨hfd, rfl⟩
  · have hk : k < hs.length := (List.getElem?_eq_some_iff.1 hh).1
    obtain ⟨b', o, rfl, hc1, hc2⟩ := (HR.out.below hr).pairAt hh
    have hx : x = h.2 := by have := HF.out; unfold findL at this; rw [hfd] at this; simpa using this.symm
    subst hx
    have h0 : ¬ (k : Int) < 0 := by omega
    clear hh hfd
    go_wp2_with fail
    go_ret2
    exact ⟨rfl, hr⟩
  · have hx : False := by have := HF.out; unfold findL at this; rw [hfd] at this; simp at this
    exact hx.elim
end Go.Proofs.YtmhgnaemafohfaaDoor
