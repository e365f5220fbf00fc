/- Rest (httpd.Parser); which scripts are short (blotterlaw08). Conditions: none. -/
import Derived.Test.YtmhgnaemafohfaaGreatDoorFeedA
namespace Go.Proofs.YtmhgnaemafohfaaGreatDoor
open Go.RowKit
set_option linter.unusedVariables false
set_option linter.unusedSimpArgs false
set_option maxRecDepth 100000

theorem rest_any (bp st : Nat) (wait : B) (D : Nat → Prop) (w : World) (h : Prs w bp wait st D) :
    Calls Tryz.prog 27 #[.pointer (some ⟨bp, 0, none⟩)] w fun e w' => ∃ v D', e = .returned v ∧ Rd w' 1 v wait.length (bytesV wait) ∧ Prs w' bp [] st D' ∧ (∀ k, D' k → k = bp ∨ w.heap.size ≤ k) ∧ Touch (fun k => k = bp) w w' := by
  obtain ⟨bm, F, m, Wv, t, hP, hI, hBd, hF, ⟨hown, hob⟩, ⟨hD1, hD2, hD3⟩, ht, hrun, hw6⟩ := h
  obtain ⟨A0, c0, rfl⟩ := (rd_of_own hown).shape
  have k0 := hP.c0
  have k1 := hP.c1
  have hplt := hP.lt
  have HP := Lib.hid hP
  have HO := Lib.hid hown
  have HNO := Lib.hid (hP.not_own hown (by decide))
  clear hP hI hBd hown hob hrun
  go_enter Tryz.func27, Tryz.ntmps27
  go_wp2_with fail
  refine (begin_any bp bm _ t st [] (.slice none 0 0) w HP.out (rd_nil _ _) (by simp) st rfl).mono ?_
  rintro e w4 ⟨rfl, D4, hp4, hd4, ht4⟩
  go_wp2_with fail
  go_ret
  exact ⟨_, D4, rfl, rd_touch (rd_of_own HO.out) ht4 (fun a n c e h => HNO.out a.block (ownBlock_slice HO.out a n c e) h), hp4, hd4, ht4⟩
/-- What is fed and asked for. -/
def FeedsIn (w : World) (v : Value) (fs : List (Int × B)) : Prop :=
  ∃ A c, v = .slice A fs.length c ∧ ∀ i f, fs[i]? = some f → ∃ b o u, A = some ⟨b, o, none⟩ ∧ w.cell? ⟨b, o + i * 2, none⟩ = some (.int .i64 f.1) ∧ w.cell? ⟨b, o + i * 2 + 1, none⟩ = some u ∧ PartS w u f.2
theorem FeedsIn.below {w w' : World} {v : Value} {fs : List (Int × B)} (h : FeedsIn w v fs) (hb : Below w.heap.size w w') : FeedsIn w' v fs := by
  obtain ⟨A, c, h1, h2⟩ := h
  refine ⟨A, c, h1, fun i f hi => ?_⟩
  obtain ⟨b, o, u, e, c0, c1, hq⟩ := h2 i f hi
  exact ⟨b, o, u, e, Below.keeps hb c0, Below.keeps hb c1, hq.below hb⟩
def ShortIs (w : World) (fs : List (Int × B)) (e : Ending) (w' : World) : Prop := ∃ b : Bool, e = .returned (.bool b) ∧ (b = true → fs.length ≤ 200 ∧ ∀ f ∈ fs, f.2.length ≤ 262144) ∧ Below w.heap.size w w'
set_option maxHeartbeats 4000000 in
theorem short_any (fs : List (Int × B)) (v : Value) (w : World) (h : FeedsIn w v fs) (hn : fs.length ≤ 1099511627776 * 16) :
    Calls Tryz.prog 28 #[v] w fun e w' => ShortIs w fs e w' := by
  have HF := Lib.hid h
  obtain ⟨A, c, rfl, _⟩ := h
  go_enter Tryz.func28, Tryz.ntmps28
  go_wp2_with fail
  go_loopw [5, 4, 3] (fun s5 i sn wr => ∃ (k n : Nat), k ≤ fs.length ∧ k ≤ 201 ∧ i = .int .i64 k ∧ sn = .int .i64 n ∧ n ≤ k * 262144 ∧ Hid (∀ f ∈ fs.take k, f.2.length ≤ 262144) ∧ Below w.heap.size w wr) (fun _ i _ _ => fs.length - (intOf i).toNat)
  case atStart => exact ⟨0, 0, Nat.zero_le _, by omega, rfl, rfl, by omega, ((fun f hf => (by cases hf)) : ∀ f ∈ fs.take 0, f.2.length ≤ 262144), Below.refl _ _⟩
  case round =>
    obtain ⟨k, n, hk, hk2, rfl, rfl, hnb, Hall, hr⟩ := hrel
    by_cases hlt : k < fs.length
    · by_cases hk3 : k ≤ 200
      · obtain ⟨f, hf⟩ : ∃ f, fs[k]? = some f := ⟨fs[k], List.getElem?_eq_getElem hlt⟩
        obtain ⟨_, _, he, hcs⟩ := HF.out.below hr
        simp only [Value.slice.injEq] at he
        obtain ⟨rfl, _, rfl⟩ := he
        obtain ⟨b, o, u, rfl, c0, c1, hq⟩ := hcs k f hf
        obtain ⟨z, l⟩ := f
        obtain ⟨A2, c2, hu⟩ := (show PartS _ _ _ from hq).shape
        have hu' : u = .slice A2 l.length c2 := hu
        subst hu'
        have hk3' : (k : Int) ≤ 200 := by omega
        have Hs := Lib.hid (show fs.take (k + 1) = fs.take k ++ [(z, l)] by rw [List.take_add_one, hf]; rfl)
        clear hcs hf hu hq
        by_cases hbig : 262144 < l.length
        · have hb1 : (262144 : Int) < l.length := by omega
          go_wp2_with fail
          go_ret
          exact ⟨false, rfl, (fun h => by cases h), hr⟩
        · have hb1 : ¬ (262144 : Int) < l.length := by omega
          go_wp2_with fail
          go_roundw
          case rel => exact ⟨k + 1, n + l.length, by omega, by omega, by go_num, by go_num, by omega, (fun f hf => by
            rw [Hs.out] at hf
            rcases List.mem_append.1 hf with hf | hf
            · exact Hall.out f hf
            · simp only [List.mem_singleton] at hf; subst hf; exact Nat.le_of_not_lt hbig : ∀ f ∈ fs.take (k + 1), f.2.length ≤ 262144), hr⟩
          case measure => simp [intOf]; omega
      · have hk3' : ¬ (k : Int) ≤ 200 := by omega
        have hf2 : ¬ (fs.length : Int) ≤ 200 := by omega
        go_wp2_with fail
        go_ret
        exact ⟨false, rfl, (fun h => by cases h), hr⟩
    · have hke : fs.length ≤ k := by omega
      have Hf := Lib.hid (show ∀ f ∈ fs, f.2.length ≤ 262144 by have := Hall.out; rwa [List.take_of_length_le hke] at this)
      by_cases h2 : fs.length ≤ 200
      · have h2' : (fs.length : Int) ≤ 200 := by omega
        by_cases h3 : n ≤ 262144
        · have h3' : (n : Int) ≤ 262144 := by omega
          go_wp2_with fail
          go_ret
          exact ⟨true, rfl, fun _ => ⟨h2, Hf.out⟩, hr⟩
        · have h3' : ¬ (n : Int) ≤ 262144 := by omega
          go_wp2_with fail
          go_ret
          exact ⟨false, rfl, (fun h => by cases h), hr⟩
      · have h2' : ¬ (fs.length : Int) ≤ 200 := by omega
        go_wp2_with fail
        go_ret
        exact ⟨false, rfl, (fun h => by cases h), hr⟩
end Go.Proofs.YtmhgnaemafohfaaGreatDoor
