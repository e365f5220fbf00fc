/- Bytes cut at places (blotterlaw08's pieces). Conditions: the bytes are few. -/
import Derived.Test.YtmhgnaemafohfaaDoorCatA
namespace Go.Proofs.YtmhgnaemafohfaaDoor
open Go.RowKit
set_option linter.unusedVariables false
set_option linter.unusedSimpArgs false
set_option maxRecDepth 100000

theorem rowP : Row Tryd.prog 39 22 (.slice none 0 0) 1 24 := ⟨Tryd.underlying39, info_parts (by kernel_rfl), rfl, by decide, by decide⟩
/-- A list of numbers that came in. -/
def Ints (w : World) (v : Value) (zs : List Int) : Prop := ∃ A c, v = .slice A zs.length c ∧ (A = none → zs = []) ∧ zs.length ≤ c ∧ c ≤ maxLen ∧ ∀ j z, zs[j]? = some z → ∃ b o, A = some ⟨b, o, none⟩ ∧ w.cell? ⟨b, o + j, none⟩ = some (.int .i64 z)
theorem Ints.below {w w' : World} {v : Value} {zs : List Int} (h : Ints w v zs) (hb : Below w.heap.size w w') : Ints w' v zs := by
  obtain ⟨A, c, h1, h2, h3, h4, h5⟩ := h
  exact ⟨A, c, h1, h2, h3, h4, fun j z hj => by obtain ⟨b, o, e, hc⟩ := h5 j z hj; exact ⟨b, o, e, Below.keeps hb hc⟩⟩
theorem part_take {w : World} {A : Option Addr} {c k : Nat} {l : B} (h : Part w (.slice A l.length c, l)) (hk : k ≤ l.length) : Part w (.slice A k c, l.take k) := by
  refine ⟨rd_take h.1 hk, fun n' c' e => ?_⟩
  simp only [Value.slice.injEq] at e
  obtain ⟨rfl, _, rfl⟩ := e
  exact h.2 _ _ rfl
theorem part_drop {w : World} {b o c k : Nat} {l : B} (h : Part w (.slice (some ⟨b, o, none⟩) l.length c, l)) (hk : k ≤ l.length) :
    Part w (.slice (some ⟨b, o + k, none⟩) (l.length - k) (c - k), l.drop k) := by
  refine ⟨?_, fun n' c' e => by simp at e⟩
  obtain ⟨_, A, c', h2, h3, h4, h5, h6⟩ := h.1
  cases h2
  have hl : (l.drop k).length = l.length - k := List.length_drop ..
  refine ⟨by rw [bytesV_len]; omega, _, _, by rw [hl], by simp only at h3 ⊢; omega, by omega, (fun h => by cases h), fun a ha => ?_⟩
  cases ha
  refine ⟨rfl, fun j u hj => ?_⟩
  have := (h6 ⟨b, o, none⟩ rfl).2 (k + j) u (by unfold bytesV at hj ⊢; rw [List.getElem?_map] at hj ⊢; rwa [List.getElem?_drop] at hj)
  rw [← Nat.add_assoc] at this; exact this

/-- A part of bytes, wherever these are read. -/
def PartOf (v : Value) (l : B) (p : Value × B) : Prop := ∀ W, Part W (v, l) → Part W p

theorem flatP_push (vs : List (Value × B)) (v : Value) (l : B) : flatP (vs ++ [(v, l)]) = flatP vs ++ l := by simp [flatP]
theorem part_empty (w : World) (b o : Nat) : Part w (.slice (some ⟨b, o, none⟩) 0 0, []) :=
  ⟨⟨rfl, _, _, rfl, Nat.le_refl _, by decide, fun _ => rfl, fun a ha => by cases ha; exact ⟨rfl, fun j u hj => by cases hj⟩⟩, fun n c e => by cases e⟩
theorem own_part2 {w : World} {v : Value} {l : B} (h : Rd w 1 v l.length (bytesV l)) (hN : ∀ n c, v = .slice none n c → c = 0) :
    (v = .slice none 0 0 ∧ l = []) ∨ ∃ b o c, v = .slice (some ⟨b, o, none⟩) l.length c ∧ ∀ j u, (bytesV l)[j]? = some u → w.cell? ⟨b, o + j, none⟩ = some u := by
  obtain ⟨_, A, c, rfl, _, _, h5, h6⟩ := h
  cases A with
  | none =>
    have h0 := h5 rfl
    have hc := hN _ _ rfl
    subst hc
    exact .inl ⟨by rw [h0], List.eq_nil_of_length_eq_zero h0⟩
  | some a =>
    obtain ⟨hsp, hcl⟩ := h6 a rfl
    obtain ⟨b, o, q⟩ := a
    simp only at hsp
    subst hsp
    exact .inr ⟨b, o, c, rfl, hcl⟩
theorem oneCell_sl (A : Option Addr) (n c : Nat) : ∀ u ∈ [Value.slice A n c], u.oneCell' = true := by intro u hu; simp at hu; subst hu; rfl

set_option maxHeartbeats 8000000 in
theorem pieces_any (l : B) (zs : List Int) (v u : Value) (w : World) (hS : Part w (v, l)) (hl : l.length ≤ 262144) (hZ : Ints w u zs) (hzz : ∀ z ∈ zs, -9223372036854775808 ≤ z ∧ z ≤ 9223372036854775807) :
    Calls Tryd.prog 13 #[v, u] w fun e w' => ∃ (o : Value) (vs : List (Value × B)), e = .returned o ∧ w'.ownsRow w.heap.size 22 1 o vs.length (vs.map (·.1)) ∧ (∀ p ∈ vs, Part w' p) ∧ flatP vs = l ∧ vs ≠ [] ∧ vs.length ≤ 101 ∧ (∀ p ∈ vs, PartOf v l p) ∧ Below w.heap.size w w' := by
  obtain ⟨A, c, hv⟩ := hS.1.shape
  have hv' : v = .slice A l.length c := hv
  clear hv
  subst hv'
  have HZ := Lib.hid hZ
  have HS := Lib.hid hS
  have HZZ := Lib.hid hzz
  obtain ⟨A2, c2, rfl, hn2, hz2, hz3, _⟩ := hZ
  have hzl : zs.length ≤ 9223372036854775807 := by unfold maxLen at hz3; omega
  clear hS hzz hn2
  go_enter Tryd.func13, Tryd.ntmps13
  go_wp2_with fail
  go_loopw [0, 5, 6] (fun s0 s5 s6 wr => ∃ (i : Nat) (vs : List (Value × B)) (rest : B), i ≤ zs.length ∧ i ≤ 100 ∧ vs.length = i ∧ s6 = .int .i64 i ∧ rest.length ≤ 262144 ∧ Hid (flatP vs ++ rest = l) ∧ Hid (PartOf (.slice A l.length c) l (s0, rest)) ∧ Hid (∀ p ∈ vs, PartOf (.slice A l.length c) l p) ∧ Hid (wr.ownsRow w.heap.size 22 1 s5 vs.length (vs.map (·.1))) ∧ Below w.heap.size w wr) (fun _ _ i _ => zs.length - (intOf i).toNat)
  case atStart => exact ⟨0, [], l, Nat.zero_le _, by omega, rfl, rfl, hl, rfl, (fun W h => h : PartOf (.slice A l.length c) l (.slice A l.length c, l)), (fun p hp => by cases hp), World.ownsRow_nil _ _ _ _, Below.refl _ _⟩
  case round =>
    obtain ⟨i, vs, rest, hi1, hi2, hvl, rfl, hrl, Hfl, HrestP, HvsP, Hown, hr⟩ := hrel
    have Hrest := Lib.hid (HrestP.out w HS.out)
    obtain ⟨A0, c0, h0⟩ := Hrest.out.1.shape
    have hcap : rest.length ≤ c0 := by obtain ⟨_, A', c', h2, h3, _⟩ := Hrest.out.1; rw [h0] at h2; cases h2; exact h3
    simp only at h0
    subst h0
    by_cases hlt : i < zs.length ∧ i < 100
    · obtain ⟨z, hz⟩ : ∃ z, zs[i]? = some z := ⟨zs[i]'hlt.1, List.getElem?_eq_getElem hlt.1⟩
      have hzb := HZZ.out z (List.mem_of_getElem? hz)
      obtain ⟨_, _, he, _, _, _, hcz⟩ := HZ.out.below hr
      simp only [Value.slice.injEq] at he
      obtain ⟨rfl, _, rfl⟩ := he
      obtain ⟨bz, oz, rfl, hcell⟩ := hcz i z hz
      clear hz hcz
      obtain ⟨hlt1, hlt2⟩ := hlt
      have hlt2' : (i : Int) < 100 := by omega
      obtain ⟨j, hj, hjn⟩ : ∃ j : Nat, wrap64 ((IntKind.u64.wrap z).tmod ((rest.length : Int) + 1)) = j ∧ j ≤ rest.length := by
        have h0 : 0 ≤ IntKind.u64.wrap z := by unfold IntKind.wrap; simp [IntKind.bits, IntKind.signed]; omega
        obtain ⟨t, ht⟩ : ∃ t : Nat, IntKind.u64.wrap z = t := ⟨(IntKind.u64.wrap z).toNat, by omega⟩
        have hlt := Nat.mod_lt t (show 0 < rest.length + 1 by omega)
        refine ⟨t % (rest.length + 1), ?_, by omega⟩
        rw [ht]
        have : ((t : Int)).tmod ((rest.length : Int) + 1) = ((t % (rest.length + 1) : Nat) : Int) := by rw [Int.tmod_eq_emod_of_nonneg (by omega)]; rfl
        rw [this]
        unfold wrap64; omega
      have hkey : (A0 = none ∧ rest.length = 0 ∧ c0 = 0 ∧ rest = []) ∨ (∃ b o, A0 = some ⟨b, o, none⟩) := by
        rcases own_part2 Hrest.out.1 Hrest.out.2 with ⟨h1, h2⟩ | ⟨b, o, c', h1, _⟩
        · simp only [Value.slice.injEq] at h1; have h2' : rest = [] := h2; exact .inl ⟨h1.1, by rw [h2']; rfl, h1.2.2, h2'⟩
        · simp only [Value.slice.injEq] at h1; exact .inr ⟨b, o, h1.1⟩
      have HPt := Lib.hid (show PartOf (.slice A l.length c) l (.slice A0 j c0, rest.take j) from fun W h => part_take (HrestP.out W h) hjn)
      have hone := oneCell_sl A0 j c0
      have hvb : (vs.length + 1) * 24 ≤ 140737488355328 := by omega
      have HC0 := Lib.hid hcap
      rcases hkey with ⟨rfl, hr0, rfl, hre⟩ | ⟨b, o, rfl⟩
      · have hj0 : j = 0 := by omega
        subst hj0
        clear hre
        go_wp2_with (at_builtin; refine wpList_push _ rfl _ _ 39 rfl w.heap.size rowP _ _ _ rfl Hown.out [.slice none 0 0] _ rfl (by simp) rfl (oneCell_sl _ _ _) (by omega) hr.size ?_)
        intro v' w1 hown1 _ hb1 hne1
        have HO1 := Lib.hid hown1
        have hr1 := hr.trans hb1
        clear hown1 hb1
        go_wp2_with fail
        go_roundw
        case rel =>
          refine ⟨i + 1, vs ++ [(.slice none 0 0, [])], rest, by omega, by omega, by simp [hvl], by go_num, hrl, ?_, ?_, ?_, ?_, hr1⟩
          · show _ = _; rw [flatP_push, List.append_nil]; exact Hfl.out
          · show PartOf _ _ _; have h := HrestP.out; rw [hr0] at h; exact h
          · intro p hp
            rcases List.mem_append.1 hp with hp | hp
            · exact HvsP.out p hp
            · simp only [List.mem_singleton] at hp; subst hp; exact fun W _ => ⟨rd_nil _ _, fun n c e => by cases e; rfl⟩
          · have h := HO1.out
            show World.ownsRow _ _ _ _ _ _ _
            rw [List.length_append, List.map_append, hvl]; exact h
        case measure => simp [intOf]; omega
      · by_cases hcj : c0 = j
        · subst hcj
          have hjl : rest.length = c0 := by omega
          have Hjl := Lib.hid hjl
          clear hjl
          go_wp2_with (at_builtin; refine wpList_push _ rfl _ _ 39 rfl w.heap.size rowP _ _ _ rfl Hown.out [.slice (some ⟨b, o, none⟩) c0 c0] _ rfl (by simp) rfl (oneCell_sl _ _ _) (by omega) hr.size ?_)
          intro v' w1 hown1 _ hb1 hne1
          have HO1 := Lib.hid hown1
          have hr1 := hr.trans hb1
          clear hown1 hb1
          go_wp2_with fail
          go_roundw
          case rel =>
            have hjl := Hjl.out
            refine ⟨i + 1, vs ++ [(.slice (some ⟨b, o, none⟩) c0 c0, rest.take c0)], [], by omega, by omega, by simp [hvl], by go_num, by simp, ?_, ?_, ?_, ?_, hr1⟩
            · show _ = _; rw [flatP_push, List.append_nil, List.take_of_length_le (by omega)]; exact Hfl.out
            · exact fun W _ => part_empty _ _ _
            · intro p hp
              rcases List.mem_append.1 hp with hp | hp
              · exact HvsP.out p hp
              · simp only [List.mem_singleton] at hp; subst hp; exact HPt.out
            · have h := HO1.out
              show World.ownsRow _ _ _ _ _ _ _
              rw [List.length_append, List.map_append, hvl]; exact h
          case measure => simp [intOf]; omega
        · go_wp2_with (at_builtin; refine wpList_push _ rfl _ _ 39 rfl w.heap.size rowP _ _ _ rfl Hown.out [.slice (some ⟨b, o, none⟩) j c0] _ rfl (by simp) rfl (oneCell_sl _ _ _) (by omega) hr.size ?_)
          intro v' w1 hown1 _ hb1 hne1
          have HO1 := Lib.hid hown1
          have hr1 := hr.trans hb1
          clear hown1 hb1
          go_wp2_with fail
          go_roundw
          case rel =>
            refine ⟨i + 1, vs ++ [(.slice (some ⟨b, o, none⟩) j c0, rest.take j)], rest.drop j, by omega, by omega, by simp [hvl], by go_num, by rw [List.length_drop]; omega, ?_, ?_, ?_, ?_, hr1⟩
            · show _ = _; rw [flatP_push, List.append_assoc, List.take_append_drop]; exact Hfl.out
            · show PartOf _ _ _; exact fun W h => part_drop (HrestP.out W h) hjn
            · intro p hp
              rcases List.mem_append.1 hp with hp | hp
              · exact HvsP.out p hp
              · simp only [List.mem_singleton] at hp; subst hp; exact HPt.out
            · have h := HO1.out
              show World.ownsRow _ _ _ _ _ _ _
              rw [List.length_append, List.map_append, hvl]; exact h
          case measure => simp [intOf]; omega
    · have hone := oneCell_sl A0 rest.length c0
      have hvb : (vs.length + 1) * 24 ≤ 140737488355328 := by omega
      have hend : ¬ i < zs.length ∨ (i < zs.length ∧ ¬ (i : Int) < 100) := by omega
      rcases hend with h1 | ⟨h1, h2⟩
      all_goals
        go_wp2_with (at_builtin; refine wpList_push _ rfl _ _ 39 rfl w.heap.size rowP _ _ _ rfl Hown.out [.slice A0 rest.length c0] _ rfl (by simp) rfl (oneCell_sl _ _ _) (by omega) hr.size ?_)
        intro v' w1 hown1 _ hb1 hne1
        have HO1 := Lib.hid hown1
        have hr1 := hr.trans hb1
        clear hown1 hb1
        go_wp2_with fail
        go_ret
        refine ⟨v', vs ++ [(.slice A0 rest.length c0, rest)], rfl, ?_, ?_, ?_, by simp, by simp [hvl]; omega, ?_, hr1⟩
        · have h := HO1.out
          rw [List.length_append, List.map_append, hvl]; exact h
        · intro p hp
          rcases List.mem_append.1 hp with hp | hp
          · exact (HvsP.out p hp w HS.out).below hr1
          · simp only [List.mem_singleton] at hp; subst hp; exact Hrest.out.below hr1
        · rw [flatP_push]; exact Hfl.out
        · intro p hp
          rcases List.mem_append.1 hp with hp | hp
          · exact HvsP.out p hp
          · simp only [List.mem_singleton] at hp; subst hp; exact HrestP.out
end Go.Proofs.YtmhgnaemafohfaaDoor
