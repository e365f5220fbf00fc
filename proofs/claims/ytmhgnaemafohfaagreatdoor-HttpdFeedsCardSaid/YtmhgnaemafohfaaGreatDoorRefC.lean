/- The reference's functions with lists (blotterref08): values, cut. Conditions: the texts are short. -/
import Derived.Test.YtmhgnaemafohfaaGreatDoorMem
import Derived.Test.YtmhgnaemafohfaaGreatDoorRefB
namespace Go.Proofs.YtmhgnaemafohfaaGreatDoor
open Go.RowKit
set_option linter.unusedVariables false
set_option linter.unusedSimpArgs false
set_option maxRecDepth 100000

theorem rowS : Row Tryz.prog 90 9 (.string ⟨#[]⟩) 1 16 :=
  ⟨Tryz.underlying90, info_parts (by kernel_rfl), rfl, by decide, by decide⟩
theorem rowB : Row Tryz.prog 22 5 (.int .u8 0) 1 1 :=
  ⟨Tryz.underlying22, info_parts (by kernel_rfl), rfl, by decide, by decide⟩
theorem rowH : Row Tryz.prog 25 72 (.agg #[(.string ⟨#[]⟩), (.string ⟨#[]⟩)]) 2 32 :=
  ⟨Tryz.underlying25, info_parts (by kernel_rfl), rfl, by decide, by decide⟩

def valuesL (hs : List (B × B)) (nm : B) : List B := (hs.filter fun h => h.1 == nm).map (·.2)
theorem valuesL_snoc (hs : List (B × B)) (h : B × B) (nm : B) : valuesL (hs ++ [h]) nm = valuesL hs nm ++ if h.1 == nm then [h.2] else [] := by
  unfold valuesL; rw [List.filter_append, List.map_append]; simp only [List.filter_cons, List.filter_nil]; split <;> simp
theorem valuesL_le (hs : List (B × B)) (nm : B) : (valuesL hs nm).length ≤ hs.length := by unfold valuesL; simp [List.length_filter_le]
theorem take_snoc' {α : Type} {l : List α} {k : Nat} {x : α} (h : l[k]? = some x) : l.take (k + 1) = l.take k ++ [x] := by rw [List.take_add_one, h]; rfl
theorem values_any (hs : List (B × B)) (v : Value) (nm : ByteArray) (w : World) (hR : Rd w 2 v hs.length (pairs hs)) (hn : hs.length ≤ 4096) :
    Calls Tryz.prog 75 #[v, .string nm] w fun e w' => ∃ v', e = .returned v' ∧ w'.ownsRow w.heap.size 9 1 v' (valuesL hs nm.toList).length (strs (valuesL hs nm.toList)) ∧ Below w.heap.size w w' := by
  have HR := Lib.hid hR
  obtain ⟨A, c, rfl⟩ := hR.shape
  clear hR
  go_enter Tryz.func75, Tryz.ntmps75
  go_wp2
  go_loopw [5, 10] (fun o i wr => ∃ k : Nat, k ≤ hs.length ∧ i = .int .i64 k ∧ wr.ownsRow w.heap.size 9 1 o (valuesL (hs.take k) nm.toList).length (strs (valuesL (hs.take k) nm.toList)) ∧ Below w.heap.size w wr) (fun _ i _ => hs.length - (intOf i).toNat)
  case atStart => exact ⟨0, Nat.zero_le _, rfl, World.ownsRow_nil _ _ _ _, Below.refl _ _⟩
  case round =>
    obtain ⟨k, hk, rfl, hown, hb⟩ := hrel
    by_cases hlt : k < hs.length
    · obtain ⟨h, hh⟩ : ∃ h, hs[k]? = some h := ⟨hs[k], List.getElem?_eq_getElem hlt⟩
      have Hh := Lib.hid (take_snoc' hh)
      obtain ⟨b, o, rfl, hc1, hc2⟩ := (HR.out.below hb).pairAt hh
      clear hh
      cases hp : ((ofL h.1).toList == nm.toList)
      · have Hp := Lib.hid hp
        go_wp2
        go_roundw
        case rel => exact ⟨k + 1, by omega, by go_num, by rw [Hh.out, valuesL_snoc, ← toL_ofL h.1, Hp.out]; simpa using hown.alloc _, hb.alloc hb.size _⟩
        case measure => simp [intOf]; omega
      · have Hp := Lib.hid hp
        have hle := valuesL_le (hs.take k) nm.toList
        rw [List.length_take] at hle
        have hle' : (valuesL (hs.take k) nm.toList).length ≤ 4096 := by omega
        clear hle
        go_wp2_with (at_builtin; refine wpList_push _ rfl _ _ 90 rfl w.heap.size rowS _ _ _ rfl (hown.alloc _) [.string (ofL h.2)] _ rfl (by simp) rfl (oneCell_str _) (by omega) (Nat.le_trans hb.size (by simp)) ?_)
        intro v' w1 hown1 _ hb1 _
        clear hown
        go_wp2
        go_roundw
        case rel => exact ⟨k + 1, by omega, by go_num, by rw [Hh.out, valuesL_snoc, ← toL_ofL h.1, Hp.out]; simpa [strs] using hown1, (hb.alloc hb.size _).trans hb1⟩
        case measure => simp [intOf]; omega
    · go_wp2
      go_ret
      have hk' : k = hs.length := by omega
      subst hk'
      rw [List.take_length] at hown
      exact ⟨_, rfl, hown, hb⟩

/-- A head's lines. -/
def cutL (s : B) : List B :=
  if h : whereL [13, 10] s < s.length then s.take (whereL [13, 10] s) :: cutL (s.drop (whereL [13, 10] s + 2)) else [s]
termination_by s.length
decreasing_by simp; omega
theorem whereL_hit (t : B) : ∀ s : B, whereL t s < s.length → t <+: s.drop (whereL t s)
  | [], h => by simp at h
  | c :: r, h => by
    unfold whereL at h ⊢
    split
    · rename_i hp; simpa using List.isPrefixOf_iff_prefix.1 hp
    · rename_i hp; rw [if_neg hp] at h; simpa using whereL_hit t r (by simpa using h)
theorem whereL_room {t s : B} (h : whereL t s < s.length) : whereL t s + t.length ≤ s.length := by
  have := (whereL_hit t s h).length_le; rw [List.length_drop] at this; omega
theorem cutL_yes {s : B} (h : whereL [13, 10] s < s.length) : cutL s = s.take (whereL [13, 10] s) :: cutL (s.drop (whereL [13, 10] s + 2)) := by rw [cutL, dif_pos h]
theorem cutL_no {s : B} (h : ¬ whereL [13, 10] s < s.length) : cutL s = [s] := by rw [cutL, dif_neg h]
theorem whereCR_any (s : ByteArray) (hs : s.size ≤ maxLen) (w : World) :
    Calls Tryz.prog 42 #[.string ⟨#[13, 10]⟩, .string s] w fun e w' => e = .returned (.int .i64 (whereL [13, 10] s.toList)) ∧ w = w' := by
  have h := where_any s ⟨#[13, 10]⟩ hs w
  rwa [show (⟨#[13, 10]⟩ : ByteArray).toList = [13, 10] from ByteArray.toList_mk [13, 10]] at h
def strLen : Value → Nat | .string s => s.size | _ => 0
theorem cut_any (s : ByteArray) (hs : s.size ≤ 1048576) (w : World) :
    Calls Tryz.prog 43 #[.string s] w fun e w' => ∃ v, e = .returned v ∧ w'.ownsRow w.heap.size 9 1 v (cutL s.toList).length (strs (cutL s.toList)) ∧ Below w.heap.size w w' := by
  go_enter Tryz.func43, Tryz.ntmps43
  go_wp2
  go_loopw [0, 3] (fun sv o wr => ∃ (t : ByteArray) (done : List B), sv = .string t ∧ done ++ cutL t.toList = cutL s.toList ∧ done.length + t.size ≤ 1048576 ∧ wr.ownsRow w.heap.size 9 1 o done.length (strs done) ∧ Below w.heap.size w wr) (fun sv _ _ => strLen sv)
  case atStart => exact ⟨s, [], rfl, rfl, by simpa using hs, World.ownsRow_nil _ _ _ _, Below.refl _ _⟩
  case round =>
    obtain ⟨t, done, rfl, he, hd, hown, hb⟩ := hrel
    have He := Lib.hid he
    clear he
    have hw := whereL_le [13, 10] t.toList
    have hlt := len_toL t
    rw [hlt] at hw
    have Hto := Lib.hid (toL_to t (whereL [13, 10] t.toList))
    by_cases hn : whereL [13, 10] t.toList < t.size
    · have hr := whereL_room (t := [13, 10]) (s := t.toList) (by rw [hlt]; exact hn)
      rw [hlt] at hr
      have hr' : whereL [13, 10] t.toList + 2 ≤ t.size := hr
      have Hy := Lib.hid (cutL_yes (s := t.toList) (by rw [hlt]; exact hn))
      have Hfr := Lib.hid (toL_from t (whereL [13, 10] t.toList + 2))
      clear hr hlt
      have hne : ((whereL [13, 10] t.toList : Int) == (t.size : Int)) = false := by simp; omega
      go_wp2_with (first | (go_at_call 42; refine (whereCR_any _ (by unfold maxLen; omega) _).mono ?_; rintro e w' ⟨rfl, rfl⟩) | (at_builtin; refine wpList_push _ rfl _ _ 90 rfl w.heap.size rowS _ _ _ rfl hown [.string (t.extract 0 (whereL [13, 10] t.toList))] _ rfl (by simp) rfl (oneCell_str _) (by omega) hb.size ?_))
      intro v' w1 hown1 _ hb1 _
      clear hown
      go_wp2
      go_roundw
      case rel => exact ⟨_, done ++ [t.toList.take (whereL [13, 10] t.toList)], rfl, by rw [Hfr.out, ← He.out, Hy.out]; simp, by rw [ByteArray.size_extract]; simp; omega, by simpa [strs, ← Hto.out, ofL_toL] using hown1, hb.trans hb1⟩
      case measure => simp only [strLen, ByteArray.size_extract]; omega
    · have hno := cutL_no (s := t.toList) (by rw [hlt]; exact hn)
      have Hn := Lib.hid hno
      clear hno hlt
      have he : whereL [13, 10] t.toList = t.size := by omega
      have He' := Lib.hid he
      clear he
      go_wp2_with (first | (go_at_call 42; refine (whereCR_any _ (by unfold maxLen; omega) _).mono ?_; rintro e w' ⟨rfl, rfl⟩; rw [He'.out]) | (at_builtin; refine wpList_push _ rfl _ _ 90 rfl w.heap.size rowS _ _ _ rfl hown [.string t] _ rfl (by simp) rfl (oneCell_str _) (by omega) hb.size ?_))
      intro v' w1 hown1 _ hb1 _
      clear hown
      go_wp2
      go_ret
      exact ⟨_, rfl, by rw [← He.out, Hn.out]; simpa [strs, ofL_toL] using hown1, hb.trans hb1⟩

theorem hdr_eq (w : World) (x0 y0 x1 y1 : ByteArray) :
    (Op.equalIn 10000 72 (.agg #[.string x0, .string x1]) (.agg #[.string y0, .string y1])).run Tryz.prog w = .ok (x0.toList == y0.toList && (x1.toList == y1.toList)) w := by
  rw [run_equalIn_struct w 9999 72 _ _ (by rw [Program.fieldsOf, Tryz.underlying72]) (by kernel_rfl)]
  simp only [Program.fieldsOf, Tryz.underlying72]
  go_simp
  by_cases h0 : x0.toList = y0.toList <;> by_cases h1 : x1.toList = y1.toList <;> simp [h0, h1]
theorem hdr_dec (h g : B × B) : ((ofL h.1).toList == (ofL g.1).toList && ((ofL h.2).toList == (ofL g.2).toList)) = decide (h = g) := by
  obtain ⟨a, b⟩ := h; obtain ⟨c, d⟩ := g
  rw [Bool.eq_iff_iff]; simp [toL_ofL]
theorem sameHdr_any (hs gs : List (B × B)) (v u : Value) (w : World) (hR : Rd w 2 v hs.length (pairs hs)) (hS : Rd w 2 u gs.length (pairs gs)) (hn : hs.length ≤ maxLen) (hm : gs.length ≤ maxLen) :
    Calls Tryz.prog 48 #[v, u] w fun e w' => e = .returned (.bool (decide (hs = gs))) ∧ Below w.heap.size w w' := by
  have HR := Lib.hid hR
  have HS := Lib.hid hS
  obtain ⟨A, c, rfl⟩ := hR.shape
  obtain ⟨A', c', rfl⟩ := hS.shape
  clear hR hS
  unfold maxLen at hn hm
  by_cases hl : hs.length = gs.length
  · have Hl := Lib.hid hl
    go_enter Tryz.func48, Tryz.ntmps48
    go_wp2
    go_loopw [13] (fun i wr => ∃ k : Nat, k ≤ hs.length ∧ i = .int .i64 k ∧ hs.take k = gs.take k ∧ Below w.heap.size w wr) (fun i _ => hs.length - (intOf i).toNat)
    case atStart => exact ⟨0, Nat.zero_le _, rfl, rfl, Below.refl _ _⟩
    case round =>
      obtain ⟨k, hk, rfl, he, hb⟩ := hrel
      have He := Lib.hid he
      clear he
      by_cases hlt : k < hs.length
      · obtain ⟨h, hh⟩ : ∃ h, hs[k]? = some h := ⟨hs[k], List.getElem?_eq_getElem hlt⟩
        obtain ⟨g, hg⟩ : ∃ g, gs[k]? = some g := ⟨gs[k]'(by omega), List.getElem?_eq_getElem (by omega)⟩
        obtain ⟨b, o, rfl, hc1, hc2⟩ := (HR.out.below hb).pairAt hh
        obtain ⟨b', o', rfl, hd1, hd2⟩ := (HS.out.below hb).pairAt hg
        have hlt' : k < gs.length := by omega
        clear hl
        have kq := fun w' => hdr_eq w' (ofL h.1) (ofL g.1) (ofL h.2) (ofL g.2)
        rw [hdr_dec] at kq
        by_cases hhg : h = g
        · rw [decide_eq_true hhg] at kq
          have Hs : Hid (hs.take (k + 1) = gs.take (k + 1)) := by show _ = _; rw [take_snoc' hh, take_snoc' hg, He.out, hhg]
          clear hh hg hhg
          go_wp2
          go_quiet (fail)
          go_wp2
          go_roundw
          case rel => exact ⟨k + 1, by omega, by go_num, Hs.out, hb.trans (below_drewN _ _ _)⟩
          case measure => simp [intOf]; omega
        · rw [decide_eq_false hhg] at kq
          have Hs : Hid (hs ≠ gs) := fun e => by rw [e] at hh; rw [hh] at hg; exact hhg (Option.some.inj hg)
          clear hh hg hhg
          go_wp2
          go_quiet (fail)
          go_wp2
          go_ret
          exact ⟨ret_bool (by simp [Hs.out]), hb.trans (below_drewN _ _ _)⟩
      · have hk' : ¬ k < gs.length := by omega
        have Hf : Hid (hs = gs) := by show _ = _; have := He.out; rwa [List.take_of_length_le (by omega), List.take_of_length_le (by have := Hl.out; omega)] at this
        go_wp2
        go_ret
        exact ⟨ret_bool (by simp [Hf.out]), hb⟩
  · have Hf : Hid (hs ≠ gs) := fun e => hl (by rw [e])
    have hl' : ((hs.length : Int) != (gs.length : Int)) = true := by simp; omega
    go_enter Tryz.func48, Tryz.ntmps48
    go_wp2
    go_ret
    exact ⟨ret_bool (by simp [Hf.out]), Below.refl _ _⟩
end Go.Proofs.YtmhgnaemafohfaaGreatDoor
