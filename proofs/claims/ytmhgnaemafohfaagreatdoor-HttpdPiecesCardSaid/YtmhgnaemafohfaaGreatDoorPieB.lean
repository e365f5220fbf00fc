/- Rows of requests (blotterlaw08's told), compared. Conditions: they are few. -/
import Derived.Test.YtmhgnaemafohfaaGreatDoorPieA
import Derived.Test.YtmhgnaemafohfaaGreatDoorParsC
namespace Go.Proofs.YtmhgnaemafohfaaGreatDoor
open Go.RowKit
set_option linter.unusedVariables false
set_option linter.unusedSimpArgs false
set_option maxRecDepth 100000

/-- A request that is taken has five bytes at least. -/
theorem taken5 (l : B) (h : (progParse l).2.2 = 0) : 5 ≤ (progParse l).2.1 := by
  rw [parse_law] at h ⊢
  unfold refParse at h ⊢
  by_cases k1 : 8192 < whereL crL l ∧ (whereL crL l < l.length ∨ 8196 ≤ whereL crL l)
  · rw [if_pos k1] at h; cases h
  rw [if_neg k1] at h ⊢
  by_cases k2 : whereL crL l = l.length
  · rw [if_pos k2] at h; cases h
  rw [if_neg k2] at h ⊢
  by_cases k3 : (cutL (l.take (whereL crL l))).any hasCR = true
  · rw [if_pos k3] at h; cases h
  rw [if_neg k3] at h ⊢
  by_cases h0 : whereL crL l = 0
  · rw [h0] at h
    have e : cutL (l.take 0) = [[]] := by rw [cutL]; rfl
    rw [e] at h
    exact absurd h (by unfold parse2; rw [if_pos (by decide)]; decide)
  · unfold parse2 parse3 at h ⊢
    split at h
    · rename_i h1; exact absurd h h1
    rename_i h1
    split at h
    · rename_i h2; exact absurd h h2
    rename_i h2
    split at h
    · rename_i h3; exact absurd h h3
    rename_i h3
    rw [if_neg h1, if_neg h2, if_neg h3]
    simp only; omega
/-- A row of requests that is read. -/
def ReqRow (w : World) (v : Value) (rs : List Req) : Prop :=
  ∃ A c, v = .slice A rs.length c ∧ ∀ i r, rs[i]? = some r → ∃ b o m p Hv Bv, A = some ⟨b, o, none⟩ ∧ w.cell? ⟨b, o + i * 4, none⟩ = some (.string m) ∧ w.cell? ⟨b, o + i * 4 + 1, none⟩ = some (.string p) ∧ w.cell? ⟨b, o + i * 4 + 2, none⟩ = some Hv ∧ w.cell? ⟨b, o + i * 4 + 3, none⟩ = some Bv ∧ ReqV w r (.agg #[.string m, .string p, Hv, Bv])
theorem ReqRow.below {w w' : World} {v : Value} {rs : List Req} (h : ReqRow w v rs) (hb : Below w.heap.size w w') : ReqRow w' v rs := by
  obtain ⟨A, c, h1, h2⟩ := h
  refine ⟨A, c, h1, fun i r hi => ?_⟩
  obtain ⟨b, o, m, p, Hv, Bv, e, c0, c1, c2, c3, hq⟩ := h2 i r hi
  exact ⟨b, o, m, p, Hv, Bv, e, Below.keeps hb c0, Below.keeps hb c1, Below.keeps hb c2, Below.keeps hb c3, reqV_below hq hb⟩

set_option maxHeartbeats 4000000 in
theorem eqfunc_any (rs : List Req) (v u : Value) (w : World) (hv : ReqRow w v rs) (hu : ReqRow w u rs) (hl : rs.length ≤ 1000000) (hsm : ∀ r ∈ rs, r.b.length ≤ 1099511627776 ∧ r.h.length ≤ 1000000) :
    Calls Tryz.prog 23 #[v, u, .func (.func 16) #[] #[]] w fun e w' => e = .returned (.bool true) ∧ Below w.heap.size w w' := by
  have HV := Lib.hid hv
  have HU := Lib.hid hu
  have HS := Lib.hid hsm
  obtain ⟨A, c, rfl, _⟩ := hv
  obtain ⟨A', c', rfl, _⟩ := hu
  clear hsm
  go_enter Tryz.func23, Tryz.ntmps23
  go_wp2_with fail
  go_loopw [17] (fun i wr => ∃ k : Nat, k ≤ rs.length ∧ i = .int .i64 k ∧ Below w.heap.size w wr) (fun i _ => rs.length - (intOf i).toNat)
  case atStart => exact ⟨0, Nat.zero_le _, rfl, Below.refl _ _⟩
  case round =>
    obtain ⟨k, hk, rfl, hr⟩ := hrel
    by_cases hlt : k < rs.length
    · obtain ⟨r, hh⟩ : ∃ r, rs[k]? = some r := ⟨rs[k], List.getElem?_eq_getElem hlt⟩
      have hsm := HS.out r (List.mem_of_getElem? hh)
      obtain ⟨_, _, he, hcs⟩ := HV.out.below hr
      simp only [Value.slice.injEq] at he
      obtain ⟨rfl, _, rfl⟩ := he
      obtain ⟨b, o, m, p, Hv, Bv, rfl, c0, c1, c2, c3, hq⟩ := hcs k r hh
      obtain ⟨_, _, he, hds⟩ := HU.out.below hr
      simp only [Value.slice.injEq] at he
      obtain ⟨rfl, _, rfl⟩ := he
      obtain ⟨b', o', m', p', Hv', Bv', rfl, d0, d1, d2, d3, hq'⟩ := hds k r hh
      clear hcs hds hh
      obtain ⟨A1, n1, B1, x1, ha⟩ := reqV_agg hq
      obtain ⟨A2, n2, B2, x2, ha'⟩ := reqV_agg hq'
      simp only [Value.agg.injEq, Array.mk.injEq, List.cons.injEq, and_true, Value.string.injEq] at ha ha'
      obtain ⟨rfl, rfl, rfl, rfl⟩ := ha
      obtain ⟨rfl, rfl, rfl, rfl⟩ := ha'
      have hlb' := lt_of_cell d0
      have hlb := lt_of_cell c0
      have HQ := Lib.hid hq
      have HQ' := Lib.hid hq'
      clear hq hq'
      go_wp2_with fail
      have hb1 := ((Below.refl wr.heap.size wr).alloc (Nat.le_refl _) (.cells #[.string (ofL r.m), .string (ofL r.p), .slice A1 r.h.length n1, .slice B1 r.b.length x1] 27)).alloc (by simp) (.cells #[.string (ofL r.m), .string (ofL r.p), .slice A2 r.h.length n2, .slice B2 r.b.length x2] 27)
      refine (same_any r _ _ _ (reqV_below HQ.out hb1) (reqV_below HQ'.out hb1) hsm.1 hsm.2).mono ?_
      rintro e w4 ⟨rfl, hb4⟩
      have hr4 := hr.next (hb1.next hb4)
      clear hb1 hb4
      go_wp2_with fail
      go_roundw
      case rel => exact ⟨k + 1, by omega, by go_num, hr4⟩
      case measure => simp [intOf]; omega
    · go_wp2_with fail
      go_ret
      exact ⟨rfl, hr⟩
end Go.Proofs.YtmhgnaemafohfaaGreatDoor
