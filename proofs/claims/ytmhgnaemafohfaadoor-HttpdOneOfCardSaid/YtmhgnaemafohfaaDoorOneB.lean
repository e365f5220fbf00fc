/- The law HttpdOneOf (blotterlaw08) is true: its walk. Conditions: none. -/
import Derived.Test.YtmhgnaemafohfaaDoorOneA
namespace Go.Proofs.YtmhgnaemafohfaaDoor
open Go.RowKit
set_option linter.unusedVariables false
set_option linter.unusedSimpArgs false
set_option maxRecDepth 100000

theorem names_le : ∀ (l : List B) (i : Nat), ∀ h ∈ (fieldsL i l).1, h.1.length ≤ 64 := by
  intro l
  induction l with
  | nil => intro i h hh; simp [fieldsL] at hh
  | cons s l ih =>
    intro i h hh
    rw [fieldsL] at hh
    split at hh
    · cases hh
    split at hh
    · cases hh
    · rename_i hf
      unfold fin at hh
      split at hh
      · rcases List.mem_append.1 hh with hh | hh
        · simp only [List.mem_singleton] at hh
          subst hh
          have hf' : fieldOk s = true := by simpa using hf
          unfold fieldOk at hf'
          simp only [Bool.and_eq_true, decide_eq_true_eq] at hf'
          unfold fieldOf lowL
          rw [List.length_map, List.length_take]; omega
        · exact ih _ h hh
      · cases hh
theorem req_names (l : B) : ∀ h ∈ (progParse l).1.h, h.1.length ≤ 64 := by
  rw [parse_law]
  unfold refParse parse2 parse3
  intro h hh
  split at hh
  · cases hh
  split at hh
  · cases hh
  split at hh
  · cases hh
  split at hh
  · cases hh
  split at hh
  · cases hh
  split at hh
  · cases hh
  · exact names_le _ _ h hh

set_option maxHeartbeats 8000000 in
theorem oneof_any (l : B) (v : Value) (w : World) (hR : Rd w 1 v l.length (bytesV l)) (hg : Glob w) :
    Calls Tryd.prog 3 #[v] w fun e w' => e = .returned (.bool true) ∧ Below w.heap.size w w' := by
  obtain ⟨A, cp, rfl⟩ := hR.shape
  have HR := Lib.hid hR
  have HG := Lib.hid hg
  clear hR hg
  have CA := Lib.hid (fun w' (hb : Below w.heap.size w w') => awake_any w' (HG.out.next hb))
  by_cases hbig : 262144 < l.length
  · have hb1 : (262144 : Int) < l.length := by omega
    go_enter Tryd.func3, Tryd.ntmps3
    go_wp2_with fail
    refine (CA.out _ (Below.refl _ _)).mono ?_
    rintro e w4 ⟨rfl, hb4⟩
    go_wp2_with fail
    go_ret
    exact ⟨rfl, hb4⟩
  have hb1 : ¬ (262144 : Int) < l.length := by omega
  have hl : l.length ≤ 262144 := by omega
  clear hbig
  go_enter Tryd.func3, Tryd.ntmps3
  go_wp2_with fail
  refine (prog_any l _ w HR.out (by omega) HG.out).mono ?_
  rintro e w2 ⟨⟨v2, rfl, hq⟩, hr⟩
  have hsN := req_names l
  have hone := one_law l
  rw [← parse_law] at hone
  generalize progParse l = x at *
  obtain ⟨r, n, st⟩ := x
  simp only at hone hsN
  have HQ := Lib.hid hq
  have HN := Lib.hid hsN
  clear hsN
  obtain ⟨A2, c2, B2, d2, rfl⟩ := req_agg hq
  clear hq
  have hR1 : RC (w2.alloc (.cells #[.string (ofL r.m), .string (ofL r.p), .slice A2 r.h.length c2, .slice B2 r.b.length d2] 26)) w2.heap.size (ofL r.m) (ofL r.p) (.slice A2 r.h.length c2) (.slice B2 r.b.length d2) := heap_alloc_new _ _
  have hb3 := (Below.refl w2.heap.size w2).alloc (Nat.le_refl _) (.cells #[.string (ofL r.m), .string (ofL r.p), .slice A2 r.h.length c2, .slice B2 r.b.length d2] 26)
  have hr3 := hr.next hb3
  rcases hone with ⟨h0, h1, h2, h3, h4, hv, hne, hfd⟩ | ⟨h0, h1, h2⟩
  · subst h0
    have i1 : (0 : Int) < n := by omega
    have i2 : (n : Int) ≤ l.length := by omega
    have i3 : (r.b.length : Int) ≤ 32768 := by omega
    have i4 : (r.h.length : Int) ≤ 32 := by omega
    have F := Lib.hid (fun w' (hb : Below w2.heap.size w2 w') => find_any r.h ⟨#[104, 111, 115, 116]⟩ (.slice A2 r.h.length c2) hv w' ((by obtain ⟨Hv, Bv, he, ho, _⟩ := HQ.out; simp at he; obtain ⟨rfl, _⟩ := he; exact (rd_of_own ho).below hb)) HN.out (by decide) (by omega) (by rw [show (⟨#[104, 111, 115, 116]⟩ : ByteArray) = ofL hoL from rfl, toL_ofL]; exact hfd))
    have e1 : (ofL hv).toList.isEmpty = false := by rw [toL_ofL]; cases hv with | nil => exact absurd rfl hne | cons _ _ => rfl
    clear hne hfd
    go_wp2_with fail
    generalize w2.alloc (.cells #[.string (ofL r.m), .string (ofL r.p), .slice A2 r.h.length c2, .slice B2 r.b.length d2] 26) = w3 at *
    refine (F.out _ hb3).mono ?_
    rintro e w4 ⟨rfl, hb4⟩
    have hR4 := hR1.below hb4
    have hr4 := hr3.next hb4
    have k2 := hR4.c2
    have k3 := hR4.c3
    go_wp2_with fail
    refine (CA.out _ hr4).mono ?_
    rintro e w5 ⟨rfl, hb5⟩
    go_wp2_with fail
    go_ret
    exact ⟨rfl, hr4.next hb5⟩
  · have h1 : n = 0 := h1
    have h2 : r = noReq := h2
    subst h1
    subst h2
    have hst : ((st : Int) == 0) = false := by
      simp only [beq_eq_false_iff_ne, ne_eq]; intro e
      have : st = 0 := by omega
      rw [this] at h0; simp [OneOf] at h0
    have hin : (st : Int) ∈ [(1 : Int), 400, 413, 414, 431, 501, 505] := by
      unfold OneOf at h0; simp only [List.mem_cons, List.not_mem_nil, or_false] at h0 ⊢; omega
    have HI := Lib.hid hin
    clear h0 hin
    go_wp2_with fail
    have hs3 : (w2.alloc (.cells #[.string (ofL noReq.m), .string (ofL noReq.p), .slice A2 noReq.h.length c2, .slice B2 noReq.b.length d2] 26)).heap.size = w2.heap.size + 1 := by simp
    generalize w2.alloc (.cells #[.string (ofL noReq.m), .string (ofL noReq.p), .slice A2 noReq.h.length c2, .slice B2 noReq.b.length d2] 26) = w3 at *
    have hb4 := (Below.refl w3.heap.size w3).alloc (Nat.le_refl _) (.cells #[.int .i64 1, .int .i64 400, .int .i64 413, .int .i64 414, .int .i64 431, .int .i64 501, .int .i64 505] 3)
    have hcI : ∀ j x, [(1 : Int), 400, 413, 414, 431, 501, 505][j]? = some x → (w3.alloc (.cells #[.int .i64 1, .int .i64 400, .int .i64 413, .int .i64 414, .int .i64 431, .int .i64 501, .int .i64 505] 3)).cell? ⟨w2.heap.size + 1, 0 + j, none⟩ = some (.int .i64 x) := by
      intro j x hj
      rw [Nat.zero_add, ← hs3, World.cell?_alloc_mark]
      have hj7 := (List.getElem?_eq_some_iff.1 hj).1
      simp only [List.length_cons, List.length_nil] at hj7
      have : j = 0 ∨ j = 1 ∨ j = 2 ∨ j = 3 ∨ j = 4 ∨ j = 5 ∨ j = 6 := by omega
      rcases this with rfl | rfl | rfl | rfl | rfl | rfl | rfl <;> simp at hj <;> subst hj <;> rfl
    have hR4 := hR1.below hb4
    have hr4 := hr3.next hb4
    have hb24 := hb3.next hb4
    have C := Lib.hid (containsI_any (w2.heap.size + 1) 0 7 [1, 400, 413, 414, 431, 501, 505] st _ hcI HI.out (by decide))
    clear hcI
    generalize w3.alloc (.cells #[.int .i64 1, .int .i64 400, .int .i64 413, .int .i64 414, .int .i64 431, .int .i64 501, .int .i64 505] 3) = w4 at *
    have k0 := hR4.c0
    have k1 := hR4.c1
    have k2 := hR4.c2
    have k3 := hR4.c3
    refine C.out.mono ?_
    rintro e w5 ⟨rfl, rfl⟩
    clear C
    go_wp2_with fail
    refine (same_any noReq _ _ _ (reqV_below (req_of_own HQ.out) hb24) (reqV_none _) (Nat.zero_le _) (Nat.zero_le _)).mono ?_
    rintro e w6 ⟨rfl, hb6⟩
    have hr6 := hr4.next hb6
    go_wp2_with fail
    refine (CA.out _ hr6).mono ?_
    rintro e w7 ⟨rfl, hb7⟩
    go_wp2_with fail
    go_ret
    exact ⟨rfl, hr6.next hb7⟩
end Go.Proofs.YtmhgnaemafohfaaDoor
